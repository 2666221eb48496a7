/- Texts of this proof, laid together: CnE, CnF, DgA, DgB, JnA, JnB, JnC, JnD, JnE, JnF, JnG, JnH, JnI, JnJ, JnK, JnL, JnM, JnN, JnO, JnP, JnQ, JnR, JnS, JnT, SpA, SpB, SpC, SpD, SpE, SpF, SpG, SpP, SpQ, SpR, JtA, JtB, JtC, JtD, JtE. -/
import Derived.Maps.Own
import Derived.Maps.OwnSet
import Derived.Deep.RegionWith
import Derived.Shelf.SlIterI.Nil
import Derived.Shelf.SortM.Plain
import Derived.Shelf.SortM.SortNone
import Derived.Ground.GgzProg
import Derived.Ground.SlgmProg
import Derived.LoopN
import Derived.Defers
import Derived.Laws.Pointers
import Derived.RegionTactic
import Derived.ChangeAlike
import Derived.Test.YtnbonhinpepgoaaGreatJw0
set_option linter.unusedVariables false
set_option linter.unusedSimpArgs false
section
set_option linter.unusedVariables false
namespace Go.Proofs.YtnbonhinpepgoaaGreat
open Go.RowKit
def rdUint (b : List Nat) (br : Bool) : Nat × List Nat × Bool := match rdHead b br 117 8 with | some n => (n, b.drop 9, br) | none => (0, b, true)
def rdSome (b : List Nat) (br : Bool) (sg : Nat) : List Nat × List Nat × Bool := match rdHead b br sg 4 with | none => ([], b, true) | some n => if b.length - 5 < n then ([], b, true) else ((b.drop 5).take n, b.drop (5 + n), br)
def rdList (b : List Nat) (br : Bool) (most : Nat) : Nat × List Nat × Bool := match rdHead b br 108 4 with | none => (0, b, true) | some n => if most < n then (0, b, true) else (n, b.drop 5, br)
theorem rdHead_len {b : List Nat} {br : Bool} {sg many n : Nat} (h : rdHead b br sg many = some n) : many < b.length := by
  unfold rdHead at h
  split at h
  · cases h
  · split at h
    · cases h
    · omega
theorem rdHead_lt {b : List Nat} {br : Bool} {sg many n : Nat} (hb : ∀ x ∈ b, x < 256) (h : rdHead b br sg many = some n) : n < 256 ^ many := by
  have hl := rdHead_len h
  unfold rdHead at h
  split at h
  · cases h
  · split at h
    · cases h
    · split at h
      · cases h
      · obtain rfl := Option.some.inj h
        have := beVal_lt ((b.drop 1).take many) (fun x hx => hb x (List.mem_of_mem_drop (List.mem_of_mem_take hx)))
        rwa [List.length_take, List.length_drop, Nat.min_eq_left (by omega)] at this
section
variable {g c : Nat} {b : List Nat} {br : Bool} {w : World}
set_option maxHeartbeats 1000000 in
theorem ruint (h : RdR g c b br w) :
    Calls Tryz.prog 130 #[.pointer (some ⟨g, 0, none⟩)] w fun e w' => e = .returned (.int .u64 (rdUint b br).1) ∧ RdR g c (rdUint b br).2.1 (rdUint b br).2.2 w' ∧ Fr (fun k => k = g) w w' := by
  cases hr : rdHead b br 117 8 with
  | none =>
    have hh := head_none h 117 8 (by omega) (by omega) hr
    simp only [rdUint, hr]
    clear hr h
    go_enter Tryz.func130, Tryz.ntmps130
    go_wp2_with (go_at_call 191; refine hh.mono ?_; rintro e W ⟨rfl, hR, hF⟩; have HR := Lib.hid hR; have HF := Lib.hid hF; clear hR hF hh)
    go_ret
    exact ⟨rfl, HR.out, HF.out⟩
  | some n =>
    have hh := head_some h 117 8 n (by omega) (by omega) (by omega) hr
    have hl := rdHead_len hr
    simp only [rdUint, hr]
    obtain ⟨X, cap, hcap, c0, z0, hbs, hR, hF⟩ := h.eat 9 (by omega)
    have HR := Lib.hid hR
    have HF := Lib.hid hF
    have HSL := Lib.hid (fun W => run_from X b.length cap 9 .i64 (by omega) W)
    clear hr h hR hF hbs
    go_enter Tryz.func130, Tryz.ntmps130
    go_wp2_with (first
      | (go_at_call 191; refine hh.mono ?_; rintro e w' ⟨rfl, rfl⟩)
      | ((with_reducible refine at_dst (N := 16) rfl ?_); refine wpList_run rfl _ _ (exec_sliceAt _ _ _ _ _ rfl (.slice X b.length cap) (some (.int .i64 9)) none none rfl rfl rfl rfl _ (HSL.out w)) ?_; simp only [Act.put, List.setIfInBounds_toArray, List.set_cons_zero, List.set_cons_succ]))
    go_ret
    exact ⟨rfl, HR.out, HF.out⟩
set_option maxHeartbeats 1000000 in
theorem rlist (h : RdR g c b br w) (most : Nat) (hmost : most < 9223372036854775808) :
    Calls Tryz.prog 132 #[.pointer (some ⟨g, 0, none⟩), .int .i64 most] w fun e w' => e = .returned (.int .i64 (rdList b br most).1) ∧ RdR g c (rdList b br most).2.1 (rdList b br most).2.2 w' ∧ Fr (fun k => k = g) w w' := by
  cases hr : rdHead b br 108 4 with
  | none =>
    have hh := head_none h 108 4 (by omega) (by omega) hr
    simp only [rdList, hr]
    clear hr h
    go_enter Tryz.func132, Tryz.ntmps132
    go_wp2_with (go_at_call 191; refine hh.mono ?_; rintro e W ⟨rfl, hR, hF⟩; have HR := Lib.hid hR; have HF := Lib.hid hF; clear hR hF hh)
    go_ret
    exact ⟨rfl, HR.out, HF.out⟩
  | some n =>
    have hh := head_some h 108 4 n (by omega) (by omega) (by omega) hr
    have hl := rdHead_len hr
    have hn : n < 4294967296 := rdHead_lt h.lt hr
    have d0 : decide ((most : Int) < 0) = false := decide_eq_false (by omega)
    simp only [rdList, hr]
    by_cases hm : most < n
    · rw [if_pos hm]
      have z1 : w.frozen? ⟨g, 1, none⟩ = false := by
        obtain ⟨X, cap, hb, _⟩ := h.blk
        simp [World.frozen?, hb]
      have c1 : w.cell? ⟨g, 1, none⟩ = some (bw br) := by
        obtain ⟨X, cap, hb, _⟩ := h.blk
        exact cell_of_row w g 1 _ _ _ hb
      have hst := bool_store ⟨g, 1, none⟩ true _ w c1 z1
      have HB := Lib.hid h.broke
      have d1 : decide ((n : Int) > (most : Int)) = true := decide_eq_true (by omega)
      clear hr h c1 z1
      go_enter Tryz.func132, Tryz.ntmps132
      go_wp2_with (first
        | (go_at_call 191; refine hh.mono ?_; rintro e w' ⟨rfl, rfl⟩)
        | (go_at_call 89; refine hst.mono ?_; rintro e w' ⟨rfl, rfl⟩; generalize w.drew.setCell ⟨g, 1, none⟩ (bw true) = W at HB ⊢))
      go_ret
      exact ⟨rfl, HB.out⟩
    · rw [if_neg hm]
      have d1 : decide ((n : Int) > (most : Int)) = false := decide_eq_false (by omega)
      obtain ⟨X, cap, hcap, c0, z0, hbs, hR, hF⟩ := h.eat 5 (by omega)
      have HR := Lib.hid hR
      have HF := Lib.hid hF
      have HSL := Lib.hid (fun W => run_from X b.length cap 5 .i64 (by omega) W)
      clear hr h hR hF hbs
      go_enter Tryz.func132, Tryz.ntmps132
      go_wp2_with (first
        | (go_at_call 191; refine hh.mono ?_; rintro e w' ⟨rfl, rfl⟩)
        | ((with_reducible refine at_dst (N := 31) rfl ?_); refine wpList_run rfl _ _ (exec_sliceAt _ _ _ _ _ rfl (.slice X b.length cap) (some (.int .i64 5)) none none rfl rfl rfl rfl _ (HSL.out w)) ?_; simp only [Act.put, List.setIfInBounds_toArray, List.set_cons_zero, List.set_cons_succ]))
      go_ret
      exact ⟨rfl, HR.out, HF.out⟩
set_option maxHeartbeats 1000000 in
theorem rsome (h : RdR g c b br w) (hbl : b.length < 1000000000) (sg : Nat) (hsg : sg < 256) :
    Calls Tryz.prog 192 #[.pointer (some ⟨g, 0, none⟩), .int .u8 sg] w fun e w' => ∃ v, e = .returned v ∧ w'.ownsRow w.heap.size 5 1 v (rdSome b br sg).1.length (n8 (rdSome b br sg).1) ∧ RdR g c (rdSome b br sg).2.1 (rdSome b br sg).2.2 w' ∧ Fr (fun k => k = g) w w' := by
  cases hr : rdHead b br sg 4 with
  | none =>
    have hh := head_none h sg 4 (by omega) hsg hr
    simp only [rdSome, hr]
    clear hr h
    go_enter Tryz.func192, Tryz.ntmps192
    go_wp2_with (go_at_call 191; refine hh.mono ?_; rintro e W ⟨rfl, hR, hF⟩; have HR := Lib.hid hR; have HF := Lib.hid hF; clear hR hF hh)
    go_ret
    exact ⟨_, rfl, World.ownsRow_nil _ _ _ _, HR.out, HF.out⟩
  | some n =>
    have hh := head_some h sg 4 n (by omega) (by omega) hsg hr
    have hl := rdHead_len hr
    have hn : n < 4294967296 := rdHead_lt h.lt hr
    simp only [rdSome, hr]
    by_cases hm : b.length - 5 < n
    · rw [if_pos hm]
      obtain ⟨X, cap, hcap, c0, z0, hbs, hR, hF⟩ := h.eat 0 (by omega)
      have z1 : w.frozen? ⟨g, 1, none⟩ = false := by
        obtain ⟨X, cap, hb, _⟩ := h.blk
        simp [World.frozen?, hb]
      have c1 : w.cell? ⟨g, 1, none⟩ = some (bw br) := by
        obtain ⟨X, cap, hb, _⟩ := h.blk
        exact cell_of_row w g 1 _ _ _ hb
      have hst := bool_store ⟨g, 1, none⟩ true _ w c1 z1
      have HB := Lib.hid h.broke
      have d1 : decide ((n : Int) > (b.length : Int) - 5) = true := decide_eq_true (by omega)
      clear hr h c1 z1 hR hF hbs
      go_enter Tryz.func192, Tryz.ntmps192
      go_wp2_with (first
        | (go_at_call 191; refine hh.mono ?_; rintro e w' ⟨rfl, rfl⟩)
        | (go_at_call 89; refine hst.mono ?_; rintro e w' ⟨rfl, rfl⟩; generalize w.drew.setCell ⟨g, 1, none⟩ (bw true) = W at HB ⊢))
      go_ret
      exact ⟨_, rfl, World.ownsRow_nil _ _ _ _, HB.out⟩
    · rw [if_neg hm]
      have d1 : decide ((n : Int) > (b.length : Int) - 5) = false := decide_eq_false (by omega)
      have hn0 : (0 : Int) ≤ 5 + (n : Int) := by omega
      have hn1 : (5 : Int) + (n : Int) ≤ 18446744073709551615 := by omega
      obtain ⟨X, cap, hcap, c0, z0, hbs, -, -⟩ := h.eat 0 (by omega)
      have hln : ((b.drop 5).take n).length = n := by simp; omega
      have hh2 : Has w (subX X 5 cap) ((b.drop 5).take n) := ((hbs.drop 5 cap hcap).take n).has
      have hc := clone_b ((b.drop 5).take n) (subX X 5 cap) (cap - 5) (by omega) w hh2
      rw [hln] at hc ⊢
      have hsl5 : ∀ W, (Instr.sliceAt 42 (.slice X b.length cap) (some (.int .i64 5)) (some (.int .u64 (5 + (n : Int)))) none).run Tryz.prog W = .ok (.slice (subX X 5 cap) n (cap - 5)) W := fun W => by
        have := run_lh X b.length cap 5 (5 + n) .i64 .u64 (by omega) (by omega) W
        rw [show 5 + n - 5 = n by omega, show ((5 + n : Nat) : Int) = 5 + (n : Int) by omega] at this
        exact this
      have hsl9 : ∀ W, (Instr.sliceAt 42 (.slice X b.length cap) (some (.int .u64 (5 + (n : Int)))) none none).run Tryz.prog W = .ok (.slice (subX X (5 + n) cap) (b.length - (5 + n)) (cap - (5 + n))) W := fun W => by
        have := run_from X b.length cap (5 + n) .u64 (by omega) W
        rw [show ((5 + n : Nat) : Int) = 5 + (n : Int) by omega] at this
        exact this
      have H5 := Lib.hid hsl5
      have H9 := Lib.hid hsl9
      have HH := Lib.hid h
      have hgl : g < w.heap.size := World.block_lt_of_cell? w _ c0
      have HC0 := Lib.hid c0
      generalize (b.drop 5).take n = L at *
      clear hr h hbs hsl5 hsl9 hh2
      go_enter Tryz.func192, Tryz.ntmps192
      go_wp2_with (first
        | (go_at_call 191; refine hh.mono ?_; rintro e w' ⟨rfl, rfl⟩)
        | ((with_reducible refine at_dst (N := 35) rfl ?_); refine wpList_run rfl _ _ (exec_sliceAt _ _ _ _ _ rfl (.slice X b.length cap) (some (.int .i64 5)) (some (.int .u64 (5 + (n : Int)))) none rfl rfl rfl rfl _ (H5.out w)) ?_; simp only [Act.put, List.setIfInBounds_toArray, List.set_cons_zero, List.set_cons_succ])
        | (go_at_call 85; refine hc.mono ?_; rintro e w1 ⟨v1, rfl, hO1, hF1⟩; have hR1 := HH.out.fr hF1 id (fun _ => id); obtain ⟨X', cap', hcap', c1, z1, -, hR2, hF2⟩ := hR1.eat (5 + n) (by omega); have cc := hF1.cell HC0.out id; rw [cc] at c1; simp only [Option.some.injEq, Value.slice.injEq] at c1; obtain ⟨rfl, -, rfl⟩ := c1; have HO1 := Lib.hid hO1; have HF1 := Lib.hid hF1; have HR2 := Lib.hid hR2; have HF2 := Lib.hid hF2; clear hO1 hF1 hc hR1 hR2 hF2 c0 z0)
        | ((with_reducible refine at_dst (N := 44) rfl ?_); refine wpList_run rfl _ _ (exec_sliceAt _ _ _ _ _ rfl (.slice X b.length cap) (some (.int .u64 (5 + (n : Int)))) none none rfl rfl rfl rfl _ (H9.out w1)) ?_; simp only [Act.put, List.setIfInBounds_toArray, List.set_cons_zero, List.set_cons_succ]))
      go_ret
      have hO' := own_fr HO1.out HF2.out (fun k hk1 hk2 _ e => by omega)
      exact ⟨v1, rfl, hO', HR2.out, (HF1.out.mono (fun _ _ h => h.elim)).trans HF2.out⟩
end
end Go.Proofs.YtnbonhinpepgoaaGreat
end
section
set_option linter.unusedVariables false
namespace Go.Proofs.YtnbonhinpepgoaaGreat
open Go.RowKit
def bstr (l : List Nat) : ByteArray := ⟨(l.map fun x => x.toUInt8).toArray⟩
def strb (s : ByteArray) : List Nat := s.data.toList.map UInt8.toNat
theorem n8_bcells (l : List Nat) (h : ∀ x ∈ l, x < 256) : n8 l = bcells (l.map fun x => x.toUInt8) := by
  unfold bcells Lib.byteCells
  rw [List.map_map]
  refine List.map_congr_left fun x hx => ?_
  have := h x hx
  simp only [Function.comp]
  rw [UInt8.toNat_ofNat']
  congr 2
  omega
theorem strCells_n8 (s : ByteArray) : Lib.strCells s = n8 (strb s) := by
  simp [Lib.strCells, n8, strb]
theorem strb_len (s : ByteArray) : (strb s).length = s.size := by simp [strb]
theorem rdSome_lt {b : List Nat} {br : Bool} {sg : Nat} (h : ∀ x ∈ b, x < 256) : ∀ x ∈ (rdSome b br sg).1, x < 256 := by
  intro x hx
  unfold rdSome at hx
  split at hx
  · cases hx
  · split at hx
    · cases hx
    · exact h x (List.mem_of_mem_drop (List.mem_of_mem_take hx))
section
variable {g c : Nat} {b : List Nat} {br : Bool} {w : World}
theorem rtext (h : RdR g c b br w) (hbl : b.length < 1000000000) :
    Calls Tryz.prog 146 #[.pointer (some ⟨g, 0, none⟩)] w fun e w' => e = .returned (.string (bstr (rdSome b br 115).1)) ∧ RdR g c (rdSome b br 115).2.1 (rdSome b br 115).2.2 w' ∧ Fr (fun k => k = g) w w' := by
  have hh := rsome h hbl 115 (by omega)
  have hlt := rdSome_lt (br := br) (sg := 115) h.lt
  generalize (rdSome b br 115).1 = L at *
  generalize (rdSome b br 115).2.1 = b' at *
  generalize (rdSome b br 115).2.2 = br' at *
  have HLT := Lib.hid hlt
  clear h hlt
  go_enter Tryz.func146, Tryz.ntmps146
  go_wp2_with (go_at_call 192; refine hh.mono ?_; rintro e w1 ⟨v1, rfl, hO, hR, hF⟩; have hcv : (convert 42 9 v1).run Tryz.prog w1 = .ok (.string (bstr L)) w1 := own_conv Tryz.underlying42 Tryz.underlying5 Tryz.underlying9 (by rw [n8_bcells L HLT.out] at hO; simpa using hO); have HR := Lib.hid hR; have HF := Lib.hid hF; clear hR hF hO hh)
  go_ret
  exact ⟨rfl, HR.out, HF.out⟩
end
set_option maxHeartbeats 1000000 in
theorem text_ok (l : List Nat) (s : ByteArray) (sp : Option Addr) (cap : Nat) (hl : l.length < 100000000) (hb : s.size < 100000000) (w : World) (hs : Has w sp l) :
    Calls Tryz.prog 198 #[.slice sp l.length cap, .string s] w fun e w' => ∃ v, e = .returned v ∧ w'.ownsRow w.heap.size 5 1 v (l ++ cT (strb s)).length (n8 (l ++ cT (strb s))) ∧ Fr (fun _ => False) w w' := by
  have hp := part_ok l sp cap hl 115 s.size 4 (by omega) (by omega) w hs
  generalize hLL : l ++ cT (strb s) = L
  have HLL := Lib.hid (show (l ++ (115 :: be s.size 4)) ++ strb s = L by rw [← hLL, cT, strb_len]; simp)
  have hlen := Lib.hid (show (l ++ (115 :: be s.size 4)).length = l.length + 5 by simp [be_len])
  obtain ⟨i0, hi, hz0, hz1, hz2⟩ := info_parts byteInfo
  clear hLL hs
  go_enter Tryz.func198, Tryz.ntmps198
  go_wp2_with (first
    | (go_at_call 195; refine hp.mono ?_; rintro e w1 ⟨v1, rfl, hO1, hF1⟩; have HO1 := Lib.hid hO1; have HF1 := Lib.hid hF1; have hz1 := hF1.size; clear hO1 hF1 hp)
    | (at_builtin; refine Lib.wpList_append_own_string _ rfl (.tmp 9) (.tmp 10) 42 9 rfl w.heap.size 5 i0 Tryz.underlying42 Tryz.underlying9 hi hz0 (by assumption) hz2 v1 _ _ rfl HO1.out s rfl (by rw [hlen.out]; unfold maxLen; omega) (by rw [hlen.out]; omega) hz1 ?_; intro v2 w2 hO2 hg2 _; have HO2 := Lib.hid hO2; have HF2 := Lib.hid (HF1.out.grown hg2 (fun k e hk => by have := (HO1.out.lt k e).1; omega)); clear hO2 hg2))
  go_ret
  exact ⟨v2, rfl, by rw [← HLL.out, List.length_append (bs := strb s), strb_len, n8, List.map_append]; have := HO2.out; rw [strCells_n8] at this; exact this, HF2.out⟩
end Go.Proofs.YtnbonhinpepgoaaGreat
end
section
set_option linter.unusedVariables false
namespace Go.Proofs.YtnbonhinpepgoaaGreat
open Go.RowKit
theorem run_build1 {P : Program} (T : TypeId) (fields : Array Field) (hu : P.underlying T = some (.struct fields)) (Z : List Value) (hz : ∀ w, (zeroValue T).run P w = .ok (.agg Z.toArray) w) (n0 : Nat)
    (hp : ∀ w, (fields.mapM fun f => (do pure (f.offset, ← sizeOf f.type) : Sem (Nat × Nat))).run P w = .ok #[(0, n0)] w) (hZ : Z.length = n0)
    (v0 : Value) (c0 : List Value) (h0 : v0.cells = c0.toArray) (l0 : c0.length = n0) (w : World) :
    (Instr.build T #[(0, v0)]).run P w = .ok (.agg c0.toArray) w := by
  have hu' := run_underlying (P := P) (w := w) hu
  have hfill : Instr.fill (#[(0, n0)][·]?) Z.toArray [(0, v0)] = some c0.toArray := by
    have e0 := fill_arr 0 c0 Z (by omega)
    rw [splice_all _ _ (by omega)] at e0
    simp only [Nat.zero_add] at e0
    simp only [Instr.fill, h0, List.getElem?_toArray, List.getElem?_cons_zero, List.size_toArray, l0, Nat.zero_add, e0]
    rw [if_neg (by simp; omega)]
  unfold Instr.build
  simp only [Sem.run_bind, hz, Result.andThen_ok, hu', hp, Value.cells]
  rw [hfill]
  rfl
theorem exec_build1 {P : Program} {o : Oper} {a : Act} {W : World} (t : TypeId) (x : Operand) (ho : o.op = .build t #[(0, x)]) (u : Value) (hx : a.eval x = u) (v' : Value) (hrun : (Instr.build t #[(0, u)]).run P W = .ok v' W) : (execOp a.eval o).run P W = .ok (.value v') W := by
  unfold execOp
  rw [ho]
  show (do pure (Next.value (← Instr.build t (#[(0, x)].map fun y => match y with | (i, o) => (i, a.eval o)))) : Sem Next).run _ _ = _
  rw [show (#[(0, x)].map fun y => match y with | (i, o) => (i, a.eval o)) = #[(0, u)] by rw [← hx]; simp, Sem.run_bind, hrun]
  rfl
theorem build_hash (w : World) : (Instr.build 287 #[(0, .agg (stc Sha.V0 [] blk0).toArray)]).run Tryz.prog w = .ok (.agg (stc Sha.V0 [] blk0).toArray) w :=
  run_build1 (P := Tryz.prog) 287 _ Tryz.underlying287 Tryz.zeroCells253.toList (fun w => by kernel_rfl) 74 (fun w => by kernel_rfl) (by rw [Array.length_toList, zst_size]) _ (stc Sha.V0 [] blk0) rfl (stc_len _ _ _ rfl) w
theorem hash_new (w : World) :
    Calls Tryz.prog 199 #[] w fun e w' => ∃ g, e = .returned (.pointer (some ⟨g, 0, none⟩)) ∧ SSt Sha.V0 287 g [] w' ∧ w.heap.size ≤ g ∧ g < w'.heap.size ∧ Fr (fun _ => False) w w' := by
  have hb := Lib.hid (fun W => build_hash W)
  go_enter Tryz.func199, Tryz.ntmps199
  go_wp2_with (first
    | (go_at_call 182; refine (start256 w).mono ?_; rintro e w1 ⟨rfl, hF1⟩; have HF1 := Lib.hid hF1; clear hF1; generalize hst : stc Sha.V0 [] blk0 = sc at hb ⊢; have HST := Lib.hid hst; clear hst)
    | ((with_reducible refine at_dst (N := 2) rfl ?_); refine wpList_run rfl _ _ (exec_build1 _ _ rfl (.agg sc.toArray) rfl _ (hb.out w1)) ?_; simp only [Act.put, List.setIfInBounds_toArray, List.set_cons_zero, List.set_cons_succ]))
  go_ret
  exact ⟨w1.heap.size, rfl, ⟨blk0, blk0_ok, by rw [HST.out]; exact heap_alloc_new w1 _⟩, HF1.out.size, by simp, HF1.out.alloc _⟩
theorem SSt.fr {h0 : Sha.V} {T : TypeId} {g : Nat} {m : List Nat} {w w' : World} {M : Nat → Prop} (h : SSt h0 T g m w) (hf : Fr M w w') (hM : ¬ M g) : SSt h0 T g m w' := by
  obtain ⟨blk, hB, hh⟩ := h
  exact ⟨blk, hB, hf.heap hh hM⟩
theorem hash_add (g : Nat) (m l : List Nat) (sp : Option Addr) (cap : Nat) (hcap : l.length ≤ cap) (hx : ∀ x ∈ l, x < 256) (hl : m.length + l.length < 2 ^ 59) (w : World) (hst : SSt Sha.V0 287 g m w) (hs : Src g w sp l) :
    Calls Tryz.prog 200 #[.pointer (some ⟨g, 0, none⟩), .slice sp l.length cap] w fun e w' => e = .returned (.tuple #[]) ∧ SSt Sha.V0 287 g (m ++ l) w' ∧ Fr (fun k => k = g) w w' := by
  have hadd := add256 Sha.V0 V0_ok 287 g m l sp cap hcap hx (by omega) w hst hs
  clear hst hs
  go_enter Tryz.func200, Tryz.ntmps200
  go_wp2_with (go_at_call 183; refine hadd.mono ?_; rintro e w1 ⟨rfl, hS, hF⟩; have HS := Lib.hid hS; have HF := Lib.hid hF; clear hS hF hadd)
  go_end0
  exact ⟨rfl, HS.out, HF.out⟩
theorem hash_sum (g : Nat) (m : List Nat) (hl : m.length < 2 ^ 60) (w : World) (hst : SSt Sha.V0 287 g m w) :
    Calls Tryz.prog 201 #[.pointer (some ⟨g, 0, none⟩)] w fun e w' => ∃ v, e = .returned v ∧ w'.ownsRow w.heap.size 5 1 v 32 (n8 (shaOf m)) ∧ Fr (fun _ => False) w w' := by
  obtain ⟨blk, hB, hH⟩ := hst
  have hsum := sum256 Sha.V0 V0_ok m blk hB hl w
  have HR := Lib.hid (range_of hH)
  have HL := Lib.hid (load_st Sha.V0 m blk hB.len)
  clear hH
  generalize stc Sha.V0 m blk = sc at *
  go_enter Tryz.func201, Tryz.ntmps201
  go_wp2_with (first
    | ((with_reducible refine at_dst (N := 8) rfl ?_); refine wpList_load_mid rfl 253 (.tmp 7) rfl g 0 rfl sc _ HR.out Tryz.underlying253 rfl HL.out ?_; simp only [Act.put, List.setIfInBounds_toArray, List.set_cons_zero, List.set_cons_succ])
    | (go_at_call 184; refine hsum.mono ?_; rintro e w1 ⟨v, rfl, hO, hF⟩; have HO := Lib.hid hO; have HF := Lib.hid hF; clear hO hF hsum))
  go_ret
  exact ⟨v, rfl, HO.out, HF.out⟩
end Go.Proofs.YtnbonhinpepgoaaGreat
end
section
set_option linter.unusedVariables false
namespace Go.Proofs.YtnbonhinpepgoaaGreat
open Go.RowKit
theorem odd_step (d x y : Nat) (hd : d < 256) (hx : x < 256) (hy : y < 256) : Go.bits .or .u8 (d : Int) (Go.bits .xor .u8 (x : Int) (y : Int)) = ((d ||| (x ^^^ y) : Nat) : Int) ∧ d ||| (x ^^^ y) < 256 ∧ (d ||| (x ^^^ y) = 0 ↔ d = 0 ∧ x = y) := by
  have h1 : x ^^^ y < 2 ^ 8 := Nat.xor_lt_two_pow (n := 8) hx hy
  have h2 : d ||| (x ^^^ y) < 2 ^ 8 := Nat.or_lt_two_pow (n := 8) hd h1
  refine ⟨?_, h2, ?_⟩
  · rw [Sha.xor_nat rfl hx hy, Sha.or_nat rfl hd h1]
  · rw [Nat.or_eq_zero_iff]
    refine and_congr Iff.rfl ⟨fun h => ?_, fun h => by rw [h, Nat.xor_self]⟩
    have : x ^^^ y ^^^ y = x := by rw [Nat.xor_assoc, Nat.xor_self, Nat.xor_zero]
    rw [h, Nat.zero_xor] at this
    exact this.symm
theorem take_eq_succ {a b : List Nat} {j x y : Nat} (ha : a[j]? = some x) (hb : b[j]? = some y) : a.take (j + 1) = b.take (j + 1) ↔ a.take j = b.take j ∧ x = y := by
  rw [List.take_add_one, List.take_add_one, ha, hb]
  have hl : (a.take j).length = (b.take j).length := by
    have h1 := (List.getElem?_eq_some_iff.1 ha).1
    have h2 := (List.getElem?_eq_some_iff.1 hb).1
    simp; omega
  constructor
  · intro h
    have := List.append_inj h hl
    exact ⟨this.1, by simpa using this.2⟩
  · rintro ⟨h1, rfl⟩
    rw [h1]
set_option maxHeartbeats 1000000 in
theorem same_ok (la lb : List Nat) (hx : ∀ x ∈ la, x < 256) (hy : ∀ x ∈ lb, x < 256) (X Y : Option Addr) (c1 c2 cap1 cap2 : Nat) (hl1 : la.length < 1000000000) (hl2 : lb.length < 1000000000) (w : World) (h1 : BSl w X c1 la) (h2 : BSl w Y c2 lb) :
    Calls Tryz.prog 128 #[.slice X la.length cap1, .slice Y lb.length cap2] w fun e w' => e = .returned (.bool (decide (la = lb))) ∧ w = w' := by
  generalize hq : decide (la = lb) = q
  have HQ := Lib.hid hq
  clear hq
  by_cases hl : la.length = lb.length
  · have d0 : ((la.length : Int) != (lb.length : Int)) = false := by simp [hl]
    have HC := Lib.hid (show ∀ j, j < la.length → ∃ x y o1 o2, la[j]? = some x ∧ lb[j]? = some y ∧ x < 256 ∧ y < 256 ∧ X = some ⟨c1, o1, none⟩ ∧ Y = some ⟨c2, o2, none⟩ ∧ w.cell? ⟨c1, o1 + j, none⟩ = some (.int .u8 x) ∧ w.cell? ⟨c2, o2 + j, none⟩ = some (.int .u8 y) from fun j hj => by
      have ea := List.getElem?_eq_getElem (l := la) hj
      have eb := List.getElem?_eq_getElem (l := lb) (i := j) (by omega)
      obtain ⟨o1, e1, f1⟩ := h1.cell ea
      obtain ⟨o2, e2, f2⟩ := h2.cell eb
      exact ⟨_, _, o1, o2, ea, eb, hx _ (List.getElem_mem hj), hy _ (List.getElem_mem _), e1, e2, f1, f2⟩)
    have HL := Lib.hid hl
    clear hl h1 h2 hx hy
    go_enter Tryz.func128, Tryz.ntmps128
    go_wp2
    go_loop [15, 5] (fun t v => ∃ (j d : Nat), t = .int .i64 j ∧ j ≤ la.length ∧ v = .int .u8 (d : Int) ∧ d < 256 ∧ Hid (d = 0 ↔ la.take j = lb.take j)) (fun t _ => la.length - (intOf t).toNat)
    case atStart => exact ⟨0, 0, rfl, Nat.zero_le _, rfl, by omega, Lib.hid (by simp)⟩
    case round =>
      obtain ⟨j, d, rfl, hj, rfl, hd, HD⟩ := hrel
      by_cases hjl : j < la.length
      · obtain ⟨x, y, o1, o2, ea, eb, hx, hy, rfl, rfl, f1, f2⟩ := HC.out j hjl
        obtain ⟨s1, s2, s3⟩ := odd_step d x y hd hx hy
        have HT := Lib.hid (take_eq_succ ea eb)
        have HS := Lib.hid s1
        have HS3 := Lib.hid s3
        have b0 : (0 : Int) ≤ (j : Int) ∧ (j : Int) < (lb.length : Int) := ⟨by omega, by have := HL.out; omega⟩
        clear ea eb s1 s3
        go_wp2
        go_round
        case rel => exact ⟨j + 1, d ||| (x ^^^ y), by go_num, by omega, by rw [← HS.out], s2, Lib.hid (by rw [HS3.out, HT.out, HD.out])⟩
        case measure => simp [intOf]; omega
      · obtain rfl : j = la.length := by omega
        have hfin : (d = 0 ↔ la = lb) := by
          have := HD.out
          rw [List.take_length, List.take_of_length_le (by rw [HL.out]; omega)] at this
          exact this
        by_cases hd0 : d = 0
        · have d1 : ((d : Int) == 0) = true := by simp [hd0]
          obtain rfl : q = true := by rw [← HQ.out]; exact decide_eq_true (hfin.1 hd0)
          clear hfin hd0
          go_wp2
          go_ret
          exact ⟨rfl, rfl⟩
        · have d1 : ((d : Int) == 0) = false := by simp [hd0]
          obtain rfl : q = false := by rw [← HQ.out]; exact decide_eq_false (fun h => hd0 (hfin.2 h))
          clear hfin hd0
          go_wp2
          go_ret
          exact ⟨rfl, rfl⟩
  · have d0 : ((la.length : Int) != (lb.length : Int)) = true := by simp; omega
    obtain rfl : q = false := by rw [← HQ.out]; exact decide_eq_false (fun h => hl (by rw [h]))
    clear hl h1 h2
    go_enter Tryz.func128, Tryz.ntmps128
    go_wp2
    go_ret
    exact ⟨rfl, rfl⟩
end Go.Proofs.YtnbonhinpepgoaaGreat
end
section
set_option linter.unusedVariables false
namespace Go.Proofs.YtnbonhinpepgoaaGreat
open Go.RowKit
abbrev Put := Nat × List Nat
structure PutAt (G : Nat → Prop) (w : World) (b o : Nat) (p : Put) : Prop where
  c0 : w.cell? ⟨b, o, none⟩ = some (.int .i64 (p.1 : Int))
  c1 : ∃ cb ob cap, w.cell? ⟨b, o + 1, none⟩ = some (.slice (some ⟨cb, ob, none⟩) 512 cap) ∧ G cb ∧ cb < w.heap.size ∧ w.rangeAt cb ob (n8 p.2) ∧ 512 ≤ cap
theorem PutAt.fr {G M : Nat → Prop} {w w' : World} {b o : Nat} {p : Put} (h : PutAt G w b o p) (hf : Fr M w w') (hb : ¬ M b) (hG : ∀ k, G k → ¬ M k) : PutAt G w' b o p := by
  obtain ⟨c0, cb, ob, cap, c1, hg, hl, hr, hc⟩ := h
  exact ⟨hf.cell c0 hb, cb, ob, cap, hf.cell c1 hb, hg, Nat.lt_of_lt_of_le hl hf.size, fun j v hv => hf.cell (hr j v hv) (hG cb hg), hc⟩
def PutsR (G : Nat → Prop) (w : World) (X : Option Addr) (l : List Put) : Prop := 0 < l.length → ∃ b o, X = some ⟨b, o, none⟩ ∧ G b ∧ ∀ j p, l[j]? = some p → PutAt G w b (o + j * 2) p
theorem PutsR.fr {G M : Nat → Prop} {w w' : World} {X : Option Addr} {l : List Put} (h : PutsR G w X l) (hf : Fr M w w') (hG : ∀ k, G k → ¬ M k) : PutsR G w' X l := fun h0 => by
  obtain ⟨b, o, e, hb, hp⟩ := h h0
  exact ⟨b, o, e, hb, fun j p hj => (hp j p hj).fr hf (hG b hb) hG⟩
def nameB : List Nat := [115, 116, 101, 108, 101]
def headB (seq : Nat) (l : List Put) : List Nat := ((cT nameB ++ cU seq) ++ cL l.length) ++ l.flatMap fun p => cU p.1
def sealB (seq : Nat) (l : List Put) : List Nat :=
  let b := headB seq l ++ cB (shaOf (headB seq l ++ l.flatMap (·.2)))
  b ++ List.replicate (512 - b.length) 0
theorem cU_len (n : Nat) : (cU n).length = 9 := by simp [cU, be_len]
theorem cL_len (n : Nat) : (cL n).length = 5 := by simp [cL, be_len]
theorem cU_lt (n : Nat) : ∀ x ∈ cU n, x < 256 := by
  intro x hx
  rcases List.mem_cons.1 hx with rfl | hx
  · omega
  · exact be_lt _ _ x hx
theorem cL_lt (n : Nat) : ∀ x ∈ cL n, x < 256 := by
  intro x hx
  rcases List.mem_cons.1 hx with rfl | hx
  · omega
  · exact be_lt _ _ x hx
theorem cT_lt (s : List Nat) (h : ∀ x ∈ s, x < 256) : ∀ x ∈ cT s, x < 256 := by
  intro x hx
  rcases List.mem_append.1 hx with hx | hx
  · rcases List.mem_cons.1 hx with rfl | hx
    · omega
    · exact be_lt _ _ x hx
  · exact h x hx
theorem cB_lt (s : List Nat) (h : ∀ x ∈ s, x < 256) : ∀ x ∈ cB s, x < 256 := by
  intro x hx
  rcases List.mem_append.1 hx with hx | hx
  · rcases List.mem_cons.1 hx with rfl | hx
    · omega
    · exact be_lt _ _ x hx
  · exact h x hx
theorem cus_len (l : List Put) : (l.flatMap fun p => cU p.1).length = 9 * l.length := by
  induction l with
  | nil => rfl
  | cons p l ih => rw [List.flatMap_cons, List.length_append, ih, cU_len, List.length_cons]; omega
theorem headB_len (seq : Nat) (l : List Put) : (headB seq l).length = 24 + 9 * l.length := by
  simp only [headB, List.length_append, cus_len, cU_len, cL_len, cT, be_len, List.length_cons, nameB, List.length_nil]
theorem headB_lt (seq : Nat) (l : List Put) : ∀ x ∈ headB seq l, x < 256 := by
  intro x hx
  simp only [headB, List.mem_append, List.mem_flatMap] at hx
  rcases hx with ((hx | hx) | hx) | ⟨p, _, hx⟩
  · exact cT_lt _ (by decide) x hx
  · exact cU_lt _ x hx
  · exact cL_lt _ x hx
  · exact cU_lt _ x hx
theorem shaOf_len (m : List Nat) : (shaOf m).length = 32 := by simp [shaOf, sumBytes, vl, wbytes]
theorem wbytes_lt (n : Nat) : ∀ x ∈ wbytes n, x < 256 := by
  intro x hx
  simp only [wbytes, List.mem_cons, List.not_mem_nil, or_false] at hx
  rcases hx with rfl | rfl | rfl | rfl <;> exact Nat.mod_lt _ (by decide)
theorem shaOf_lt (m : List Nat) : ∀ x ∈ shaOf m, x < 256 := by
  intro x hx
  simp only [shaOf, sumBytes, List.mem_flatMap] at hx
  obtain ⟨n, _, hx⟩ := hx
  exact wbytes_lt n x hx
theorem cB_len (s : List Nat) : (cB s).length = 5 + s.length := by simp [cB, be_len]; omega
theorem sealB_len (seq : Nat) (l : List Put) (h : l.length ≤ 48) : (sealB seq l).length = 512 := by
  simp only [sealB, List.length_append, List.length_replicate, headB_len, cB_len, shaOf_len]
  omega
theorem sealB_sec (seq : Nat) (l : List Put) (h : l.length ≤ 48) : IsSec (sealB seq l) := by
  refine ⟨sealB_len seq l h, fun x hx => ?_⟩
  simp only [sealB, List.mem_append] at hx
  rcases hx with (hx | hx) | hx
  · exact headB_lt _ _ x hx
  · exact cB_lt _ (shaOf_lt _) x hx
  · have := List.eq_of_mem_replicate hx
    omega
end Go.Proofs.YtnbonhinpepgoaaGreat
end
section
set_option linter.unusedVariables false
namespace Go.Proofs.YtnbonhinpepgoaaGreat
open Go.RowKit
theorem own_down {w : World} {B B' n s : Nat} {e : TypeId} {v : Value} {xs : List Value} (h : w.ownsRow B e s v n xs) (hb : B' ≤ B) : w.ownsRow B' e s v n xs := own_lower h hb
theorem Has.frF {w W : World} {sp : Option Addr} {l : List Nat} (h : Has w sp l) (hF : Fr (fun _ => False) w W) : Has W sp l := fun h0 => by
  obtain ⟨ad, e, hc⟩ := h h0
  exact ⟨ad, e, fun j v hv => hF.cell (hc j v hv) id⟩
def pu (p : Put) : List Nat := cU p.1
def pb (p : Put) : List Nat := p.2
def hd0 (seq n : Nat) : List Nat := (cT nameB ++ cU seq) ++ cL n
theorem hd0_len (seq n : Nat) : (hd0 seq n).length = 24 := by simp [hd0, cU_len, cL_len, cT, be_len, nameB]
theorem fm_len (l : List Put) : (l.flatMap pu).length = 9 * l.length := cus_len l
theorem fb_len (l : List Put) (h : ∀ p ∈ l, IsSec p.2) : (l.flatMap pb).length = 512 * l.length := by
  induction l with
  | nil => rfl
  | cons p l ih =>
    rw [List.flatMap_cons, List.length_append, ih (fun q hq => h q (List.mem_cons_of_mem _ hq)), List.length_cons, pb, (h p (List.mem_cons_self ..)).len]
    omega
theorem fm_succ (l : List Put) (f : Put → List Nat) (j : Nat) (p : Put) (h : l[j]? = some p) : (l.take (j + 1)).flatMap f = (l.take j).flatMap f ++ f p := by
  rw [List.take_add_one, h]
  simp
theorem alloc_put : AllocOf 216 2 := ⟨#[.int .i64 0, .slice none 0 0], rfl, fun w => by kernel_rfl⟩
theorem isz_put : (Tryz.prog.info? 216).map (·.size) = some 2 := by kernel_rfl
def putC (a : Nat) (X : Option Addr) (cap : Nat) : List Value := [.int .i64 (a : Int), .slice X 512 cap]
theorem putC_one (a : Nat) (X : Option Addr) (cap : Nat) : ∀ v ∈ putC a X cap, v.oneCell' = true := by
  intro v hv
  simp only [putC, List.mem_cons, List.not_mem_nil, or_false] at hv
  rcases hv with rfl | rfl <;> rfl
set_option maxHeartbeats 4000000 in
set_option maxRecDepth 10000 in
theorem seal_ok (seq : Nat) (hseq : seq < 18446744073709551616) (l : List Put) (hl : l.length ≤ 48) (hat : ∀ p ∈ l, p.1 < 1000000) (hsec : ∀ p ∈ l, IsSec p.2) (G : Nat → Prop) (X : Option Addr) (cap : Nat) (w : World) (hG : ∀ k, G k → k < w.heap.size) (hp : PutsR G w X l) :
    Calls Tryz.prog 147 #[.int .u64 seq, .slice X l.length cap] w fun e w' => ∃ v, e = .returned v ∧ w'.ownsRow w.heap.size 5 1 v 512 (n8 (sealB seq l)) ∧ Fr (fun _ => False) w w' := by
  have hT := text_ok [] ⟨#[115, 116, 101, 108, 101]⟩ none 0 (by simp) (by decide) w (fun h => by simp at h)
  rw [show [] ++ cT (strb ⟨#[115, 116, 101, 108, 101]⟩) = cT nameB from rfl] at hT
  have hTl : (cT nameB).length = 10 := by simp [cT, be_len, nameB]
  have hse : ∀ S : List Nat, headB seq l ++ l.flatMap pb = S → sealB seq l = (headB seq l ++ cB (shaOf S)) ++ List.replicate (512 - (headB seq l ++ cB (shaOf S)).length) 0 := fun S e => by
    rw [← e]; rfl
  have hfin : hd0 seq l.length ++ l.flatMap pu = headB seq l := rfl
  have hHl := headB_len seq l
  have hHx := Lib.hid (headB_lt seq l)
  have hfb := Lib.hid (fb_len l hsec)
  obtain ⟨SB, hSB⟩ : ∃ SB, sealB seq l = SB := ⟨_, rfl⟩
  obtain ⟨H, hH⟩ : ∃ H, headB seq l = H := ⟨_, rfl⟩
  rw [hSB]
  rw [hH] at hHl hfin hHx
  have HSE := Lib.hid (show ∀ S : List Nat, H ++ l.flatMap pb = S → SB = (H ++ cB (shaOf S)) ++ List.replicate (512 - (H ++ cB (shaOf S)).length) 0 from by rw [← hH, ← hSB]; exact hse)
  have HFIN := Lib.hid hfin
  have HHl := Lib.hid hHl
  clear hse hfin hSB hH hHl
  have HP := Lib.hid hp
  have HG := Lib.hid hG
  have HSEC := Lib.hid hsec
  have HAT := Lib.hid hat
  have HTL := Lib.hid hTl
  clear hp hG hsec hat hTl
  go_enter Tryz.func147, Tryz.ntmps147
  go_wp2_with (first
    | (go_at_call 198; refine hT.mono ?_; rintro e w1 ⟨v1, rfl, hO1, hF1⟩; obtain ⟨X1, cap1, rfl, hn1, hc1, hH1⟩ := own_has hO1; have hU := uint_ok (cT nameB) X1 cap1 (by rw [HTL.out]; omega) seq hseq w1 hH1; have HF1 := Lib.hid hF1; clear hO1 hF1 hT hH1)
    | (go_at_call 138; refine hU.mono ?_; rintro e w2 ⟨v2, rfl, hO2, hF2⟩; obtain ⟨X2, cap2, rfl, hn2, hc2, hH2⟩ := own_has hO2; have hLi := list_ok (cT nameB ++ cU seq) X2 cap2 (by rw [List.length_append, HTL.out, cU_len]; omega) l.length (by omega) w2 hH2; have HF2 := Lib.hid (HF1.out.then_ hF2 (fun _ _ h => h)); clear hO2 hF2 hU hH2)
    | (go_at_call 139; refine hLi.mono ?_; rintro e w3 ⟨v3, rfl, hO3, hF3⟩; have HF3 := Lib.hid (HF2.out.then_ hF3 (fun _ _ h => h)); have HO3 := Lib.hid (show w3.ownsRow w.heap.size 5 1 v3 (hd0 seq l.length).length (n8 (hd0 seq l.length)) from own_down hO3 HF2.out.size); clear hO3 hF3 hLi))
  go_loopw [20, 5] (fun t v wr => ∃ j : Nat, t = .int .i64 j ∧ j ≤ l.length ∧ Hid (wr.ownsRow w.heap.size 5 1 v (hd0 seq l.length ++ (l.take j).flatMap pu).length (n8 (hd0 seq l.length ++ (l.take j).flatMap pu))) ∧ Hid (Fr (fun _ => False) w wr)) (fun t _ _ => l.length - (intOf t).toNat)
  case atStart => exact ⟨0, rfl, Nat.zero_le _, Lib.hid (by simpa using HO3.out), HF3⟩
  case round =>
    clear HO3 HF3 HF2 HF1 hc2 hc1 hn2 hn1
    obtain ⟨j, rfl, hj, HO, HF⟩ := hrel
    have hz := HF.out.size
    by_cases hjl : j < l.length
    · obtain ⟨p, hpj⟩ : ∃ p, l[j]? = some p := ⟨_, List.getElem?_eq_getElem hjl⟩
      have hpm := List.mem_of_getElem? hpj
      obtain ⟨b, o, rfl, hb, hpp⟩ := HP.out.fr HF.out (fun _ _ => id) (by omega)
      obtain ⟨c0, cb, ob, cp, c1, hg, hcb, hr, hc5⟩ := hpp j p hpj
      have hat := HAT.out p hpm
      have hLlen : (hd0 seq l.length ++ (l.take j).flatMap pu).length < 100000000 := by rw [List.length_append, hd0_len, fm_len, List.length_take]; omega
      have hsu := Lib.hid (show hd0 seq l.length ++ (l.take (j + 1)).flatMap pu = (hd0 seq l.length ++ (l.take j).flatMap pu) ++ cU p.1 by rw [fm_succ l pu j p hpj, List.append_assoc]; rfl)
      generalize hd0 seq l.length ++ (l.take j).flatMap pu = cur at *
      obtain ⟨X4, cap4, rfl, hn4, hc4, hH4⟩ := own_has HO.out
      have hU := fun W (hF : Fr (fun _ => False) wr W) => uint_ok cur X4 cap4 hLlen p.1 (by omega) W (hH4.frF hF)
      have HU := Lib.hid hU
      clear hH4 hU hpp hr hpm hpj
      go_wp2_with (first
        | ((with_reducible refine at_dst (N := 7) rfl ?_); refine wpList_alloc rfl 216 2 alloc_put rfl ?_; intro Z W1 hZ hW hF hz1; simp only [Act.put, List.setIfInBounds_toArray, List.set_cons_zero, List.set_cons_succ])
        | ((with_reducible refine at_store (p := 7) rfl ?_); refine wpList_put rfl rfl 216 (.tmp 7) (.tmp 23) rfl wr.heap.size 0 (putC p.1 (some ⟨cb, ob, none⟩) cp) Z _ rfl rfl hW (by rw [hZ]; exact Nat.le_refl 2) isz_put (putC_one _ _ _) ?_; intro W2 hW2 hF2 hz2; rw [splice_all _ _ (by rw [hZ]; rfl)] at hW2; have d0 : W2.cell? ⟨wr.heap.size, 0, none⟩ = some (.int .i64 (p.1 : Int)) := cell_of_row W2 _ 0 _ _ _ hW2; have HFF := Lib.hid (hF.then_ hF2 (fun k hk e => by omega)); have hU2 := HU.out W2 HFF.out; clear hW2 hF hF2 hW)
        | (go_at_call 138; refine hU2.mono ?_; rintro e w5 ⟨v5, rfl, hO5, hF5⟩; have HF5 := Lib.hid ((HF.out.trans HFF.out).then_ hF5 (fun _ _ h => h)); have HO5 := Lib.hid (show w5.ownsRow w.heap.size 5 1 v5 (hd0 seq l.length ++ (l.take (j + 1)).flatMap pu).length (n8 (hd0 seq l.length ++ (l.take (j + 1)).flatMap pu)) from by rw [hsu.out]; exact own_down hO5 (by omega)); clear hO5 hF5 hU2))
      go_roundw
      case rel => exact ⟨j + 1, by go_num, by omega, HO5, HF5⟩
      case measure => simp [intOf]; omega
    · obtain rfl : j = l.length := by omega
      have HOo := Lib.hid (show wr.ownsRow w.heap.size 5 1 u5 H.length (n8 H) from by
        have := HO.out
        rw [List.take_length, HFIN.out] at this
        exact this)
      clear HO
      obtain ⟨X6, cap6, rfl, hn6, hc6, hH6⟩ := own_has HOo.out
      have HH6 := Lib.hid hH6
      clear hH6
      obtain ⟨wo, rfl⟩ : ∃ wo : World, wo = wr := ⟨_, rfl⟩
      have hNew := hash_new wo
      have hmk : ∀ W, (Instr.makeSlice 42 (.int .i64 512) (.int .i64 512)).run Tryz.prog W = _ := fun W => run_mkb 512 (by omega) W
      generalize hR : List.replicate 512 0 = R at hmk
      have HR := Lib.hid hR
      clear hR
      go_wp2_with (first
        | (go_at_call 199; refine hNew.mono ?_; rintro e w6 ⟨g, rfl, hS6, hg6, hgl6, hF6⟩; have hA := hash_add g [] H X6 cap6 hc6 hHx.out (by have := HHl.out; simp; omega) w6 hS6 (HH6.out.src hg6 hF6); have HF6 := Lib.hid hF6; clear hS6 hF6 hNew)
        | (go_at_call 200; refine hA.mono ?_; rintro e w7 ⟨rfl, hS7, hF7⟩; have HS7 := Lib.hid hS7; have HF7 := Lib.hid (HF6.out.then_ hF7 (fun k hk e => by omega)); clear hS7 hF7 hA))
      go_loopw [36] (fun t wr => ∃ j : Nat, t = .int .i64 j ∧ j ≤ l.length ∧ Hid (SSt Sha.V0 287 g (H ++ (l.take j).flatMap pb) wr) ∧ Hid (Fr (fun _ => False) wo wr)) (fun t _ => l.length - (intOf t).toNat)
      case atStart => exact ⟨0, rfl, Nat.zero_le _, Lib.hid (by simpa using HS7.out), HF7⟩
      case round =>
        clear HS7 HF7 HF6
        obtain ⟨j, rfl, hj, HS, HQ⟩ := hrel
        have hzq := HQ.out.size
        by_cases hjl : j < l.length
        · obtain ⟨p, hpj⟩ : ∃ p, l[j]? = some p := ⟨_, List.getElem?_eq_getElem hjl⟩
          have hpm := List.mem_of_getElem? hpj
          obtain ⟨b, o, hXe, hb, hpp⟩ := HP.out.fr (HF.out.trans HQ.out) (fun _ _ => id) (by omega)
          subst hXe
          obtain ⟨c0, cb, ob, cp, c1, hg, hcb, hr, hc5⟩ := hpp j p hpj
          have hcbw := HG.out cb hg
          have hp2 := HSEC.out p hpm
          have hlen := Lib.hid (show (H ++ (l.take j).flatMap pb).length + p.2.length < 2 ^ 59 by
            have h1 := fb_len (l.take j) (fun q hq => HSEC.out q (List.mem_of_mem_take hq))
            rw [List.length_append, h1, HHl.out, hp2.len, List.length_take]
            omega)
          have hsu := Lib.hid (show H ++ (l.take (j + 1)).flatMap pb = (H ++ (l.take j).flatMap pb) ++ p.2 by rw [fm_succ l pb j p hpj, List.append_assoc]; rfl)
          generalize H ++ (l.take j).flatMap pb = cur at *
          have hA := fun W (hF : Fr (fun _ => False) wr W) => hash_add g cur p.2 (some ⟨cb, ob, none⟩) cp (by rw [hp2.len]; exact hc5) hp2.lt hlen.out W (HS.out.fr hF id) (fun _ => ⟨_, rfl, by show cb ≠ g; omega, fun q v hv => by rw [addr_add]; exact hF.cell (hr q v hv) id⟩)
          rw [hp2.len] at hA
          have HA := Lib.hid hA
          clear hA hpp hr hpm hpj
          go_wp2_with (first
            | ((with_reducible refine at_dst (N := 10) rfl ?_); refine wpList_alloc rfl 216 2 alloc_put rfl ?_; intro Z W1 hZ hW hF hz1; simp only [Act.put, List.setIfInBounds_toArray, List.set_cons_zero, List.set_cons_succ])
            | ((with_reducible refine at_store (p := 10) rfl ?_); refine wpList_put rfl rfl 216 (.tmp 10) (.tmp 39) rfl wr.heap.size 0 (putC p.1 (some ⟨cb, ob, none⟩) cp) Z _ rfl rfl hW (by rw [hZ]; exact Nat.le_refl 2) isz_put (putC_one _ _ _) ?_; intro W2 hW2 hF2 hz2; rw [splice_all _ _ (by rw [hZ]; rfl)] at hW2; have d0 : W2.cell? ⟨wr.heap.size, 1, none⟩ = some (.slice (some ⟨cb, ob, none⟩) 512 cp) := cell_of_row W2 _ 1 _ _ _ hW2; have HFF := Lib.hid (hF.then_ hF2 (fun k hk e => by omega)); have hA2 := HA.out W2 HFF.out; clear hW2 hF hF2 hW)
            | (go_at_call 200; refine hA2.mono ?_; rintro e w8 ⟨rfl, hS8, hF8⟩; have HS8 := Lib.hid (hsu.out ▸ hS8); have HF8 := Lib.hid ((HQ.out.trans HFF.out).then_ hF8 (fun k hk e => by omega)); clear hS8 hF8 hA2))
          go_roundw
          case rel => exact ⟨j + 1, by go_num, by omega, HS8, HF8⟩
          case measure => simp [intOf]; omega
        · obtain rfl : j = l.length := by omega
          rw [List.take_length] at HS
          have hSl : (H ++ l.flatMap pb).length < 2 ^ 60 := by rw [List.length_append, hfb.out, HHl.out]; omega
          have HSU := Lib.hid (fun W (hF : Fr (fun _ => False) wr W) => hash_sum g (H ++ l.flatMap pb) hSl W (HS.out.fr hF id))
          have HSS := Lib.hid (HSE.out _ rfl)
          generalize H ++ l.flatMap pb = S at *
          have HB := Lib.hid (fun W X' cap' h1 h2 => bytes_ok H (shaOf S) X6 X' cap6 cap' (by rw [HHl.out]; omega) (by rw [shaOf_len]; omega) W h1 h2)
          have HBl := Lib.hid (show (H ++ cB (shaOf S)).length = 61 + 9 * l.length by rw [List.length_append, HHl.out, cB_len, shaOf_len]; omega)
          have HB1 := Lib.hid (n8_one (H ++ cB (shaOf S)))
          rw [shaOf_len] at HB
          have HH7 := Lib.hid (HH6.out.frF HQ.out)
          generalize shaOf S = sh at *
          generalize H ++ cB sh = C at *
          clear HSE HFIN HOo hSl
          go_wp2_with (first
            | (go_at_call 201; refine (HSU.out _ ((Fr.refl _ _).alloc _)).mono ?_; rintro e w10 ⟨vs, rfl, hO10, hF10⟩; obtain ⟨Xs, caps, rfl, -, -, hHs⟩ := own_has hO10; have HF10 := Lib.hid (((Fr.refl (fun _ => False) wr).alloc _).then_ hF10 (fun _ _ h => h)); have hb10 := hF10.heap (heap_alloc_new wr _) id; have HB10 := Lib.hid hb10; have hBy := HB.out w10 Xs caps (HH7.out.frF HF10.out) hHs; clear hO10 hF10 hb10 hHs)
            | (go_at_call 137; refine hBy.mono ?_; rintro e w11 ⟨vb, rfl, hO11, hF11⟩; obtain ⟨Xb, capb, rfl, -, -, hHb⟩ := own_has hO11; obtain ⟨ab, rfl, hab⟩ := hHb (by rw [HBl.out]; omega); have HAB := Lib.hid hab; have HF11 := Lib.hid (HF10.out.then_ hF11 (fun _ _ h => h)); have HB11 := Lib.hid (hF11.heap HB10.out id); clear hO11 hF11 hHb hab hBy)
            | ((with_reducible refine at_dst (N := 51) rfl ?_); refine wpList_copy_fr rfl (.tmp 46) (.tmp 50) 42 42 rfl 5 (by kernel_rfl) (by kernel_rfl) wr.heap.size 0 512 512 ab C.length capb rfl rfl (n8 R) _ HB11.out (n8 C) (by rw [n8_len, HBl.out]; exact (Nat.min_eq_left (by omega)).symm) HAB.out (by rw [n8_len, n8_len, HBl.out, ← HR.out, List.length_replicate]; omega) HB1.out ?_; intro w12 HG12 hF12; have HF12 := Lib.hid (HF11.out.then_ hF12 (fun k hk e => by omega)); clear hF12))
          go_ret
          have hz12 := HF12.out.size
          refine ⟨_, rfl, ⟨by rw [n8_len, HSS.out, List.length_append, List.length_replicate, HBl.out]; omega, .inr ⟨wr.heap.size, 512, _, rfl, by omega, HG12.out, Nat.le_refl _, by unfold maxLen; omega, ?_, ?_⟩⟩, (HF.out.trans HQ.out).trans HF12.out⟩
          · have hRl : R.length = 512 := by rw [← HR.out, List.length_replicate]
            rw [List.size_toArray, length_splice _ _ _ (by rw [n8_len, n8_len, HBl.out, hRl]; omega), n8_len, hRl]
          · have hRl : R.length = 512 := by rw [← HR.out, List.length_replicate]
            have e : splice (n8 R) 0 (n8 C) = n8 SB := by
              rw [HSS.out, ← n8_splice, splice, List.take_zero, List.nil_append, Nat.zero_add, ← HR.out, List.drop_replicate]
            rw [e, List.toList_toArray, List.take_of_length_le (by rw [n8_len, HSS.out, List.length_append, List.length_replicate, HBl.out]; omega)]
end Go.Proofs.YtnbonhinpepgoaaGreat
end
section
set_option linter.unusedVariables false
namespace Go.Proofs.YtnbonhinpepgoaaGreat
open Go.RowKit
def wrStep (r : Int × Dk) (p : Put) : Int × Dk := if r.1 = 0 then r.2.write p.1 p.2 else r
def Dk.runW (D : Dk) (l : List Put) : Int × Dk := l.foldl wrStep (0, D)
def Dk.steps (D : Dk) (l : List Put) : Int × Dk := if (D.runW l).1 = 0 then (0, (D.runW l).2.flush) else D.runW l
theorem runW_succ (D : Dk) (l : List Put) (j : Nat) (p : Put) (h : l[j]? = some p) : D.runW (l.take (j + 1)) = wrStep (D.runW (l.take j)) p := by
  unfold Dk.runW
  rw [List.take_add_one, h]
  simp
theorem wrStep_stuck (l : List Put) : ∀ r : Int × Dk, ¬ r.1 = 0 → l.foldl wrStep r = r := by
  induction l with
  | nil => intro r _; rfl
  | cons p l ih =>
    intro r h
    rw [List.foldl_cons, show wrStep r p = r by rw [wrStep, if_neg h]]
    exact ih r h
theorem runW_stuck (D : Dk) (l : List Put) (j : Nat) (h : ¬ (D.runW (l.take j)).1 = 0) : D.runW l = D.runW (l.take j) := by
  conv => lhs; rw [← List.take_append_drop j l]
  unfold Dk.runW at h ⊢
  rw [List.foldl_append]
  exact wrStep_stuck _ _ h
theorem write_ok0 {D : Dk} {i : Nat} {b : List Nat} (h : (D.write i b).1 = 0) (hd : D.down = false) : (D.write i b).2.st = D.st ∧ (D.write i b).2.down = false ∧ (D.write i b).2.ca.length = D.ca.length + 1 ∧ ¬ D.armed = 0 := by
  unfold Dk.write at h ⊢
  by_cases ha : D.armed = 0
  · rw [if_pos ha] at h
    cases h
  · rw [if_neg ha]
    exact ⟨rfl, hd, by simp, ha⟩
theorem runW_inv (D : Dk) (hd : D.down = false) (l : List Put) : (D.runW l).1 = 0 → (D.runW l).2.st = D.st ∧ (D.runW l).2.down = false ∧ (D.runW l).2.ca.length = D.ca.length + l.length := by
  have key : ∀ (m : List Put), (D.runW m).1 = 0 → (D.runW m).2.st = D.st ∧ (D.runW m).2.down = false ∧ (D.runW m).2.ca.length = D.ca.length + m.length := by
    intro m
    induction hm : m.length generalizing m with
    | zero =>
      obtain rfl := List.eq_nil_of_length_eq_zero hm
      intro _
      exact ⟨rfl, hd, rfl⟩
    | succ n ih =>
      intro h
      have hlt : n < m.length := by omega
      have hp := List.getElem?_eq_getElem hlt
      have hs := runW_succ D m n m[n] hp
      rw [List.take_of_length_le (by omega)] at hs
      rw [hs] at h ⊢
      unfold wrStep at h ⊢
      by_cases h0 : (D.runW (m.take n)).1 = 0
      · rw [if_pos h0] at h ⊢
        have i1 := ih (m.take n) (by simp; omega) h0
        have i2 := write_ok0 h i1.2.1
        have hl : (m.take n).length = n := by simp; omega
        refine ⟨i2.1.trans i1.1, i2.2.1, ?_⟩
        rw [i2.2.2.1, i1.2.2]
        omega
      · rw [if_neg h0] at h
        exact absurd h h0
  exact key l
def Loc (w : World) (cv cv' : Value) : Prop := ∀ k, cv'.ownBlock = some k → cv.ownBlock = some k ∨ w.heap.size ≤ k
theorem Loc.refl (w : World) (cv : Value) : Loc w cv cv := fun _ h => .inl h
theorem Loc.trans {w w' : World} {c1 c2 c3 : Value} (h : Loc w c1 c2) (hz : w.heap.size ≤ w'.heap.size) (k : Loc w' c2 c3) : Loc w c1 c3 := fun j hj => (k j hj).elim (h j) fun h2 => .inr (Nat.le_trans hz h2)
theorem loc_of {w : World} {cv cv' : Value} (h : cv'.ownBlock = cv.ownBlock ∨ ∃ k, cv'.ownBlock = some k ∧ w.heap.size ≤ k) : Loc w cv cv' := fun k hk => by
  rcases h with h | ⟨q, hq, hz⟩
  · exact .inl (h ▸ hk)
  · rw [hq] at hk; injection hk with hk; exact .inr (hk ▸ hz)
theorem loc_nil (w : World) (cv : Value) : Loc w cv (.slice none 0 0) := fun k hk => by cases hk
theorem Fr.foot {g gs : Nat} {cv cv' : Value} {w w1 w2 : World} (h : Fr (Foot g gs cv) w w1) (hl : Loc w cv cv') (k : Fr (Foot g gs cv') w1 w2) : Fr (Foot g gs cv) w w2 :=
  h.then_ k fun j hj hf => by
    rcases hf with hf | hf | hf
    · exact .inl hf
    · exact .inr (.inl hf)
    · rcases hl j hf with h1 | h1
      · exact .inr (.inr h1)
      · omega
section
variable {g gs : Nat} {cv : Value} {D : Dk} {w : World}
set_option maxHeartbeats 4000000 in
set_option maxRecDepth 10000 in
theorem steps_ok (h : DRep g gs cv D w) (hd : D.down = false) (l : List Put) (hat : ∀ p ∈ l, p.1 < D.st.length) (hsec : ∀ p ∈ l, IsSec p.2) (hll : l.length < 1000) (hmany : D.ca.length < 900000) (G : Nat → Prop) (hG : ∀ k, G k → k < w.heap.size ∧ ¬ Foot g gs cv k) (X : Option Addr) (cap : Nat) (hp : PutsR G w X l) :
    Calls Tryz.prog 82 #[.pointer (some ⟨g, 0, none⟩), .slice X l.length cap] w fun r w' => r = .returned (.int .i64 (D.steps l).1) ∧ ∃ cv', DRep g gs cv' (D.steps l).2 w' ∧ Fr (Foot g gs cv) w w' ∧ Loc w cv cv' := by
  obtain ⟨R, hR⟩ : ∃ R, D.steps l = R := ⟨_, rfl⟩
  rw [hR]
  have HR := Lib.hid hR
  have HP := Lib.hid hp
  have HG := Lib.hid hG
  have HSEC := Lib.hid hsec
  have HAT := Lib.hid hat
  have HD := Lib.hid h
  have HDN := Lib.hid hd
  clear hR hp hG hsec hat h hd
  go_enter Tryz.func82, Tryz.ntmps82
  go_wp2
  go_loopw [10] (fun t wr => ∃ (j : Nat) (cvj : Value), t = .int .i64 j ∧ j ≤ l.length ∧ Hid ((D.runW (l.take j)).1 = 0) ∧ Hid (DRep g gs cvj (D.runW (l.take j)).2 wr) ∧ Hid (Loc w cv cvj) ∧ Hid (Fr (Foot g gs cv) w wr)) (fun t _ => l.length - (intOf t).toNat)
  case atStart => exact ⟨0, cv, rfl, Nat.zero_le _, Lib.hid rfl, HD, Lib.hid (Loc.refl _ _), Lib.hid (Fr.refl _ _)⟩
  case round =>
    obtain ⟨j, cvj, rfl, hj, H0, HJ, HL, HF⟩ := hrel
    have hz := HF.out.size
    have hinv := Lib.hid (runW_inv D HDN.out (l.take j) H0.out)
    by_cases hjl : j < l.length
    · obtain ⟨p, hpj⟩ : ∃ p, l[j]? = some p := ⟨_, List.getElem?_eq_getElem hjl⟩
      have hpm := List.mem_of_getElem? hpj
      obtain ⟨b, o, rfl, hb, hpp⟩ := HP.out.fr HF.out (fun k hk => (HG.out k hk).2) (by omega)
      obtain ⟨c0, cb, ob, cp, c1, hg, hcb, hr, hc5⟩ := hpp j p hpj
      have hgw := Lib.hid (HG.out cb hg)
      have hp2 := HSEC.out p hpm
      have hsu := Lib.hid (show D.runW (l.take (j + 1)) = (D.runW (l.take j)).2.write p.1 p.2 by rw [runW_succ D l j p hpj, wrStep, if_pos H0.out])
      have hst := Lib.hid (runW_stuck D l (j + 1))
      have hpi : p.1 < (D.runW (l.take j)).2.st.length := by rw [hinv.out.1]; exact HAT.out p hpm
      have hlt : (l.take j).length = j := by simp; omega
      have hcan : (D.runW (l.take j)).2.ca.length < 1000000 := by rw [hinv.out.2.2, hlt]; omega
      have hnf : Hid (¬ Foot g gs cvj cb) := show ¬ _ from fun hf => by
        rcases hf with hf | hf | hf
        · exact hgw.out.2 (.inl hf)
        · exact hgw.out.2 (.inr (.inl hf))
        · rcases HL.out cb hf with h1 | h1
          · exact hgw.out.2 (.inr (.inr h1))
          · have := hgw.out.1; omega
      have HRG := Lib.hid hr
      have hdn := hinv.out.2.1
      have hw0 := Lib.hid hsu.out
      have hR0 := Lib.hid (show ∀ r : Int × Dk, D.runW (l.take (j + 1)) = r → ¬ r.1 = 0 → R = r from fun r e h0 => by
        have h1 := hst.out (by rw [e]; exact h0)
        rw [← HR.out, Dk.steps, h1, e, if_neg h0])
      clear hst hsu
      generalize hDj : (D.runW (l.take j)).2 = Dj at *
      have HDJ := Lib.hid hDj
      clear hDj
      by_cases ha : Dj.armed = 0
      · have HA := Lib.hid (fun W (hF : Fr (fun _ => False) wr W) => write_down (HJ.out.fr hF (fun _ _ => id)) p.1 hpi hdn ha (some ⟨cb, ob, none⟩) cp)
        have hfin := Lib.hid (hR0.out _ hw0.out (by unfold Dk.write; rw [if_pos ha]; show ¬ (51 : Int) = 0; decide))
        have hfin2 := Lib.hid (show R = (51, { Dj with down := true }) by rw [hfin.out]; unfold Dk.write; rw [if_pos ha])
        clear ha hpp hr hpm hpj hfin
        go_wp2_with (first
          | ((with_reducible refine at_dst (N := 6) rfl ?_); refine wpList_alloc rfl 216 2 alloc_put rfl ?_; intro Z W1 hZ hW hF hz1; simp only [Act.put, List.setIfInBounds_toArray, List.set_cons_zero, List.set_cons_succ])
          | ((with_reducible refine at_store (p := 6) rfl ?_); refine wpList_put rfl rfl 216 (.tmp 6) (.tmp 13) rfl wr.heap.size 0 (putC p.1 (some ⟨cb, ob, none⟩) cp) Z _ rfl rfl hW (by rw [hZ]; exact Nat.le_refl 2) isz_put (putC_one _ _ _) ?_; intro W2 hW2 hF2 hz2; rw [splice_all _ _ (by rw [hZ]; rfl)] at hW2; have d0 : W2.cell? ⟨wr.heap.size, 0, none⟩ = some (.int .i64 (p.1 : Int)) := cell_of_row W2 _ 0 _ _ _ hW2; have d1 : W2.cell? ⟨wr.heap.size, 1, none⟩ = some (.slice (some ⟨cb, ob, none⟩) 512 cp) := cell_of_row W2 _ 1 _ _ _ hW2; have HFF := Lib.hid (hF.then_ hF2 (fun k hk e => by omega)); have hA2 := HA.out W2 HFF.out; clear hW2 hF hF2 hW)
          | (go_at_call 148; refine hA2.mono ?_; rintro e w5 ⟨rfl, hD5, hF5⟩; have HD5 := Lib.hid hD5; have HF5 := Lib.hid (HF.out.foot HL.out (((Fr.refl _ _).mono (fun _ _ h => h) |>.then_ HFF.out (fun _ _ h => h.elim)).trans hF5)); clear hD5 hF5 hA2))
        go_ret
        exact ⟨by simp [hfin2.out], cvj, by rw [hfin2.out]; exact HD5.out, HF5.out, HL.out⟩
      · have HA := Lib.hid (fun W (hF : Fr (fun _ => False) wr W) => write_tail (HJ.out.fr hF (fun _ _ => id)) p.1 hpi p.2 hp2 cb ob cp (fun W' hF' q v hv => hF'.cell (hF.cell (HRG.out q v hv) id) hnf.out) hcan hdn ha)
        have h00 := Lib.hid (show (Dj.write p.1 p.2).1 = 0 by unfold Dk.write; rw [if_neg ha])
        clear ha hpp hr hpm hpj
        go_wp2_with (first
          | ((with_reducible refine at_dst (N := 6) rfl ?_); refine wpList_alloc rfl 216 2 alloc_put rfl ?_; intro Z W1 hZ hW hF hz1; simp only [Act.put, List.setIfInBounds_toArray, List.set_cons_zero, List.set_cons_succ])
          | ((with_reducible refine at_store (p := 6) rfl ?_); refine wpList_put rfl rfl 216 (.tmp 6) (.tmp 13) rfl wr.heap.size 0 (putC p.1 (some ⟨cb, ob, none⟩) cp) Z _ rfl rfl hW (by rw [hZ]; exact Nat.le_refl 2) isz_put (putC_one _ _ _) ?_; intro W2 hW2 hF2 hz2; rw [splice_all _ _ (by rw [hZ]; rfl)] at hW2; have d0 : W2.cell? ⟨wr.heap.size, 0, none⟩ = some (.int .i64 (p.1 : Int)) := cell_of_row W2 _ 0 _ _ _ hW2; have d1 : W2.cell? ⟨wr.heap.size, 1, none⟩ = some (.slice (some ⟨cb, ob, none⟩) 512 cp) := cell_of_row W2 _ 1 _ _ _ hW2; have HFF := Lib.hid (hF.then_ hF2 (fun k hk e => by omega)); have hA2 := HA.out W2 HFF.out; clear hW2 hF hF2 hW)
          | (go_at_call 148; refine hA2.mono ?_; rintro e w5 ⟨rfl, cv5, hD5, hF5, hL5⟩; have HD5 := Lib.hid hD5; have HF5 := Lib.hid (HF.out.foot HL.out (((Fr.refl _ _).mono (fun _ _ h => h) |>.then_ HFF.out (fun _ _ h => h.elim)).trans hF5)); have HL5 := Lib.hid (HL.out.trans (Nat.le_trans hz HFF.out.size) (loc_of hL5)); clear hD5 hF5 hL5 hA2))
        go_roundw
        case rel => exact ⟨j + 1, cv5, by go_num, by omega, Lib.hid (by rw [hw0.out]; exact h00.out), Lib.hid (by rw [hw0.out]; exact HD5.out), HL5, HF5⟩
        case measure => simp [intOf]; omega
    · obtain rfl : j = l.length := by omega
      rw [List.take_length] at H0 HJ hinv
      have hfl := flush_ok HJ.out hinv.out.2.1
      have hfin := Lib.hid (show R = (0, (D.runW l).2.flush) by rw [← HR.out, Dk.steps, if_pos H0.out])
      generalize (D.runW l).2 = Dj at *
      go_wp2_with (go_at_call 149; refine hfl.mono ?_; rintro e w5 ⟨rfl, hD5, hF5⟩; have HD5 := Lib.hid hD5; have HF5 := Lib.hid (HF.out.foot HL.out hF5); clear hD5 hF5 hfl)
      go_ret
      exact ⟨by simp [hfin.out], _, by rw [hfin.out]; exact HD5.out, HF5.out, loc_nil _ _⟩
end
end Go.Proofs.YtnbonhinpepgoaaGreat
end
section
set_option linter.unusedVariables false
namespace Go.Proofs.YtnbonhinpepgoaaGreat
open Go.RowKit
def heldL (D : Dk) : Nat → Nat → List Nat → Bool → List Put → Option (List Put)
  | 0, _, _, _, acc => some acc
  | k + 1, i, b, br, acc => if (rdUint b br).1 < 49 ∨ D.st.length ≤ (rdUint b br).1 then none else heldL D k (i + 1) (rdUint b br).2.1 (rdUint b br).2.2 (acc ++ [((rdUint b br).1, D.get (1 + i))])
def heldF (D : Dk) (b : List Nat) : Nat × List Put × Bool :=
  let t := rdSome b false 115
  let u := rdUint t.2.1 t.2.2
  let m := rdList u.2.1 u.2.2 48
  match heldL D m.1 0 m.2.1 m.2.2 [] with
  | none => (0, [], false)
  | some l => (u.1, l, decide (t.1 = nameB) && decide (sealB u.1 l = b))
theorem rdUint_lt {b : List Nat} {br : Bool} (h : ∀ x ∈ b, x < 256) : (rdUint b br).1 < 18446744073709551616 := by
  unfold rdUint
  split
  · rename_i n hn
    exact rdHead_lt h hn
  · show (0 : Nat) < _
    decide
theorem rdList_le {b : List Nat} {br : Bool} {most : Nat} : (rdList b br most).1 ≤ most := by
  unfold rdList
  split
  · exact Nat.zero_le _
  · split
    · exact Nat.zero_le _
    · simp only; omega
theorem get_sec {D : Dk} (h : D.Ok) {i : Nat} (hi : i < D.st.length) : IsSec (D.get i) := by
  have hm : D.st[i]? = some D.st[i] := List.getElem?_eq_getElem hi
  unfold Dk.get
  rw [List.getD_eq_getElem?_getD, hm]
  exact lastW_sec _ _ _ (h.sec _ (List.getElem_mem hi)) (fun p hp => (h.cac p hp).2)
def pcq (q : List (Put × Nat)) : List Value := q.flatMap fun x => putC x.1.1 (some ⟨x.2, 0, none⟩) 512
structure OwnP (B : Nat) (w : World) (v : Value) (q : List (Put × Nat)) : Prop where
  own : w.ownsRow B 216 2 v q.length (pcq q)
  byt : ∀ x ∈ q, B ≤ x.2 ∧ w.heap[x.2]? = some (.cells (n8 x.1.2).toArray 167 (0, 0)) ∧ v.ownBlock ≠ some x.2
theorem OwnP.fr {B : Nat} {w w' : World} {v : Value} {q : List (Put × Nat)} {M : Nat → Prop} (h : OwnP B w v q) (hf : Fr M w w') (hM : ∀ k, B ≤ k → k < w.heap.size → ¬ M k) : OwnP B w' v q :=
  ⟨own_fr h.own hf (fun k h1 h2 _ => hM k h1 h2), fun x hx => by
    obtain ⟨h1, h2, h3⟩ := h.byt x hx
    exact ⟨h1, hf.heap h2 (hM _ h1 (block_lt h2)), h3⟩⟩
theorem OwnP.nil (B : Nat) (w : World) : OwnP B w (.slice none 0 0) [] := ⟨World.ownsRow_nil _ _ _ _, fun x hx => by cases hx⟩
theorem OwnP.puts {B : Nat} {w : World} {v : Value} {q : List (Put × Nat)} (h : OwnP B w v q) : ∃ X cap, v = .slice X q.length cap ∧ q.length ≤ cap ∧ PutsR (fun k => B ≤ k ∧ k < w.heap.size) w X (q.map (·.1)) := by
  rcases h.own.2 with ⟨rfl, h0⟩ | ⟨g, cap, cur, rfl, hb, hh, hc, hm, hs, ht⟩
  · exact ⟨none, 0, by rw [h0], by omega, fun h1 => by rw [List.length_map] at h1; omega⟩
  · refine ⟨_, cap, rfl, hc, fun _ => ⟨g, 0, rfl, ⟨hb, block_lt hh⟩, fun j p hp => ?_⟩⟩
    rw [List.getElem?_map] at hp
    obtain ⟨x, hx, rfl⟩ := Option.map_eq_some_iff.1 hp
    obtain ⟨h1, h2, h3⟩ := h.byt x (List.mem_of_getElem? hx)
    have hcell : ∀ i v, i < 2 → (putC x.1.1 (some ⟨x.2, 0, none⟩) 512)[i]? = some v → w.cell? ⟨g, 0 + j * 2 + i, none⟩ = some v := fun i v hi hv => by
      have := h.own.cells (g := g) rfl (j * 2 + i) v ((flat_at 2 _ q j i x (fun _ _ => rfl) hx hi).trans hv)
      rw [addr_add] at this
      rw [Nat.zero_add]
      rw [Nat.zero_add] at this
      exact this
    refine ⟨hcell 0 _ (by omega) rfl, x.2, 0, 512, ?_, ⟨h1, block_lt h2⟩, block_lt h2, ?_, Nat.le_refl _⟩
    · exact hcell 1 _ (by omega) rfl
    · exact range_of h2
theorem info_put : (Tryz.prog.info? 216).map (fun i => (i.zero, i.size, i.bytes)) = some (some (.agg #[.int .i64 0, .slice none 0 0]), 2, 32) := by kernel_rfl
end Go.Proofs.YtnbonhinpepgoaaGreat
end
section
set_option linter.unusedVariables false
namespace Go.Proofs.YtnbonhinpepgoaaGreat
open Go.RowKit
theorem OwnP.more {B : Nat} {W W' : World} {v v' : Value} {q : List (Put × Nat)} (h : OwnP B W v q) {a k : Nat} {bs : List Nat} (hB : B ≤ k) (hk : W.heap[k]? = some (.cells (n8 bs).toArray 167 (0, 0))) (hvk : v.ownBlock ≠ some k)
    (ho : W'.ownsRow B 216 2 v' (q.length + 1) (pcq q ++ putC a (some ⟨k, 0, none⟩) 512)) (hf : Fr (fun j => v.ownBlock = some j) W W') (hl : v'.ownBlock = v.ownBlock ∨ v'.ownBlock = some W.heap.size) :
    OwnP B W' v' (q ++ [((a, bs), k)]) := by
  have hne : ∀ j o, W.heap[j]? = some o → v.ownBlock ≠ some j → W'.heap[j]? = some o ∧ v'.ownBlock ≠ some j := fun j o hj hv => by
    refine ⟨hf.heap hj hv, ?_⟩
    rcases hl with hl | hl
    · rw [hl]; exact hv
    · rw [hl]
      intro e
      injection e with e
      have := block_lt hj
      omega
  refine ⟨?_, fun x hx => ?_⟩
  · rw [List.length_append, List.length_singleton, show pcq (q ++ [((a, bs), k)]) = pcq q ++ putC a (some ⟨k, 0, none⟩) 512 by simp [pcq]]
    exact ho
  · rcases List.mem_append.1 hx with hx | hx
    · obtain ⟨h1, h2, h3⟩ := h.byt x hx
      have := hne _ _ h2 h3
      exact ⟨h1, this.1, this.2⟩
    · obtain rfl := List.mem_singleton.1 hx
      have := hne _ _ hk hvk
      exact ⟨hB, this.1, this.2⟩
theorem own_bsl {w : World} {B n : Nat} {v : Value} {l : List Nat} (h : w.ownsRow B 5 1 v n (n8 l)) : ∃ X cap c, v = .slice X n cap ∧ BSl w X c l := by
  have hn : l.length = n := by have := h.1; rw [n8_len] at this; omega
  rcases h.2 with ⟨rfl, rfl⟩ | ⟨g, cap, cur, rfl, hb, hh, hc, hm, hs, ht⟩
  · exact ⟨none, 0, 0, rfl, fun h0 => by omega⟩
  · refine ⟨_, cap, g, rfl, fun _ => ⟨0, rfl, fun j v hv => ?_⟩⟩
    have := h.cells (g := g) rfl j v hv
    rw [addr_add] at this
    exact this
theorem OwnP.fr2 {B : Nat} {w w' : World} {v : Value} {q : List (Put × Nat)} {M : Nat → Prop} (h : OwnP B w v q) (hf : Fr M w w') (hM : ∀ k, v.ownBlock = some k → ¬ M k) (hx : ∀ x ∈ q, ¬ M x.2) : OwnP B w' v q :=
  ⟨own_fr h.own hf (fun k _ _ e => hM k e), fun x hq => by
    obtain ⟨h1, h2, h3⟩ := h.byt x hq
    exact ⟨h1, hf.heap h2 (hx x hq), h3⟩⟩
theorem OwnP.grow {B : Nat} {W W' : World} {v v' : Value} {q : List (Put × Nat)} (h : OwnP B W v q) {a k : Nat} {bs : List Nat} {o : Obj} (hB : B ≤ k) (hk : W.heap[k]? = some (.cells (n8 bs).toArray 167 (0, 0))) (hvk : v.ownBlock ≠ some k)
    (ho : W'.ownsRow B 216 2 v' (q.length + 1) (pcq q ++ putC a (some ⟨k, 0, none⟩) 512)) (hf : Fr (fun j => v.ownBlock = some j) (W.alloc o) W') (hl : v'.ownBlock = v.ownBlock ∨ v'.ownBlock = some (W.alloc o).heap.size) :
    OwnP B W' v' (q ++ [((a, bs), k)]) :=
  OwnP.more (h.fr ((Fr.refl (fun _ => False) W).alloc o) (fun _ _ _ => id)) hB (((Fr.refl (fun _ => False) W).alloc o).heap hk id) hvk ho hf hl
theorem name_eq (T : List Nat) (h : ∀ x ∈ T, x < 256) : ((bstr T).toList == ([115, 116, 101, 108, 101] : List UInt8)) = decide (T = nameB) := by
  have e : (bstr T).toList = T.map fun x => x.toUInt8 := by rw [ByteArray.toList_eq]; simp [bstr]
  rw [e]
  by_cases hT : T = nameB
  · subst hT
    rfl
  · rw [decide_eq_false hT]
    refine beq_eq_false_iff_ne.2 fun h2 => hT ?_
    have h3 := congrArg (List.map UInt8.toNat) h2
    rw [List.map_map] at h3
    have h4 : T.map (UInt8.toNat ∘ fun x => x.toUInt8) = T := by
      conv => rhs; rw [← List.map_id T]
      refine List.map_congr_left fun x hx => ?_
      have := h x hx
      simp only [Function.comp, id]
      rw [UInt8.toNat_ofNat']
      omega
    rw [h4] at h3
    exact h3
section
variable {g gs : Nat} {cv : Value} {D : Dk} {w : World}
set_option maxHeartbeats 1000000 in
set_option maxRecDepth 10000 in
theorem held_ok (h : DRep g gs cv D w) (hd : D.down = false) (b : List Nat) (hb : IsSec b) (kb : Nat) (hbk : w.heap[kb]? = some (.cells (n8 b).toArray 167 (0, 0))) :
    Calls Tryz.prog 81 #[.pointer (some ⟨g, 0, none⟩), .slice (some ⟨kb, 0, none⟩) 512 512] w fun r w' => ∃ v q, r = .returned (.tuple #[.int .u64 (heldF D b).1, v, .bool (heldF D b).2.2]) ∧ q.map (·.1) = (heldF D b).2.1 ∧ OwnP w.heap.size w' v q ∧ Fr (fun _ => False) w w' := by
  have hB : ∀ W, Fr (fun _ => False) w W → BSl W (some ⟨kb, 0, none⟩) kb b := fun W hF _ => ⟨0, rfl, range_of (hF.heap hbk id)⟩
  have hRd := read_new b hb.lt (some ⟨kb, 0, none⟩) 512 (by rw [hb.len]; omega) w (hB w (Fr.refl _ _)).has
  rw [hb.len] at hRd
  obtain ⟨R, hR⟩ : ∃ R, heldF D b = R := ⟨_, rfl⟩
  rw [hR]
  obtain ⟨rs, rl, ri⟩ := R
  simp only
  simp only [heldF] at hR
  have hT0 : ∀ rg rc W, RdR rg rc b false W → _ := fun rg rc W hW => rtext (w := W) (g := rg) (c := rc) hW (by rw [hb.len]; omega)
  have hTlt := rdSome_lt (br := false) (sg := 115) hb.lt
  generalize (rdSome b false 115).1 = T at *
  generalize (rdSome b false 115).2.1 = b1 at *
  generalize (rdSome b false 115).2.2 = br1 at *
  have hU0 : ∀ rg rc W, RdR rg rc b1 br1 W → _ := fun rg rc W hW => And.intro (ruint (w := W) (g := rg) (c := rc) hW) (rdUint_lt (br := br1) hW.lt)
  generalize (rdUint b1 br1).1 = S at *
  generalize (rdUint b1 br1).2.1 = b2 at *
  generalize (rdUint b1 br1).2.2 = br2 at *
  have hM0 : ∀ rg rc W, RdR rg rc b2 br2 W → _ := fun rg rc W hW => rlist (w := W) (g := rg) (c := rc) hW 48 (by omega)
  have hMle := rdList_le (b := b2) (br := br2) (most := 48)
  generalize (rdList b2 br2 48).1 = M at *
  generalize (rdList b2 br2 48).2.1 = b3 at *
  generalize (rdList b2 br2 48).2.2 = br3 at *
  have HT0 := Lib.hid hT0
  have HU0 := Lib.hid hU0
  have HM0 := Lib.hid hM0
  have HNM := Lib.hid (name_eq T hTlt)
  have HR := Lib.hid hR
  have HB := Lib.hid hB
  have HD := Lib.hid h
  have HDN := Lib.hid hd
  have HBS := Lib.hid hb
  have HDO := Lib.hid h.ok
  clear hR hB h hd hb hbk hT0 hU0 hM0 hTlt
  go_enter Tryz.func81, Tryz.ntmps81
  go_wp2_with (first
    | (go_at_call 129; refine hRd.mono ?_; rintro e w1 ⟨rg, rc, rfl, hR1, hg1, hc1, hgl1, hcl1, hF1⟩; have hT := HT0.out rg rc _ hR1; have HF1 := Lib.hid hF1; have hz1 := hF1.size; clear hF1 hR1 hRd HT0)
    | (go_at_call 146; refine hT.mono ?_; rintro e w2 ⟨rfl, hR2, hF2⟩; obtain ⟨hU, hSl⟩ := HU0.out rg rc _ hR2; have HF2 := Lib.hid (HF1.out.then_ hF2 (fun k hk e => by omega)); have hz2 := hF2.size; clear hF2 hR2 hT HU0)
    | (go_at_call 130; rw [HNM.out]; generalize decide (T = nameB) = nb at HR ⊢; refine hU.mono ?_; rintro e w3 ⟨rfl, hR3, hF3⟩; have hM := HM0.out rg rc _ hR3; have HF3 := Lib.hid (HF2.out.then_ hF3 (fun k hk e => by omega)); have hz3 := hF3.size; clear hF3 hR3 hU HM0)
    | (go_at_call 132; refine hM.mono ?_; rintro e w4 ⟨rfl, hR4, hF4⟩; have HF4 := Lib.hid (HF3.out.then_ hF4 (fun k hk e => by omega)); have hz4 := hF4.size; have HR4 := Lib.hid hR4; clear hF4 hR4 hM))
  go_loopw [24, 10] (fun t v wr => ∃ (i k : Nat) (bi : List Nat) (bri : Bool) (q : List (Put × Nat)), t = .int .i64 i ∧ i + k = M ∧ q.length = i ∧ Hid (RdR rg rc bi bri wr) ∧ Hid (OwnP w.heap.size wr v q) ∧ Hid (∀ p ∈ q.map (·.1), p.1 < 1000000 ∧ IsSec p.2) ∧ Hid (v.ownBlock ≠ some rg ∧ v.ownBlock ≠ some rc ∧ ∀ x ∈ q, x.2 ≠ rg) ∧ Hid (heldL D k i bi bri (q.map (·.1)) = heldL D M 0 b3 br3 []) ∧ Hid (Fr (fun _ => False) w wr) ∧ rg < wr.heap.size ∧ rc < wr.heap.size) (fun t _ _ => M - (intOf t).toNat)
  case atStart => exact ⟨0, M, b3, br3, [], rfl, by omega, rfl, HR4, Lib.hid (OwnP.nil _ _), Lib.hid (fun p hp => by cases hp), Lib.hid ⟨by simp [Value.ownBlock], by simp [Value.ownBlock], fun x hx => by cases hx⟩, Lib.hid rfl, HF4, by omega, by omega⟩
  case round =>
    clear HR4 HF4 HF3 HF2 HF1 HNM
    obtain ⟨i, k, bi, bri, q, rfl, hik, hq, HRr, HO, HQ, HS, HH, HF, hrg, hrc⟩ := hrel
    have hz := HF.out.size
    subst hq
    cases k with
    | zero =>
      obtain rfl : q.length = M := by omega
      have hR := HR.out
      rw [← HH.out] at hR
      simp only [heldL, Prod.mk.injEq] at hR
      obtain ⟨hR1, hR2, hR3⟩ := hR
      obtain ⟨X, cap, hX, hqc, hP⟩ := HO.out.puts
      subst hX
      have hsl := seal_ok S hSl (q.map (·.1)) (by rw [List.length_map]; omega) (fun p hp => (HQ.out p hp).1) (fun p hp => (HQ.out p hp).2) (fun k => w.heap.size ≤ k ∧ k < wr.heap.size) X cap wr (fun k hk => hk.2) hP
      rw [List.length_map] at hsl
      have HBW := Lib.hid (fun W (hF : Fr (fun _ => False) wr W) => HB.out W (HF.out.trans hF))
      have hsc := sealB_sec S (q.map (·.1)) (by rw [List.length_map]; omega)
      have hse := hsc.len
      have hsx := hsc.lt
      clear hsc
      have HSE := Lib.hid hse
      have HSX := Lib.hid hsx
      have HR1 := Lib.hid hR1
      have HR2 := Lib.hid hR2
      generalize sealB S (q.map (·.1)) = sb at *
      have HR3 := Lib.hid hR3
      clear hR1 hR2 hR3 HH HR hse hsx
      cases nb with
      | false =>
        go_wp2
        go_ret3
        exact ⟨_, q, by rw [← HR1.out, ← HR3.out]; rfl, HR2.out, HO.out, HF.out⟩
      | true =>
        have HSM := Lib.hid (fun W X' c' cap' h1 (h2 : BSl W (some ⟨kb, 0, none⟩) kb b) => same_ok sb b HSX.out HBS.out.lt X' (some ⟨kb, 0, none⟩) c' kb cap' 512 (by rw [HSE.out]; omega) (by rw [HBS.out.len]; omega) W h1 h2)
        rw [HSE.out, HBS.out.len] at HSM
        go_wp2_with (first
          | (go_at_call 147; refine hsl.mono ?_; rintro e w5 ⟨v5, rfl, hO5, hF5⟩; have HF5 := Lib.hid hF5; obtain ⟨X5, cap5, c5, rfl, hH5⟩ := own_bsl hO5; have hsm := HSM.out w5 X5 c5 cap5 hH5 (HBW.out w5 HF5.out); clear hO5 hF5 hsl hH5)
          | (go_at_call 128; refine hsm.mono ?_; rintro e w6 ⟨rfl, rfl⟩; clear hsm))
        go_ret3
        exact ⟨_, q, by rw [← HR1.out, ← HR3.out]; simp, HR2.out, HO.out.fr HF5.out (fun _ _ _ => id), HF.out.trans HF5.out⟩
    | succ k =>
      have hu := ruint HRr.out
      have hult := rdUint_lt (br := bri) HRr.out.lt
      have hH := HH.out
      simp only [heldL] at hH
      clear HH
      generalize (rdUint bi bri).1 = a at *
      generalize (rdUint bi bri).2.1 = bj at *
      generalize (rdUint bi bri).2.2 = brj at *
      by_cases h49 : a < 49
      · rw [if_pos (.inl h49)] at hH
        have hR := HR.out
        rw [← hH] at hR
        simp only [Prod.mk.injEq] at hR
        obtain ⟨hR1, hR2, hR3⟩ := hR
        have HR1 := Lib.hid hR1
        have HR2 := Lib.hid hR2
        have HR3 := Lib.hid hR3
        clear hH HR hR1 hR2 hR3
        go_wp2_with (go_at_call 130; refine hu.mono ?_; rintro e w5 ⟨rfl, hR5, hF5⟩; have HF5 := Lib.hid (HF.out.then_ hF5 (fun k hk e => by omega)); clear hF5 hR5 hu)
        go_ret3
        exact ⟨_, by rw [← HR1.out, ← HR3.out]; rfl, [], HR2.out, OwnP.nil _ _, HF5.out⟩
      · by_cases hn : D.st.length ≤ a
        · rw [if_pos (.inr hn)] at hH
          have hR := HR.out
          rw [← hH] at hR
          simp only [Prod.mk.injEq] at hR
          obtain ⟨hR1, hR2, hR3⟩ := hR
          have HR1 := Lib.hid hR1
          have HR2 := Lib.hid hR2
          have HR3 := Lib.hid hR3
          clear hH HR hR1 hR2 hR3
          have hhi := HDO.out.hi
          have HSZ := Lib.hid (fun W (hF : Fr (fun _ => False) w W) => size_any (HD.out.fr hF (fun _ _ h => h)))
          go_wp2_with (first
            | (go_at_call 130; refine hu.mono ?_; rintro e w5 ⟨rfl, hR5, hF5⟩; have HF5 := Lib.hid (HF.out.then_ hF5 (fun k hk e => by omega)); have hsz := HSZ.out w5 HF5.out; clear hF5 hR5 hu)
            | (go_at_call 90; refine hsz.mono ?_; rintro e w6 ⟨rfl, rfl⟩; clear hsz))
          go_ret3
          exact ⟨_, [], by rw [← HR1.out, ← HR3.out]; rfl, HR2.out, OwnP.nil _ _, HF5.out⟩
        · rw [if_neg (by omega)] at hH
          have hhi := HDO.out.hi
          have hlo := HDO.out.lo
          have HSZ := Lib.hid (fun W (hF : Fr (fun _ => False) w W) => size_any (HD.out.fr hF (fun _ _ h => h)))
          have HRD := Lib.hid (fun W (hF : Fr (fun _ => False) w W) => read_ok (HD.out.fr hF (fun _ _ h => h)) (1 + q.length) (by omega) HDN.out)
          rw [show ((1 + q.length : Nat) : Int) = 1 + (q.length : Int) by omega] at HRD
          have hgs := Lib.hid (get_sec HDO.out (i := 1 + q.length) (by omega))
          have HH' := Lib.hid hH
          clear hH
          generalize D.get (1 + q.length) = s at *
          have d1 : decide ((a : Int) < 49) = false := decide_eq_false (by omega)
          go_wp2_with (first
            | (go_at_call 130; refine hu.mono ?_; rintro e w5 ⟨rfl, hR5, hF5⟩; have HR5 := Lib.hid hR5; have hz5 := hF5.size; have HO5 := Lib.hid (HO.out.fr2 hF5 (fun k hk e => HS.out.1 (by rw [hk, e])) (fun x hx e => HS.out.2.2 x hx e)); have HF5 := Lib.hid (HF.out.then_ hF5 (fun k hk e => by omega)); have hsz := HSZ.out w5 HF5.out; have hrd := HRD.out w5 HF5.out; clear hF5 hR5 hu)
            | (go_at_call 90; refine hsz.mono ?_; rintro e w6 ⟨rfl, rfl⟩; clear hsz)
            | (go_at_call 80; refine hrd.mono ?_; rintro e w7 ⟨kr, rfl, hk7, hkr, hF7⟩; have hz7 := hF7.size; have HF7 := Lib.hid (HF5.out.trans hF7); have HR7 := Lib.hid (HR5.out.fr hF7 id (fun _ => id)); have HO7 := Lib.hid (HO5.out.fr hF7 (fun _ _ _ => id)); have HK7 := Lib.hid hk7; have hvk : Hid (u10.ownBlock ≠ some kr) := Lib.hid (fun e => by have := (HO.out.own.lt _ e).2; omega); clear hF7 hk7 hrd HO5 HR5)
            | (at_builtin; refine app_at (HO7.out.fr ((Fr.refl (fun _ => False) w7).alloc _) (fun _ _ _ => id)).own 1 (putC a (some ⟨kr, 0, none⟩) 512) Tryz.underlying148 info_put rfl (by decide) rfl (putC_one _ _ _) (by omega) (by omega) (by simp; omega) rfl rfl rfl rfl (fun _ => ⟨_, rfl, news_alloc w7 (putC a (some ⟨kr, 0, none⟩) 512) 216⟩) ?_; intro v2 w2 hO2 hF2 hL2; have HP2 := Lib.hid (HO7.out.grow (by omega) HK7.out hvk.out hO2 hF2 hL2); have hFA := ((Fr.refl (fun j => u10.ownBlock = some j) w7).alloc _).trans hF2; have hzA := hFA.size; have HR2 := Lib.hid (HR7.out.fr hFA (fun e => HS.out.1 e) (fun _ e => HS.out.2.1 e)); have HF2 := Lib.hid (HF7.out.then_ hFA (fun k hk e => by have := (HO.out.own.lt k e).1; omega)); have HL2 := Lib.hid hL2; clear hO2 hF2 hL2 hFA))
          go_roundw
          case rel => exact ⟨q.length + 1, k, bj, brj, q ++ [((a, s), kr)], by go_num, by omega, by simp, HR2, HP2, Lib.hid (fun p hp => by
              rw [List.map_append, List.mem_append] at hp
              rcases hp with hp | hp
              · exact HQ.out p hp
              · obtain rfl := List.mem_singleton.1 hp
                exact ⟨by show a < 1000000; omega, hgs.out⟩), Lib.hid (by
              refine ⟨?_, ?_, fun x hx => ?_⟩
              · rcases HL2.out with h | h
                · rw [h]; exact HS.out.1
                · rw [h]; simp; omega
              · rcases HL2.out with h | h
                · rw [h]; exact HS.out.2.1
                · rw [h]; simp; omega
              · rcases List.mem_append.1 hx with hx | hx
                · exact HS.out.2.2 x hx
                · obtain rfl := List.mem_singleton.1 hx
                  show kr ≠ rg
                  omega), Lib.hid (by rw [List.map_append]; exact HH'.out), HF2, by omega, by omega⟩
          case measure => simp [intOf]; omega
end
end Go.Proofs.YtnbonhinpepgoaaGreat
end
section
set_option linter.unusedVariables false
namespace Go.Proofs.YtnbonhinpepgoaaGreat
open Go.RowKit
theorem heldL_mem {D : Dk} (hD : D.Ok) : ∀ (k i : Nat) (b : List Nat) (br : Bool) (acc l : List Put), heldL D k i b br acc = some l → 1 + i + k ≤ D.st.length → (∀ p ∈ acc, p.1 < D.st.length ∧ IsSec p.2) → (∀ p ∈ l, p.1 < D.st.length ∧ IsSec p.2) ∧ l.length = acc.length + k := by
  intro k
  induction k with
  | zero =>
    intro i b br acc l h _ ha
    simp only [heldL, Option.some.injEq] at h
    subst h
    exact ⟨ha, rfl⟩
  | succ k ih =>
    intro i b br acc l h hi ha
    simp only [heldL] at h
    by_cases hc : (rdUint b br).1 < 49 ∨ D.st.length ≤ (rdUint b br).1
    · rw [if_pos hc] at h
      cases h
    · rw [if_neg hc] at h
      obtain ⟨h1, h2⟩ := ih _ _ _ _ _ h (by omega) (fun p hp => by
        rcases List.mem_append.1 hp with hp | hp
        · exact ha p hp
        · obtain rfl := List.mem_singleton.1 hp
          exact ⟨by show (rdUint b br).1 < _; omega, get_sec hD (by omega)⟩)
      refine ⟨h1, ?_⟩
      rw [h2, List.length_append, List.length_singleton]
      omega
theorem heldF_mem {D : Dk} (hD : D.Ok) (b : List Nat) : (∀ p ∈ (heldF D b).2.1, p.1 < D.st.length ∧ IsSec p.2) ∧ (heldF D b).2.1.length ≤ 48 := by
  simp only [heldF]
  have hm := rdList_le (b := (rdUint (rdSome b false 115).2.1 (rdSome b false 115).2.2).2.1) (br := (rdUint (rdSome b false 115).2.1 (rdSome b false 115).2.2).2.2) (most := 48)
  have hlo := hD.lo
  split
  · exact ⟨(fun p hp => nomatch hp), Nat.zero_le _⟩
  · rename_i l hl
    obtain ⟨h1, h2⟩ := heldL_mem hD _ _ _ _ _ _ hl (by omega) (fun p hp => by cases hp)
    refine ⟨h1, ?_⟩
    rw [h2]
    simp
    omega
def mountF (D : Dk) : Int × Option Nat × Dk :=
  let h := heldF D (D.get 0)
  if h.2.2 then (let s := D.steps h.2.1; if s.1 = 0 then (0, some h.1, s.2) else (s.1, none, s.2)) else (0, some 0, D)
def JBlk (gj g s : Nat) (lv : Bool) (w : World) : Prop := w.heap[gj]? = some (.cells #[.pointer (some ⟨g, 0, none⟩), .int .u64 s, bw lv] 147 (0, 0))
section
variable {g gs : Nat} {cv : Value} {D : Dk} {w : World}
set_option maxHeartbeats 1000000 in
set_option maxRecDepth 10000 in
theorem mount_ok (h : DRep g gs cv D w) (hd : D.down = false) (hmany : D.ca.length < 900000) :
    Calls Tryz.prog 16 #[.pointer (some ⟨g, 0, none⟩)] w fun r w' => ∃ cv' v, r = .returned (.tuple #[v, .int .i64 (mountF D).1]) ∧ DRep g gs cv' (mountF D).2.2 w' ∧ Fr (Foot g gs cv) w w' ∧ Loc w cv cv' ∧
      ((mountF D).2.1 = none → v = .pointer none) ∧ (∀ s, (mountF D).2.1 = some s → ∃ gj, v = .pointer (some ⟨gj, 0, none⟩) ∧ w.heap.size ≤ gj ∧ gj < w'.heap.size ∧ JBlk gj g s false w') := by
  have hlo := h.ok.lo
  have hr := read_ok h 0 (by omega) hd
  have hs0 := get_sec h.ok (i := 0) (by omega)
  obtain ⟨R, hR⟩ : ∃ R, mountF D = R := ⟨_, rfl⟩
  rw [hR]
  simp only [mountF] at hR
  obtain ⟨hmem, hml⟩ := heldF_mem h.ok (D.get 0)
  have HE := Lib.hid (fun W (hF : Fr (fun _ => False) w W) kb hk => held_ok (h.fr hF (fun _ _ h => h)) hd (D.get 0) hs0 kb hk)
  generalize D.get 0 = b at *
  generalize heldF D b = H at *
  obtain ⟨sq, l, ok⟩ := H
  obtain ⟨rc, rj, D'⟩ := R
  simp only at hR hmem hml HE
  have HM := Lib.hid hmem
  have HR := Lib.hid hR
  have HD := Lib.hid h
  have HDN := Lib.hid hd
  clear hR hmem h hd hs0
  have hzB : ∀ W : World, W.heap.size ≤ (W.alloc (.cells #[.pointer (some ⟨g, 0, none⟩), .int .u64 0, .int .u32 0] 147)).heap.size := fun W => by simp
  generalize hST : D.steps l = st at HR
  obtain ⟨sc, sD⟩ := st
  have HST := Lib.hid hST
  clear hST
  go_enter Tryz.func16, Tryz.ntmps16
  cases ok with
  | false =>
    have hR := HR.out
    simp only [Bool.false_eq_true, if_false, Prod.mk.injEq] at hR
    obtain ⟨hR1, hR2, hR3⟩ := hR
    have HR1 := Lib.hid hR1
    have HR2 := Lib.hid hR2
    have HR3 := Lib.hid hR3
    clear hR1 hR2 hR3 HR
    go_wp2_with (first
      | (go_at_call 80; refine hr.mono ?_; rintro e w1 ⟨k1, rfl, hk1, hkz, hF1⟩; have hz1 := hF1.size; have hk1z := block_lt hk1; have HF1 := Lib.hid hF1; have HK1 := Lib.hid hk1; clear hF1 hk1 hr)
      | (go_at_call 81; refine (HE.out _ (HF1.out.trans ((Fr.refl _ w1).alloc _)) k1 (((Fr.refl (fun _ => False) w1).alloc _).heap HK1.out id)).mono ?_; rintro e w2 ⟨v2, q, rfl, hq, hO2, hF2⟩; have hz2 := hF2.size; have HJ2 := Lib.hid (show JBlk w1.heap.size g 0 false w2 from hF2.heap (heap_alloc_new w1 _) id); have HF2 := Lib.hid ((HF1.out.trans ((Fr.refl (fun _ => False) w1).alloc _)).trans hF2); clear hF2 hO2 hq))
    go_ret2
    refine ⟨cv, _, by rw [← HR1.out]; rfl, by rw [← HR3.out]; exact HD.out.fr HF2.out (fun _ _ h => h), (Fr.refl _ _).then_ HF2.out (fun k _ e => e.elim), Loc.refl _ _, fun h => ?_, fun s h => ⟨w1.heap.size, rfl, hz1, block_lt HJ2.out, ?_⟩⟩
    · rw [← HR2.out] at h
      cases h
    · rw [← HR2.out] at h
      injection h with h
      subst h
      exact HJ2.out
  | true =>
    have hR := HR.out
    simp only [if_true] at hR
    by_cases hsc : sc = 0
    · subst hsc
      simp only [if_true, Prod.mk.injEq] at hR
      obtain ⟨hR1, hR2, hR3⟩ := hR
      have HR1 := Lib.hid hR1
      have HR2 := Lib.hid hR2
      have HR3 := Lib.hid hR3
      clear hR1 hR2 hR3 HR
      go_wp2_with (first
        | (go_at_call 80; refine hr.mono ?_; rintro e w1 ⟨k1, rfl, hk1, hkz, hF1⟩; have hz1 := hF1.size; have hk1z := block_lt hk1; have HF1 := Lib.hid hF1; have HK1 := Lib.hid hk1; clear hF1 hk1 hr)
        | (go_at_call 81; refine (HE.out _ (HF1.out.trans ((Fr.refl _ w1).alloc _)) k1 (((Fr.refl (fun _ => False) w1).alloc _).heap HK1.out id)).mono ?_; rintro e w2 ⟨v2, q, rfl, hq, hO2, hF2⟩; have hz2 := hF2.size; have HJ2 := Lib.hid (show JBlk w1.heap.size g 0 false w2 from hF2.heap (heap_alloc_new w1 _) id); have hzA := hzB w1; have HF2 := Lib.hid ((HF1.out.trans ((Fr.refl (fun _ => False) w1).alloc _)).trans hF2); obtain ⟨X2, cap2, rfl, hqc, hP⟩ := hO2.puts; have hql : q.length = l.length := (by rw [← hq, List.length_map]); rw [hq] at hP; have hst := steps_ok (HD.out.fr HF2.out (fun _ _ h => h)) HDN.out l (fun p hp => (HM.out p hp).1) (fun p hp => (HM.out p hp).2) (by omega) hmany _ (fun k hk => ⟨hk.2, fun h => by have := HD.out.lt h; have := hk.1; omega⟩) X2 cap2 hP; rw [HST.out, ← hql] at hst; have hJz := block_lt HJ2.out; clear hF2 hO2 hq hP hql)
        | (go_at_call 82; refine hst.mono ?_; rintro e w3 ⟨rfl, cv', hD3, hF3, hL3⟩; have hz3 := hF3.size; have hj3 := hF3.heap HJ2.out (fun h => by have := HD.out.lt h; omega); have z3 : w3.frozen? ⟨w1.heap.size, 1, none⟩ = false := (by simp [World.frozen?, hj3]); have c3 : w3.cell? ⟨w1.heap.size, 1, none⟩ = some (.int .u64 0) := cell_of_row w3 _ 1 _ _ _ hj3; have HD3 := Lib.hid hD3; have HLL := Lib.hid hL3; have HL3 := Lib.hid (Loc.trans (Loc.refl w cv) HF2.out.size hL3); have HF3 := Lib.hid (((Fr.refl (Foot g gs cv) _).then_ HF2.out (fun k _ e => e.elim)).trans hF3); have HJ3 := Lib.hid hj3; clear hst hD3 hF3 hL3 hj3))
      go_ret2
      have hcl := fun k (hk : cv.ownBlock = some k) => HD.out.lt (.inr (.inr hk))
      have hgl := HD.out.lt (.inl rfl)
      have hgsl := HD.out.lt (.inr (.inl rfl))
      refine ⟨cv', _, by rw [← HR1.out]; rfl, by
        rw [← HR3.out]
        refine HD3.out.fr (fr_set w3 w1.heap.size 1 _) (fun k hk e => ?_)
        rcases hk with hk | hk | hk
        · omega
        · omega
        · rcases HLL.out k hk with h | h
          · have := hcl k h
            omega
          · omega, HF3.out.then_ (fr_set w3 w1.heap.size 1 _) (fun k hk e => by omega), HL3.out, fun h => ?_, fun s h => ⟨w1.heap.size, rfl, hz1, block_lt (heap_setCell HJ3.out _), ?_⟩⟩
      · rw [← HR2.out] at h
        cases h
      · rw [← HR2.out] at h
        injection h with h
        subst h
        exact heap_setCell HJ3.out _
    · rw [if_neg hsc] at hR
      simp only [Prod.mk.injEq] at hR
      obtain ⟨hR1, hR2, hR3⟩ := hR
      have HR1 := Lib.hid hR1
      have HR2 := Lib.hid hR2
      have HR3 := Lib.hid hR3
      clear hR1 hR2 hR3 HR
      go_wp2_with (first
        | (go_at_call 80; refine hr.mono ?_; rintro e w1 ⟨k1, rfl, hk1, hkz, hF1⟩; have hz1 := hF1.size; have hk1z := block_lt hk1; have HF1 := Lib.hid hF1; have HK1 := Lib.hid hk1; clear hF1 hk1 hr)
        | (go_at_call 81; refine (HE.out _ (HF1.out.trans ((Fr.refl _ w1).alloc _)) k1 (((Fr.refl (fun _ => False) w1).alloc _).heap HK1.out id)).mono ?_; rintro e w2 ⟨v2, q, rfl, hq, hO2, hF2⟩; have hz2 := hF2.size; have hzA := hzB w1; have HF2 := Lib.hid ((HF1.out.trans ((Fr.refl (fun _ => False) w1).alloc _)).trans hF2); obtain ⟨X2, cap2, rfl, hqc, hP⟩ := hO2.puts; have hql : q.length = l.length := (by rw [← hq, List.length_map]); rw [hq] at hP; have hst := steps_ok (HD.out.fr HF2.out (fun _ _ h => h)) HDN.out l (fun p hp => (HM.out p hp).1) (fun p hp => (HM.out p hp).2) (by omega) hmany _ (fun k hk => ⟨hk.2, fun h => by have := HD.out.lt h; have := hk.1; omega⟩) X2 cap2 hP; rw [HST.out, ← hql] at hst; clear hF2 hO2 hq hP hql)
        | (go_at_call 82; refine hst.mono ?_; rintro e w3 ⟨rfl, cv', hD3, hF3, hL3⟩; have HD3 := Lib.hid hD3; have HL3 := Lib.hid (Loc.trans (Loc.refl w cv) HF2.out.size hL3); have HF3 := Lib.hid (((Fr.refl (Foot g gs cv) _).then_ HF2.out (fun k _ e => e.elim)).trans hF3); clear hst hD3 hF3 hL3))
      go_ret2
      refine ⟨cv', _, by rw [← HR1.out]; rfl, by rw [← HR3.out]; exact HD3.out, HF3.out, HL3.out, fun h => rfl, fun s h => ?_⟩
      rw [← HR2.out] at h
      cases h
end
end Go.Proofs.YtnbonhinpepgoaaGreat
end
section
set_option linter.unusedVariables false
namespace Go.Proofs.YtnbonhinpepgoaaGreat
open Go.RowKit Go.Maps
section
variable {g gs gj sq : Nat} {lv : Bool} {cv : Value} {D : Dk} {w : World}
theorem JBlk.cells (h : JBlk gj g sq lv w) : w.cell? ⟨gj, 0, none⟩ = some (.pointer (some ⟨g, 0, none⟩)) ∧ w.cell? ⟨gj, 1, none⟩ = some (.int .u64 sq) ∧ w.cell? ⟨gj, 2, none⟩ = some (bw lv) := ⟨cell_of_row w gj 0 _ _ _ h, cell_of_row w gj 1 _ _ _ h, cell_of_row w gj 2 _ _ _ h⟩
theorem JBlk.fr {M : Nat → Prop} {w' : World} (h : JBlk gj g sq lv w) (hf : Fr M w w') (hM : ¬ M gj) : JBlk gj g sq lv w' := hf.heap h hM
theorem jseq_ok (hj : JBlk gj g sq lv w) :
    Calls Tryz.prog 24 #[.pointer (some ⟨gj, 0, none⟩)] w fun e w' => e = .returned (.int .u64 sq) ∧ w = w' := by
  obtain ⟨c0, c1, c2⟩ := hj.cells
  clear hj
  go_enter Tryz.func24, Tryz.ntmps24
  go_wp2
  go_ret
  exact ⟨rfl, rfl⟩
theorem jis_ok (hj : JBlk gj g sq lv w) (h : DRep g gs cv D w) (i : Int) :
    Calls Tryz.prog 84 #[.pointer (some ⟨gj, 0, none⟩), .int .i64 i] w fun e w' => e = .returned (.bool (decide (49 ≤ i ∧ i < (D.st.length : Int)))) ∧ w = w' := by
  obtain ⟨c0, c1, c2⟩ := hj.cells
  have hs := size_any h
  clear hj h
  generalize (D.st.length : Int) = n at *
  by_cases h49 : 49 ≤ i
  · have e : decide (49 ≤ i ∧ i < n) = decide (i < n) := by simp [h49]
    rw [e]
    have d0 : decide (i ≥ 49) = true := decide_eq_true h49
    go_enter Tryz.func84, Tryz.ntmps84
    go_wp2_with (go_at_call 90; refine hs.mono ?_; rintro e w' ⟨rfl, rfl⟩)
    go_ret
    exact ⟨rfl, rfl⟩
  · have e : decide (49 ≤ i ∧ i < n) = false := by simp [h49]
    rw [e]
    have d0 : decide (i ≥ 49) = false := decide_eq_false h49
    go_enter Tryz.func84, Tryz.ntmps84
    go_wp2
    go_ret
    exact ⟨rfl, rfl⟩
theorem jread_ok (hj : JBlk gj g sq lv w) (h : DRep g gs cv D w) (i : Nat) (h0 : 49 ≤ i) (hi : i < D.st.length) (hd : D.down = false) :
    Calls Tryz.prog 79 #[.pointer (some ⟨gj, 0, none⟩), .int .i64 i] w fun r w' => ∃ k, r = .returned (.tuple #[.slice (some ⟨k, 0, none⟩) 512 512, .int .i64 0]) ∧ w'.heap[k]? = some (.cells (n8 (D.get i)).toArray 167 (0, 0)) ∧ w.heap.size ≤ k ∧ Fr (fun _ => False) w w' := by
  have hs := jis_ok hj h i
  have hr := read_ok h i hi hd
  obtain ⟨c0, c1, c2⟩ := hj.cells
  rw [decide_eq_true ⟨by omega, by omega⟩] at hs
  clear hj h
  generalize D.get i = s at *
  go_enter Tryz.func79, Tryz.ntmps79
  go_wp2_with (first
    | (go_at_call 84; refine hs.mono ?_; rintro e w' ⟨rfl, rfl⟩; clear hs)
    | (go_at_call 80; refine hr.mono ?_; rintro e w2 ⟨k, rfl, hk, hz, hF⟩; have HK := Lib.hid hk; have HF := Lib.hid hF; clear hk hF hr))
  go_ret2
  exact ⟨k, rfl, HK.out, hz, HF.out⟩
def TBlkS (gt gj gm : Nat) (dn ms : Int) (over : Bool) (w : World) : Prop := w.heap[gt]? = some (.cells #[.pointer (some ⟨gj, 0, none⟩), .map (some gm), .int .u32 dn, .int .i32 ms, .int .u32 0, .bool over] 161 (0, 0))
def TBlk (gt gj gm : Nat) (dn : Int) (over : Bool) (w : World) : Prop := TBlkS gt gj gm dn 0 over w
theorem TBlkS.cells {gt gm : Nat} {dn ms : Int} {ov : Bool} (h : TBlkS gt gj gm dn ms ov w) : w.cell? ⟨gt, 0, none⟩ = some (.pointer (some ⟨gj, 0, none⟩)) ∧ w.cell? ⟨gt, 1, none⟩ = some (.map (some gm)) ∧ w.cell? ⟨gt, 2, none⟩ = some (.int .u32 dn) ∧ w.cell? ⟨gt, 3, none⟩ = some (.int .i32 ms) ∧ w.cell? ⟨gt, 5, none⟩ = some (.bool ov) := ⟨cell_of_row w gt 0 _ _ _ h, cell_of_row w gt 1 _ _ _ h, cell_of_row w gt 2 _ _ _ h, cell_of_row w gt 3 _ _ _ h, cell_of_row w gt 5 _ _ _ h⟩
theorem TBlkS.fr {gt gm : Nat} {dn ms : Int} {ov : Bool} {M : Nat → Prop} {w' : World} (h : TBlkS gt gj gm dn ms ov w) (hf : Fr M w w') (hM : ¬ M gt) : TBlkS gt gj gm dn ms ov w' := hf.heap h hM
theorem TBlkS.nofz {gt gm : Nat} {dn ms : Int} {ov : Bool} (h : TBlkS gt gj gm dn ms ov w) (j : Nat) : w.frozen? ⟨gt, j, none⟩ = false := by
  unfold TBlkS at h
  simp [World.frozen?, h]
theorem TBlk.cells {gt gm : Nat} {dn : Int} {ov : Bool} (h : TBlk gt gj gm dn ov w) : w.cell? ⟨gt, 0, none⟩ = some (.pointer (some ⟨gj, 0, none⟩)) ∧ w.cell? ⟨gt, 1, none⟩ = some (.map (some gm)) ∧ w.cell? ⟨gt, 2, none⟩ = some (.int .u32 dn) ∧ w.cell? ⟨gt, 5, none⟩ = some (.bool ov) := ⟨cell_of_row w gt 0 _ _ _ h, cell_of_row w gt 1 _ _ _ h, cell_of_row w gt 2 _ _ _ h, cell_of_row w gt 5 _ _ _ h⟩
theorem TBlk.fr {gt gm : Nat} {dn : Int} {ov : Bool} {M : Nat → Prop} {w' : World} (h : TBlk gt gj gm dn ov w) (hf : Fr M w w') (hM : ¬ M gt) : TBlk gt gj gm dn ov w' := hf.heap h hM
theorem begin_ok {H : Type} (R : Value → Option (DataW H × List MemPlace)) (gj : Nat) (w : World) :
    Calls Tryz.prog 18 #[.pointer (some ⟨gj, 0, none⟩)] w fun e w' => ∃ gt gm, e = .returned (.pointer (some ⟨gt, 0, none⟩)) ∧ TBlk gt gj gm 0 false w' ∧ w'.ownsMap Tryz.prog 3 R gm 0 (.map []) ∧ w.heap.size ≤ gt ∧ w.heap.size ≤ gm ∧ gt ≠ gm ∧ gt < w'.heap.size ∧ gm < w'.heap.size ∧ Fr (fun _ => False) w w' := by
  have hmm := @run_makeMap Tryz.prog
  go_enter Tryz.func18, Tryz.ntmps18
  go_wp2
  go_ret
  have hz : (w.alloc (Obj.map #[] 0)).heap.size = w.heap.size + 1 := by simp
  exact ⟨w.heap.size + 1, w.heap.size, rfl, heap_alloc_new' hz, (World.ownsMap_made w _ _ R).alloc _, by omega, Nat.le_refl _, by omega, by simp, (by simp; omega), ((Fr.refl _ _).alloc _).alloc _⟩
end
end Go.Proofs.YtnbonhinpepgoaaGreat
end
section
set_option linter.unusedVariables false
namespace Go.Proofs.YtnbonhinpepgoaaGreat
open Go.RowKit Go.Maps
def rowR (v : Value) : Option (DataW Unit × List MemPlace) :=
  match v with
  | .slice (some ⟨k, 0, none⟩) 512 c => if 512 ≤ c then some (.lit (.int .i64 k), []) else none
  | .slice none 0 0 => some (.lit (.int .i64 (-1)), [])
  | _ => none
def txD (l : List (Nat × Nat)) : DataW Unit := .map (l.map fun x => (.int .i64 x.1, .lit (.int .i64 x.2)))
theorem txD_size (l : List (Nat × Nat)) : Maps.size (txD l) = l.length := by rw [txD, size_eq, List.length_map]
section
variable {g gs gj gt gm sq : Nat} {lv ov : Bool} {dn : Int} {w : World}
set_option maxRecDepth 10000 in
theorem tlen_ok (ht : TBlk gt gj gm dn ov w) {n : Nat} {l : List (Nat × Nat)} (hm : w.ownsMap Tryz.prog 3 rowR gm n (txD l)) :
    Calls Tryz.prog 78 #[.pointer (some ⟨gt, 0, none⟩)] w fun e w' => e = .returned (.int .i64 l.length) ∧ w = w' := by
  obtain ⟨c0, c1, c2, c3⟩ := ht.cells
  have HM := Lib.hid hm
  clear ht hm
  go_enter Tryz.func78, Tryz.ntmps78
  go_wp2_with (at_len; refine wpList_len_own _ rfl _ 152 rfl 3 42 Tryz.underlying152 _ gm n (txD l) rfl HM.out ?_; rw [txD_size])
  go_ret
  exact ⟨rfl, rfl⟩
end
end Go.Proofs.YtnbonhinpepgoaaGreat
end
section
set_option linter.unusedVariables false
namespace Go.Proofs.YtnbonhinpepgoaaGreat
open Go.RowKit Go.Maps
theorem lawI : Keyed Tryz.prog 3 := int_keyed Tryz.underlying3
theorem zeroB (w : World) : (zeroValue 42).run Tryz.prog w = .ok (.slice none 0 0) w := by kernel_rfl
theorem own_row0 {w : World} {B : Nat} {v : Value} {b : List Nat} (h : w.ownsRow B 5 1 v 512 (n8 b)) : ∃ k cap, v = .slice (some ⟨k, 0, none⟩) 512 cap ∧ B ≤ k ∧ k < w.heap.size ∧ w.rangeAt k 0 (n8 b) ∧ 512 ≤ cap := by
  rcases h.2 with ⟨_, h0⟩ | ⟨g, cap, cur, rfl, hb, hh, hc, hm, hs, ht⟩
  · omega
  · refine ⟨g, cap, rfl, hb, block_lt hh, fun j v hv => ?_, hc⟩
    have := h.cells (g := g) rfl j v hv
    rw [addr_add] at this
    exact this
section
variable {g gs gj gt gm sq : Nat} {cv : Value} {D : Dk} {w : World}
set_option maxHeartbeats 1000000 in
set_option maxRecDepth 10000 in
theorem twrite_ok (ht : TBlk gt gj gm 0 false w) (hj : JBlk gj g sq false w) (h : DRep g gs cv D w) {n : Nat} {l : List (Nat × Nat)} (hm : w.ownsMap Tryz.prog 3 rowR gm n (txD l)) (hn : n < 1000000) (a : Nat) (h0 : 49 ≤ a) (h1 : a < D.st.length) (b : List Nat) (hb : IsSec b) (X : Option Addr) (cap : Nat) (hX : Has w X b)
    (hne : gt ≠ gm) (hroom : Maps.has (txD l) (.int .i64 a) = true ∨ l.length < 48) :
    Calls Tryz.prog 19 #[.pointer (some ⟨gt, 0, none⟩), .int .i64 a, .slice X 512 cap] w fun e w' => e = .returned (.int .i64 0) ∧ ∃ k, w.heap.size ≤ k ∧ k < w'.heap.size ∧ w'.rangeAt k 0 (n8 b) ∧ k ≠ gm ∧ w'.ownsMap Tryz.prog 3 rowR gm (n + 1) ((txD l).put (.int .i64 a) (.lit (.int .i64 k))) ∧ Fr (fun k => k = gm) w w' := by
  obtain ⟨c0, c1, c2, c3⟩ := ht.cells
  obtain ⟨j0, j1, j2⟩ := hj.cells
  have hl := bool_load ⟨gj, 2, none⟩ false w j2
  have hs := jis_ok hj h a
  rw [decide_eq_true ⟨by omega, by omega⟩] at hs
  have HM := Lib.hid hm
  have hlen := hm.len Tryz.underlying152 3
  rw [txD_size] at hlen
  have hgm := hm.lt
  have hmW : ∀ W, Fr (fun _ => False) w W → W.ownsMap Tryz.prog 3 rowR gm n (txD l) := fun W hF => by
    obtain ⟨es, clock, hb, F, hs, hD⟩ := hm
    exact ⟨es, clock, hF.heap hb id, F, hs, hD⟩
  have hFd : Fr (fun _ => False) w w.drew := (Fr.refl _ _).drew
  have HC := Lib.hid (clone_b b X cap (by rw [hb.len]; omega) w.drew (hX.frF hFd))
  rw [hb.len] at HC
  have hkey : keyOf Tryz.prog 3 (.int .i64 a) = some (.int .i64 a) := keyOf_int_mk Tryz.underlying3 (by have := h.ok.hi; simp [Lit.wf, IntKind.min, IntKind.max, IntKind.signed, IntKind.bits]; omega)
  have HK := Lib.hid hkey
  clear ht hj h hm hkey
  generalize hH : Maps.has (txD l) (.int .i64 (a : Int)) = hit at *
  have HH := Lib.hid hH
  clear hH
  have hd : hit = true ∨ decide ((l.length : Int) ≥ 48) = false := hroom.imp id (fun h => decide_eq_false (by omega))
  clear hroom
  go_enter Tryz.func19, Tryz.ntmps19
  have HFd := Lib.hid hFd
  clear hFd
  have HU := Lib.hid (fun (W : World) (hF : Fr (fun _ => False) w W) (k cp : Nat) (hcp : 512 ≤ cp) => (hmW W hF).update lawI Tryz.underlying152 (key := .int .i64 a) (val := .slice (some ⟨k, 0, none⟩) 512 cp) (kl := .int .i64 a) (d := .lit (.int .i64 k)) (ps := []) (by unfold maxLen; omega) HK.out (by simp [rowR, hcp]))
  clear hmW
  have hgo : ∀ hit' : Bool, hit = hit' → (hit' = true ∨ decide ((l.length : Int) ≥ 48) = false) → True := fun _ _ _ => trivial
  clear hgo
  cases hit with
  | true =>
    clear hd
    go_wp2_with (first
      | (go_at_call 83; refine hl.mono ?_; rintro e w' ⟨rfl, rfl⟩; clear hl)
      | (go_at_call 84; refine hs.mono ?_; rintro e w' ⟨rfl, rfl⟩; clear hs)
      | (at_lookup; refine wpList_lookup_own_ok _ rfl _ _ 152 rfl 3 42 lawI Tryz.underlying152 rowR (zeroB _) (.lit (.int .i64 (-1))) [] rfl gm n (txD l) rfl HM.out _ _ rfl HK.out ?_; rw [HH.out]; intro v ps hv; have HV := Lib.hid hv; clear hv))
    go_region_with (go_at_call 85; refine HC.out.mono ?_; rintro e w1 ⟨v1, rfl, hO1, hF1⟩; obtain ⟨k1, cp1, rfl, hk1, hk1z, hr1, hcp1⟩ := own_row0 hO1; obtain ⟨w2, hrun, hm2, hg2⟩ := HU.out w1 (HFd.out.trans hF1) k1 cp1 hcp1; have c1' := (HFd.out.trans hF1).cell c1 id; have HF1 := Lib.hid (HFd.out.trans hF1); clear hO1 hF1)
    all_goals
      have hF2 : Fr (fun k => k = gm) w1 w2 := Fr.grown (Fr.refl _ _) hg2 (fun k hk _ => by injection hk with hk; exact hk.symm)
      have hF2' := (Fr.refl (fun k => k = gm) w).then_ HF1.out (fun k _ e => e.elim)
      have hk1' : w.heap.size ≤ k1 := hk1
      have hz2 := hF2.size
      have HF2 := Lib.hid hF2
      have HF2' := Lib.hid (hF2'.trans hF2)
      have HM2 := Lib.hid hm2
      have HR1 := Lib.hid hr1
      clear hF2 hF2' hm2 hr1 hrun hg2 hlen
      go_wp2
      go_ret
      exact ⟨rfl, k1, hk1', by omega, fun j v hv => HF2.out.cell (HR1.out j v hv) (by show ¬ k1 = gm; omega), by omega, HM2.out, HF2'.out⟩
  | false =>
    have d0 : decide ((l.length : Int) ≥ 48) = false := hd.resolve_left (by decide)
    clear hd
    go_wp2_with (first
      | (go_at_call 83; refine hl.mono ?_; rintro e w' ⟨rfl, rfl⟩; clear hl)
      | (go_at_call 84; refine hs.mono ?_; rintro e w' ⟨rfl, rfl⟩; clear hs)
      | (at_lookup; refine wpList_lookup_own_ok _ rfl _ _ 152 rfl 3 42 lawI Tryz.underlying152 rowR (zeroB _) (.lit (.int .i64 (-1))) [] rfl gm n (txD l) rfl HM.out _ _ rfl HK.out ?_; rw [HH.out]; intro v ps hv; have HV := Lib.hid hv; clear hv))
    go_region_with (go_at_call 85; refine HC.out.mono ?_; rintro e w1 ⟨v1, rfl, hO1, hF1⟩; obtain ⟨k1, cp1, rfl, hk1, hk1z, hr1, hcp1⟩ := own_row0 hO1; obtain ⟨w2, hrun, hm2, hg2⟩ := HU.out w1 (HFd.out.trans hF1) k1 cp1 hcp1; have c1' := (HFd.out.trans hF1).cell c1 id; have HF1 := Lib.hid (HFd.out.trans hF1); clear hO1 hF1)
    all_goals
      have hF2 : Fr (fun k => k = gm) w1 w2 := Fr.grown (Fr.refl _ _) hg2 (fun k hk _ => by injection hk with hk; exact hk.symm)
      have hF2' := (Fr.refl (fun k => k = gm) w).then_ HF1.out (fun k _ e => e.elim)
      have hk1' : w.heap.size ≤ k1 := hk1
      have hz2 := hF2.size
      have HF2 := Lib.hid hF2
      have HF2' := Lib.hid (hF2'.trans hF2)
      have HM2 := Lib.hid hm2
      have HR1 := Lib.hid hr1
      clear hF2 hF2' hm2 hr1 hrun hg2 hlen
      go_wp2
      go_ret
      exact ⟨rfl, k1, hk1', by omega, fun j v hv => HF2.out.cell (HR1.out j v hv) (by show ¬ k1 = gm; omega), by omega, HM2.out, HF2'.out⟩
end
end Go.Proofs.YtnbonhinpepgoaaGreat
end
section
set_option linter.unusedVariables false
namespace Go.Proofs.YtnbonhinpepgoaaGreat
open Go.RowKit Go.Maps
theorem rowR_inv {v : Value} {k : Nat} {ps : List MemPlace} (h : rowR v = some (.lit (.int .i64 k), ps)) : ∃ cap, v = .slice (some ⟨k, 0, none⟩) 512 cap ∧ 512 ≤ cap := by
  unfold rowR at h
  split at h
  · rename_i k' c
    by_cases hc : 512 ≤ c
    · rw [if_pos hc] at h
      simp only [Option.some.injEq, Prod.mk.injEq, DataW.lit.injEq, Lit.int.injEq, true_and] at h
      obtain ⟨h, _⟩ := h
      have := Int.ofNat.inj h
      subst this
      exact ⟨_, rfl, hc⟩
    · rw [if_neg hc] at h
      cases h
  · simp only [Option.some.injEq, Prod.mk.injEq, DataW.lit.injEq, Lit.int.injEq, true_and] at h
    omega
  · cases h
def Row8 (w : World) (k : Nat) (b : List Nat) : Prop := ∃ cur T, w.heap[k]? = some (.cells cur T (0, 0)) ∧ cur.toList.take b.length = n8 b
theorem Row8.fr {M : Nat → Prop} {w w' : World} {k : Nat} {b : List Nat} (h : Row8 w k b) (hf : Fr M w w') (hM : ¬ M k) : Row8 w' k b := by
  obtain ⟨cur, T, h1, h2⟩ := h
  exact ⟨cur, T, hf.heap h1 hM, h2⟩
theorem Row8.lt {w : World} {k : Nat} {b : List Nat} (h : Row8 w k b) : k < w.heap.size := by
  obtain ⟨cur, T, h1, h2⟩ := h
  exact block_lt h1
theorem Row8.range {w : World} {k : Nat} {b : List Nat} (h : Row8 w k b) : w.rangeAt k 0 (n8 b) := fun j v hv => by
  obtain ⟨cur, T, h1, h2⟩ := h
  have hj : j < (n8 b).length := (List.getElem?_eq_some_iff.1 hv).1
  rw [← h2] at hv
  rw [List.getElem?_take] at hv
  rw [n8_len] at hj
  rw [if_pos hj] at hv
  rw [Nat.zero_add]
  exact cell_of_row w k j _ _ _ (by rw [h1]) |>.trans (by simpa using hv) |> fun h => h
theorem Row8.bsl {w : World} {k : Nat} {b : List Nat} (h : Row8 w k b) : BSl w (some ⟨k, 0, none⟩) k b := fun _ => ⟨0, rfl, h.range⟩
theorem row8_of {w : World} {k : Nat} {b : List Nat} {T : TypeId} (h : w.heap[k]? = some (.cells (n8 b).toArray T (0, 0))) : Row8 w k b := ⟨_, T, h, by rw [List.take_of_length_le (by simp [n8_len])]⟩
theorem own_row8 {w : World} {B : Nat} {v : Value} {b : List Nat} (hb : b.length = 512) (h : w.ownsRow B 5 1 v 512 (n8 b)) : ∃ k cap, v = .slice (some ⟨k, 0, none⟩) 512 cap ∧ B ≤ k ∧ 512 ≤ cap ∧ Row8 w k b := by
  rcases h.2 with ⟨_, h0⟩ | ⟨g, cap, cur, rfl, hb', hh, hc, hm, hs, ht⟩
  · omega
  · exact ⟨g, cap, rfl, hb', hc, cur, _, hh, by rw [hb]; simpa using ht⟩
section
variable {g gs gj gt gm sq : Nat} {ov lv : Bool} {dn : Int} {cv : Value} {D : Dk} {w : World}
set_option maxHeartbeats 1000000 in
set_option maxRecDepth 10000 in
theorem tread_hit (ht : TBlk gt gj gm dn ov w) {n : Nat} {l : List (Nat × Nat)} (hm : w.ownsMap Tryz.prog 3 rowR gm n (txD l)) (a : Nat) (ha : a < 1000000) (k : Nat) (hh : Maps.has (txD l) (.int .i64 a) = true) (hat : ∀ z, (txD l).atKey (.int .i64 a) z = .lit (.int .i64 k)) (b : List Nat) (hb : IsSec b) (hk : w.rangeAt k 0 (n8 b)) :
    Calls Tryz.prog 109 #[.pointer (some ⟨gt, 0, none⟩), .int .i64 a] w fun e w' => ∃ k' cap, e = .returned (.tuple #[.slice (some ⟨k', 0, none⟩) 512 cap, .int .i64 0]) ∧ Row8 w' k' b ∧ w.heap.size ≤ k' ∧ 512 ≤ cap ∧ Fr (fun _ => False) w w' := by
  obtain ⟨c0, c1, c2, c3⟩ := ht.cells
  have HM := Lib.hid hm
  have HC := Lib.hid (fun cap => clone_b b (some ⟨k, 0, none⟩) cap (by rw [hb.len]; omega) w (fun _ => ⟨_, rfl, fun j v hv => by rw [addr_add]; exact hk j v hv⟩))
  rw [hb.len] at HC
  have hkey : keyOf Tryz.prog 3 (.int .i64 a) = some (.int .i64 a) := keyOf_int_mk Tryz.underlying3 (by simp [Lit.wf, IntKind.min, IntKind.max, IntKind.signed, IntKind.bits]; omega)
  have HK := Lib.hid hkey
  have HH := Lib.hid hh
  have HAT := Lib.hid hat
  clear ht hm hkey hh hat hk
  go_enter Tryz.func109, Tryz.ntmps109
  go_wp2_with (first
    | (at_lookup; refine wpList_lookup_own_ok _ rfl _ _ 152 rfl 3 42 lawI Tryz.underlying152 rowR (zeroB _) (.lit (.int .i64 (-1))) [] rfl gm n (txD l) rfl HM.out _ _ rfl HK.out ?_; rw [HH.out]; intro v ps hv; rw [HAT.out] at hv; obtain ⟨cap, rfl, hcpm⟩ := rowR_inv hv; have hc := HC.out cap; clear hv)
    | (go_at_call 85; refine hc.mono ?_; rintro e w1 ⟨v1, rfl, hO1, hF1⟩; obtain ⟨k1, cp1, rfl, hk1, hcp1, hr1⟩ := own_row8 hb.len hO1; have HR1 := Lib.hid hr1; have HF1 := Lib.hid hF1; clear hO1 hF1 hr1 hc))
  go_ret2
  exact ⟨k1, cp1, rfl, HR1.out, hk1, hcp1, HF1.out⟩
set_option maxHeartbeats 1000000 in
set_option maxRecDepth 10000 in
theorem tread_miss (ht : TBlk gt gj gm dn ov w) {n : Nat} {l : List (Nat × Nat)} (hm : w.ownsMap Tryz.prog 3 rowR gm n (txD l)) (hj : JBlk gj g sq lv w) (h : DRep g gs cv D w) (a : Nat) (h0 : 49 ≤ a) (h1 : a < D.st.length) (hd : D.down = false) (hh : Maps.has (txD l) (.int .i64 a) = false) :
    Calls Tryz.prog 109 #[.pointer (some ⟨gt, 0, none⟩), .int .i64 a] w fun r w' => ∃ k cap, r = .returned (.tuple #[.slice (some ⟨k, 0, none⟩) 512 cap, .int .i64 0]) ∧ Row8 w' k (D.get a) ∧ w.heap.size ≤ k ∧ 512 ≤ cap ∧ Fr (fun _ => False) w w' := by
  obtain ⟨c0, c1, c2, c3⟩ := ht.cells
  have HM := Lib.hid hm
  have hr := jread_ok hj h a h0 h1 hd
  have hkey : keyOf Tryz.prog 3 (.int .i64 a) = some (.int .i64 a) := keyOf_int_mk Tryz.underlying3 (by have := h.ok.hi; simp [Lit.wf, IntKind.min, IntKind.max, IntKind.signed, IntKind.bits]; omega)
  have HK := Lib.hid hkey
  have HH := Lib.hid hh
  clear ht hm hkey hh hj h
  generalize D.get a = s at *
  go_enter Tryz.func109, Tryz.ntmps109
  go_wp2_with (first
    | (at_lookup; refine wpList_lookup_own_ok _ rfl _ _ 152 rfl 3 42 lawI Tryz.underlying152 rowR (zeroB _) (.lit (.int .i64 (-1))) [] rfl gm n (txD l) rfl HM.out _ _ rfl HK.out ?_; rw [HH.out]; intro v ps hv; clear hv)
    | (go_at_call 79; refine hr.mono ?_; rintro e w2 ⟨k, rfl, hk, hz, hF⟩; have HKK := Lib.hid hk; have HF := Lib.hid hF; clear hk hF hr))
  go_ret2
  exact ⟨k, 512, rfl, row8_of HKK.out, hz, Nat.le_refl _, HF.out⟩
end
end Go.Proofs.YtnbonhinpepgoaaGreat
end
section
set_option linter.unusedVariables false
namespace Go.Proofs.YtnbonhinpepgoaaGreat
open Go.RowKit Go.Maps
section
variable {g gs gj gt gm sq : Nat} {ov lv : Bool} {dn : Int} {cv : Value} {D : Dk} {w : World}
set_option maxRecDepth 10000 in
theorem twrite_place (ht : TBlk gt gj gm dn false w) (hj : JBlk gj g sq false w) (h : DRep g gs cv D w) (i : Int) (hi : ¬ (49 ≤ i ∧ i < (D.st.length : Int))) (v : Value) :
    Calls Tryz.prog 19 #[.pointer (some ⟨gt, 0, none⟩), .int .i64 i, v] w fun e w' => e = .returned (.int .i64 50) ∧ w = w' := by
  obtain ⟨c0, c1, c2, c3⟩ := ht.cells
  obtain ⟨j0, j1, j2⟩ := hj.cells
  have hl := bool_load ⟨gj, 2, none⟩ false w j2
  have hs := jis_ok hj h i
  rw [decide_eq_false hi] at hs
  clear ht hj h hi
  go_enter Tryz.func19, Tryz.ntmps19
  go_wp2_with (first
    | (go_at_call 83; refine hl.mono ?_; rintro e w' ⟨rfl, rfl⟩; clear hl)
    | (go_at_call 84; refine hs.mono ?_; rintro e w' ⟨rfl, rfl⟩; clear hs))
  go_ret
  exact ⟨rfl, rfl⟩
set_option maxHeartbeats 1000000 in
set_option maxRecDepth 10000 in
theorem twrite_full (ht : TBlk gt gj gm dn false w) (hj : JBlk gj g sq false w) (h : DRep g gs cv D w) {n : Nat} {l : List (Nat × Nat)} (hm : w.ownsMap Tryz.prog 3 rowR gm n (txD l)) (a : Nat) (h0 : 49 ≤ a) (h1 : a < D.st.length) (X : Option Addr) (cap : Nat)
    (hh : Maps.has (txD l) (.int .i64 a) = false) (hroom : 48 ≤ l.length) :
    Calls Tryz.prog 19 #[.pointer (some ⟨gt, 0, none⟩), .int .i64 a, .slice X 512 cap] w fun e w' => e = .returned (.int .i64 44) ∧ w = w' := by
  obtain ⟨c0, c1, c2, c3⟩ := ht.cells
  obtain ⟨j0, j1, j2⟩ := hj.cells
  have hl := bool_load ⟨gj, 2, none⟩ false w j2
  have hs := jis_ok hj h a
  rw [decide_eq_true ⟨by omega, by omega⟩] at hs
  have HM := Lib.hid hm
  have hlen := hm.len Tryz.underlying152 3
  rw [txD_size] at hlen
  have hkey : keyOf Tryz.prog 3 (.int .i64 a) = some (.int .i64 a) := keyOf_int_mk Tryz.underlying3 (by have := h.ok.hi; simp [Lit.wf, IntKind.min, IntKind.max, IntKind.signed, IntKind.bits]; omega)
  have HK := Lib.hid hkey
  have HH := Lib.hid hh
  have d0 : decide ((l.length : Int) ≥ 48) = true := decide_eq_true (by omega)
  clear ht hj h hm hkey hh
  go_enter Tryz.func19, Tryz.ntmps19
  go_wp2_with (first
    | (go_at_call 83; refine hl.mono ?_; rintro e w' ⟨rfl, rfl⟩; clear hl)
    | (go_at_call 84; refine hs.mono ?_; rintro e w' ⟨rfl, rfl⟩; clear hs)
    | (at_lookup; refine wpList_lookup_own_ok _ rfl _ _ 152 rfl 3 42 lawI Tryz.underlying152 rowR (zeroB _) (.lit (.int .i64 (-1))) [] rfl gm n (txD l) rfl HM.out _ _ rfl HK.out ?_; rw [HH.out]; intro v ps hv; clear hv))
  go_ret
  exact ⟨rfl, rfl⟩
end
end Go.Proofs.YtnbonhinpepgoaaGreat
end
section
set_option linter.unusedVariables false
namespace Go.Proofs.YtnbonhinpepgoaaGreat
open Go.RowKit Go.Maps
def txIns (x : Nat × Nat) : List (Nat × Nat) → List (Nat × Nat)
  | [] => [x]
  | y :: r => if x.1 < y.1 then x :: y :: r else y :: txIns x r
def txPut (l : List (Nat × Nat)) (a k : Nat) : List (Nat × Nat) := txIns (a, k) (l.filter fun p => decide (p.1 ≠ a))
def txE (x : Nat × Nat) : Lit × DataW Unit := (.int .i64 x.1, .lit (.int .i64 x.2))
theorem txE_same (a b : Nat) : (Lit.int .i64 (a : Int)).sameKey (.int .i64 (b : Int)) = decide (a = b) := by
  by_cases h : a = b
  · subst h; simp [Lit.sameKey]
  · simp [Lit.sameKey, h]; omega
theorem txE_before (a b : Nat) : (Lit.int .i64 (a : Int)).before (.int .i64 (b : Int)) = decide (a < b) := by
  by_cases h : a < b
  · simp [Lit.before, h]
  · simp [Lit.before, h]
theorem tx_insert (x : Nat × Nat) : ∀ l : List (Nat × Nat), DataW.insert (txE x) (l.map txE) = (txIns x l).map txE
  | [] => rfl
  | y :: r => by
    show (if (Lit.int .i64 (x.1 : Int)).before (.int .i64 (y.1 : Int)) = true then _ else _) = _
    rw [txE_before]
    by_cases h : x.1 < y.1
    · simp [txIns, h]
    · simp only [h, decide_false, Bool.false_eq_true, if_false, txIns]
      rw [List.map_cons, ← tx_insert x r]
theorem tx_filter (a : Nat) (l : List (Nat × Nat)) : (l.map txE).filter (fun p => !p.1.sameKey (.int .i64 (a : Int))) = (l.filter fun p => decide (p.1 ≠ a)).map txE := by
  rw [List.filter_map]
  congr 1
  refine List.filter_congr fun p _ => ?_
  show (!(Lit.int .i64 (p.1 : Int)).sameKey (.int .i64 (a : Int))) = _
  rw [txE_same]
  simp
theorem txD_put (l : List (Nat × Nat)) (a k : Nat) : (txD l).put (.int .i64 a) (.lit (.int .i64 k)) = txD (txPut l a k) := by
  show DataW.map (DataW.insert (txE (a, k)) ((l.map txE).filter fun p => !p.1.sameKey (.int .i64 (a : Int)))) = DataW.map ((txPut l a k).map txE)
  rw [tx_filter, tx_insert]
  rfl
theorem txD_has (l : List (Nat × Nat)) (a : Nat) : Maps.has (txD l) (.int .i64 a) = l.any fun p => decide (p.1 = a) := by
  show (l.map txE).any _ = _
  rw [List.any_map]
  congr 1
  funext p
  exact txE_same _ _
theorem txD_at (l : List (Nat × Nat)) (a k : Nat) (h : (l.find? fun p => decide (p.1 = a)) = some (a, k)) (z : DataW Unit) : (txD l).atKey (.int .i64 a) z = .lit (.int .i64 k) := by
  have e : ((fun p : Lit × DataW Unit => p.1.sameKey (.int .i64 (a : Int))) ∘ txE) = fun p => decide (p.1 = a) := by
    funext p
    exact txE_same _ _
  have hf : (l.map txE).find? (fun p => p.1.sameKey (.int .i64 (a : Int))) = some (txE (a, k)) := by
    rw [List.find?_map, e, h]
    rfl
  have hx : txD l = .map (l.map txE) := rfl
  rw [hx]
  unfold DataW.atKey
  simp only [hf]
  rfl
end Go.Proofs.YtnbonhinpepgoaaGreat
end
section
set_option linter.unusedVariables false
namespace Go.Proofs
open Go.RowKit Go.Maps Go.Sort Go.Shelf
shelf_lay_g SlLaysZI.n7 Ggz 7 at Tryz 153 as Tryz.keysJ
shelf_lay_g SlLaysZI.n6 Ggz 6 at Tryz 152 as Tryz.sortedJ
shelf_lay_g SlLaysM.n5 Slgm 5 at Tryz 206 as Tryz.sortJ
theorem Tryz.sortsJ (m : Nat) : AnyZI.SortsIn Tryz.prog Tryz.sortedJ_ren Fence.wide m :=
  ⟨fun blk off cap ss W hH hblk hsz => callsIn_wide.2 (AnyM.slices_Sort_int Tryz.sortJ blk off cap ss W hH hblk hsz),
   fun p cap W => callsIn_wide.2 (AnyM.slices_Sort_int_none Tryz.sortJ p cap W)⟩
end Go.Proofs
end
section
set_option linter.unusedVariables false
namespace Go.Proofs.YtnbonhinpepgoaaGreat
open Go.RowKit Go.Maps Go.Sort Go.Shelf
theorem keys_ok (mb : Option Nat) (W : World) : Calls Tryz.prog 153 #[.map mb] W fun e w' => e = .returned (.func (.func 207) #[] #[.pointer (some ⟨W.heap.size, 0, none⟩)]) ∧ w' = W.alloc (.cells #[.map mb] 152) := by
  refine (callsIn_wide (n := 6)).1 ?_
  exact AnyZI.keys_in Tryz.keysJ Fence.wide 6 trivial rfl mb W
theorem sorted_ok {H : Type} (b nn : Nat) (D0 : DataW H) (R : Value → Option (DataW H × List MemPlace)) (w : World) (hown : w.ownsMap Tryz.prog 3 R b nn D0) (hmax : Maps.size D0 ≤ 1000000) :
    Calls Tryz.prog 152 #[.func (.func 207) #[] #[.pointer (some ⟨w.heap.size, 0, none⟩)]] (w.alloc (.cells #[.map (some b)] 152)) fun e w' => ∃ (v : Value) (ss : List Int), e = .returned v ∧ ss.Perm (intKeys D0) ∧
      w'.ownsRow w.heap.size 3 1 v ss.length ((ss.mergeSort (fun x y => decide (x ≤ y))).map encZ) ∧ Below w.heap.size w w' := by
  refine (callsIn_wide (n := 6)).1 ?_
  have hbl := hown.lt
  have hseq : SeqGives Fence.wide 3 Tryz.prog 207 #[.pointer (some ⟨w.heap.size, 0, none⟩)] encZ (fun ss => ss.Perm (intKeys D0)) (Maps.size D0) (w.alloc (.cells #[.map (some b)] 152)) :=
    AnyZI.keys_gives (ρ := Tryz.keysJ_ren) { Tryz.keysJ with } Fence.wide _ trivial rfl (by omega) w.heap.size b nn D0 _ (by simp) (by simp) (by
      obtain ⟨es, clock, hb, Ft, hs, hD⟩ := hown
      exact ⟨es, clock, (Below.heap_alloc _ _ b hbl).trans hb, Ft, hs, hD⟩)
  have cS := AnyZI.sorted_in Tryz.sortedJ Fence.wide 6 trivial trivial trivial trivial rfl (by omega) (Tryz.sortsJ _) (enters_of Tryz.func206 (by kernel_rfl) rfl) 207 #[.pointer (some ⟨w.heap.size, 0, none⟩)] trivial (enters_of Tryz.func207 (by kernel_rfl) rfl) _ _ (by unfold maxLen; omega) (by omega) _ hseq
  change CallsIn _ _ Tryz.prog 152 _ _ _ at cS
  refine cS.mono ?_
  rintro e w' ⟨v, ss, rfl, hS, hrow, hnil, hb⟩
  exact ⟨v, ss, rfl, hS, ownsRow_base_a hrow (by simp), ((Below.refl _ w).alloc (Nat.le_refl _) _).trans (hb.mono (by simp))⟩
def Rise (l : List (Nat × Nat)) : Prop := l.Pairwise fun p q => p.1 < q.1
theorem keys_of (l : List (Nat × Nat)) : intKeys (txD l) = l.map fun p => (p.1 : Int) := by
  show (l.map _).map _ = _
  rw [List.map_map]
  rfl
theorem sort_rise {l : List (Nat × Nat)} (h : Rise l) {ss : List Int} (hp : ss.Perm (intKeys (txD l))) : ss.mergeSort (fun x y => decide (x ≤ y)) = l.map fun p => (p.1 : Int) := by
  rw [mergeSort_of_perm_i hp, keys_of]
  refine List.mergeSort_of_pairwise ?_
  refine List.pairwise_map.2 (h.imp fun {p q} hpq => ?_)
  simp
  omega
theorem sorted_tx (b nn : Nat) (l : List (Nat × Nat)) (hl : Rise l) (hll : l.length ≤ 1000) (w : World) (hown : w.ownsMap Tryz.prog 3 rowR b nn (txD l)) :
    Calls Tryz.prog 152 #[.func (.func 207) #[] #[.pointer (some ⟨w.heap.size, 0, none⟩)]] (w.alloc (.cells #[.map (some b)] 152)) fun e w' => ∃ X cap, e = .returned (.slice X l.length cap) ∧
      (0 < l.length → ∃ g, X = some ⟨g, 0, none⟩ ∧ w.heap.size ≤ g ∧ w'.rangeAt g 0 (l.map fun p => .int .i64 (p.1 : Int))) ∧ l.length ≤ cap ∧ Fr (fun _ => False) w w' := by
  refine (sorted_ok b nn (txD l) rowR w hown (by rw [txD_size]; omega)).mono ?_
  rintro e w' ⟨v, ss, rfl, hp, hrow, hb⟩
  have hlen : ss.length = l.length := by rw [hp.length_eq, keys_of, List.length_map]
  rw [sort_rise hl hp, List.map_map, hlen] at hrow
  have hfr : Fr (fun _ => False) w w' := Fr.of_below0 hb
  rcases hrow.2 with ⟨rfl, h0⟩ | ⟨g, cap, cur, rfl, hgb, hh, hc, hm, hs, ht⟩
  · exact ⟨none, 0, by rw [h0], fun h => by omega, by omega, hfr⟩
  · refine ⟨_, cap, rfl, fun _ => ⟨g, rfl, hgb, fun j v hv => ?_⟩, hc, hfr⟩
    have := hrow.cells (g := g) rfl j v hv
    rw [addr_add] at this
    exact this
end Go.Proofs.YtnbonhinpepgoaaGreat
end
section
set_option linter.unusedVariables false
namespace Go.Proofs.YtnbonhinpepgoaaGreat
open Go.RowKit Go.Maps
def slotsP (l : List Put) : List Put := l.zipIdx.map fun x => (1 + x.2, x.1.2)
theorem slotsP_len (l : List Put) : (slotsP l).length = l.length := by simp [slotsP]
theorem slotsP_at (l : List Put) (j : Nat) (p : Put) (h : l[j]? = some p) : (slotsP l)[j]? = some (1 + j, p.2) := by
  simp [slotsP, h]
theorem slotsP_mem {l : List Put} {p : Put} (h : p ∈ slotsP l) : p.1 < 1 + l.length ∧ 1 ≤ p.1 ∧ ∃ q ∈ l, p.2 = q.2 := by
  obtain ⟨j, hj⟩ := List.getElem?_of_mem h
  have hjl : j < l.length := by have := (List.getElem?_eq_some_iff.1 hj).1; rwa [slotsP_len] at this
  rw [slotsP_at l j l[j] (List.getElem?_eq_getElem hjl)] at hj
  injection hj with hj
  subst hj
  exact ⟨by show 1 + j < _; omega, by show 1 ≤ 1 + j; omega, l[j], List.getElem_mem hjl, rfl⟩
def Dk.three (D : Dk) (sq : Nat) (l : List Put) : Int × Dk :=
  let a := D.steps (slotsP l)
  if a.1 = 0 then (let b := a.2.steps [(0, sealB sq l)]; if b.1 = 0 then b.2.steps l else b) else a
def commitF (D : Dk) (sq : Nat) (l : List Put) : Int × Dk × Nat × Bool :=
  if l = [] then (0, D, sq, false) else (let r := D.three ((sq + 1) % 18446744073709551616) l; if r.1 = 0 then (0, r.2, (sq + 1) % 18446744073709551616, false) else (r.1, r.2, sq, true))
def pc3 (ts : List (Nat × Nat × Nat)) : List Value := ts.flatMap fun x => putC x.1 (some ⟨x.2.1, 0, none⟩) x.2.2
theorem pc3_puts {G : Nat → Prop} {B n : Nat} {w : World} {v : Value} {ts : List (Nat × Nat × Nat)} (h : w.ownsRow B 216 2 v ts.length (pc3 ts)) (l : List Put) (hl : l.length = ts.length) (hn : n = ts.length)
    (hk : ∀ (j : Nat) (t : Nat × Nat × Nat) (p : Put), ts[j]? = some t → l[j]? = some p → t.1 = p.1 ∧ G t.2.1 ∧ t.2.1 < w.heap.size ∧ w.rangeAt t.2.1 0 (n8 p.2) ∧ 512 ≤ t.2.2) (hG : ∀ k, B ≤ k → k < w.heap.size → G k) : ∃ X cap, v = .slice X n cap ∧ PutsR G w X l ∧ n ≤ cap := by
  subst hn
  rcases h.2 with ⟨rfl, h0⟩ | ⟨g, cap, cur, rfl, hb, hh, hc, hm, hs, ht⟩
  · exact ⟨none, 0, by rw [h0], fun h1 => by omega, by omega⟩
  · refine ⟨_, cap, rfl, fun _ => ⟨g, 0, rfl, hG g hb (block_lt hh), fun j p hp => ?_⟩, hc⟩
    have hjl : j < ts.length := by rw [← hl]; exact (List.getElem?_eq_some_iff.1 hp).1
    have hx : ts[j]? = some ts[j] := List.getElem?_eq_getElem hjl
    generalize ts[j] = x at hx
    obtain ⟨h1, h2, h3, h4, h5⟩ := hk j x p hx hp
    have hcell : ∀ i v, i < 2 → (putC x.1 (some ⟨x.2.1, 0, none⟩) x.2.2)[i]? = some v → w.cell? ⟨g, 0 + j * 2 + i, none⟩ = some v := fun i v hi hv => by
      have := h.cells (g := g) rfl (j * 2 + i) v ((flat_at 2 _ ts j i x (fun _ _ => rfl) hx hi).trans hv)
      rw [addr_add] at this
      rw [Nat.zero_add]
      rw [Nat.zero_add] at this
      exact this
    refine ⟨?_, x.2.1, 0, x.2.2, ?_, h2, h3, h4, h5⟩
    · rw [← h1]; exact hcell 0 _ (by omega) rfl
    · exact hcell 1 _ (by omega) rfl
theorem pc3_snoc (ts : List (Nat × Nat × Nat)) (x : Nat × Nat × Nat) : pc3 (ts ++ [x]) = pc3 ts ++ putC x.1 (some ⟨x.2.1, 0, none⟩) x.2.2 := by simp [pc3]
end Go.Proofs.YtnbonhinpepgoaaGreat
end
section
set_option linter.unusedVariables false
namespace Go.Proofs.YtnbonhinpepgoaaGreat
open Go.RowKit Go.Maps
section
variable {ops : Array Oper} {rest : List Oper} {o : Oper} {a : Act} {Q : Exit → Act → World → Prop} {W : World}
theorem wpList_lookup_row (hg : o.guard = none) (m x : Operand) (hop : o.op = Op.lookup 152 m x false) (gm n : Nat) (l : List (Nat × Nat)) (hm : a.eval m = .map (some gm)) (hown : W.ownsMap Tryz.prog 3 rowR gm n (txD l))
    (at_ k : Nat) (hat : at_ < 1000000) (hx : a.eval x = .int .i64 at_) (hf : (l.find? fun p => decide (p.1 = at_)) = some (at_, k))
    (hK : ∀ cap : Nat, 512 ≤ cap → wpList Tryz.prog ops Q rest (a.put o.dst (.slice (some ⟨k, 0, none⟩) 512 cap)) W) :
    wpList Tryz.prog ops Q (o :: rest) a W := by
  refine wpList_plain hg fun K' hK' => ?_
  have hkey : keyOf Tryz.prog 3 (.int .i64 at_) = some (.int .i64 at_) := keyOf_int_mk Tryz.underlying3 (by simp [Lit.wf, IntKind.min, IntKind.max, IntKind.signed, IntKind.bits]; omega)
  obtain ⟨v, ps, hrun, hv⟩ := hown.lookup lawI Tryz.underlying152 (zeroB _) (zd := .lit (.int .i64 (-1))) (zp := []) rfl hkey
  rw [txD_at l at_ k hf] at hv
  obtain ⟨cap, rfl, hc⟩ := rowR_inv hv
  unfold Oper.wp
  simp [execOp, hop, hm, hx, hrun, Result.andThen]
  exact hK' _ _ (hK cap hc)
end
theorem find_rise {l : List (Nat × Nat)} (h : Rise l) (j : Nat) (p : Nat × Nat) (hj : l[j]? = some p) : (l.find? fun q => decide (q.1 = p.1)) = some p := by
  induction l generalizing j with
  | nil => cases hj
  | cons q l ih =>
    have h1 := List.pairwise_cons.1 h
    cases j with
    | zero =>
      simp only [List.getElem?_cons_zero, Option.some.injEq] at hj
      subst hj
      simp
    | succ j =>
      rw [List.getElem?_cons_succ] at hj
      have hlt := h1.1 p (List.mem_of_getElem? hj)
      rw [List.find?_cons, decide_eq_false (by omega)]
      exact ih h1.2 j hj
abbrev Ents := List (Put × Nat)
def Ents.l (q : Ents) : List (Nat × Nat) := q.map fun x => (x.1.1, x.2)
def Ents.p (q : Ents) : List Put := q.map (·.1)
structure EntsOk (N : Nat) (w : World) (q : Ents) : Prop where
  rise : Rise q.l
  len : q.length ≤ 48
  mem : ∀ x ∈ q, 49 ≤ x.1.1 ∧ x.1.1 < N ∧ IsSec x.1.2 ∧ x.2 < w.heap.size ∧ w.rangeAt x.2 0 (n8 x.1.2)
structure CRel (q : Ents) (j : Nat) (ts us : List (Nat × Nat × Nat)) : Prop where
  l3 : ts.length = j
  l4 : us.length = j
  at_ : ∀ (i : Nat) (x : Put × Nat), i < j → q[i]? = some x → (∃ c, 512 ≤ c ∧ ts[i]? = some (1 + i, x.2, c)) ∧ ∃ c, 512 ≤ c ∧ us[i]? = some (x.1.1, x.2, c)
theorem CRel.nil {q : Ents} : CRel q 0 [] [] := ⟨rfl, rfl, fun i x h => by omega⟩
theorem CRel.succ {q : Ents} {j : Nat} {ts us : List (Nat × Nat × Nat)} (h : CRel q j ts us) {x : Put × Nat} (hx : q[j]? = some x) (c d : Nat) (hc : 512 ≤ c) (hd : 512 ≤ d) : CRel q (j + 1) (ts ++ [(1 + j, x.2, c)]) (us ++ [(x.1.1, x.2, d)]) := by
  obtain ⟨h1, h2, h3⟩ := h
  refine ⟨by simp [h1], by simp [h2], fun i y hi hy => ?_⟩
  by_cases hij : i = j
  · subst hij
    obtain rfl : x = y := by rw [hx] at hy; injection hy
    refine ⟨⟨c, hc, ?_⟩, d, hd, ?_⟩
    · rw [List.getElem?_append_right (by omega), h1]; simp
    · rw [List.getElem?_append_right (by omega), h2]; simp
  · have := h3 i y (by omega) hy
    rw [List.getElem?_append_left (by omega), List.getElem?_append_left (by omega)]
    exact this
theorem steps_inv {D : Dk} (hd : D.down = false) {l : List Put} (h : (D.steps l).1 = 0) : (D.steps l).2.ca = [] ∧ (D.steps l).2.down = false ∧ (D.steps l).2.st.length = D.st.length := by
  unfold Dk.steps at h ⊢
  by_cases h0 : (D.runW l).1 = 0
  · have hi := runW_inv D hd l h0
    rw [if_pos h0]
    refine ⟨rfl, hi.2.1, ?_⟩
    show (((D.runW l).2.ca.foldl setS (D.runW l).2.st)).length = _
    rw [setS_all, hi.1]
  · rw [if_neg h0] at h
    exact absurd h h0
theorem G_step {g gs : Nat} {cv cv' : Value} {G : Nat → Prop} {w w' : World} (h : ∀ k, G k → k < w.heap.size ∧ ¬ Foot g gs cv k) (hz : w.heap.size ≤ w'.heap.size) (hl : Loc w cv cv') : ∀ k, G k → k < w'.heap.size ∧ ¬ Foot g gs cv' k := fun k hk => by
  obtain ⟨h1, h2⟩ := h k hk
  refine ⟨by omega, fun hf => ?_⟩
  rcases hf with hf | hf | hf
  · exact h2 (.inl hf)
  · exact h2 (.inr (.inl hf))
  · rcases hl k hf with h3 | h3
    · exact h2 (.inr (.inr h3))
    · omega
theorem PutsR.imp {G G' : Nat → Prop} {w : World} {X : Option Addr} {l : List Put} (h : PutsR G w X l) (hG : ∀ k, G k → G' k) : PutsR G' w X l := fun h0 => by
  obtain ⟨b, o, e, hb, hp⟩ := h h0
  refine ⟨b, o, e, hG b hb, fun j p hj => ?_⟩
  obtain ⟨c0, cb, ob, cap, c1, h1, h2⟩ := hp j p hj
  exact ⟨c0, cb, ob, cap, c1, hG cb h1, h2⟩
theorem puts_one {G : Nat → Prop} {w : World} {b k cap a : Nat} {s : List Nat} (hb : w.heap[b]? = some (.cells #[.int .i64 (a : Int), .slice (some ⟨k, 0, none⟩) 512 cap] 216 (0, 0))) (hc : 512 ≤ cap) (hr : w.rangeAt k 0 (n8 s)) (hk : k < w.heap.size) (h1 : G b) (h2 : G k) : PutsR G w (some ⟨b, 0, none⟩) [(a, s)] := fun _ => by
  refine ⟨b, 0, rfl, h1, fun j p hj => ?_⟩
  cases j with
  | zero =>
    simp only [List.getElem?_cons_zero, Option.some.injEq] at hj
    subst hj
    exact ⟨cell_of_row w b 0 _ _ _ hb, k, 0, cap, cell_of_row w b 1 _ _ _ hb, h2, hk, hr, hc⟩
  | succ j => simp at hj
theorem index3_0 (X Y Z : Option Addr) (m1 m2 m3 c1 c2 c3 : Nat) (W : World) : (Instr.index 226 (.agg #[.slice X m1 c1, .slice Y m2 c2, .slice Z m3 c3]) (.int .i64 0)).run Tryz.prog W = .ok (.slice X m1 c1) W := by kernel_rfl
theorem index3_1 (X Y Z : Option Addr) (m1 m2 m3 c1 c2 c3 : Nat) (W : World) : (Instr.index 226 (.agg #[.slice X m1 c1, .slice Y m2 c2, .slice Z m3 c3]) (.int .i64 1)).run Tryz.prog W = .ok (.slice Y m2 c2) W := by kernel_rfl
theorem index3_2 (X Y Z : Option Addr) (m1 m2 m3 c1 c2 c3 : Nat) (W : World) : (Instr.index 226 (.agg #[.slice X m1 c1, .slice Y m2 c2, .slice Z m3 c3]) (.int .i64 2)).run Tryz.prog W = .ok (.slice Z m3 c3) W := by kernel_rfl
theorem JBlk.nofz {gj g s : Nat} {lv : Bool} {w : World} (h : JBlk gj g s lv w) (j : Nat) : w.frozen? ⟨gj, j, none⟩ = false := by
  unfold JBlk at h
  simp [World.frozen?, h]
theorem fin_dead {g gs gj s : Nat} {lv : Bool} {cv cv' : Value} {D : Dk} {w w' : World} (h : DRep g gs cv' D w') (hj : JBlk gj g s lv w') (hn : ¬ Foot g gs cv' gj) (hF : Fr (Foot g gs cv) w w') :
    DRep g gs cv' D (w'.setCell ⟨gj, 2, none⟩ (bw true)).drew ∧ JBlk gj g s true (w'.setCell ⟨gj, 2, none⟩ (bw true)).drew ∧ Fr (fun k => Foot g gs cv k ∨ k = gj) w (w'.setCell ⟨gj, 2, none⟩ (bw true)).drew := by
  have hs := (fr_set w' gj 2 (bw true)).drew
  exact ⟨h.fr hs (fun k hk e => hn (e ▸ hk)), heap_setCell hj _, ((hF.mono (fun k _ h => Or.inl h)).then_ hs (fun k _ h => Or.inr h))⟩
theorem fin_seq {g gs gj s s' : Nat} {lv : Bool} {cv cv' : Value} {D : Dk} {w w' : World} (h : DRep g gs cv' D w') (hj : JBlk gj g s lv w') (hn : ¬ Foot g gs cv' gj) (hF : Fr (Foot g gs cv) w w') :
    DRep g gs cv' D (w'.setCell ⟨gj, 1, none⟩ (.int .u64 s')) ∧ JBlk gj g s' lv (w'.setCell ⟨gj, 1, none⟩ (.int .u64 s')) ∧ Fr (fun k => Foot g gs cv k ∨ k = gj) w (w'.setCell ⟨gj, 1, none⟩ (.int .u64 s')) := by
  have hs := fr_set w' gj 1 (.int .u64 s')
  exact ⟨h.fr hs (fun k hk e => hn (e ▸ hk)), heap_setCell hj _, ((hF.mono (fun k _ h => Or.inl h)).then_ hs (fun k _ h => Or.inr h))⟩
section
variable {g gs gj gt gm sq : Nat} {lv ov : Bool} {dn ms : Int} {cv : Value} {D : Dk} {w : World}
set_option maxHeartbeats 4000000 in
set_option maxRecDepth 10000 in
theorem commit_ok (ht : TBlkS gt gj gm dn ms ov w) (hj : JBlk gj g sq lv w) (h : DRep g gs cv D w) (hd : D.down = false) (hmany : D.ca.length < 800000) {n : Nat} {q : Ents} (hm : w.ownsMap Tryz.prog 3 rowR gm n (txD q.l)) (hq : EntsOk D.st.length w q)
    (hne : ∀ x ∈ q, ¬ Foot g gs cv x.2 ∧ x.2 ≠ gj) (hgj : ¬ Foot g gs cv gj) (hgt : ¬ Foot g gs cv gt) (hgtj : gt ≠ gj) :
    Calls Tryz.prog 88 #[.pointer (some ⟨gt, 0, none⟩)] w fun e w' => e = .returned (.int .i64 (commitF D sq q.p).1) ∧ ∃ cv', DRep g gs cv' (commitF D sq q.p).2.1 w' ∧ JBlk gj g (commitF D sq q.p).2.2.1 (if (commitF D sq q.p).2.2.2 then true else lv) w' ∧ Fr (fun k => Foot g gs cv k ∨ k = gj) w w' ∧ Loc w cv cv' := by
  obtain ⟨R, hR⟩ : ∃ R, commitF D sq q.p = R := ⟨_, rfl⟩
  rw [hR]
  obtain ⟨rc, rD, rs, rd⟩ := R
  simp only
  have HR := Lib.hid hR
  clear hR
  obtain ⟨c0, c1, c2, c3, c5⟩ := ht.cells
  obtain ⟨j0, j1, j2⟩ := hj.cells
  have hll := hq.len
  have hk := keys_ok (some gm) w
  have hs := sorted_tx gm n q.l hq.rise (by rw [Ents.l, List.length_map]; omega) w hm
  have hlen : q.l.length = q.length := List.length_map ..
  rw [hlen] at hs
  have HM := Lib.hid (fun (W : World) (hF : Fr (fun _ => False) w W) => (show W.ownsMap Tryz.prog 3 rowR gm n (txD q.l) from by
    obtain ⟨es, clock, hb, F, hs, hD⟩ := hm
    exact ⟨es, clock, hF.heap hb id, F, hs, hD⟩))
  have HQ := Lib.hid hq
  have HN := Lib.hid (show D.st.length ≤ 4096 from h.ok.hi)
  have HLEN := Lib.hid hlen
  have HD := Lib.hid h
  have HJ := Lib.hid hj
  have HT := Lib.hid ht
  have HDN := Lib.hid hd
  clear hm hq hlen h hj ht hd
  go_enter Tryz.func88, Tryz.ntmps88
  go_wp2_with (first
    | (go_at_call 153; refine hk.mono ?_; rintro e w1 ⟨rfl, rfl⟩; clear hk)
    | (go_at_call 152; refine hs.mono ?_; rintro e w2 ⟨X, cap, rfl, hX, hcap, hF2⟩; have HX := Lib.hid hX; have HF2 := Lib.hid hF2; have hz2 := hF2.size; clear hX hF2 hs))
  go_loopw [17, 3, 4] (fun t v3 v4 wr => ∃ (j : Nat) (ts us : List (Nat × Nat × Nat)), t = .int .i64 j ∧ j ≤ q.length ∧ Hid (CRel q j ts us) ∧ Hid (wr.ownsRow w2.heap.size 216 2 v3 j (pc3 ts)) ∧ Hid (wr.ownsRow w2.heap.size 216 2 v4 j (pc3 us)) ∧ Hid (∀ k, v3.ownBlock = some k → v4.ownBlock ≠ some k) ∧ Hid (Fr (fun _ => False) w2 wr)) (fun t _ _ _ => q.length - (intOf t).toNat)
  case atStart => exact ⟨0, [], [], rfl, Nat.zero_le _, Lib.hid CRel.nil, Lib.hid (World.ownsRow_nil _ _ _ _), Lib.hid (World.ownsRow_nil _ _ _ _), Lib.hid (fun k hk => by cases hk), Lib.hid (Fr.refl _ _)⟩
  case round =>
    obtain ⟨j, ts, us, rfl, hjq, HC, H3, H4, HDJ, HF⟩ := hrel
    have hz := HF.out.size
    by_cases hjl : j < q.length
    · obtain ⟨x, hx⟩ : ∃ x, q[j]? = some x := ⟨_, List.getElem?_eq_getElem hjl⟩
      have hxm := Lib.hid (HQ.out.mem x (List.mem_of_getElem? hx))
      have hlj : q.l[j]? = some (x.1.1, x.2) := by rw [Ents.l, List.getElem?_map, hx]; rfl
      have hfi := Lib.hid (find_rise HQ.out.rise j _ hlj)
      obtain ⟨gk, rfl, hgk, hgr⟩ := HX.out (by omega)
      have ck : wr.cell? ⟨gk, j, none⟩ = some (.int .i64 (x.1.1 : Int)) := by
        have := hgr j (.int .i64 (x.1.1 : Int)) (by rw [List.getElem?_map, hlj]; rfl)
        rw [Nat.zero_add] at this
        exact HF.out.cell this id
      have HSU := Lib.hid (HC.out.succ hx)
      have hxN : x.1.1 < 1000000 := by have := hxm.out.2.1; have := HN.out; omega
      have r1 : wr.cell? ⟨gt, 1, none⟩ = some (.map (some gm)) := HF.out.cell (HF2.out.cell c1 id) id
      clear hgr hx hlj
      have hN1 := Lib.hid (fun ca => show [Value.int .i64 (1 + (j : Int)), .slice (some ⟨x.2, 0, none⟩) 512 ca] = putC (1 + j) (some ⟨x.2, 0, none⟩) ca from by simp [putC])
      go_wp2_with (first
        | ((with_reducible refine at_dst (N := 30) rfl ?_); refine wpList_lookup_row rfl _ _ rfl gm n q.l rfl (HM.out _ (HF2.out.trans HF.out)) x.1.1 x.2 hxN rfl hfi.out ?_; intro ca hca; have HCA := Lib.hid hca; clear hca)
        | ((with_reducible refine at_dst (N := 33) rfl ?_); refine app_at (own_fr H3.out ((Fr.refl (fun _ => False) wr).alloc _) (fun _ _ _ _ => id)) 1 [.int .i64 (1 + (j : Int)), .slice (some ⟨x.2, 0, none⟩) 512 ca] Tryz.underlying148 info_put rfl (by decide) rfl (by rw [hN1.out]; exact putC_one _ _ _) (by omega) (by omega) (by simp; omega) rfl rfl rfl rfl (fun _ => ⟨_, rfl, news_alloc wr _ 216⟩) ?_; intro v5 w5 hO5 hF5 hL5; have hFA := ((Fr.refl (fun j => u3.ownBlock = some j) wr).alloc _).trans hF5; have hz5 := hFA.size; have HO5 := Lib.hid (show w5.ownsRow w2.heap.size 216 2 v5 (j + 1) (pc3 (ts ++ [(1 + j, x.2, ca)])) from by rw [pc3_snoc, ← hN1.out]; exact hO5); have H45 := Lib.hid (own_fr H4.out hFA (fun k _ _ e1 e2 => HDJ.out k e2 e1)); have HF5 := Lib.hid (HF.out.then_ hFA (fun k hk e => by have := (H3.out.lt k e).1; omega)); have HD5 := Lib.hid (show ∀ k, v5.ownBlock = some k → u4.ownBlock ≠ some k from fun k hk e => by
            rcases hL5 with hl | hl
            · exact HDJ.out k (by rw [← hl]; exact hk) e
            · rw [hl] at hk; injection hk with hk; have := (H4.out.lt k e).2; have h1 : (wr.alloc (.cells #[.int .i64 (1 + (j : Int)), .slice (some ⟨x.2, 0, none⟩) 512 ca] 216)).heap.size = wr.heap.size + 1 := (by simp); omega); have r5 : w5.cell? ⟨gt, 1, none⟩ = some (.map (some gm)) := HF5.out.cell (HF2.out.cell c1 id) id; clear hO5 hF5 hL5 hFA)
        | ((with_reducible refine at_dst (N := 41) rfl ?_); refine wpList_lookup_row rfl _ _ rfl gm n q.l rfl (HM.out _ (HF2.out.trans HF5.out)) x.1.1 x.2 hxN rfl hfi.out ?_; intro cb hcb; have HCB := Lib.hid hcb; clear hcb)
        | ((with_reducible refine at_dst (N := 44) rfl ?_); refine app_at (own_fr H45.out ((Fr.refl (fun _ => False) w5).alloc _) (fun _ _ _ _ => id)) 1 (putC x.1.1 (some ⟨x.2, 0, none⟩) cb) Tryz.underlying148 info_put rfl (by decide) rfl (putC_one _ _ _) (by omega) (by omega) (by simp; omega) rfl rfl rfl rfl (fun _ => ⟨_, rfl, news_alloc w5 (putC x.1.1 (some ⟨x.2, 0, none⟩) cb) 216⟩) ?_; intro v6 w6 hO6 hF6 hL6; have hFA := ((Fr.refl (fun j => u4.ownBlock = some j) w5).alloc _).trans hF6; have hz6 := hFA.size; have HO6 := Lib.hid (show w6.ownsRow w2.heap.size 216 2 v6 (j + 1) (pc3 (us ++ [(x.1.1, x.2, cb)])) from by rw [pc3_snoc]; exact hO6); have HO56 := Lib.hid (own_fr HO5.out hFA (fun k _ _ e1 e2 => HD5.out k e1 e2)); have HF6 := Lib.hid (HF5.out.then_ hFA (fun k hk e => by have := (H4.out.lt k e).1; omega)); have HD6 := Lib.hid (show ∀ k, v5.ownBlock = some k → v6.ownBlock ≠ some k from fun k hk e => by
            rcases hL6 with hl | hl
            · exact HD5.out k hk (by rw [← hl]; exact e)
            · rw [hl] at e; injection e with e; have := (HO5.out.lt k hk).2; have h1 : (w5.alloc (.cells #[.int .i64 (x.1.1 : Int), .slice (some ⟨x.2, 0, none⟩) 512 cb] 216)).heap.size = w5.heap.size + 1 := (by simp); omega); clear hO6 hF6 hL6 hFA))
      go_roundw
      case rel => exact ⟨j + 1, _, _, by go_num, by omega, Lib.hid (HSU.out ca cb HCA.out HCB.out), HO56, HO6, HD6, HF6⟩
      case measure => simp [intOf]; omega
    · obtain rfl : j = q.length := by omega
      have hne' := Lib.hid hne
      have HGJ := Lib.hid hgj
      have HGT := Lib.hid hgt
      have HFw := Lib.hid (HF2.out.trans HF.out)
      obtain ⟨X3, cap3, rfl, hP3, hc3⟩ := pc3_puts (G := fun k => k < wr.heap.size ∧ ¬ Foot g gs cv k) (by rw [HC.out.l3]; exact H3.out) (slotsP q.p) (by rw [slotsP_len, Ents.p, List.length_map, HC.out.l3]) HC.out.l3.symm (fun i t p ht hp => by
        have hi : i < q.length := by have := (List.getElem?_eq_some_iff.1 ht).1; rw [HC.out.l3] at this; exact this
        obtain ⟨x, hx⟩ : ∃ x, q[i]? = some x := ⟨_, List.getElem?_eq_getElem hi⟩
        obtain ⟨⟨c, hc, hts⟩, _⟩ := HC.out.at_ i x hi hx
        rw [ht] at hts
        injection hts with hts
        subst hts
        rw [slotsP_at q.p i x.1 (by rw [Ents.p, List.getElem?_map, hx]; rfl)] at hp
        injection hp with hp
        subst hp
        have hm := HQ.out.mem x (List.mem_of_getElem? hx)
        have hn := hne'.out x (List.mem_of_getElem? hx)
        exact ⟨rfl, ⟨by show x.2 < _; have := hm.2.2.2.1; omega, hn.1⟩, by show x.2 < _; have := hm.2.2.2.1; omega, fun j v hv => HFw.out.cell (hm.2.2.2.2 j v hv) id, hc⟩) (fun k h1 h2 => ⟨h2, fun hf => by have := HD.out.lt hf; omega⟩)
      obtain ⟨X4, cap4, rfl, hP4, hc4⟩ := pc3_puts (G := fun k => k < wr.heap.size ∧ ¬ Foot g gs cv k) (by rw [HC.out.l4]; exact H4.out) q.p (by rw [Ents.p, List.length_map, HC.out.l4]) HC.out.l4.symm (fun i t p ht hp => by
        have hi : i < q.length := by have := (List.getElem?_eq_some_iff.1 ht).1; rw [HC.out.l4] at this; exact this
        obtain ⟨x, hx⟩ : ∃ x, q[i]? = some x := ⟨_, List.getElem?_eq_getElem hi⟩
        obtain ⟨_, c, hc, hts⟩ := HC.out.at_ i x hi hx
        rw [ht] at hts
        injection hts with hts
        subst hts
        rw [Ents.p, List.getElem?_map, hx] at hp
        injection hp with hp
        subst hp
        have hm := HQ.out.mem x (List.mem_of_getElem? hx)
        have hn := hne'.out x (List.mem_of_getElem? hx)
        exact ⟨rfl, ⟨by show x.2 < _; have := hm.2.2.2.1; omega, hn.1⟩, by show x.2 < _; have := hm.2.2.2.1; omega, fun j v hv => HFw.out.cell (hm.2.2.2.2 j v hv) id, hc⟩) (fun k h1 h2 => ⟨h2, fun hf => by have := HD.out.lt hf; omega⟩)
      have HP3 := Lib.hid hP3
      have HP4 := Lib.hid hP4
      have hpl : q.p.length = q.length := List.length_map ..
      by_cases hq0 : q = []
      · have hq1 : q.length = 0 := by rw [hq0]; rfl
        have e0 : (q.length : Int) = 0 := by omega
        have hR := HR.out
        rw [commitF, if_pos (by rw [hq0]; rfl)] at hR
        simp only [Prod.mk.injEq] at hR
        obtain ⟨hR1, hR2, hR3, hR4⟩ := hR
        subst hR1 hR2 hR3 hR4
        clear hq0 hpl hq1 HP3 HP4 hP3 hP4 HR
        go_wp2
        go_ret
        refine ⟨rfl, cv, HD.out.fr HFw.out (fun _ _ => id), HJ.out.fr HFw.out id, (Fr.refl _ _).then_ HFw.out (fun k _ e => e.elim), Loc.refl _ _⟩
      · have hq1 : 0 < q.length := List.length_pos_iff.2 hq0
        have e0 : ((q.length : Int) == 0) = false := by rw [beq_eq_false_iff_ne]; omega
        have e1 : ¬ ((q.length : Int) = 0) := by omega
        have hR := HR.out
        rw [commitF, if_neg (by intro h; rw [Ents.p, List.map_eq_nil_iff] at h; exact hq0 h)] at hR
        have HR := Lib.hid hR
        clear hR hq0
        obtain ⟨s1, hs1⟩ : ∃ s1, (sq + 1) % 18446744073709551616 = s1 := ⟨_, rfl⟩
        have hs1l : s1 < 18446744073709551616 := by omega
        rw [hs1] at HR
        have hwr : IntKind.u64.wrap ((sq : Int) + 1) = (s1 : Int) := by
          rw [← hs1]
          simp [IntKind.wrap, IntKind.signed, IntKind.bits]
        clear hs1
        have p0 : wr.cell? ⟨gt, 0, none⟩ = some (.pointer (some ⟨gj, 0, none⟩)) := HFw.out.cell c0 id
        have p1 : wr.cell? ⟨gj, 1, none⟩ = some (.int .u64 sq) := HFw.out.cell j1 id
        have hsl := seal_ok s1 hs1l q.p (by omega) (fun p hp => by
          obtain ⟨x, hx, rfl⟩ := List.mem_map.1 hp
          have := (HQ.out.mem x hx).2.1; have := HN.out; omega) (fun p hp => by
          obtain ⟨x, hx, rfl⟩ := List.mem_map.1 hp
          exact (HQ.out.mem x hx).2.2.1) _ X4 cap4 wr (fun k hk => hk.1) hP4
        rw [hpl] at hsl
        have hsb := sealB_sec s1 q.p (by omega)
        have hsbl := hsb.len
        have HSB := Lib.hid hsb
        obtain ⟨sb, hsbe⟩ : ∃ sb, sealB s1 q.p = sb := ⟨_, rfl⟩
        have HSBE := Lib.hid hsbe
        rw [hsbe] at hsl hsbl HSB
        have HSBL := Lib.hid hsbl
        have HPL := Lib.hid hpl
        clear hsbe hsb hsbl hP3 hP4 hpl HX HF2 HF hcap hz2 hz H3 H4 HDJ HC
        go_wp2_with (first
          | (go_at_call 147; refine hsl.mono ?_; rintro e w7 ⟨v7, rfl, hO7, hF7⟩; obtain ⟨k7, cp7, rfl, hk7, hcp7, hr7⟩ := own_row8 HSBL.out hO7; have HF7 := Lib.hid hF7; have HR7 := Lib.hid hr7; have hk7z := hr7.lt; clear hO7 hF7 hr7 hsl))
        obtain ⟨w8, hw8⟩ : ∃ w8, w7.alloc (.cells #[.int .i64 0, .slice (some ⟨k7, 0, none⟩) 512 cp7] 216) = w8 := ⟨_, rfl⟩
        rw [hw8]
        have hF8 : Fr (fun _ => False) w7 w8 := by rw [← hw8]; exact (Fr.refl _ _).alloc _
        have hB8 : w8.heap[w7.heap.size]? = some (.cells #[.int .i64 0, .slice (some ⟨k7, 0, none⟩) 512 cp7] 216 (0, 0)) := by rw [← hw8]; exact heap_alloc_new w7 _
        clear hw8
        have hz7 := HF7.out.size
        have hz8 := hF8.size
        have hb8 := block_lt hB8
        have HFW8 := Lib.hid ((HFw.out.trans HF7.out).trans hF8)
        have hz0 := HFW8.out.size
        have HG8 := Lib.hid (show ∀ k, (k < w8.heap.size ∧ ¬ Foot g gs cv k) → k < w8.heap.size ∧ ¬ Foot g gs cv k from fun k h => h)
        have HPA := Lib.hid ((HP3.out.fr (HF7.out.trans hF8) (fun _ _ => id)).imp (G' := fun k => k < w8.heap.size ∧ ¬ Foot g gs cv k) (fun k hk => ⟨by have := hk.1; omega, hk.2⟩))
        have HPC := Lib.hid ((HP4.out.fr (HF7.out.trans hF8) (fun _ _ => id)).imp (G' := fun k => k < w8.heap.size ∧ ¬ Foot g gs cv k) (fun k hk => ⟨by have := hk.1; omega, hk.2⟩))
        have HPB := Lib.hid (puts_one (G := fun k => k < w8.heap.size ∧ ¬ Foot g gs cv k) (a := 0) (s := sb) hB8 hcp7 (HR7.out.fr hF8 id).range (by omega) ⟨hb8, fun hf => by have := HD.out.lt hf; have := HFw.out.size; omega⟩ ⟨by omega, fun hf => by have := HD.out.lt hf; have := HFw.out.size; omega⟩)
        have hjl8 := Lib.hid (block_lt HJ.out)
        have htl8 := Lib.hid (block_lt HT.out)
        have HGj := Lib.hid (show gj < w8.heap.size ∧ ¬ Foot g gs cv gj from ⟨by have := hjl8.out; omega, HGJ.out⟩)
        have HGt := Lib.hid (show gt < w8.heap.size ∧ ¬ Foot g gs cv gt from ⟨by have := htl8.out; omega, HGT.out⟩)
        have HSEC := Lib.hid (show ∀ p ∈ q.p, p.1 < D.st.length ∧ IsSec p.2 from fun p hp => by
          obtain ⟨x, hx, rfl⟩ := List.mem_map.1 hp
          exact ⟨(HQ.out.mem x hx).2.1, (HQ.out.mem x hx).2.2.1⟩)
        have HLO := Lib.hid HD.out.ok.lo
        have hst1 := steps_ok (HD.out.fr HFW8.out (fun _ _ => id)) HDN.out (slotsP q.p) (fun p hp => by have h1 := (slotsP_mem hp).1; rw [HPL.out] at h1; have := HLO.out; omega) (fun p hp => by
          obtain ⟨_, _, y, hy, e⟩ := slotsP_mem hp
          rw [e]; exact (HSEC.out y hy).2) (by rw [slotsP_len, HPL.out]; omega) (by omega) _ HG8.out X3 cap3 HPA.out
        rw [slotsP_len, HPL.out] at hst1
        obtain ⟨DA, hDA⟩ : ∃ DA, D.steps (slotsP q.p) = DA := ⟨_, rfl⟩
        have HINV1 := Lib.hid (steps_inv (D := D) HDN.out (l := slotsP q.p))
        have hR := HR.out
        rw [Dk.three, HSBE.out] at hR
        rw [hDA] at hst1 HINV1 hR
        clear hDA HR hz7 hz8 hb8 hB8 hF8 HP3 HP4
        obtain ⟨a1, DA⟩ := DA
        have r0 : w8.cell? ⟨gt, 0, none⟩ = some (.pointer (some ⟨gj, 0, none⟩)) := HFW8.out.cell c0 id
        have r1 : w8.cell? ⟨gj, 0, none⟩ = some (.pointer (some ⟨g, 0, none⟩)) := HFW8.out.cell j0 id
        have hi0 := index3_0 X3 (some ⟨w7.heap.size, 0, none⟩) X4 q.length 1 q.length cap3 1 cap4
        have hi1 := index3_1 X3 (some ⟨w7.heap.size, 0, none⟩) X4 q.length 1 q.length cap3 1 cap4
        have hi2 := index3_2 X3 (some ⟨w7.heap.size, 0, none⟩) X4 q.length 1 q.length cap3 1 cap4
        refine wp_loop_rounds 4 ?_
        by_cases ha : a1 = 0
        · subst ha
          simp only [if_true] at hR
          rw [rounds_succ]
          go_wp2_with (go_at_call 82; refine hst1.mono ?_; rintro e w9 ⟨rfl, cv9, hD9, hF9, hL9⟩; have HD9 := Lib.hid hD9; have HFW9 := Lib.hid (((Fr.refl (Foot g gs cv) w).then_ HFW8.out (fun k _ e => e.elim)).trans hF9); have HLW9 := Lib.hid (Loc.trans (Loc.refl w cv) HFW8.out.size hL9); have HG9 := Lib.hid (G_step HG8.out hF9.size hL9); have HP9 := Lib.hid (fun X l (h : PutsR (fun k => k < w8.heap.size ∧ ¬ Foot g gs cv k) w8 X l) => h.fr hF9 (fun k hk => (HG8.out k hk).2)); have q0 : w9.cell? ⟨gt, 0, none⟩ = some (.pointer (some ⟨gj, 0, none⟩)) := HFW9.out.cell c0 HGT.out; have HJ9 := Lib.hid (HJ.out.fr HFW9.out HGJ.out); obtain ⟨q1, q3, q2⟩ := HJ9.out.cells; clear hD9 hF9 hL9 hst1)
          clear r0 r1
          rename w9.cell? ⟨gt, 0, none⟩ = _ => r0
          rename w9.cell? ⟨gj, 0, none⟩ = _ => r1
          clear q2 q3
          obtain ⟨hca9, hdn9, hle9⟩ := HINV1.out trivial
          have hst2 := steps_ok HD9.out hdn9 [(0, sb)] (fun p hp => by obtain rfl := List.mem_singleton.1 hp; show 0 < _; have := HLO.out; omega) (fun p hp => by obtain rfl := List.mem_singleton.1 hp; exact HSB.out) (by simp) (by rw [hca9]; exact Nat.zero_lt_succ _) _ HG9.out (some ⟨w7.heap.size, 0, none⟩) 1 (HP9.out _ _ HPB.out)
          rw [List.length_singleton] at hst2
          obtain ⟨DB, hDB⟩ : ∃ r, (DA : Dk).steps [(0, sb)] = r := ⟨_, rfl⟩
          have HINV2 := Lib.hid (steps_inv (D := DA) hdn9 (l := [(0, sb)]))
          rw [hDB] at hst2 HINV2 hR
          clear hDB hca9 hdn9
          have HLE9 := Lib.hid hle9
          clear hle9
          obtain ⟨b1, DB⟩ := DB
          by_cases hb : b1 = 0
          · subst hb
            simp only [if_true] at hR
            rw [rounds_succ]
            go_wp2_with (go_at_call 82; refine hst2.mono ?_; rintro e w10 ⟨rfl, cv10, hD10, hF10, hL10⟩; have HD10 := Lib.hid hD10; have HFW10 := Lib.hid (HFW9.out.foot HLW9.out hF10); have HLW10 := Lib.hid (Loc.trans HLW9.out HFW9.out.size hL10); have HG10 := Lib.hid (G_step HG9.out hF10.size hL10); have HP10 := Lib.hid (fun X l (h : PutsR (fun k => k < w8.heap.size ∧ ¬ Foot g gs cv k) w9 X l) => h.fr hF10 (fun k hk => (HG9.out k hk).2)); have q0 : w10.cell? ⟨gt, 0, none⟩ = some (.pointer (some ⟨gj, 0, none⟩)) := HFW10.out.cell c0 HGT.out; have HJ10 := Lib.hid (HJ.out.fr HFW10.out HGJ.out); obtain ⟨q1, q3, q2⟩ := HJ10.out.cells; clear hD10 hF10 hL10 hst2)
            clear r0 r1
            rename w10.cell? ⟨gt, 0, none⟩ = _ => r0
            rename w10.cell? ⟨gj, 0, none⟩ = _ => r1
            clear q2 q3
            obtain ⟨hca10, hdn10, hle10⟩ := HINV2.out trivial
            have hst3 := steps_ok HD10.out hdn10 q.p (fun p hp => by have h1 := (HSEC.out p hp).1; have h2 : DA.st.length = D.st.length := HLE9.out; have h3 : DB.st.length = DA.st.length := hle10; show p.1 < DB.st.length; omega) (fun p hp => (HSEC.out p hp).2) (by rw [HPL.out]; omega) (by rw [hca10]; exact Nat.zero_lt_succ _) _ HG10.out X4 cap4 (HP10.out _ _ (HP9.out _ _ HPC.out))
            rw [HPL.out] at hst3
            obtain ⟨DC, hDC⟩ : ∃ r, (DB : Dk).steps q.p = r := ⟨_, rfl⟩
            have HINV3 := Lib.hid (steps_inv (D := DB) hdn10 (l := q.p))
            rw [hDC] at hst3 HINV3 hR
            clear hDC hca10 hdn10
            have HLE10 := Lib.hid hle10
            clear hle10
            obtain ⟨c1', DC⟩ := DC
            by_cases hc : c1' = 0
            · subst hc
              simp only [if_true] at hR
              simp only [Prod.mk.injEq] at hR
              obtain ⟨hR1, hR2, hR3, hR4⟩ := hR
              subst hR1 hR2 hR3 hR4
              rw [rounds_succ]
              go_wp2_with (go_at_call 82; refine hst3.mono ?_; rintro e w11 ⟨rfl, cv11, hD11, hF11, hL11⟩; have HD11 := Lib.hid hD11; have HFW11 := Lib.hid (HFW10.out.foot HLW10.out hF11); have HLW11 := Lib.hid (Loc.trans HLW10.out HFW10.out.size hL11); have HG11 := Lib.hid (G_step HG10.out hF11.size hL11); have HP11 := Lib.hid (fun X l (h : PutsR (fun k => k < w8.heap.size ∧ ¬ Foot g gs cv k) w10 X l) => h.fr hF11 (fun k hk => (HG10.out k hk).2)); have q0 : w11.cell? ⟨gt, 0, none⟩ = some (.pointer (some ⟨gj, 0, none⟩)) := HFW11.out.cell c0 HGT.out; have HJ11 := Lib.hid (HJ.out.fr HFW11.out HGJ.out); obtain ⟨q1, q3, q2⟩ := HJ11.out.cells; clear hD11 hF11 hL11 hst3)
              have q4 : w11.frozen? ⟨gj, 1, none⟩ = false := HJ11.out.nofz 1
              rw [rounds_succ]
              go_wp2
              go_ret
              have hfin := fin_seq (s' := s1) HD11.out HJ11.out (HG11.out gj HGj.out).2 HFW11.out
              exact ⟨rfl, cv11, hfin.1, hfin.2.1, hfin.2.2, HLW11.out⟩
            · simp only [if_neg hc] at hR
              simp only [Prod.mk.injEq] at hR
              obtain ⟨hR1, hR2, hR3, hR4⟩ := hR
              subst hR1 hR2 hR3 hR4
              rw [rounds_succ]
              go_wp2_with (first
                | (go_at_call 82; refine hst3.mono ?_; rintro e w11 ⟨rfl, cv11, hD11, hF11, hL11⟩; have HD11 := Lib.hid hD11; have HFW11 := Lib.hid (HFW10.out.foot HLW10.out hF11); have HLW11 := Lib.hid (Loc.trans HLW10.out HFW10.out.size hL11); have HG11 := Lib.hid (G_step HG10.out hF11.size hL11); have HP11 := Lib.hid (fun X l (h : PutsR (fun k => k < w8.heap.size ∧ ¬ Foot g gs cv k) w10 X l) => h.fr hF11 (fun k hk => (HG10.out k hk).2)); have q0 : w11.cell? ⟨gt, 0, none⟩ = some (.pointer (some ⟨gj, 0, none⟩)) := HFW11.out.cell c0 HGT.out; have HJ11 := Lib.hid (HJ.out.fr HFW11.out HGJ.out); obtain ⟨q1, q3, q2⟩ := HJ11.out.cells; have hbs := bool_store ⟨gj, 2, none⟩ true _ w11 q2 (HJ11.out.nofz 2); clear hD11 hF11 hL11 hst3)
                | (go_at_call 89; refine hbs.mono ?_; rintro e w' ⟨rfl, rfl⟩; clear hbs))
              go_ret
              have hfin := fin_dead HD11.out HJ11.out (HG11.out gj HGj.out).2 HFW11.out
              exact ⟨rfl, cv11, hfin.1, hfin.2.1, hfin.2.2, HLW11.out⟩
          · simp only [if_neg hb] at hR
            simp only [Prod.mk.injEq] at hR
            obtain ⟨hR1, hR2, hR3, hR4⟩ := hR
            subst hR1 hR2 hR3 hR4
            rw [rounds_succ]
            go_wp2_with (first
              | (go_at_call 82; refine hst2.mono ?_; rintro e w10 ⟨rfl, cv10, hD10, hF10, hL10⟩; have HD10 := Lib.hid hD10; have HFW10 := Lib.hid (HFW9.out.foot HLW9.out hF10); have HLW10 := Lib.hid (Loc.trans HLW9.out HFW9.out.size hL10); have HG10 := Lib.hid (G_step HG9.out hF10.size hL10); have HP10 := Lib.hid (fun X l (h : PutsR (fun k => k < w8.heap.size ∧ ¬ Foot g gs cv k) w9 X l) => h.fr hF10 (fun k hk => (HG9.out k hk).2)); have q0 : w10.cell? ⟨gt, 0, none⟩ = some (.pointer (some ⟨gj, 0, none⟩)) := HFW10.out.cell c0 HGT.out; have HJ10 := Lib.hid (HJ.out.fr HFW10.out HGJ.out); obtain ⟨q1, q3, q2⟩ := HJ10.out.cells; have hbs := bool_store ⟨gj, 2, none⟩ true _ w10 q2 (HJ10.out.nofz 2); clear hD10 hF10 hL10 hst2)
              | (go_at_call 89; refine hbs.mono ?_; rintro e w' ⟨rfl, rfl⟩; clear hbs))
            go_ret
            have hfin := fin_dead HD10.out HJ10.out (HG10.out gj HGj.out).2 HFW10.out
            exact ⟨rfl, cv10, hfin.1, hfin.2.1, hfin.2.2, HLW10.out⟩
        · simp only [if_neg ha] at hR
          simp only [Prod.mk.injEq] at hR
          obtain ⟨hR1, hR2, hR3, hR4⟩ := hR
          subst hR1 hR2 hR3 hR4
          rw [rounds_succ]
          go_wp2_with (first
            | (go_at_call 82; refine hst1.mono ?_; rintro e w9 ⟨rfl, cv9, hD9, hF9, hL9⟩; have HD9 := Lib.hid hD9; have HFW9 := Lib.hid (((Fr.refl (Foot g gs cv) w).then_ HFW8.out (fun k _ e => e.elim)).trans hF9); have HLW9 := Lib.hid (Loc.trans (Loc.refl w cv) HFW8.out.size hL9); have HG9 := Lib.hid (G_step HG8.out hF9.size hL9); have HP9 := Lib.hid (fun X l (h : PutsR (fun k => k < w8.heap.size ∧ ¬ Foot g gs cv k) w8 X l) => h.fr hF9 (fun k hk => (HG8.out k hk).2)); have q0 : w9.cell? ⟨gt, 0, none⟩ = some (.pointer (some ⟨gj, 0, none⟩)) := HFW9.out.cell c0 HGT.out; have HJ9 := Lib.hid (HJ.out.fr HFW9.out HGJ.out); obtain ⟨q1, q3, q2⟩ := HJ9.out.cells; have hbs := bool_store ⟨gj, 2, none⟩ true _ w9 q2 (HJ9.out.nofz 2); clear hD9 hF9 hL9 hst1)
            | (go_at_call 89; refine hbs.mono ?_; rintro e w' ⟨rfl, rfl⟩; clear hbs))
          go_ret
          have hfin := fin_dead HD9.out HJ9.out (HG9.out gj HGj.out).2 HFW9.out
          exact ⟨rfl, cv9, hfin.1, hfin.2.1, hfin.2.2, HLW9.out⟩
end
end Go.Proofs.YtnbonhinpepgoaaGreat
end
section
set_option linter.unusedVariables false
namespace Go.Proofs.YtnbonhinpepgoaaGreat
open Go.RowKit Go.Maps
theorem on_disable (w : World) : (callFunc 239 #[]).run Tryz.prog w = .ok (.value (.tuple #[])) w := run_call_mark0 Tryz.func239 (by kernel_rfl) (by kernel_rfl) (by kernel_rfl) .disable (by kernel_rfl) w
theorem on_enable (w : World) : (callFunc 241 #[]).run Tryz.prog w = .ok (.value (.tuple #[])) w := run_call_mark0 Tryz.func241 (by kernel_rfl) (by kernel_rfl) (by kernel_rfl) .enable (by kernel_rfl) w
theorem on_acquire (a : Addr) (w : World) : (callFunc 242 #[.pointer (some a)]).run Tryz.prog w = .ok (.value (.tuple #[])) w := run_call_marked Tryz.func242 (by kernel_rfl) (by kernel_rfl) (by kernel_rfl) .acquire (by kernel_rfl) a w
theorem on_release (a : Addr) (w : World) : (callFunc 244 #[.pointer (some a)]).run Tryz.prog w = .ok (.value (.tuple #[])) w := run_call_marked Tryz.func244 (by kernel_rfl) (by kernel_rfl) (by kernel_rfl) .releaseMerge (by kernel_rfl) a w
theorem store_deferred (a : Addr) (x : Value) (u : FrameMode) (w : World) (hc : w.cell? a = some x) (hz : w.frozen? a = false) :
    CallsD Tryz.prog 89 #[.pointer (some a), .bool true] u w fun e u' w' => u' = u ∧ (e = .returned (.tuple #[]) ∧ w' = w.drew.setCell a (.int .u32 1)) := by
  have hc' : w.drew.cell? a = some x := by go_simp
  have hz' : w.drew.frozen? a = false := by go_simp
  have hst := run_call_store (P := Tryz.prog) Tryz.func154 (by kernel_rfl) (by kernel_rfl) (by kernel_rfl) (by kernel_rfl) (k := .u32) (y := 1) hc' hz'
  go_enter_d Tryz.func89, Tryz.ntmps89
  go_wp2
  go_region_calls
  all_goals (go_end0; exact ⟨rfl, rfl⟩)
set_option maxRecDepth 100000 in
theorem unlock_deferred (a : Addr) (u : FrameMode) (w : World) (hc : w.cell? a = some (.int .i32 1)) (hz : w.frozen? a = false) :
    CallsD Tryz.prog 204 #[.pointer (some a)] u w fun e u' w' => u' = u ∧ (e = .returned (.tuple #[]) ∧ w' = w.setCell a (.int .i32 0)) := by
  have hd := on_disable
  have he := on_enable
  have hr := on_release
  have hadd := run_call_add (P := Tryz.prog) Tryz.func245 (by kernel_rfl) (by kernel_rfl) (by kernel_rfl) .i32 (by kernel_rfl) (y := -1) (s := 0) hc hz (by simp [go_sem]; rfl)
  have hcv := run_convert_to_unsafe (P := Tryz.prog) (src := 298) (dst := 302) Tryz.underlying298 Tryz.underlying302 (by kernel_rfl) hc
  go_enter_d Tryz.func204, Tryz.ntmps204
  go_wp2
  go_end0
  go_wp2
  go_end0
  exact ⟨rfl, rfl⟩
set_option maxRecDepth 100000 in
theorem lock_free (a : Addr) (w : World) (hc : w.cell? a = some (.int .i32 0)) (hz : w.frozen? a = false) :
    Calls Tryz.prog 203 #[.pointer (some a)] w fun e w' => e = .returned (.tuple #[]) ∧ w' = w.setCell a (.int .i32 1) := by
  have hd := on_disable
  have he := on_enable
  have ha := on_acquire
  have hcas := run_call_cas_hit (P := Tryz.prog) Tryz.func240 (by kernel_rfl) (by kernel_rfl) (by kernel_rfl) .i32 (by kernel_rfl) (y := 1) hc hz
  have hc' : (w.setCell a (.int .i32 1)).cell? a = some (.int .i32 1) := World.cell?_setCell_same w a _ hc
  have hcv := run_convert_to_unsafe (P := Tryz.prog) (src := 298) (dst := 302) Tryz.underlying298 Tryz.underlying302 (by kernel_rfl) hc'
  go_enter Tryz.func203, Tryz.ntmps203
  go_wp2
  first | go_end0 | (simp only [Exit.inBlock, Exit.then]; refine bodyPost_ret (results_none rfl _ _ _) rfl ?_) | refine bodyPost_ret (results_none rfl _ _ _) rfl ?_
  go_wp2
  go_end0
  exact ⟨rfl, rfl⟩
section
variable {g gs gj gt gm sq : Nat} {lv ov : Bool} {dn ms : Int} {cv : Value} {D : Dk} {w : World}
theorem TBlkS.lock (h : TBlkS gt gj gm dn ms ov w) (x : Int) : TBlkS gt gj gm dn x ov (w.setCell ⟨gt, 3, none⟩ (.int .i32 x)) := heap_setCell h _
theorem TBlkS.done (h : TBlkS gt gj gm dn ms ov w) (x : Int) : TBlkS gt gj gm x ms ov (w.setCell ⟨gt, 2, none⟩ (.int .u32 x)) := heap_setCell h _
theorem TBlkS.over (h : TBlkS gt gj gm dn ms ov w) (x : Bool) : TBlkS gt gj gm dn ms x (w.setCell ⟨gt, 5, none⟩ (.bool x)) := heap_setCell h _
set_option maxRecDepth 100000 in
set_option maxHeartbeats 1600000 in
theorem slow_ok (ht : TBlkS gt gj gm 0 0 ov w) (f : Nat) (cap : Array Value) (P : World → Prop)
    (hcl : Calls Tryz.prog 87 cap (w.setCell ⟨gt, 3, none⟩ (.int .i32 1)) fun e w' => e = .returned (.tuple #[]) ∧ TBlkS gt gj gm 0 1 true w' ∧ P w') (hcap : ∃ x y, cap = #[x, y]) :
    Calls Tryz.prog 151 #[.pointer (some ⟨gt, 2, none⟩), .func (.func 87) #[] cap] w fun e w' => e = .returned (.tuple #[]) ∧ ∃ w2, P w2 ∧ TBlkS gt gj gm 0 1 true w2 ∧ w' = (w2.drew.setCell ⟨gt, 2, none⟩ (.int .u32 1)).setCell ⟨gt, 3, none⟩ (.int .i32 0) := by
  obtain ⟨x, y, rfl⟩ := hcap
  obtain ⟨c0, c1, c2, c3, c5⟩ := ht.cells
  have hk := lock_free ⟨gt, 3, none⟩ w c3 (ht.nofz 3)
  obtain ⟨d0, d1, d2, d3, d5⟩ := (ht.lock 1).cells
  have hl := bool_load ⟨gt, 2, none⟩ false (w.setCell ⟨gt, 3, none⟩ (.int .i32 1)) d2
  have hnot : ∀ (x : Bool) (w : World), (Op.unary .not (.bool x)).run Tryz.prog w = .ok (.bool (!x)) w := fun _ _ => rfl
  generalize w.setCell ⟨gt, 3, none⟩ (.int .i32 1) = w1 at *
  have HC := Lib.hid hcl
  clear hcl ht
  go_enter_defers Tryz.func151, Tryz.ntmps151
  go_wp2_with (first
    | (go_at_call 203; refine hk.mono ?_; rintro e w' ⟨rfl, rfl⟩)
    | (go_at_call 83; refine hl.mono ?_; rintro e w' ⟨rfl, rfl⟩)
    | (go_at_call 87; refine HC.out.mono ?_; rintro e w2 ⟨rfl, hT2, hP2⟩))
  obtain ⟨t0, t1, t2, t3, t5⟩ := hT2.cells
  refine leaves_cons (f := 89) (args := #[.pointer (some ⟨gt, 2, none⟩), .bool true]) (by simp) (by simp [go_sem]) ?_
  refine (store_deferred ⟨gt, 2, none⟩ _ .returning _ t2 (hT2.nofz 2)).mono ?_
  rintro e u' w'' ⟨rfl, rfl, rfl⟩
  have hT3 : TBlkS gt gj gm 1 1 true (w2.drew.setCell ⟨gt, 2, none⟩ (.int .u32 1)) := TBlkS.done (w := w2.drew) hT2 1
  refine leaves_cons (f := 204) (args := #[.pointer (some ⟨gt, 3, none⟩)]) (by simp [settle]) (by simp [go_sem]) ?_
  refine (unlock_deferred ⟨gt, 3, none⟩ _ _ hT3.cells.2.2.2.1 (hT3.nofz 3)).mono ?_
  rintro e u' w'' ⟨rfl, rfl, rfl⟩
  simp [Leaves, settle, results, Tryz.results151]
  exact ⟨w2, hP2, hT2, rfl⟩
end
end Go.Proofs.YtnbonhinpepgoaaGreat
end
section
set_option linter.unusedVariables false
namespace Go.Proofs.YtnbonhinpepgoaaGreat
open Go.RowKit Go.Maps
structure TxR (g gs gj gt gm n sq : Nat) (lv ov : Bool) (dn ms : Int) (cv : Value) (D : Dk) (q : Ents) (w : World) : Prop where
  t : TBlkS gt gj gm dn ms ov w
  j : JBlk gj g sq lv w
  d : DRep g gs cv D w
  m : w.ownsMap Tryz.prog 3 rowR gm n (txD q.l)
  e : EntsOk D.st.length w q
  tj : gt ≠ gj
  tm : gt ≠ gm
  jm : gj ≠ gm
  ft : ¬ Foot g gs cv gt
  fj : ¬ Foot g gs cv gj
  fm : ¬ Foot g gs cv gm
  ne : ∀ x ∈ q, ¬ Foot g gs cv x.2 ∧ x.2 ≠ gj ∧ x.2 ≠ gt ∧ x.2 ≠ gm
def TFoot (g gs gj gt gm : Nat) (cv : Value) (q : Ents) (k : Nat) : Prop := Foot g gs cv k ∨ k = gj ∨ k = gt ∨ k = gm ∨ ∃ x ∈ q, x.2 = k
section
variable {g gs gj gt gm n sq : Nat} {lv ov : Bool} {dn ms : Int} {cv : Value} {D : Dk} {q : Ents} {w w' : World}
theorem own_map_fr {b n : Nat} {X : DataW Unit} {M : Nat → Prop} (h : w.ownsMap Tryz.prog 3 rowR b n X) (hf : Fr M w w') (hM : ¬ M b) : w'.ownsMap Tryz.prog 3 rowR b n X := by
  obtain ⟨es, clock, hb, F, hs, hD⟩ := h
  exact ⟨es, clock, hf.heap hb hM, F, hs, hD⟩
theorem EntsOk.fr {N : Nat} {M : Nat → Prop} (h : EntsOk N w q) (hf : Fr M w w') (hM : ∀ x ∈ q, ¬ M x.2) : EntsOk N w' q :=
  ⟨h.rise, h.len, fun x hx => by
    obtain ⟨h1, h2, h3, h4, h5⟩ := h.mem x hx
    exact ⟨h1, h2, h3, Nat.lt_of_lt_of_le h4 hf.size, fun j v hv => hf.cell (h5 j v hv) (hM x hx)⟩⟩
theorem TxR.fr {M : Nat → Prop} (h : TxR g gs gj gt gm n sq lv ov dn ms cv D q w) (hf : Fr M w w') (hM : ∀ k, TFoot g gs gj gt gm cv q k → ¬ M k) : TxR g gs gj gt gm n sq lv ov dn ms cv D q w' :=
  ⟨h.t.fr hf (hM _ (.inr (.inr (.inl rfl)))), h.j.fr hf (hM _ (.inr (.inl rfl))), h.d.fr hf (fun k hk => hM k (.inl hk)), own_map_fr h.m hf (hM _ (.inr (.inr (.inr (.inl rfl))))), h.e.fr hf (fun x hx => hM _ (.inr (.inr (.inr (.inr ⟨x, hx, rfl⟩))))), h.tj, h.tm, h.jm, h.ft, h.fj, h.fm, h.ne⟩
theorem TxR.frF (h : TxR g gs gj gt gm n sq lv ov dn ms cv D q w) (hf : Fr (fun _ => False) w w') : TxR g gs gj gt gm n sq lv ov dn ms cv D q w' := h.fr hf (fun _ _ => id)
theorem TxR.lt (h : TxR g gs gj gt gm n sq lv ov dn ms cv D q w) {k : Nat} (hk : TFoot g gs gj gt gm cv q k) : k < w.heap.size := by
  rcases hk with hk | rfl | rfl | rfl | ⟨x, hx, rfl⟩
  · exact h.d.lt hk
  · exact block_lt h.j
  · exact block_lt h.t
  · exact h.m.lt
  · exact (h.e.mem x hx).2.2.2.1
theorem TxR.turn (h : TxR g gs gj gt gm n sq lv ov dn ms cv D q w) {i : Nat} {v : Value} {ov' : Bool} {dn' ms' : Int} (ht : TBlkS gt gj gm dn' ms' ov' (w.setCell ⟨gt, i, none⟩ v)) : TxR g gs gj gt gm n sq lv ov' dn' ms' cv D q (w.setCell ⟨gt, i, none⟩ v) := by
  have hf := fr_set w gt i v
  exact ⟨ht, h.j.fr hf (fun e => h.tj e.symm), h.d.fr hf (fun k hk e => h.ft (e ▸ hk)), own_map_fr h.m hf (fun e => h.tm e.symm), h.e.fr hf (fun x hx e => (h.ne x hx).2.2.1 e), h.tj, h.tm, h.jm, h.ft, h.fj, h.fm, h.ne⟩
theorem TxR.commit (h : TxR g gs gj gt gm n sq lv ov dn ms cv D q w) (hd : D.down = false) (hmany : D.ca.length < 800000) :
    Calls Tryz.prog 88 #[.pointer (some ⟨gt, 0, none⟩)] w fun e w' => e = .returned (.int .i64 (commitF D sq q.p).1) ∧ ∃ cv', DRep g gs cv' (commitF D sq q.p).2.1 w' ∧ JBlk gj g (commitF D sq q.p).2.2.1 ((commitF D sq q.p).2.2.2 || lv) w' ∧ Fr (fun k => Foot g gs cv k ∨ k = gj) w w' ∧ Loc w cv cv' :=
  (commit_ok h.t h.j h.d hd hmany h.m h.e (fun x hx => ⟨(h.ne x hx).1, (h.ne x hx).2.1⟩) h.fj h.ft h.tj).mono fun e w' ⟨h1, cv', h2, h3, h4⟩ => ⟨h1, cv', h2, by cases hx : (commitF D sq q.p).2.2.2 <;> simpa [hx] using h3, h4⟩
set_option maxRecDepth 100000 in
set_option maxHeartbeats 1600000 in
theorem closure_ok (h : TxR g gs gj gt gm n sq lv ov dn ms cv D q w) (hd : D.down = false) (hmany : D.ca.length < 800000) (kb ke : Nat) (x : Value) (T : TypeId) (hb : w.cell? ⟨kb, 0, none⟩ = some (.pointer (some ⟨gt, 0, none⟩))) (he : w.heap[ke]? = some (.cells #[x] T (0, 0)))
    (hkb : ¬ TFoot g gs gj gt gm cv q kb) (hke : ¬ TFoot g gs gj gt gm cv q ke) :
    Calls Tryz.prog 87 #[.pointer (some ⟨kb, 0, none⟩), .pointer (some ⟨ke, 0, none⟩)] w fun e w' => e = .returned (.tuple #[]) ∧ TBlkS gt gj gm dn ms true w' ∧ (w'.cell? ⟨ke, 0, none⟩ = some (.int .i64 (commitF D sq q.p).1) ∧ ∃ cv', DRep g gs cv' (commitF D sq q.p).2.1 w' ∧ JBlk gj g (commitF D sq q.p).2.2.1 ((commitF D sq q.p).2.2.2 || lv) w' ∧ Fr (fun k => Foot g gs cv k ∨ k = gj ∨ k = gt ∨ k = ke) w w' ∧ Loc w cv cv') := by
  have hs := h.turn (h.t.over true)
  have hf := fr_set w gt 5 (.bool true)
  have hc := hs.commit hd hmany
  have c5 := h.t.cells.2.2.2.2
  have z5 := h.t.nofz 5
  have hkb' : ¬ kb = gt := fun e => hkb (.inr (.inr (.inl e)))
  have hke' : ¬ ke = gt := fun e => hke (.inr (.inr (.inl e)))
  have hb2 := hf.cell hb hkb'
  have he2 := hf.heap he hke'
  have hT2 := hs.t
  obtain ⟨R, hR⟩ : ∃ R, commitF D sq q.p = R := ⟨_, rfl⟩
  rw [hR] at hc ⊢
  obtain ⟨rc, rD, rs, rd⟩ := R
  simp only at hc ⊢
  have HC := Lib.hid hc
  have HF := Lib.hid hf
  have HT2 := Lib.hid hT2
  have HE2 := Lib.hid he2
  have H := Lib.hid h
  have HKE := Lib.hid (show ¬ (Foot g gs cv ke ∨ ke = gj) from fun e => hke (e.imp id Or.inl))
  have HLT := Lib.hid (fun k hk => h.lt (k := k) hk)
  have HKL := Lib.hid (block_lt he)
  clear hR hc hf hT2 he2 h hs
  go_enter Tryz.func87, Tryz.ntmps87
  have HGT := Lib.hid (show ¬ (Foot g gs cv gt ∨ gt = gj) from fun e => e.elim H.out.ft H.out.tj)
  go_wp2_with (go_at_call 88; refine HC.out.mono ?_; rintro e w2 ⟨rfl, cv', hD2, hJ2, hF2, hL2⟩; have hT3 := HT2.out.fr hF2 HGT.out; have hE3 := hF2.heap HE2.out HKE.out; have e3 : w2.cell? ⟨ke, 0, none⟩ = some x := cell_of_row w2 ke 0 _ _ _ hE3; have z3 : w2.frozen? ⟨ke, 0, none⟩ = false := (by simp [World.frozen?, hE3]); have HT3 := Lib.hid hT3; have HE3 := Lib.hid hE3; have HD2 := Lib.hid hD2; have HJ2 := Lib.hid hJ2; have HL2 := Lib.hid hL2; have HF2 := Lib.hid hF2; clear hT3 hE3 hD2 hJ2 hL2 hF2)
  go_end0
  have hs := fr_set w2 ke 0 (.int .i64 rc)
  have hz := HF.out.size
  have hz1 : (w.setCell ⟨gt, 5, none⟩ (.bool true)).heap.size = w.heap.size := by simp
  refine ⟨rfl, HT3.out.fr hs (fun e => hke' e.symm), ?_, cv', HD2.out.fr hs (fun k hk e => ?_), HJ2.out.fr hs (fun e => HKE.out (.inr e.symm)), ?_, fun k hk => ?_⟩
  · exact World.cell?_setCell_same _ _ _ e3
  · have hk' : cv'.ownBlock = some ke → False := fun h => by
      rcases HL2.out ke h with h1 | h1
      · exact HKE.out (.inl (.inr (.inr h1)))
      · have := HKL.out; omega
    rcases hk with rfl | rfl | hk
    · exact HKE.out (.inl (.inl e.symm))
    · exact HKE.out (.inl (.inr (.inl e.symm)))
    · exact hk' (e ▸ hk)
  · have f1 : Fr (fun k => Foot g gs cv k ∨ k = gj ∨ k = gt ∨ k = ke) w (w.setCell ⟨gt, 5, none⟩ (.bool true)) := HF.out.mono (fun k _ h => .inr (.inr (.inl h)))
    exact (f1.then_ HF2.out (fun k _ h => h.elim .inl (fun h => .inr (.inl h)))).then_ hs (fun k _ h => .inr (.inr (.inr h)))
  · rcases HL2.out k hk with h1 | h1
    · exact .inl h1
    · right; omega
theorem do_ok (ht : TBlkS gt gj gm 0 0 ov w) (cap : Array Value) (P : World → Prop)
    (hcl : Calls Tryz.prog 87 cap (w.setCell ⟨gt, 3, none⟩ (.int .i32 1)) fun e w' => e = .returned (.tuple #[]) ∧ TBlkS gt gj gm 0 1 true w' ∧ P w') (hcap : ∃ x y, cap = #[x, y]) :
    Calls Tryz.prog 86 #[.pointer (some ⟨gt, 2, none⟩), .func (.func 87) #[] cap] w fun e w' => e = .returned (.tuple #[]) ∧ ∃ w2, P w2 ∧ TBlkS gt gj gm 0 1 true w2 ∧ w' = (w2.drew.setCell ⟨gt, 2, none⟩ (.int .u32 1)).setCell ⟨gt, 3, none⟩ (.int .i32 0) := by
  have hs := slow_ok ht 0 cap P hcl hcap
  have hl := bool_load ⟨gt, 2, none⟩ false w ht.cells.2.2.1
  have hnot : ∀ (x : Bool) (w : World), (Op.unary .not (.bool x)).run Tryz.prog w = .ok (.bool (!x)) w := fun _ _ => rfl
  clear hcl ht
  go_enter Tryz.func86, Tryz.ntmps86
  go_wp2_with (first
    | (go_at_call 83; refine hl.mono ?_; rintro e w' ⟨rfl, rfl⟩)
    | (go_at_call 151; refine hs.mono ?_; rintro e w' ⟨rfl, hw'⟩; have HW := Lib.hid hw'; clear hw'))
  go_end0
  exact ⟨rfl, HW.out⟩
set_option maxRecDepth 100000 in
set_option maxHeartbeats 1600000 in
theorem TxR.commit1 (h : TxR g gs gj gt gm n sq false ov 0 0 cv D q w) (hd : D.down = false) (hmany : D.ca.length < 800000) :
    Calls Tryz.prog 21 #[.pointer (some ⟨gt, 0, none⟩)] w fun e w' => e = .returned (.int .i64 (commitF D sq q.p).1) ∧ TBlkS gt gj gm 1 0 true w' ∧ ∃ cv', DRep g gs cv' (commitF D sq q.p).2.1 w' ∧ JBlk gj g (commitF D sq q.p).2.2.1 (commitF D sq q.p).2.2.2 w' ∧ Fr (fun k => Foot g gs cv k ∨ k = gj ∨ k = gt) w w' ∧ Loc w cv cv' ∧ ¬ Foot g gs cv' gj := by
  have hmf : ∀ (fn : Fn) (first cap : Array Value) (w : World), (Instr.makeFunc fn first cap).run Tryz.prog w = .ok (.func fn first cap) w := fun _ _ _ _ => rfl
  obtain ⟨w1, hw1⟩ : ∃ w1, w.alloc (.cells #[.pointer (some ⟨gt, 0, none⟩)] 37) = w1 := ⟨_, rfl⟩
  have hF1 : Fr (fun _ => False) w w1 := by rw [← hw1]; exact (Fr.refl _ _).alloc _
  have hB1 : w1.heap[w.heap.size]? = some (.cells #[.pointer (some ⟨gt, 0, none⟩)] 37 (0, 0)) := by rw [← hw1]; exact heap_alloc_new w _
  have hZ1 : w1.heap.size = w.heap.size + 1 := by rw [← hw1]; simp
  have p0 : w1.cell? ⟨w.heap.size, 0, none⟩ = some (.pointer (some ⟨gt, 0, none⟩)) := cell_of_row w1 _ 0 _ _ _ hB1
  obtain ⟨w2, hw2⟩ : ∃ w2, w1.alloc (.cells #[.int .i64 51] 26) = w2 := ⟨_, rfl⟩
  have hF2 : Fr (fun _ => False) w1 w2 := by rw [← hw2]; exact (Fr.refl _ _).alloc _
  have hB2 : w2.heap[w.heap.size + 1]? = some (.cells #[.int .i64 51] 26 (0, 0)) := by rw [← hw2, ← hZ1]; exact heap_alloc_new w1 _
  have hZ2 : w2.heap.size = w.heap.size + 2 := by rw [← hw2]; simp [hZ1]
  obtain ⟨c0, c1, c2, c3, c5⟩ := (h.t.fr hF1 id).cells
  obtain ⟨j0, j1, j2⟩ := (h.j.fr hF1 id).cells
  have hl := bool_load ⟨gj, 2, none⟩ false w1 j2
  have hF12 := hF1.trans hF2
  have h2 := h.frF hF12
  have hfs := fr_set w2 gt 3 (.int .i32 1)
  have p0b : w2.cell? ⟨w.heap.size, 0, none⟩ = some (.pointer (some ⟨gt, 0, none⟩)) := hF2.cell p0 id
  have hgt := h.lt (.inr (.inr (.inl rfl)))
  have p0' : w1.cell? ⟨gt, 0, none⟩ = some (.pointer (some ⟨gj, 0, none⟩)) := c0
  obtain ⟨d0, d1, d2, d3, d5⟩ := h2.t.cells
  have hcl := closure_ok (h2.turn (h2.t.lock 1)) hd hmany w.heap.size (w.heap.size + 1) (.int .i64 51) 26 (hfs.cell (hF2.cell p0 id) (by show ¬ w.heap.size = gt; omega)) (hfs.heap hB2 (by show ¬ w.heap.size + 1 = gt; omega)) (fun hk => by have := h.lt hk; omega) (fun hk => by have := h.lt hk; omega)
  have hdo := do_ok h2.t _ _ hcl ⟨_, _, rfl⟩
  obtain ⟨R, hR⟩ : ∃ R, commitF D sq q.p = R := ⟨_, rfl⟩
  rw [hR] at hdo ⊢
  obtain ⟨rc, rD, rs, rd⟩ := R
  simp only at hdo ⊢
  have HDO := Lib.hid hdo
  have H := Lib.hid h
  have HF12 := Lib.hid hF12
  have HFS := Lib.hid hfs
  have HZ2 := Lib.hid hZ2
  clear hR hdo hcl h h2 hF1 hF2 hF12 hfs hB1 hB2 hZ2 c1 c2 c3 c5 p0' d0 d1 d2 d3 d5
  go_enter Tryz.func21, Tryz.ntmps21
  go_wp2_with (first
    | (go_at_call 83; refine hl.mono ?_; rintro e w' ⟨rfl, rfl⟩)
    | (go_at_call 86; refine HDO.out.mono ?_; rintro e w4 ⟨rfl, w3, ⟨hE3, cv', hD3, hJ3, hF3, hL3⟩, hT3, hw4⟩; have e4 : w4.cell? ⟨w.heap.size + 1, 0, none⟩ = some (.int .i64 rc) := (by rw [hw4]; exact ((((Fr.refl (fun k => k = gt) w3).drew).trans (fr_set _ gt 2 _)).trans (fr_set _ gt 3 _)).cell hE3 (by show ¬ w.heap.size + 1 = gt; omega)); have HW4 := Lib.hid hw4; clear hw4; have HE3 := Lib.hid hE3; have HD3 := Lib.hid hD3; have HJ3 := Lib.hid hJ3; have HF3 := Lib.hid hF3; have HL3 := Lib.hid hL3; have HT3 := Lib.hid hT3; clear hE3 hD3 hJ3 hF3 hL3 hT3))
  go_ret
  have hw4 := HW4.out
  subst hw4
  have hz1 : (w2.setCell ⟨gt, 3, none⟩ (.int .i32 1)).heap.size = w2.heap.size := by simp
  have hz2 := HZ2.out
  have hD : ∀ k, Foot g gs cv' k → ¬ k = gt ∧ ¬ k = gj := fun k hk => by
    rcases hk with rfl | rfl | hk
    · exact ⟨fun e => H.out.ft (.inl e.symm), fun e => H.out.fj (.inl e.symm)⟩
    · exact ⟨fun e => H.out.ft (.inr (.inl e.symm)), fun e => H.out.fj (.inr (.inl e.symm))⟩
    · rcases HL3.out k hk with h1 | h1
      · exact ⟨fun e => H.out.ft (.inr (.inr (e ▸ h1))), fun e => H.out.fj (.inr (.inr (e ▸ h1)))⟩
      · have h3 := block_lt H.out.j
        exact ⟨fun e => by omega, fun e => by omega⟩
  have hs := (((Fr.refl (fun k => k = gt) w3).drew).trans (fr_set _ gt 2 (.int .u32 1))).trans (fr_set _ gt 3 (.int .i32 0))
  refine ⟨rfl, TBlkS.lock (TBlkS.done (w := w3.drew) HT3.out 1) 0, cv', HD3.out.fr hs (fun k hk => (hD k hk).1), ?_, ?_, fun k hk => ?_, fun hf => (hD _ hf).2 rfl⟩
  · have := HJ3.out.fr hs (fun e => H.out.tj e.symm)
    simpa using this
  · have f1 : Fr (fun k => Foot g gs cv k ∨ k = gj ∨ k = gt) w w2 := (Fr.refl _ _).then_ HF12.out (fun k _ e => e.elim)
    refine ((f1.then_ HFS.out (fun k _ h => .inr (.inr h))).then_ HF3.out (fun k hk h => ?_)).then_ hs (fun k _ h => .inr (.inr h))
    rcases h with h | h | h | h
    · exact .inl h
    · exact .inr (.inl h)
    · exact .inr (.inr h)
    · omega
  · rcases HL3.out k hk with h1 | h1
    · exact .inl h1
    · right; omega
end
end Go.Proofs.YtnbonhinpepgoaaGreat
end
section
set_option linter.unusedVariables false
namespace Go.Proofs.YtnbonhinpepgoaaGreat
open Go.RowKit Go.Maps
def insK {α : Type} (f : α → Nat) (x : α) : List α → List α
  | [] => [x]
  | y :: r => if f x < f y then x :: y :: r else y :: insK f x r
def putK {α : Type} (f : α → Nat) (l : List α) (x : α) : List α := insK f x (l.filter fun y => decide (f y ≠ f x))
section
variable {α β : Type}
theorem insK_map (f : α → Nat) (g : β → Nat) (h : α → β) (e : ∀ x, g (h x) = f x) (x : α) : ∀ l : List α, (insK f x l).map h = insK g (h x) (l.map h)
  | [] => rfl
  | y :: r => by
    rw [List.map_cons]
    unfold insK
    rw [e, e]
    by_cases hc : f x < f y
    · simp [hc]
    · simp only [hc, if_false, List.map_cons]
      rw [insK_map f g h e x r]
theorem putK_map (f : α → Nat) (g : β → Nat) (h : α → β) (e : ∀ x, g (h x) = f x) (l : List α) (x : α) : (putK f l x).map h = putK g (l.map h) (h x) := by
  unfold putK
  rw [insK_map f g h e, List.filter_map]
  congr 2
  refine List.filter_congr fun y _ => ?_
  simp only [Function.comp, e]
theorem insK_mem (f : α → Nat) (x y : α) : ∀ l : List α, y ∈ insK f x l ↔ y = x ∨ y ∈ l
  | [] => by simp [insK]
  | z :: r => by
    unfold insK
    by_cases hc : f x < f z
    · simp [hc]
    · simp only [hc, if_false, List.mem_cons, insK_mem f x y r]
      constructor
      · rintro (h | h | h)
        · exact .inr (.inl h)
        · exact .inl h
        · exact .inr (.inr h)
      · rintro (h | h | h)
        · exact .inr (.inl h)
        · exact .inl h
        · exact .inr (.inr h)
theorem insK_len (f : α → Nat) (x : α) : ∀ l : List α, (insK f x l).length = l.length + 1
  | [] => rfl
  | z :: r => by
    unfold insK
    by_cases hc : f x < f z
    · simp [hc]
    · simp only [hc, if_false, List.length_cons, insK_len f x r]
theorem insK_rise (f : α → Nat) (x : α) : ∀ l : List α, (∀ y ∈ l, f y ≠ f x) → (l.Pairwise fun p q => f p < f q) → (insK f x l).Pairwise fun p q => f p < f q
  | [], _, _ => by simp [insK]
  | z :: r, hn, h => by
    have h1 := List.pairwise_cons.1 h
    unfold insK
    by_cases hc : f x < f z
    · simp only [hc, if_true]
      refine List.pairwise_cons.2 ⟨fun y hy => ?_, h⟩
      rcases List.mem_cons.1 hy with rfl | hy
      · exact hc
      · exact Nat.lt_trans hc (h1.1 y hy)
    · simp only [hc, if_false]
      refine List.pairwise_cons.2 ⟨fun y hy => ?_, insK_rise f x r (fun y hy => hn y (List.mem_cons_of_mem _ hy)) h1.2⟩
      rcases (insK_mem f x y r).1 hy with rfl | hy
      · have := hn z (List.mem_cons_self ..)
        omega
      · exact h1.1 y hy
theorem putK_rise (f : α → Nat) (l : List α) (x : α) (h : l.Pairwise fun p q => f p < f q) : (putK f l x).Pairwise fun p q => f p < f q :=
  insK_rise f x _ (fun y hy => by have := (List.mem_filter.1 hy).2; simpa using this) (h.filter _)
theorem putK_mem (f : α → Nat) (l : List α) (x y : α) : y ∈ putK f l x ↔ y = x ∨ y ∈ l ∧ f y ≠ f x := by
  unfold putK
  rw [insK_mem, List.mem_filter]
  simp
theorem filter_len {f : α → Nat} {a : Nat} : ∀ {l : List α}, (l.Pairwise fun p q => f p < f q) → (∃ y ∈ l, f y = a) → (l.filter fun y => decide (f y ≠ a)).length + 1 = l.length
  | [], _, h => by obtain ⟨y, hy, _⟩ := h; cases hy
  | z :: r, hp, h => by
    have h1 := List.pairwise_cons.1 hp
    by_cases hz : f z = a
    · have hr : r.filter (fun y => decide (f y ≠ a)) = r := List.filter_eq_self.2 fun y hy => by have := h1.1 y hy; simp; omega
      rw [List.filter_cons, if_neg (by simp [hz]), hr, List.length_cons]
    · obtain ⟨y, hy, hya⟩ := h
      have hy' : y ∈ r := by
        rcases List.mem_cons.1 hy with rfl | hy
        · exact absurd hya hz
        · exact hy
      rw [List.filter_cons, if_pos (by simp [hz]), List.length_cons, filter_len h1.2 ⟨y, hy', hya⟩, List.length_cons]
theorem putK_len (f : α → Nat) (l : List α) (x : α) (h : l.Pairwise fun p q => f p < f q) : (putK f l x).length = if l.any (fun y => decide (f y = f x)) then l.length else l.length + 1 := by
  unfold putK
  rw [insK_len]
  by_cases hc : l.any (fun y => decide (f y = f x)) = true
  · rw [if_pos hc]
    obtain ⟨y, hy, he⟩ := List.any_eq_true.1 hc
    exact filter_len h ⟨y, hy, by simpa using he⟩
  · rw [if_neg hc]
    have : l.filter (fun y => decide (f y ≠ f x)) = l := List.filter_eq_self.2 fun y hy => by
      have h2 : ¬ f y = f x := fun e => hc (List.any_eq_true.2 ⟨y, hy, by simpa using e⟩)
      simpa using h2
    rw [this]
end
def getP (l : List Put) (a : Nat) : Option (List Nat) := (l.find? fun p => decide (p.1 = a)).map (·.2)
def putP (l : List Put) (a : Nat) (b : List Nat) : List Put := putK (fun p => p.1) l (a, b)
theorem find_insK {α : Type} (f : α → Nat) (x : α) (a : Nat) : ∀ l : List α, (∀ y ∈ l, f y ≠ f x) → (insK f x l).find? (fun y => decide (f y = a)) = if f x = a then some x else l.find? fun y => decide (f y = a)
  | [], _ => by
    by_cases h : f x = a
    · simp [insK, h]
    · simp [insK, h]
  | z :: r, hn => by
    have hz := hn z (List.mem_cons_self ..)
    unfold insK
    by_cases hc : f x < f z
    · simp only [hc, if_true]
      by_cases h : f x = a
      · simp [h]
      · simp [h]
    · simp only [hc, if_false]
      rw [List.find?_cons, find_insK f x a r (fun y hy => hn y (List.mem_cons_of_mem _ hy)), List.find?_cons]
      by_cases h : f x = a
      · have : ¬ f z = a := fun e => hz (by omega)
        simp [h, this]
      · simp [h]
theorem find_filter {α : Type} (f : α → Nat) (a b : Nat) (h : ¬ a = b) (l : List α) : (l.filter fun y => decide (f y ≠ b)).find? (fun y => decide (f y = a)) = l.find? fun y => decide (f y = a) := by
  rw [List.find?_filter]
  congr 1
  funext y
  by_cases h1 : f y = a
  · simp [h1, h]
  · simp [h1]
theorem getP_put (l : List Put) (a : Nat) (b : List Nat) (c : Nat) : getP (putP l a b) c = if a = c then some b else getP l c := by
  unfold getP putP putK
  rw [find_insK (fun p : Put => p.1) (a, b) c _ (fun y hy => by have := (List.mem_filter.1 hy).2; simpa using this)]
  by_cases h : a = c
  · simp [h]
  · simp only [h, if_false]
    rw [find_filter (fun p : Put => p.1) c a (fun e => h e.symm)]
def Ents.put (q : Ents) (a : Nat) (b : List Nat) (k : Nat) : Ents := putK (fun x => x.1.1) q ((a, b), k)
theorem Ents.put_p (q : Ents) (a : Nat) (b : List Nat) (k : Nat) : (q.put a b k).p = putP q.p a b := putK_map _ _ _ (fun _ => rfl) _ _
theorem txIns_K (x : Nat × Nat) : ∀ l : List (Nat × Nat), txIns x l = insK (fun p => p.1) x l
  | [] => rfl
  | y :: r => by unfold txIns insK; rw [txIns_K x r]
theorem Ents.put_l (q : Ents) (a : Nat) (b : List Nat) (k : Nat) : (q.put a b k).l = txPut q.l a k := by
  unfold Ents.put Ents.l txPut
  rw [putK_map (fun x : Put × Nat => x.1.1) (fun p : Nat × Nat => p.1) (fun x => (x.1.1, x.2)) (fun _ => rfl), putK, txIns_K]
theorem Ents.has (q : Ents) (a : Nat) : Maps.has (txD q.l) (.int .i64 a) = (getP q.p a).isSome := by
  rw [txD_has, getP, Ents.l, Ents.p, List.find?_map, List.any_map, Option.isSome_map, Option.isSome_map]
  rw [Bool.eq_iff_iff, List.find?_isSome]
  simp [List.any_eq_true]
def viewP (D : Dk) (l : List Put) (a : Nat) : List Nat := (getP l a).getD (D.get a)
end Go.Proofs.YtnbonhinpepgoaaGreat
end
section
set_option linter.unusedVariables false
namespace Go.Proofs.YtnbonhinpepgoaaGreat
open Go.RowKit Go.Maps
section
variable {g gs gj gt gm n sq : Nat} {lv ov : Bool} {dn ms : Int} {cv : Value} {D : Dk} {q : Ents} {w w' : World}
theorem Ents.l_len (q : Ents) : q.l.length = q.length := List.length_map ..
theorem Ents.p_len (q : Ents) : q.p.length = q.length := List.length_map ..
theorem TxR.write (h : TxR g gs gj gt gm n sq false false 0 0 cv D q w) (hn : n < 1000000) (a : Nat) (h0 : 49 ≤ a) (h1 : a < D.st.length) (b : List Nat) (hb : IsSec b) (X : Option Addr) (cap : Nat) (hX : Has w X b) (hroom : (getP q.p a).isSome = true ∨ q.length < 48) :
    Calls Tryz.prog 19 #[.pointer (some ⟨gt, 0, none⟩), .int .i64 a, .slice X 512 cap] w fun e w' => e = .returned (.int .i64 0) ∧ ∃ k, w.heap.size ≤ k ∧ TxR g gs gj gt gm (n + 1) sq false false 0 0 cv D (q.put a b k) w' ∧ Fr (fun k => k = gm) w w' := by
  refine (twrite_ok h.t h.j h.d h.m hn a h0 h1 b hb X cap hX h.tm (by rw [Ents.has, Ents.l_len]; exact hroom)).mono ?_
  rintro e w' ⟨rfl, k, hk, hkz, hr, hkm, hm, hf⟩
  have hlt := fun j hj => h.lt (k := j) hj
  refine ⟨rfl, k, hk, ⟨h.t.fr hf h.tm, h.j.fr hf h.jm, h.d.fr hf (fun j hj e => h.fm (e ▸ hj)), by rw [Ents.put_l, ← txD_put]; exact hm, ⟨?_, ?_, ?_⟩, h.tj, h.tm, h.jm, h.ft, h.fj, h.fm, ?_⟩, hf⟩
  · rw [Ents.put_l, txPut, txIns_K]
    exact putK_rise (fun p : Nat × Nat => p.1) q.l (a, k) h.e.rise
  · have hl : (q.put a b k).length = if (getP q.p a).isSome then q.length else q.length + 1 := by
      rw [← Ents.l_len, Ents.put_l, txPut, txIns_K, ← Ents.has, txD_has, ← Ents.l_len]
      exact putK_len (fun p : Nat × Nat => p.1) q.l (a, k) h.e.rise
    rw [hl]
    have := h.e.len
    rcases hroom with hr | hr
    · rw [if_pos hr]; exact this
    · split <;> omega
  · intro x hx
    rcases (putK_mem _ _ _ _).1 hx with rfl | ⟨hx, _⟩
    · exact ⟨h0, h1, hb, hkz, hr⟩
    · obtain ⟨e1, e2, e3, e4, e5⟩ := h.e.mem x hx
      exact ⟨e1, e2, e3, Nat.lt_of_lt_of_le e4 hf.size, fun j v hv => hf.cell (e5 j v hv) (h.ne x hx).2.2.2⟩
  · intro x hx
    rcases (putK_mem _ _ _ _).1 hx with rfl | ⟨hx, _⟩
    · refine ⟨fun hf => ?_, fun e => ?_, fun e => ?_, hkm⟩
      · have := hlt k (.inl hf); omega
      · have := hlt gj (.inr (.inl rfl)); have : k = gj := e; omega
      · have := hlt gt (.inr (.inr (.inl rfl))); have : k = gt := e; omega
    · exact h.ne x hx
theorem getP_some {l : List Put} {a : Nat} {b : List Nat} (h : getP l a = some b) : (a, b) ∈ l := by
  unfold getP at h
  obtain ⟨p, hp, rfl⟩ := Option.map_eq_some_iff.1 h
  have h1 := List.find?_some hp
  have h2 := List.mem_of_find?_eq_some hp
  obtain rfl : p.1 = a := by simpa using h1
  exact h2
theorem TxR.sec (h : TxR g gs gj gt gm n sq lv ov dn ms cv D q w) {a : Nat} {b : List Nat} (hb : getP q.p a = some b) : IsSec b ∧ 49 ≤ a ∧ a < D.st.length := by
  obtain ⟨x, hx, hxe⟩ := List.mem_map.1 (getP_some hb)
  obtain ⟨e1, e2, e3, e4, e5⟩ := h.e.mem x hx
  have h1 : x.1.1 = a := by rw [hxe]
  have h2 : x.1.2 = b := by rw [hxe]
  exact ⟨h2 ▸ e3, h1 ▸ e1, h1 ▸ e2⟩
theorem TxR.viewSec (h : TxR g gs gj gt gm n sq lv ov dn ms cv D q w) {a : Nat} (ha : a < D.st.length) : IsSec (viewP D q.p a) := by
  unfold viewP
  cases hb : getP q.p a with
  | none => exact get_sec h.d.ok ha
  | some b => exact (h.sec hb).1
theorem TxR.ent (h : TxR g gs gj gt gm n sq lv ov dn ms cv D q w) {a : Nat} {b : List Nat} (hb : getP q.p a = some b) : ∃ k, (q.l.find? fun p => decide (p.1 = a)) = some (a, k) ∧ w.rangeAt k 0 (n8 b) ∧ k < w.heap.size := by
  obtain ⟨x, hx, hxe⟩ := List.mem_map.1 (getP_some hb)
  obtain ⟨e1, e2, e3, e4, e5⟩ := h.e.mem x hx
  obtain ⟨j, hj⟩ := List.getElem?_of_mem hx
  have h1 : x.1.1 = a := by rw [hxe]
  have h2 : x.1.2 = b := by rw [hxe]
  have hlj : q.l[j]? = some (x.1.1, x.2) := by rw [Ents.l, List.getElem?_map, hj]; rfl
  have := find_rise h.e.rise j _ hlj
  rw [h1] at this
  exact ⟨x.2, this, h2 ▸ e5, e4⟩
theorem TxR.read (h : TxR g gs gj gt gm n sq lv ov dn 0 cv D q w) (hd : D.down = false) (a : Nat) (h0 : 49 ≤ a) (h1 : a < D.st.length) :
    Calls Tryz.prog 109 #[.pointer (some ⟨gt, 0, none⟩), .int .i64 a] w fun e w' => ∃ k cap, e = .returned (.tuple #[.slice (some ⟨k, 0, none⟩) 512 cap, .int .i64 0]) ∧ Row8 w' k (viewP D q.p a) ∧ w.heap.size ≤ k ∧ 512 ≤ cap ∧ Fr (fun _ => False) w w' := by
  have hi := h.d.ok.hi
  unfold viewP
  cases hb : getP q.p a with
  | none => exact tread_miss h.t h.m h.j h.d a h0 h1 hd (by rw [Ents.has, hb]; rfl)
  | some b =>
    obtain ⟨k, hf, hr, hk⟩ := h.ent hb
    exact tread_hit h.t h.m a (by omega) k (by rw [Ents.has, hb]; rfl) (fun z => txD_at q.l a k hf z) b (h.sec hb).1 hr
theorem TxR.len (h : TxR g gs gj gt gm n sq lv ov dn 0 cv D q w) : Calls Tryz.prog 78 #[.pointer (some ⟨gt, 0, none⟩)] w fun e w' => e = .returned (.int .i64 q.p.length) ∧ w = w' := by
  have := tlen_ok h.t h.m
  rw [Ents.l_len] at this
  rw [Ents.p_len]
  exact this
structure JnR (g gs gj sq : Nat) (lv : Bool) (cv : Value) (D : Dk) (w : World) : Prop where
  j : JBlk gj g sq lv w
  d : DRep g gs cv D w
  fj : ¬ Foot g gs cv gj
theorem JnR.fr {M : Nat → Prop} (h : JnR g gs gj sq lv cv D w) (hf : Fr M w w') (hM : ∀ k, Foot g gs cv k ∨ k = gj → ¬ M k) : JnR g gs gj sq lv cv D w' :=
  ⟨h.j.fr hf (hM _ (.inr rfl)), h.d.fr hf (fun k hk => hM k (.inl hk)), h.fj⟩
theorem TxR.jn (h : TxR g gs gj gt gm n sq lv ov dn ms cv D q w) : JnR g gs gj sq lv cv D w := ⟨h.j, h.d, h.fj⟩
theorem JnR.begin_ (h : JnR g gs gj sq lv cv D w) :
    Calls Tryz.prog 18 #[.pointer (some ⟨gj, 0, none⟩)] w fun e w' => ∃ gt gm, e = .returned (.pointer (some ⟨gt, 0, none⟩)) ∧ TxR g gs gj gt gm 0 sq lv false 0 0 cv D [] w' ∧ w.heap.size ≤ gt ∧ w.heap.size ≤ gm ∧ Fr (fun _ => False) w w' := by
  refine (begin_ok rowR gj w).mono ?_
  rintro e w' ⟨gt, gm, rfl, hT, hM, h1, h2, h3, h4, h5, hF⟩
  have hlt := fun k (hk : Foot g gs cv k) => h.d.lt hk
  have hjl := block_lt h.j
  exact ⟨gt, gm, rfl, ⟨hT, h.j.fr hF id, h.d.fr hF (fun _ _ => id), hM, ⟨List.Pairwise.nil, Nat.zero_le _, fun x hx => nomatch hx⟩, by omega, h3, by omega, fun hf => by have := hlt _ hf; omega, h.fj, fun hf => by have := hlt _ hf; omega, fun x hx => nomatch hx⟩, h1, h2, hF⟩
end
end Go.Proofs.YtnbonhinpepgoaaGreat
end
section
set_option linter.unusedVariables false
namespace Go.Proofs.YtnbonhinpepgoaaGreat
open Go.RowKit Go.Maps
def bitB (b : List Nat) (i : Nat) : Bool := (b.getD (i / 8) 0).testBit (i % 8)
theorem nat_and_pow (x r : Nat) : x &&& 2 ^ r = if x.testBit r then 2 ^ r else 0 := by
  refine Nat.eq_of_testBit_eq fun j => ?_
  rw [Nat.testBit_and, Nat.testBit_two_pow]
  by_cases h : r = j
  · subst h
    cases hx : x.testBit r <;> simp
  · cases hx : x.testBit r
    · simp [h]
    · simp [h, Nat.testBit_two_pow]
theorem pow_mod8 {r : Nat} (hr : r < 8) : ((2 : Int) ^ r % 256) = ((2 ^ r : Nat) : Int) := by
  have h1 : ((2 ^ r : Nat) : Int) = (2 : Int) ^ r := by simp
  have h2 : (2 : Nat) ^ r < 2 ^ 8 := Nat.pow_lt_pow_right (by decide) hr
  rw [← h1]
  generalize (2 : Nat) ^ r = z at *
  omega
theorem and_pow (x r : Nat) (hx : x < 256) (hr : r < 8) : (Go.bits .and .u8 (x : Int) ((2 : Int) ^ r % 256) != 0) = x.testBit r := by
  rw [pow_mod8 hr, Sha.and_nat (k := .u8) rfl (by show x < 2 ^ 8; exact hx) (by show 2 ^ r < 2 ^ 8; exact Nat.pow_lt_pow_right (by decide) hr), nat_and_pow]
  cases h : x.testBit r
  · rfl
  · have : (2 : Nat) ^ r ≠ 0 := by exact Nat.ne_of_gt (Nat.two_pow_pos r)
    rw [if_pos rfl, bne_iff_ne]
    intro e
    exact this (by exact_mod_cast e)
theorem taken_ok (b : List Nat) (hb : ∀ x ∈ b, x < 256) (i : Nat) (hi : i / 8 < b.length) (hl : b.length < 1000000) (w : World) (k o cap : Nat) (hr : w.rangeAt k o (n8 b)) :
    Calls Tryz.prog 106 #[.slice (some ⟨k, o, none⟩) b.length cap, .int .i64 i] w fun e w' => e = .returned (.bool (bitB b i)) ∧ w = w' := by
  have c0 := hr (i / 8) (.int .u8 (b[i / 8] : Int)) (by simp [n8, List.getElem?_map, List.getElem?_eq_getElem hi])
  clear hr
  have d1 : decide ((i : Int) ≥ 0) = true := by simp
  have d2 : decide ((i : Int) / 8 < (b.length : Int)) = true := by simp; omega
  have HP := Lib.hid (and_pow b[i / 8] (i % 8) (hb _ (List.getElem_mem hi)) (Nat.mod_lt _ (by decide)))
  have HB := Lib.hid (show bitB b i = b[i / 8].testBit (i % 8) by rw [bitB, List.getD_eq_getElem?_getD, List.getElem?_eq_getElem hi]; rfl)
  go_enter Tryz.func106, Tryz.ntmps106
  go_wp2
  go_ret
  exact ⟨by rw [HB.out, ← HP.out]; rfl, rfl⟩
end Go.Proofs.YtnbonhinpepgoaaGreat
end
section
set_option linter.unusedVariables false
namespace Go.Proofs.YtnbonhinpepgoaaGreat
open Go.RowKit Go.Maps
def pcB (x : Nat) : Nat := (List.range 8).countP x.testBit
theorem wpList_table {ops : Array Oper} {rest : List Oper} {o : Oper} {a : Act} {Q : Exit → Act → World → Prop} {W : World} (hgd : o.guard = none) (S : ByteArray) (X : Operand) (t : TypeId) (ht : Tryz.prog.underlying t = some .string) (ho : o.op = .index t (.const (.string S)) X) (k : IntKind) (x : Nat) (f : Nat → Nat) (hX : a.eval X = .int k x) (hs : S.size = 256) (hx : x < 256)
    (hS : ∀ y, y < 256 → (S.data.getD y 0).toNat = f y) (h : wpList Tryz.prog ops Q rest (a.put o.dst (.int .u8 (f x))) W) : wpList Tryz.prog ops Q (o :: rest) a W := by
  refine wpList_run hgd _ _ ?_ h
  unfold execOp
  rw [ho]
  show (do pure (Next.value (← Instr.index t (.string S) (a.eval X))) : Sem Next).run _ _ = _
  rw [Sem.run_bind, hX, run_index_string W t S k x ht, dif_pos ⟨by omega, by omega⟩]
  have := hS x hx
  have hd : S.data.getD x 0 = S[(x : Int).toNat]'(by simp; omega) := by
    simp only [Int.toNat_natCast]
    rw [Array.getD_eq_getD_getElem?, Array.getElem?_eq_getElem (by rw [← ByteArray.size_data] at hs; omega)]
    rfl
  rw [← hd, this]
  rfl
set_option maxRecDepth 100000 in
theorem ones_ok (x : Nat) (hx : x < 256) (w : World) : Calls Tryz.prog 170 #[.int .u8 x] w fun e w' => e = .returned (.int .i64 (pcB x)) ∧ w = w' := by
  have hp : (pcB x : Int) ≤ 8 := by
    have := List.countP_le_length (p := x.testBit) (l := List.range 8)
    rw [List.length_range] at this
    show (((List.range 8).countP x.testBit : Nat) : Int) ≤ 8
    omega
  have hp0 : (0 : Int) ≤ (pcB x : Int) := by omega
  go_enter Tryz.func170, Tryz.ntmps170
  go_wp2_with ((with_reducible refine at_dst (N := 4) rfl ?_); refine wpList_table rfl _ (.tmp 3) 9 Tryz.underlying9 rfl .u8 x pcB rfl (by kernel_rfl) hx (by decide +kernel) ?_)
  go_ret
  exact ⟨rfl, rfl⟩
def cntB (b : List Nat) (n : Nat) : Nat := (List.range n).countP (bitB b)
def maskB (x m : Nat) : Nat := x % 2 ^ m
theorem mask_and (x m : Nat) (hx : x < 256) (hm : m ≤ 8) : Go.bits .and .u8 (x : Int) (((2 : Int) ^ m - 1) % 256) = ((maskB x m : Nat) : Int) := by
  have e : (((2 : Int) ^ m - 1) % 256) = ((2 ^ m - 1 : Nat) : Int) := by
    have : m = 0 ∨ m = 1 ∨ m = 2 ∨ m = 3 ∨ m = 4 ∨ m = 5 ∨ m = 6 ∨ m = 7 ∨ m = 8 := by omega
    rcases this with rfl | rfl | rfl | rfl | rfl | rfl | rfl | rfl | rfl <;> rfl
  have hm2 : 2 ^ m - 1 < 256 := by
    have : (2 : Nat) ^ m ≤ 2 ^ 8 := Nat.pow_le_pow_right (by decide) hm
    omega
  rw [e, Sha.and_nat (k := .u8) rfl (by show x < 2 ^ 8; exact hx) (by show _ < 2 ^ 8; exact hm2), Nat.and_two_pow_sub_one_eq_mod]
  rfl
theorem pc_mask (x m : Nat) (hm : m ≤ 8) : pcB (maskB x m) = (List.range m).countP x.testBit := by
  unfold pcB maskB
  have h1 : (List.range 8).countP (x % 2 ^ m).testBit = (List.range 8).countP fun j => decide (j < m) && x.testBit j := by
    refine List.countP_congr fun j _ => ?_
    rw [Nat.testBit_mod_two_pow]
  rw [h1]
  have h2 : List.range 8 = List.range m ++ (List.range (8 - m)).map (m + ·) := by
    rw [← List.range_add]
    congr 1
    omega
  rw [h2, List.countP_append, List.countP_map]
  have h3 : ((List.range (8 - m)).countP ((fun j => decide (j < m) && x.testBit j) ∘ (m + ·))) = 0 := by
    rw [List.countP_eq_zero]
    intro j _
    simp only [Function.comp]
    rw [decide_eq_false (by omega)]
    simp
  rw [h3, Nat.add_zero]
  refine List.countP_congr fun j hj => ?_
  have := List.mem_range.1 hj
  simp [this]
theorem cnt_step (b : List Nat) (n j : Nat) (hj : j < b.length) : cntB b (min n (8 * (j + 1))) = cntB b (min n (8 * j)) + pcB (maskB b[j] (min (n - 8 * j) 8)) := by
  rw [pc_mask _ _ (Nat.min_le_right _ _)]
  unfold cntB
  have h : min n (8 * (j + 1)) = min n (8 * j) + min (n - 8 * j) 8 := by omega
  rw [h, List.range_add, List.countP_append, List.countP_map]
  congr 1
  by_cases hn : n ≤ 8 * j
  · have : min (n - 8 * j) 8 = 0 := by omega
    rw [this]
    rfl
  · refine List.countP_congr fun t ht => ?_
    have ht := List.mem_range.1 ht
    have h1 : min n (8 * j) = 8 * j := by omega
    show bitB b (min n (8 * j) + t) = true ↔ _
    rw [h1, bitB, show (8 * j + t) / 8 = j by omega, show (8 * j + t) % 8 = t by omega, List.getD_eq_getElem?_getD, List.getElem?_eq_getElem hj]
    rfl
theorem cnt_le (b : List Nat) (n : Nat) : cntB b n ≤ n := by
  have := List.countP_le_length (p := bitB b) (l := List.range n)
  rwa [List.length_range] at this
set_option maxRecDepth 10000 in
theorem count_ok (b : List Nat) (hb : ∀ x ∈ b, x < 256) (n : Nat) (hn : n ≤ 8 * b.length) (hl : b.length < 100000) (w : World) (k o cap : Nat) (hr : w.rangeAt k o (n8 b)) :
    Calls Tryz.prog 108 #[.slice (some ⟨k, o, none⟩) b.length cap, .int .i64 n] w fun e w' => e = .returned (.int .i64 (cntB b n)) ∧ w = w' := by
  have HR := Lib.hid hr
  have HB := Lib.hid hb
  clear hr hb
  go_enter Tryz.func108, Tryz.ntmps108
  go_wp2
  go_loop [11, 5] (fun t s => ∃ j : Nat, t = .int .i64 j ∧ j ≤ b.length ∧ s = .int .i64 (cntB b (min n (8 * j)))) (fun t _ => b.length - (intOf t).toNat)
  case atStart => exact ⟨0, rfl, Nat.zero_le _, by simp [cntB]⟩
  case round =>
    obtain ⟨j, rfl, hj, rfl⟩ := hrel
    by_cases hjl : j < b.length
    · have c0 := HR.out j (.int .u8 (b[j] : Int)) (by simp [n8, List.getElem?_map, List.getElem?_eq_getElem hjl])
      have hx := HB.out _ (List.getElem_mem hjl)
      have hle := cnt_le b (min n (8 * j))
      have hst := Lib.hid (cnt_step b n j hjl)
      obtain ⟨m, hm⟩ : ∃ m, min (n - 8 * j) 8 = m := ⟨_, rfl⟩
      have hm8 : m ≤ 8 := by omega
      rw [hm] at hst
      have hmk := mask_and b[j] m hx hm8
      have hmx : max ((n : Int) - 8 * (j : Int)) 0 = ((n - 8 * j : Nat) : Int) := by omega
      have hmn : min ((n - 8 * j : Nat) : Int) 8 = (m : Int) := by omega
      have ho := ones_ok (maskB b[j] m) (Nat.lt_of_le_of_lt (Nat.mod_le _ _) hx) w
      have hpl : pcB (maskB b[j] m) ≤ 8 := by
        have := List.countP_le_length (p := (maskB b[j] m).testBit) (l := List.range 8)
        rwa [List.length_range] at this
      clear hm
      generalize pcB (maskB b[j] m) = pc at *
      generalize hcn : cntB b (min n (8 * j)) = cn at *
      have hcl : cn ≤ n := by omega
      clear hcn
      go_wp2_with (go_at_call 170; refine ho.mono ?_; rintro e w' ⟨rfl, rfl⟩)
      go_round
      case rel => exact ⟨j + 1, by go_num, by omega, by rw [hst.out]; go_num⟩
      case measure => simp [intOf]; omega
    · obtain rfl : j = b.length := by omega
      rw [Nat.min_eq_left hn]
      go_wp2
      go_ret
      exact ⟨rfl, rfl⟩
end Go.Proofs.YtnbonhinpepgoaaGreat
end
section
set_option linter.unusedVariables false
namespace Go.Proofs.YtnbonhinpepgoaaGreat
open Go.RowKit Go.Maps
def flipB (b : List Nat) (i : Nat) : List Nat := b.set (i / 8) (b.getD (i / 8) 0 ^^^ 2 ^ (i % 8))
theorem flip_len (b : List Nat) (i : Nat) : (flipB b i).length = b.length := List.length_set ..
theorem flip_bit (b : List Nat) (i j : Nat) (hi : i / 8 < b.length) : bitB (flipB b i) j = if i = j then !bitB b j else bitB b j := by
  unfold bitB flipB
  rw [List.getD_eq_getElem?_getD, List.getElem?_set]
  by_cases h : i / 8 = j / 8
  · rw [if_pos h, if_pos hi]
    show (b.getD (i / 8) 0 ^^^ 2 ^ (i % 8)).testBit (j % 8) = _
    rw [Nat.testBit_xor, Nat.testBit_two_pow, h]
    by_cases h2 : i = j
    · subst h2
      simp
    · have : ¬ i % 8 = j % 8 := fun e => h2 (by omega)
      simp [h2, this]
  · rw [if_neg h, ← List.getD_eq_getElem?_getD]
    rw [if_neg (fun e => h (by rw [e]))]
theorem flip_sec {b : List Nat} (h : IsSec b) (i : Nat) : IsSec (flipB b i) := by
  refine ⟨by rw [flip_len, h.len], fun x hx => ?_⟩
  unfold flipB at hx
  rcases List.mem_or_eq_of_mem_set hx with hx | rfl
  · exact h.lt x hx
  · have h1 : b.getD (i / 8) 0 < 2 ^ 8 := by
      rw [List.getD_eq_getElem?_getD]
      cases hb : b[i / 8]? with
      | none => simp
      | some y => exact h.lt y (List.mem_of_getElem? hb)
    exact Nat.xor_lt_two_pow h1 (Nat.pow_lt_pow_right (by decide) (Nat.mod_lt _ (by decide)))
def wrF (l : List Put) (a : Nat) (b : List Nat) : Int × List Put := if (getP l a).isSome = true ∨ l.length < 48 then (0, putP l a b) else (44, l)
def wrI (N : Nat) (l : List Put) (i : Int) (b : List Nat) : Int × List Put := if 49 ≤ i ∧ i < (N : Int) then wrF l i.toNat b else (50, l)
def SpR (F : Nat → Prop) (g gj gx n sq : Nat) (D : Dk) (l : List Put) (w : World) : Prop :=
  ∃ gs gt gm cv q, TxR g gs gj gt gm n sq false false 0 0 cv D q w ∧ q.p = l ∧ w.heap[gx]? = some (.cells #[.pointer (some ⟨gt, 0, none⟩), .int .i64 D.st.length] 172 (0, 0)) ∧ ¬ TFoot g gs gj gt gm cv q gx ∧ ∀ k, F k ↔ TFoot g gs gj gt gm cv q k ∨ k = gx
section
variable {F : Nat → Prop} {g gj gx n sq : Nat} {D : Dk} {l : List Put} {w w' : World}
theorem SpR.ok (h : SpR F g gj gx n sq D l w) : D.Ok := by
  obtain ⟨gs, gt, gm, cv, q, hT, _⟩ := h
  exact hT.d.ok
theorem SpR.lt (h : SpR F g gj gx n sq D l w) {k : Nat} (hk : F k) : k < w.heap.size := by
  obtain ⟨gs, gt, gm, cv, q, hT, hq, hx, hn, hF⟩ := h
  rcases (hF k).1 hk with h | rfl
  · exact hT.lt h
  · exact block_lt hx
theorem SpR.fr {M : Nat → Prop} (h : SpR F g gj gx n sq D l w) (hf : Fr M w w') (hM : ∀ k, F k → ¬ M k) : SpR F g gj gx n sq D l w' := by
  obtain ⟨gs, gt, gm, cv, q, hT, hq, hx, hn, hF⟩ := h
  exact ⟨gs, gt, gm, cv, q, hT.fr hf (fun k hk => hM k ((hF k).2 (.inl hk))), hq, hf.heap hx (hM gx ((hF gx).2 (.inr rfl))), hn, hF⟩
theorem SpR.frF (h : SpR F g gj gx n sq D l w) (hf : Fr (fun _ => False) w w') : SpR F g gj gx n sq D l w' := h.fr hf (fun _ _ => id)
theorem SpR.viewSec (h : SpR F g gj gx n sq D l w) {a : Nat} (ha : a < D.st.length) : IsSec (viewP D l a) := by
  obtain ⟨gs, gt, gm, cv, q, hT, rfl, _⟩ := h
  exact hT.viewSec ha
theorem SpR.rise (h : SpR F g gj gx n sq D l w) : l.Pairwise (fun p q => p.1 < q.1) ∧ l.length ≤ 48 ∧ ∀ p ∈ l, 49 ≤ p.1 ∧ p.1 < D.st.length ∧ IsSec p.2 := by
  obtain ⟨gs, gt, gm, cv, q, hT, rfl, _⟩ := h
  refine ⟨?_, by rw [Ents.p_len]; exact hT.e.len, fun p hp => ?_⟩
  · have := hT.e.rise
    unfold Rise Ents.l at this
    rw [List.pairwise_map] at this
    exact List.pairwise_map.2 this
  · obtain ⟨x, hx, rfl⟩ := List.mem_map.1 hp
    obtain ⟨e1, e2, e3, _⟩ := hT.e.mem x hx
    exact ⟨e1, e2, e3⟩
theorem SpR.jwrite (h : SpR F g gj gx n sq D l w) (hn : n < 1000000) (i : Int) (hi0 : -9223372036854775808 ≤ i) (hi1 : i < 9223372036854775808) (b : List Nat) (hb : IsSec b) (X : Option Addr) (cap : Nat) (hX : Has w X b) (gt : Nat) (hg : w.cell? ⟨gx, 0, none⟩ = some (.pointer (some ⟨gt, 0, none⟩))) :
    Calls Tryz.prog 19 #[.pointer (some ⟨gt, 0, none⟩), .int .i64 i, .slice X 512 cap] w fun e w' => e = .returned (.int .i64 (wrI D.st.length l i b).1) ∧ ∃ F', SpR F' g gj gx (n + 1) sq D (wrI D.st.length l i b).2 w' ∧ Mv F F' w w' := by
  have h' := h
  obtain ⟨gs, gt', gm, cv, q, hT, rfl, hx, hnx, hF⟩ := h
  have hgt : gt' = gt := by
    have := cell_of_row w gx 0 _ _ _ hx
    rw [hg] at this
    injection this with this
    injection this with this
    injection this with this
    injection this with this
    exact this.symm
  subst hgt
  have hinc : ∀ {n' : Nat} {w' : World}, TxR g gs gj gt' gm n sq false false 0 0 cv D q w' → TxR g gs gj gt' gm (n + 1) sq false false 0 0 cv D q w' := fun t => by
    obtain ⟨h1, h2, h3, h4, h5⟩ := t
    obtain ⟨es, clock, hb, Ft, hs, hD⟩ := h4
    exact ⟨h1, h2, h3, ⟨es, clock, hb, Ft, by omega, hD⟩, h5, by assumption, by assumption, by assumption, by assumption, by assumption, by assumption, by assumption⟩
  have same : SpR F g gj gx (n + 1) sq D q.p w := ⟨gs, gt', gm, cv, q, hinc (n' := 0) hT, rfl, hx, hnx, hF⟩
  have hlen : q.p.length = q.length := Ents.p_len q
  unfold wrI
  by_cases hr : 49 ≤ i ∧ i < (D.st.length : Int)
  · rw [if_pos hr]
    obtain ⟨a, rfl⟩ : ∃ a : Nat, i = a := ⟨i.toNat, by omega⟩
    rw [Int.toNat_natCast]
    unfold wrF
    by_cases hc : (getP q.p a).isSome = true ∨ q.p.length < 48
    · rw [if_pos hc]
      refine (hT.write hn a (by omega) (by omega) b hb X cap hX (by rw [← hlen]; exact hc)).mono ?_
      rintro e w' ⟨rfl, k, hk, hT', hf⟩
      have hfx : ¬ gx = gm := fun e => hnx (.inr (.inr (.inr (.inl e))))
      refine ⟨rfl, fun j => TFoot g gs gj gt' gm cv (q.put a b k) j ∨ j = gx, ⟨gs, gt', gm, cv, _, hT', Ents.put_p _ _ _ _, hf.heap hx hfx, fun h2 => ?_, fun _ => Iff.rfl⟩, ⟨hf.mono (fun j _ e => (hF j).2 (.inl (.inr (.inr (.inr (.inl e)))))), fun j hj => ?_⟩⟩
      · have hxl := block_lt hx
        rcases h2 with h2 | h2 | h2 | h2 | ⟨x, hxm, h2⟩
        · exact hnx (.inl h2)
        · exact hnx (.inr (.inl h2))
        · exact hnx (.inr (.inr (.inl h2)))
        · exact hnx (.inr (.inr (.inr (.inl h2))))
        · rcases (putK_mem _ _ _ _).1 hxm with rfl | ⟨hxm, _⟩
          · have : k = gx := h2
            omega
          · exact hnx (.inr (.inr (.inr (.inr ⟨x, hxm, h2⟩))))
      · rcases hj with (h2 | h2 | h2 | h2 | ⟨x, hxm, h2⟩) | h2
        · exact .inl ((hF j).2 (.inl (.inl h2)))
        · exact .inl ((hF j).2 (.inl (.inr (.inl h2))))
        · exact .inl ((hF j).2 (.inl (.inr (.inr (.inl h2)))))
        · exact .inl ((hF j).2 (.inl (.inr (.inr (.inr (.inl h2))))))
        · rcases (putK_mem _ _ _ _).1 hxm with rfl | ⟨hxm, _⟩
          · exact .inr (h2 ▸ hk)
          · exact .inl ((hF j).2 (.inl (.inr (.inr (.inr (.inr ⟨x, hxm, h2⟩))))))
        · exact .inl ((hF j).2 (.inr h2))
    · rw [if_neg hc]
      have hc' := not_or.1 hc
      refine (twrite_full hT.t hT.j hT.d hT.m a (by omega) (by omega) X cap (by rw [Ents.has]; simpa using hc'.1) (by rw [Ents.l_len, ← hlen]; omega)).mono ?_
      rintro e w' ⟨rfl, rfl⟩
      exact ⟨rfl, F, same, Mv.refl _ _⟩
  · rw [if_neg hr]
    refine (twrite_place hT.t hT.j hT.d i hr _).mono ?_
    rintro e w' ⟨rfl, rfl⟩
    exact ⟨rfl, F, same, Mv.refl _ _⟩
theorem SpR.jread (h : SpR F g gj gx n sq D l w) (hd : D.down = false) (a : Nat) (h0 : 49 ≤ a) (h1 : a < D.st.length) (gt : Nat) (hg : w.cell? ⟨gx, 0, none⟩ = some (.pointer (some ⟨gt, 0, none⟩))) :
    Calls Tryz.prog 109 #[.pointer (some ⟨gt, 0, none⟩), .int .i64 a] w fun e w' => ∃ k cap, e = .returned (.tuple #[.slice (some ⟨k, 0, none⟩) 512 cap, .int .i64 0]) ∧ Row8 w' k (viewP D l a) ∧ w.heap.size ≤ k ∧ 512 ≤ cap ∧ Fr (fun _ => False) w w' := by
  obtain ⟨gs, gt', gm, cv, q, hT, rfl, hx, hnx, hF⟩ := h
  have hgt : gt' = gt := by
    have := cell_of_row w gx 0 _ _ _ hx
    rw [hg] at this
    injection this with this
    injection this with this
    injection this with this
    injection this with this
    exact this.symm
  subst hgt
  exact hT.read hd a h0 h1
theorem SpR.cells (h : SpR F g gj gx n sq D l w) : (∃ gt, w.cell? ⟨gx, 0, none⟩ = some (.pointer (some ⟨gt, 0, none⟩))) ∧ w.cell? ⟨gx, 1, none⟩ = some (.int .i64 D.st.length) ∧ F gx := by
  obtain ⟨gs, gt', gm, cv, q, hT, rfl, hx, hnx, hF⟩ := h
  exact ⟨⟨gt', cell_of_row w gx 0 _ _ _ hx⟩, cell_of_row w gx 1 _ _ _ hx, (hF gx).2 (.inr rfl)⟩
end
end Go.Proofs.YtnbonhinpepgoaaGreat
end
section
set_option linter.unusedVariables false
namespace Go.Proofs.YtnbonhinpepgoaaGreat
open Go.RowKit Go.Maps
section
variable {F : Nat → Prop} {g gj gx n sq : Nat} {D : Dk} {l : List Put} {w w' : World}
theorem SpR.bytes (h : SpR F g gj gx n sq D l w) (hd : D.down = false) :
    Calls Tryz.prog 105 #[.pointer (some ⟨gx, 0, none⟩)] w fun e w' => ∃ k cap, e = .returned (.slice (some ⟨k, 0, none⟩) 512 cap) ∧ Row8 w' k (viewP D l 49) ∧ w.heap.size ≤ k ∧ 512 ≤ cap ∧ Fr (fun _ => False) w w' := by
  obtain ⟨⟨gt, c0⟩, c1, _⟩ := h.cells
  have hlo := h.ok.lo
  have hr := h.jread hd 49 (by omega) (by omega) gt c0
  clear h
  generalize viewP D l 49 = v at *
  go_enter Tryz.func105, Tryz.ntmps105
  go_wp2_with (go_at_call 109; refine hr.mono ?_; rintro e w2 ⟨k, cap, rfl, hk, hz, hc, hF⟩; have HK := Lib.hid hk; have HF := Lib.hid hF; clear hk hF hr)
  go_ret
  exact ⟨k, cap, rfl, HK.out, hz, hc, HF.out⟩
theorem xor_byte (x r : Nat) (hx : x < 256) (hr : r < 8) : Go.bits .xor .u8 (x : Int) ((2 : Int) ^ r % 256) = ((x ^^^ 2 ^ r : Nat) : Int) := by
  rw [pow_mod8 hr, Sha.xor_nat (k := .u8) rfl (by show x < 2 ^ 8; exact hx) (by show 2 ^ r < 2 ^ 8; exact Nat.pow_lt_pow_right (by decide) hr)]
theorem Row8.set {w : World} {k : Nat} {b : List Nat} (h : Row8 w k b) (j x : Nat) (hj : j < b.length) : Row8 (w.setCell ⟨k, j, none⟩ (.int .u8 (x : Int))) k (b.set j x) := by
  obtain ⟨cur, T, h1, h2⟩ := h
  refine ⟨_, T, heap_setCell h1 _, ?_⟩
  rw [List.length_set, Array.toList_setIfInBounds, List.take_set, h2]
  simp [n8, List.map_set]
theorem Row8.cell {w : World} {k : Nat} {b : List Nat} (h : Row8 w k b) (j : Nat) (hj : j < b.length) : w.cell? ⟨k, j, none⟩ = some (.int .u8 (b[j] : Int)) := by
  have := h.range j (.int .u8 (b[j] : Int)) (by simp [n8, List.getElem?_map, List.getElem?_eq_getElem hj])
  rwa [Nat.zero_add] at this
theorem Row8.nofz {w : World} {k : Nat} {b : List Nat} (h : Row8 w k b) (j : Nat) : w.frozen? ⟨k, j, none⟩ = false := by
  obtain ⟨cur, T, h1, h2⟩ := h
  simp [World.frozen?, h1]
set_option maxRecDepth 10000 in
theorem SpR.turn (h : SpR F g gj gx n sq D l w) (hd : D.down = false) (hn : n < 1000000) (i : Nat) (hi : i < D.st.length) :
    Calls Tryz.prog 107 #[.pointer (some ⟨gx, 0, none⟩), .int .i64 i] w fun e w' => e = .returned (.int .i64 (wrF l 49 (flipB (viewP D l 49) i)).1) ∧ ∃ F', SpR F' g gj gx (n + 1) sq D (wrF l 49 (flipB (viewP D l 49) i)).2 w' ∧ Mv F F' w w' := by
  have hlo := h.ok.lo
  have hhi := h.ok.hi
  have hb := h.bytes hd
  have hs := h.viewSec (a := 49) (by omega)
  obtain ⟨⟨gt, c0⟩, c1, hFx⟩ := h.cells
  have hlt := fun k hk => h.lt (k := k) hk
  have HWR := Lib.hid (fun W (hF : Fr (fun _ => False) w W) k cap (hk : Row8 W k (flipB (viewP D l 49) i)) =>
    (h.frF hF).jwrite hn 49 (by omega) (by omega) _ (flip_sec hs i) (some ⟨k, 0, none⟩) cap hk.bsl.has gt (hF.cell c0 id))
  have hwi : wrI D.st.length l 49 (flipB (viewP D l 49) i) = wrF l 49 (flipB (viewP D l 49) i) := by
    unfold wrI
    rw [if_pos ⟨by omega, by omega⟩]
    rfl
  rw [hwi] at HWR
  clear hwi h
  have hi8 : i / 8 < (viewP D l 49).length := by rw [hs.len]; omega
  have hx := hs.lt _ (List.getElem_mem hi8)
  have hxr := xor_byte (viewP D l 49)[i / 8] (i % 8) hx (Nat.mod_lt _ (by decide))
  obtain ⟨R, hR⟩ : ∃ R, wrF l 49 (flipB (viewP D l 49) i) = R := ⟨_, rfl⟩
  rw [hR] at HWR ⊢
  obtain ⟨rc, l'⟩ := R
  simp only at HWR ⊢
  clear hR
  have HFL := Lib.hid (show flipB (viewP D l 49) i = (viewP D l 49).set (i / 8) ((viewP D l 49)[i / 8] ^^^ 2 ^ (i % 8)) by rw [flipB, List.getD_eq_getElem?_getD, List.getElem?_eq_getElem hi8]; rfl)
  generalize flipB (viewP D l 49) i = fb at *
  generalize viewP D l 49 = v at *
  have hvl := hs.len
  have HVL := Lib.hid hvl
  have HLT := Lib.hid hlt
  clear hvl hs hlt
  go_enter Tryz.func107, Tryz.ntmps107
  go_wp2_with (first
    | (go_at_call 105; refine hb.mono ?_; rintro e w2 ⟨k, cap, rfl, hk, hz, hc, hF⟩; have hcell := hk.cell (i / 8) (by rw [HVL.out]; omega); have hfz := hk.nofz (i / 8); obtain ⟨w3, hw3⟩ : ∃ w3, w2.setCell ⟨k, i / 8, none⟩ (.int .u8 ((v[i / 8] ^^^ 2 ^ (i % 8) : Nat) : Int)) = w3 := ⟨_, rfl⟩; have hF3 : Fr (fun _ => False) w w3 := (by rw [← hw3]; exact hF.then_ (fr_set _ _ _ _) (fun j hj e => by omega)); have hK3 : Row8 w3 k fb := (by rw [← hw3, HFL.out]; exact hk.set (i / 8) _ (by rw [HVL.out]; omega)); have c3 := hF3.cell c0 id; have hwr := HWR.out w3 hF3 k cap hK3; have HF3 := Lib.hid hF3; clear hk hF hb hF3 hK3)
    | (go_at_call 19; refine hwr.mono ?_; rintro e w4 ⟨rfl, hw4⟩; have HW4 := Lib.hid hw4; clear hw4 hwr))
  go_ret
  obtain ⟨F', hS, hM⟩ := HW4.out
  exact ⟨rfl, F', hS, ⟨((Fr.refl F w).then_ HF3.out (fun k _ e => e.elim)).trans hM.fr, fun k hk => (hM.own k hk).imp id fun h => Nat.le_trans HF3.out.size h⟩⟩
theorem Mv.after {F F' : Nat → Prop} {w w1 w2 : World} (h : Fr (fun _ => False) w w1) (k : Mv F F' w1 w2) : Mv F F' w w2 :=
  ⟨((Fr.refl F w).then_ h (fun k _ e => e.elim)).trans k.fr, fun j hj => (k.own j hj).imp id fun h2 => Nat.le_trans h.size h2⟩
theorem SpR.read (h : SpR F g gj gx n sq D l w) (hd : D.down = false) (a : Nat) (h0 : 50 ≤ a) (h1 : a < D.st.length) :
    Calls Tryz.prog 41 #[.pointer (some ⟨gx, 0, none⟩), .int .i64 a] w fun e w' => ∃ k cap, e = .returned (.tuple #[.slice (some ⟨k, 0, none⟩) 512 cap, .int .i64 0]) ∧ Row8 w' k (viewP D l a) ∧ w.heap.size ≤ k ∧ 512 ≤ cap ∧ Fr (fun _ => False) w w' := by
  obtain ⟨⟨gt, c0⟩, c1, _⟩ := h.cells
  have hr := h.jread hd a (by omega) h1 gt c0
  have d0 : decide ((a : Int) < 50) = false := decide_eq_false (by omega)
  clear h
  generalize viewP D l a = v at *
  go_enter Tryz.func41, Tryz.ntmps41
  go_wp2_with (go_at_call 109; refine hr.mono ?_; rintro e w2 ⟨k, cap, rfl, hk, hz, hc, hF⟩; have HK := Lib.hid hk; have HF := Lib.hid hF; clear hk hF hr)
  go_ret2
  exact ⟨k, cap, rfl, HK.out, hz, hc, HF.out⟩
def swF (N : Nat) (l : List Put) (i : Int) (b : List Nat) : Int × List Put := if i < 50 then (50, l) else wrI N l i b
theorem SpR.more (h : SpR F g gj gx n sq D l w) : SpR F g gj gx (n + 1) sq D l w := by
  obtain ⟨gs, gt', gm, cv, q, hT, rfl, hx, hnx, hF⟩ := h
  obtain ⟨h1, h2, h3, h4, h5⟩ := hT
  obtain ⟨es, clock, hb, Ft, hs, hD⟩ := h4
  exact ⟨gs, gt', gm, cv, q, ⟨h1, h2, h3, ⟨es, clock, hb, Ft, by omega, hD⟩, h5, by assumption, by assumption, by assumption, by assumption, by assumption, by assumption, by assumption⟩, rfl, hx, hnx, hF⟩
theorem SpR.write (h : SpR F g gj gx n sq D l w) (hn : n < 1000000) (i : Int) (hi0 : -9223372036854775808 ≤ i) (hi1 : i < 9223372036854775808) (b : List Nat) (hb : IsSec b) (X : Option Addr) (cap : Nat) (hX : Has w X b) :
    Calls Tryz.prog 28 #[.pointer (some ⟨gx, 0, none⟩), .int .i64 i, .slice X 512 cap] w fun e w' => e = .returned (.int .i64 (swF D.st.length l i b).1) ∧ ∃ F', SpR F' g gj gx (n + 1) sq D (swF D.st.length l i b).2 w' ∧ Mv F F' w w' := by
  obtain ⟨⟨gt, c0⟩, c1, _⟩ := h.cells
  unfold swF
  by_cases h50 : i < 50
  · rw [if_pos h50]
    have d0 : decide (i < 50) = true := decide_eq_true h50
    have H := Lib.hid h.more
    clear h
    go_enter Tryz.func28, Tryz.ntmps28
    go_wp2
    go_ret
    exact ⟨rfl, F, H.out, Mv.refl _ _⟩
  · rw [if_neg h50]
    have hr := h.jwrite hn i hi0 hi1 b hb X cap hX gt c0
    obtain ⟨R, hR⟩ : ∃ R, wrI D.st.length l i b = R := ⟨_, rfl⟩
    rw [hR] at hr ⊢
    obtain ⟨rc, l'⟩ := R
    simp only at hr ⊢
    have d0 : decide (i < 50) = false := decide_eq_false h50
    clear h hR hX hb
    go_enter Tryz.func28, Tryz.ntmps28
    go_wp2_with (go_at_call 19; refine hr.mono ?_; rintro e w2 ⟨rfl, hw2⟩; have HW2 := Lib.hid hw2; clear hr hw2)
    go_ret
    exact ⟨rfl, HW2.out⟩
end
end Go.Proofs.YtnbonhinpepgoaaGreat
end
section
set_option linter.unusedVariables false
namespace Go.Proofs.YtnbonhinpepgoaaGreat
open Go.RowKit Go.Maps
def freeF (N : Nat) (v : List Nat) : Int := (N : Int) - 51 - (cntB v N : Int) + (cntB v 51 : Int)
theorem same_turn {P : Program} {f : FuncId} {args : Array Value} {w : World} {v : Value} (h : Calls P f args w fun e w' => e = .returned v ∧ w = w') : Calls P f args w fun e w' => e = .returned v ∧ w' = w := h.mono fun _ _ h => ⟨h.1, h.2.symm⟩
theorem Row8.drewN {w : World} {k : Nat} {b : List Nat} (h : Row8 w k b) (m : Nat) : Row8 (w.drewN m) k b := h.fr (((Fr.refl (fun _ => False) w).drewN m)) id
section
variable {F : Nat → Prop} {g gj gx n sq : Nat} {D : Dk} {l : List Put} {w w' : World}
theorem SpR.free (h : SpR F g gj gx n sq D l w) (hd : D.down = false) :
    Calls Tryz.prog 40 #[.pointer (some ⟨gx, 0, none⟩)] w fun e w' => e = .returned (.int .i64 (freeF D.st.length (viewP D l 49))) ∧ Fr (fun _ => False) w w' := by
  obtain ⟨⟨gt, c0⟩, c1, _⟩ := h.cells
  have hlo := h.ok.lo
  have hhi := h.ok.hi
  have hb := h.bytes hd
  have hs := h.viewSec (a := 49) (by omega)
  have HS := Lib.hid hs
  clear h
  generalize viewP D l 49 = v at *
  generalize D.st.length = N at *
  have hN := cnt_le v N
  have h51 := cnt_le v 51
  have HC1 := Lib.hid (fun W k cap (hk : Row8 W k v) => same_turn <| count_ok v HS.out.lt N (by rw [HS.out.len]; omega) (by rw [HS.out.len]; omega) W k 0 cap hk.range)
  have HC2 := Lib.hid (fun W k cap (hk : Row8 W k v) => same_turn <| count_ok v HS.out.lt 51 (by rw [HS.out.len]; omega) (by rw [HS.out.len]; omega) W k 0 cap hk.range)
  have hlen := hs.len
  rw [hlen] at HC1 HC2
  rw [show ((51 : Nat) : Int) = 51 from rfl] at HC2
  clear hs hlen
  unfold freeF
  generalize cntB v N = p at *
  generalize cntB v 51 = q at *
  go_enter Tryz.func40, Tryz.ntmps40
  go_wp2_with (go_at_call 105; refine hb.mono ?_; rintro e w2 ⟨k, cap, rfl, hk, hz, hc, hF⟩; have b1 := hF.cell c1 id; have HK := Lib.hid hk; have HF := Lib.hid hF; have k1 := Lib.hid (fun m => HC1.out (w2.drewN m) k cap (hk.drewN m)); have k2 := Lib.hid (fun m => HC2.out (w2.drewN m) k cap (hk.drewN m)); clear hk hF hb)
  have s1 := IntWalk.i64_in ((N : Int) - 51) (by omega)
  have s2 := IntWalk.i64_in ((N : Int) - 51 - (p : Int)) (by omega)
  have s3 := IntWalk.i64_in ((N : Int) - 51 - (p : Int) + (q : Int)) (by omega)
  go_quiet ((first | (go_at_call 108; with_reducible exact Calls.quiet_of_same (k1.out _)) | (go_at_call 108; with_reducible exact Calls.quiet_of_same (k2.out _))))
  go_wp2
  go_ret
  exact ⟨rfl, HF.out.drewN _⟩
end
end Go.Proofs.YtnbonhinpepgoaaGreat
end
section
set_option linter.unusedVariables false
namespace Go.Proofs.YtnbonhinpepgoaaGreat
open Go.RowKit Go.Maps
def ffree (v : List Nat) : Nat → Nat → Option Nat
  | 0, _ => none
  | k + 1, i => if bitB v i then ffree v k (i + 1) else some i
def zeroS : List Nat := List.replicate 512 0
theorem mk_zeroS (W : World) : (Instr.makeSlice 42 (.int .i64 512) (.int .i64 512)).run Tryz.prog W = .ok (.slice (some ⟨W.heap.size, 0, none⟩) 512 512) (W.alloc (.cells (n8 zeroS).toArray 5)) := run_mkb 512 (by omega) W
theorem zeroS_sec : IsSec zeroS := ⟨List.length_replicate .., fun x hx => by have := List.eq_of_mem_replicate hx; omega⟩
def takeAt (D : Dk) (l : List Put) (i : Nat) : (Int × Int) × List Put :=
  let r := wrF l i zeroS
  if r.1 = 0 then (let s := wrF r.2 49 (flipB (viewP D r.2 49) i); if s.1 = 0 then ((i, 0), s.2) else ((0, s.1), s.2)) else ((0, r.1), r.2)
def takeF (N : Nat) (D : Dk) (l : List Put) : (Int × Int) × List Put :=
  match ffree (viewP D l 49) (N - 51) 51 with
  | none => ((0, 44), l)
  | some i => takeAt D l i
section
variable {F : Nat → Prop} {g gj gx n sq : Nat} {D : Dk} {l : List Put} {w w' : World}
set_option maxHeartbeats 1000000 in
set_option maxRecDepth 10000 in
theorem SpR.take (h : SpR F g gj gx n sq D l w) (hd : D.down = false) (hn : n + 2 < 1000000) :
    Calls Tryz.prog 36 #[.pointer (some ⟨gx, 0, none⟩)] w fun e w' => e = .returned (.tuple #[.int .i64 (takeF D.st.length D l).1.1, .int .i64 (takeF D.st.length D l).1.2]) ∧ ∃ F', SpR F' g gj gx (n + 2) sq D (takeF D.st.length D l).2 w' ∧ Mv F F' w w' := by
  have hlo := h.ok.lo
  have hhi := h.ok.hi
  obtain ⟨⟨gt, c0⟩, c1, _⟩ := h.cells
  have hb := h.bytes hd
  have hs := h.viewSec (a := 49) (by omega)
  obtain ⟨R, hR⟩ : ∃ R, takeF D.st.length D l = R := ⟨_, rfl⟩
  rw [hR]
  obtain ⟨⟨ri, rc⟩, rl⟩ := R
  simp only
  unfold takeF at hR
  have HR := Lib.hid hR
  have H := Lib.hid h
  have HK := Lib.hid (fun W k cap (i : Nat) (hi : i < D.st.length) (hk : Row8 W k (viewP D l 49)) => taken_ok (viewP D l 49) hs.lt i (by rw [hs.len]; omega) (by rw [hs.len]; omega) W k 0 cap hk.range)
  have hlen := hs.len
  rw [hlen] at HK
  clear hR h hs hlen
  generalize viewP D l 49 = v at HR hb HK
  go_enter Tryz.func36, Tryz.ntmps36
  go_wp2_with (go_at_call 105; refine hb.mono ?_; rintro e w2 ⟨k, cap, rfl, hk, hz, hc, hF⟩; have HF := Lib.hid hF; have b1 := hF.cell c1 id; have b0 := hF.cell c0 id; have HK2 := Lib.hid (fun i hi => HK.out w2 k cap i hi hk); clear hk hF hb)
  go_loop [5] (fun t => ∃ i : Nat, t = .int .i64 i ∧ 51 ≤ i ∧ i ≤ D.st.length ∧ Hid (ffree v (D.st.length - 51) 51 = ffree v (D.st.length - i) i)) (fun t => D.st.length - (intOf t).toNat)
  case atStart => exact ⟨51, rfl, Nat.le_refl _, by omega, Lib.hid rfl⟩
  case round =>
    obtain ⟨i, rfl, hi51, hiN, HFR⟩ := hrel
    by_cases hil : i < D.st.length
    · have hk2 := HK2.out i hil
      have hfs := Lib.hid (show ffree v (D.st.length - i) i = if bitB v i then ffree v (D.st.length - (i + 1)) (i + 1) else some i by
        rw [show D.st.length - i = (D.st.length - (i + 1)) + 1 by omega]; rfl)
      generalize hB : bitB v i = B at *
      clear hB
      cases B with
      | true =>
        go_wp2_with (go_at_call 106; refine hk2.mono ?_; rintro e w3 ⟨rfl, rfl⟩; clear hk2)
        go_round
        case rel => exact ⟨i + 1, by go_num, by omega, by omega, Lib.hid (by rw [HFR.out, hfs.out]; rfl)⟩
        case measure => simp [intOf]; omega
      | false =>
        have hR := HR.out
        rw [HFR.out, hfs.out] at hR
        simp only [Bool.false_eq_true, if_false] at hR
        go_wp2_with (first | (go_at_call 106; refine hk2.mono ?_; rintro e w3 ⟨rfl, rfl⟩; clear hk2) | fail)
        have hmk := mk_zeroS
        generalize hZ : n8 zeroS = Z at hmk
        have hZ' := Lib.hid hZ
        clear hZ
        obtain ⟨W, hW⟩ : ∃ W, (w2.alloc (.cells Z.toArray 5)).drew = W := ⟨_, rfl⟩
        have hFW : Fr (fun _ => False) w2 W := by rw [← hW]; exact ((Fr.refl _ _).alloc _).drew
        have hBW : W.heap[w2.heap.size]? = some (.cells Z.toArray 5 (0, 0)) := by rw [← hW]; exact heap_alloc_new w2 _
        have hRW : Row8 W w2.heap.size zeroS := ⟨_, _, hBW, by rw [← hZ'.out, List.take_of_length_le (by simp [n8_len])]⟩
        have hwr := ((H.out.frF HF.out).frF hFW).jwrite (by omega) i (by omega) (by omega) zeroS zeroS_sec (some ⟨w2.heap.size, 0, none⟩) 512 hRW.bsl.has gt (hFW.cell b0 id)
        have hwi : wrI D.st.length l (i : Int) zeroS = wrF l i zeroS := by
          unfold wrI
          rw [if_pos ⟨by omega, by omega⟩]
          rfl
        rw [hwi] at hwr
        clear hwi hBW hRW
        unfold takeAt at hR
        generalize wrF l i zeroS = R1 at hwr hR
        obtain ⟨r1, l1⟩ := R1
        simp only at hwr hR
        have b0W := hFW.cell b0 id
        have HFW := Lib.hid hFW
        clear hFW
        by_cases hr1 : r1 = 0
        · subst hr1
          rw [if_pos rfl] at hR
          have HT := Lib.hid (fun W F (h : SpR F g gj gx (n + 1) sq D l1 W) => h.turn hd (by omega) i (by omega))
          generalize wrF l1 49 (flipB (viewP D l1 49) i) = S1 at HT hR
          obtain ⟨s1, l2⟩ := S1
          simp only at HT hR
          by_cases hs1 : s1 = 0
          · subst hs1
            rw [if_pos rfl] at hR
            simp only [Prod.mk.injEq] at hR
            obtain ⟨⟨hA, hB⟩, hC⟩ := hR
            subst hA hB hC
            clear HR
            go_region_with (go_at_call 19; refine hwr.mono ?_; rintro e w4 ⟨rfl, F1, hS1, hM1⟩; have ht := HT.out w4 F1 hS1; have hM1 := Lib.hid hM1; clear hS1 hwr)
            all_goals
              go_wp2_with (go_at_call 107; refine ht.mono ?_; rintro e w5 ⟨rfl, F2, hS2, hM2⟩; have hS2 := Lib.hid hS2; have hM2 := Lib.hid hM2; clear ht)
              go_ret2
              exact ⟨rfl, F2, hS2.out, Mv.after HF.out (Mv.after HFW.out (hM1.out.trans hM2.out))⟩
          · rw [if_neg hs1] at hR
            simp only [Prod.mk.injEq] at hR
            obtain ⟨⟨hA, hB⟩, hC⟩ := hR
            subst hA hB hC
            clear HR
            go_region_with (go_at_call 19; refine hwr.mono ?_; rintro e w4 ⟨rfl, F1, hS1, hM1⟩; have ht := HT.out w4 F1 hS1; have hM1 := Lib.hid hM1; clear hS1 hwr)
            all_goals
              go_wp2_with (go_at_call 107; refine ht.mono ?_; rintro e w5 ⟨rfl, F2, hS2, hM2⟩; have hS2 := Lib.hid hS2; have hM2 := Lib.hid hM2; clear ht)
              go_ret2
              exact ⟨rfl, F2, hS2.out, Mv.after HF.out (Mv.after HFW.out (hM1.out.trans hM2.out))⟩
        · rw [if_neg hr1] at hR
          simp only [Prod.mk.injEq] at hR
          obtain ⟨⟨hA, hB⟩, hC⟩ := hR
          subst hA hB hC
          clear HR
          go_region_with (go_at_call 19; refine hwr.mono ?_; rintro e w4 ⟨rfl, F1, hS1, hM1⟩; have HS1 := Lib.hid hS1; have HM1 := Lib.hid hM1; clear hS1 hM1 hwr)
          all_goals
            go_wp2
            go_ret2
            exact ⟨rfl, F1, HS1.out.more, Mv.after HF.out (Mv.after HFW.out HM1.out)⟩
    · obtain rfl : i = D.st.length := by omega
      have hR := HR.out
      rw [HFR.out, Nat.sub_self] at hR
      simp only [ffree, Prod.mk.injEq] at hR
      obtain ⟨⟨hA, hB⟩, hC⟩ := hR
      subst hA hB hC
      go_wp2
      go_ret2
      exact ⟨rfl, F, ((H.out.frF HF.out).more).more, Mv.after HF.out (Mv.refl _ _)⟩
end
end Go.Proofs.YtnbonhinpepgoaaGreat
end
section
set_option linter.unusedVariables false
namespace Go.Proofs.YtnbonhinpepgoaaGreat
open Go.RowKit Go.Maps
def JnP (F : Nat → Prop) (g gj sq : Nat) (lv : Bool) (D : Dk) (w : World) : Prop := ∃ gs cv, JnR g gs gj sq lv cv D w ∧ ∀ k, F k ↔ Foot g gs cv k ∨ k = gj
section
variable {F : Nat → Prop} {g gj gx n sq : Nat} {lv : Bool} {D : Dk} {l : List Put} {w w' : World}
theorem JnP.ok (h : JnP F g gj sq lv D w) : D.Ok := by
  obtain ⟨gs, cv, h, _⟩ := h
  exact h.d.ok
theorem JnP.lt (h : JnP F g gj sq lv D w) {k : Nat} (hk : F k) : k < w.heap.size := by
  obtain ⟨gs, cv, h, hF⟩ := h
  rcases (hF k).1 hk with h1 | rfl
  · exact h.d.lt h1
  · exact block_lt h.j
theorem JnP.fr {M : Nat → Prop} (h : JnP F g gj sq lv D w) (hf : Fr M w w') (hM : ∀ k, F k → ¬ M k) : JnP F g gj sq lv D w' := by
  obtain ⟨gs, cv, h, hF⟩ := h
  exact ⟨gs, cv, h.fr hf (fun k hk => hM k ((hF k).2 hk)), hF⟩
theorem JnP.frF (h : JnP F g gj sq lv D w) (hf : Fr (fun _ => False) w w') : JnP F g gj sq lv D w' := h.fr hf (fun _ _ => id)
theorem SpR.drop (h : SpR F g gj gx n sq D l w) : ∃ F', JnP F' g gj sq false D w ∧ ∀ k, F' k → F k := by
  obtain ⟨gs, gt, gm, cv, q, hT, hq, hx, hn, hF⟩ := h
  exact ⟨fun k => Foot g gs cv k ∨ k = gj, ⟨gs, cv, hT.jn, fun _ => Iff.rfl⟩, fun k hk => (hF k).2 (.inl (hk.imp id .inl))⟩
theorem SpR.commit (h : SpR F g gj gx n sq D l w) (hd : D.down = false) (hmany : D.ca.length < 800000) :
    Calls Tryz.prog 42 #[.pointer (some ⟨gx, 0, none⟩)] w fun e w' => e = .returned (.int .i64 (commitF D sq l).1) ∧ ∃ F', JnP F' g gj (commitF D sq l).2.2.1 (commitF D sq l).2.2.2 (commitF D sq l).2.1 w' ∧ Mv F F' w w' := by
  obtain ⟨gs, gt, gm, cv, q, hT, rfl, hx, hn, hF⟩ := h
  have hc := hT.commit1 hd hmany
  have c0 := cell_of_row w gx 0 _ _ _ hx
  have c0' : w.cell? ⟨gx, 0, none⟩ = some (.pointer (some ⟨gt, 0, none⟩)) := c0
  obtain ⟨R, hR⟩ : ∃ R, commitF D sq q.p = R := ⟨_, rfl⟩
  rw [hR] at hc ⊢
  obtain ⟨rc, rD, rs, rd⟩ := R
  simp only at hc ⊢
  have HFF := Lib.hid hF
  have HT := Lib.hid hT
  clear hR hT hx hn c0 hF
  go_enter Tryz.func42, Tryz.ntmps42
  go_wp2_with (go_at_call 21; refine hc.mono ?_; rintro e w2 ⟨rfl, hT2, cv', hD2, hJ2, hF2, hL2, hn2⟩; have HD2 := Lib.hid hD2; have HJ2 := Lib.hid hJ2; have HF2 := Lib.hid hF2; have HL2 := Lib.hid hL2; have HN2 := Lib.hid hn2; clear hc hT2 hD2 hJ2 hF2 hL2 hn2)
  go_ret
  refine ⟨rfl, fun k => Foot g gs cv' k ∨ k = gj, ⟨gs, cv', ⟨HJ2.out, HD2.out, HN2.out⟩, fun _ => Iff.rfl⟩, ⟨HF2.out.mono fun k _ hk => (HFF.out k).2 (.inl ?_), fun k hk => ?_⟩⟩
  · rcases hk with h | h | h
    · exact .inl h
    · exact .inr (.inl h)
    · exact .inr (.inr (.inl h))
  · rcases hk with (h | h | h) | h
    · exact .inl ((HFF.out k).2 (.inl (.inl (.inl h))))
    · exact .inl ((HFF.out k).2 (.inl (.inl (.inr (.inl h)))))
    · rcases HL2.out k h with h1 | h1
      · exact .inl ((HFF.out k).2 (.inl (.inl (.inr (.inr h1)))))
      · exact .inr h1
    · exact .inl ((HFF.out k).2 (.inl (.inr (.inl h))))
end
end Go.Proofs.YtnbonhinpepgoaaGreat
end
section
set_option linter.unusedVariables false
namespace Go.Proofs.YtnbonhinpepgoaaGreat
open Go.RowKit Go.Maps
theorem rise_len (a b : Nat) : ∀ l : List Put, (l.Pairwise fun p q => p.1 < q.1) → (∀ p ∈ l, a ≤ p.1 ∧ p.1 < b) → l.length ≤ b - a := by
  intro l
  induction l generalizing a with
  | nil => intro _ _; simp
  | cons p l ih =>
    intro h hm
    have h1 := List.pairwise_cons.1 h
    have h2 := hm p (List.mem_cons_self ..)
    have h3 := ih (p.1 + 1) h1.2 fun q hq => ⟨h1.1 q hq, (hm q (List.mem_cons_of_mem _ hq)).2⟩
    rw [List.length_cons]
    omega
structure SpInv (N : Nat) (v : List Nat) (T : List Nat) : Prop where
  bit : ∀ i, i < N → bitB v i = decide (i ∈ T)
  nd : T.Nodup
  mem : ∀ t ∈ T, 51 ≤ t ∧ t < N
theorem ffree_spec (v : List Nat) : ∀ k i, match ffree v k i with
    | none => ∀ j, i ≤ j → j < i + k → bitB v j = true
    | some m => i ≤ m ∧ m < i + k ∧ bitB v m = false ∧ ∀ j, i ≤ j → j < m → bitB v j = true
  | 0, i => by
    simp only [ffree]
    intro j h1 h2
    omega
  | k + 1, i => by
    unfold ffree
    cases hb : bitB v i with
    | false =>
      simp only [Bool.false_eq_true, if_false]
      exact ⟨Nat.le_refl _, by omega, hb, fun j h1 h2 => by omega⟩
    | true =>
      simp only [if_true]
      have := ffree_spec v k (i + 1)
      cases hf : ffree v k (i + 1) with
      | none =>
        rw [hf] at this
        simp only at this ⊢
        intro j h1 h2
        by_cases h : j = i
        · subst h; exact hb
        · exact this j (by omega) (by omega)
      | some m =>
        rw [hf] at this
        simp only at this ⊢
        obtain ⟨h1, h2, h3, h4⟩ := this
        refine ⟨by omega, by omega, h3, fun j h5 h6 => ?_⟩
        by_cases h : j = i
        · subst h; exact hb
        · exact h4 j (by omega) h6
theorem viewP_put (D : Dk) (l : List Put) (a : Nat) (b : List Nat) (c : Nat) : viewP D (putP l a b) c = if a = c then b else viewP D l c := by
  unfold viewP
  rw [getP_put]
  by_cases h : a = c
  · simp [h]
  · simp [h]
theorem SpInv.flip_in {N : Nat} {v T : List Nat} (h : SpInv N v T) (hv : v.length = 512) (hN : N ≤ 4096) {i : Nat} (h0 : 51 ≤ i) (h1 : i < N) (hi : i ∉ T) : SpInv N (flipB v i) (i :: T) := by
  refine ⟨fun j hj => ?_, List.nodup_cons.2 ⟨hi, h.nd⟩, fun t ht => ?_⟩
  · rw [flip_bit v i j (by rw [hv]; omega), h.bit j hj]
    by_cases e : i = j
    · subst e
      simp [hi]
    · simp [e, Ne.symm e]
  · rcases List.mem_cons.1 ht with rfl | ht
    · exact ⟨h0, h1⟩
    · exact h.mem t ht
theorem wr_room {N : Nat} {l : List Put} (hl : l.Pairwise fun p q => p.1 < q.1) (hm : ∀ p ∈ l, 49 ≤ p.1 ∧ p.1 < N) (hN : N ≤ 64) (a : Nat) (b : List Nat) : wrF l a b = (0, putP l a b) := by
  have := rise_len 49 N l hl hm
  unfold wrF
  rw [if_pos (Or.inr (by omega))]
theorem putP_rise {l : List Put} (hl : l.Pairwise fun p q => p.1 < q.1) (a : Nat) (b : List Nat) : (putP l a b).Pairwise fun p q => p.1 < q.1 := putK_rise (fun p : Put => p.1) l (a, b) hl
theorem putP_mem {l : List Put} {N : Nat} (hm : ∀ p ∈ l, 49 ≤ p.1 ∧ p.1 < N) {a : Nat} (h0 : 49 ≤ a) (h1 : a < N) (b : List Nat) : ∀ p ∈ putP l a b, 49 ≤ p.1 ∧ p.1 < N := fun p hp => by
  rcases (putK_mem _ _ _ _).1 hp with rfl | ⟨hp, _⟩
  · exact ⟨h0, h1⟩
  · exact hm p hp
theorem take_spec {N : Nat} {D : Dk} {l : List Put} {T : List Nat} (hN : N ≤ 64) (h51 : 51 ≤ N) (hl : l.Pairwise fun p q => p.1 < q.1) (hm : ∀ p ∈ l, 49 ≤ p.1 ∧ p.1 < N) (hv : (viewP D l 49).length = 512) (h : SpInv N (viewP D l 49) T) :
    ((∀ i, 51 ≤ i → i < N → i ∈ T) ∧ takeF N D l = ((0, 44), l)) ∨
    ∃ i, 51 ≤ i ∧ i < N ∧ i ∉ T ∧ (∀ j, 51 ≤ j → j < i → j ∈ T) ∧ takeF N D l = (((i : Int), 0), putP (putP l i zeroS) 49 (flipB (viewP D l 49) i)) ∧ SpInv N (viewP D (putP (putP l i zeroS) 49 (flipB (viewP D l 49) i)) 49) (i :: T) := by
  have hs := ffree_spec (viewP D l 49) (N - 51) 51
  unfold takeF
  cases hf : ffree (viewP D l 49) (N - 51) 51 with
  | none =>
    rw [hf] at hs
    simp only at hs ⊢
    refine .inl ⟨fun i h0 h1 => ?_, trivial⟩
    have := hs i h0 (by omega)
    rw [h.bit i h1] at this
    exact of_decide_eq_true this
  | some i =>
    rw [hf] at hs
    simp only at hs ⊢
    obtain ⟨h1, h2, h3, h4⟩ := hs
    have hiN : i < N := by omega
    rw [h.bit i hiN] at h3
    have hiT : i ∉ T := of_decide_eq_false h3
    refine .inr ⟨i, h1, hiN, hiT, fun j h5 h6 => ?_, ?_, ?_⟩
    · have := h4 j h5 h6
      rw [h.bit j (by omega)] at this
      exact of_decide_eq_true this
    · have e := viewP_put D l i zeroS 49
      rw [if_neg (by omega)] at e
      unfold takeAt
      rw [wr_room hl hm hN]
      simp only [if_true]
      rw [e, wr_room (putP_rise hl _ _) (putP_mem hm (by omega) hiN _) hN]
      simp
    · rw [viewP_put, if_pos rfl]
      exact h.flip_in hv (by omega) h1 hiN hiT
theorem cnt_of {N : Nat} {v T : List Nat} (h : SpInv N v T) (n : Nat) (hn : n ≤ N) : cntB v n = (T.filter fun t => decide (t < n)).length := by
  unfold cntB
  rw [List.countP_eq_length_filter]
  have hp : ((List.range n).filter (bitB v)).Perm (T.filter fun t => decide (t < n)) := by
    refine (List.perm_ext_iff_of_nodup ((List.nodup_range).filter _) (h.nd.filter _)).2 fun x => ?_
    rw [List.mem_filter, List.mem_filter, List.mem_range]
    constructor
    · rintro ⟨h1, h2⟩
      rw [h.bit x (by omega)] at h2
      exact ⟨of_decide_eq_true h2, decide_eq_true h1⟩
    · rintro ⟨h1, h2⟩
      have h2 := of_decide_eq_true h2
      refine ⟨h2, ?_⟩
      rw [h.bit x (by omega)]
      exact decide_eq_true h1
  exact hp.length_eq
theorem free_spec {N : Nat} {v T : List Nat} (h : SpInv N v T) (h51 : 51 ≤ N) : freeF N v = (N : Int) - 51 - (T.length : Int) := by
  unfold freeF
  rw [cnt_of h N (Nat.le_refl _), cnt_of h 51 h51]
  have h1 : (T.filter fun t => decide (t < N)) = T := List.filter_eq_self.2 fun t ht => decide_eq_true (h.mem t ht).2
  have h2 : (T.filter fun t => decide (t < 51)) = [] := List.filter_eq_nil_iff.2 fun t ht => by
    have := (h.mem t ht).1
    simp
    omega
  rw [h1, h2]
  simp
theorem inv_len {N : Nat} {v T : List Nat} (h : SpInv N v T) (h51 : 51 ≤ N) : T.length ≤ N - 51 ∧ (T.length = N - 51 → ∀ i, 51 ≤ i → i < N → i ∈ T) := by
  have hp : T.Perm (((List.range (N - 51)).map (51 + ·)).filter fun t => decide (t ∈ T)) := by
    refine (List.perm_ext_iff_of_nodup h.nd (List.Pairwise.filter _ ?_)).2 fun x => ?_
    · exact List.pairwise_map.2 ((List.nodup_range (n := N - 51)).imp fun {a b} hne e => hne (by omega))
    · rw [List.mem_filter, List.mem_map]
      constructor
      · intro hx
        have := h.mem x hx
        exact ⟨⟨x - 51, List.mem_range.2 (by omega), by omega⟩, decide_eq_true hx⟩
      · intro hx
        exact of_decide_eq_true hx.2
  have hl := hp.length_eq
  have hle := List.length_filter_le (fun t => decide (t ∈ T)) ((List.range (N - 51)).map (51 + ·))
  have hm : ((List.range (N - 51)).map (51 + ·)).length = N - 51 := by rw [List.length_map, List.length_range]
  refine ⟨by omega, fun e i h0 h1 => ?_⟩
  have h2 := List.length_filter_eq_length_iff.1 (show (((List.range (N - 51)).map (51 + ·)).filter fun t => decide (t ∈ T)).length = ((List.range (N - 51)).map (51 + ·)).length by omega)
  exact of_decide_eq_true (h2 i (List.mem_map.2 ⟨i - 51, List.mem_range.2 (by omega), by omega⟩))
end Go.Proofs.YtnbonhinpepgoaaGreat
end
section
set_option linter.unusedVariables false
namespace Go.Proofs.YtnbonhinpepgoaaGreat
open Go.RowKit Go.Maps
def D0 (n : Nat) : Dk := ⟨List.replicate n zeroS, [], false, -1⟩
theorem D0_get (n i : Nat) (h : i < n) : (D0 n).get i = zeroS := by
  unfold Dk.get D0 lastW
  rw [List.getD_eq_getElem?_getD, List.getElem?_replicate, if_pos h]
  rfl
theorem held0 (D : Dk) : heldF D zeroS = (0, [], false) := by
  have h1 : rdSome zeroS false 115 = ([], zeroS, true) := by kernel_rfl
  unfold heldF
  rw [h1]
  rfl
theorem mount0 (n : Nat) (h : 0 < n) : mountF (D0 n) = (0, some 0, D0 n) := by
  unfold mountF
  rw [D0_get n 0 h, held0]
  rfl
end Go.Proofs.YtnbonhinpepgoaaGreat
end
section
set_option linter.unusedVariables false
namespace Go.Proofs.YtnbonhinpepgoaaGreat
open Go.RowKit Go.Maps
theorem calm_write {D : Dk} (h : D.armed < 0) (i : Nat) (b : List Nat) : (D.write i b).1 = 0 ∧ (D.write i b).2.armed < 0 := by
  unfold Dk.write
  rw [if_neg (by omega)]
  refine ⟨rfl, ?_⟩
  show (if 0 < D.armed then D.armed - 1 else D.armed) < 0
  rw [if_neg (by omega)]
  exact h
theorem calm_run (l : List Put) : ∀ {r : Int × Dk}, r.1 = 0 → r.2.armed < 0 → (l.foldl wrStep r).1 = 0 ∧ (l.foldl wrStep r).2.armed < 0 := by
  induction l with
  | nil => intro r h0 h1; exact ⟨h0, h1⟩
  | cons p l ih =>
    intro r h0 h1
    rw [List.foldl_cons]
    have : wrStep r p = r.2.write p.1 p.2 := by rw [wrStep, if_pos h0]
    rw [this]
    have hw := calm_write h1 p.1 p.2
    exact ih hw.1 hw.2
theorem calm_steps {D : Dk} (h : D.armed < 0) (l : List Put) : (D.steps l).1 = 0 ∧ (D.steps l).2.armed < 0 := by
  have hr := calm_run l (r := (0, D)) rfl h
  unfold Dk.steps Dk.runW
  rw [if_pos hr.1]
  exact ⟨rfl, hr.2⟩
theorem calm_commit {D : Dk} (h : D.armed < 0) (sq : Nat) (l : List Put) : (commitF D sq l).1 = 0 ∧ (commitF D sq l).2.2.2 = false ∧ (commitF D sq l).2.1.armed < 0 := by
  unfold commitF
  by_cases hl : l = []
  · rw [if_pos hl]
    exact ⟨rfl, rfl, h⟩
  · rw [if_neg hl]
    have h1 := calm_steps h (slotsP l)
    have h2 := calm_steps h1.2 [(0, sealB ((sq + 1) % 18446744073709551616) l)]
    have h3 := calm_steps h2.2 l
    unfold Dk.three
    simp only
    rw [if_pos h1.1, if_pos h2.1, if_pos h3.1]
    exact ⟨rfl, rfl, h3.2⟩
section
variable {F : Nat → Prop} {g gj gx n sq : Nat} {l : List Put} {T : List Nat} {w w' : World}
structure SpT (F : Nat → Prop) (g gj gx n : Nat) (T : List Nat) (w : World) : Prop where
  ex : ∃ l, SpR F g gj gx n 0 (D0 64) l w ∧ SpInv 64 (viewP (D0 64) l 49) T
theorem SpT.lt (h : SpT F g gj gx n T w) {k : Nat} (hk : F k) : k < w.heap.size := by
  obtain ⟨l, h, _⟩ := h.ex
  exact h.lt hk
theorem SpT.fr {M : Nat → Prop} (h : SpT F g gj gx n T w) (hf : Fr M w w') (hM : ∀ k, F k → ¬ M k) : SpT F g gj gx n T w' := by
  obtain ⟨l, h, hi⟩ := h.ex
  exact ⟨l, h.fr hf hM, hi⟩
theorem SpT.more (h : SpT F g gj gx n T w) : SpT F g gj gx (n + 1) T w := by
  obtain ⟨l, h, hi⟩ := h.ex
  exact ⟨l, h.more, hi⟩
theorem SpT.inv (h : SpT F g gj gx n T w) : T.Nodup ∧ (∀ t ∈ T, 51 ≤ t ∧ t < 64) ∧ T.length ≤ 13 := by
  obtain ⟨l, h, hi⟩ := h.ex
  exact ⟨hi.nd, hi.mem, (inv_len hi (by decide)).1⟩
theorem D0_len (n : Nat) : (D0 n).st.length = n := List.length_replicate ..
theorem SpT.take (h : SpT F g gj gx n T w) (hn : n + 2 < 1000000) (hT : T.length < 13) :
    Calls Tryz.prog 36 #[.pointer (some ⟨gx, 0, none⟩)] w fun e w' => ∃ i : Nat, e = .returned (.tuple #[.int .i64 i, .int .i64 0]) ∧ 51 ≤ i ∧ i < 64 ∧ i ∉ T ∧ (∀ j, 51 ≤ j → j < i → j ∈ T) ∧ ∃ F', SpT F' g gj gx (n + 2) (i :: T) w' ∧ Mv F F' w w' := by
  obtain ⟨l, h, hi⟩ := h.ex
  obtain ⟨hr, hl, hm⟩ := h.rise
  rw [D0_len] at hm
  have hv := (h.viewSec (a := 49) (by rw [D0_len]; decide)).len
  refine (h.take rfl hn).mono ?_
  rw [D0_len]
  rcases take_spec (N := 64) (Nat.le_refl _) (by decide) hr (fun p hp => ⟨(hm p hp).1, (hm p hp).2.1⟩) hv hi with ⟨hall, he⟩ | ⟨i, h0, h1, h2, h3, he, hi'⟩
  · exfalso
    have h1 : (List.range 13).length ≤ T.length := by
      have hp : ((List.range 13).map (51 + ·)).Subset T := fun x hx => by
        obtain ⟨y, hy, rfl⟩ := List.mem_map.1 hx
        have := List.mem_range.1 hy
        exact hall _ (by omega) (by omega)
      have hnd : ((List.range 13).map (51 + ·)).Nodup := by decide
      have hf : ((List.range 13).map (51 + ·)).Perm (T.filter fun t => decide (t ∈ (List.range 13).map (51 + ·))) := by
        refine (List.perm_ext_iff_of_nodup hnd (hi.nd.filter _)).2 fun x => ?_
        rw [List.mem_filter]
        exact ⟨fun hx => ⟨hp hx, decide_eq_true hx⟩, fun hx => of_decide_eq_true hx.2⟩
      have := hf.length_eq
      have h2 := List.length_filter_le (fun t => decide (t ∈ (List.range 13).map (51 + ·))) T
      rw [List.length_map] at this
      omega
    rw [List.length_range] at h1
    omega
  · rw [he]
    rintro e w' ⟨rfl, F', hS, hM⟩
    exact ⟨i, rfl, h0, h1, h2, h3, F', ⟨_, hS, hi'⟩, hM⟩
theorem SpT.free (h : SpT F g gj gx n T w) :
    Calls Tryz.prog 40 #[.pointer (some ⟨gx, 0, none⟩)] w fun e w' => e = .returned (.int .i64 (13 - (T.length : Int))) ∧ Fr (fun _ => False) w w' := by
  obtain ⟨l, h, hi⟩ := h.ex
  refine (h.free rfl).mono ?_
  rw [D0_len, free_spec hi (by decide)]
  exact fun e w' h => h
theorem SpT.commit (h : SpT F g gj gx n T w) :
    Calls Tryz.prog 42 #[.pointer (some ⟨gx, 0, none⟩)] w fun e w' => e = .returned (.int .i64 0) ∧ Fr F w w' := by
  obtain ⟨l, h, hi⟩ := h.ex
  refine (h.commit rfl (by show 0 < 800000; decide)).mono ?_
  rw [(calm_commit (D := D0 64) (by decide) 0 l).1]
  rintro e w' ⟨rfl, F', _, hM⟩
  exact ⟨rfl, hM.fr⟩
end
end Go.Proofs.YtnbonhinpepgoaaGreat
end
section
set_option linter.unusedVariables false
namespace Go.Proofs.YtnbonhinpepgoaaGreat
open Go.RowKit Go.Maps
theorem setS_get (l : List Put) : ∀ (st : List (List Nat)) (i : Nat), i < st.length → (l.foldl setS st).getD i [] = lastW l i (st.getD i []) := by
  induction l with
  | nil => intro st i _; rfl
  | cons p l ih =>
    intro st i hi
    rw [List.foldl_cons, ih (setS st p) i (by rw [setS_len]; exact hi)]
    unfold lastW
    rw [List.foldl_cons]
    congr 1
    unfold setS
    rw [List.getD_eq_getElem?_getD, List.getElem?_set]
    by_cases h : p.1 = i
    · subst h
      simp [hi]
    · simp [h, List.getD_eq_getElem?_getD]
theorem lastW_idem (l : List Put) (i : Nat) : ∀ b, lastW l i (lastW l i b) = lastW l i b := by
  have key : ∀ (l : List Put), (∀ b, lastW l i b = b) ∨ ∃ c, ∀ b, lastW l i b = c := by
    intro l
    induction l with
    | nil => exact .inl fun b => rfl
    | cons p l ih =>
      rcases ih with h | ⟨c, h⟩
      · by_cases hp : p.1 = i
        · refine .inr ⟨p.2, fun b => ?_⟩
          have := h p.2
          unfold lastW at this ⊢
          rw [List.foldl_cons, if_pos hp]
          exact this
        · refine .inl fun b => ?_
          have := h b
          unfold lastW at this ⊢
          rw [List.foldl_cons, if_neg hp]
          exact this
      · refine .inr ⟨c, fun b => ?_⟩
        unfold lastW at h ⊢
        rw [List.foldl_cons]
        exact h _
  intro b
  rcases key l with h | ⟨c, h⟩
  · rw [h, h]
  · rw [h, h]
theorem lastW_out (l : List Put) (i : Nat) (b : List Nat) (h : ∀ p ∈ l, p.1 ≠ i) : lastW l i b = b := by
  induction l generalizing b with
  | nil => rfl
  | cons p l ih =>
    unfold lastW
    rw [List.foldl_cons, if_neg (h p (List.mem_cons_self ..))]
    exact ih b fun q hq => h q (List.mem_cons_of_mem _ hq)
theorem setS_twice (l : List Put) (st : List (List Nat)) : l.foldl setS (l.foldl setS st) = l.foldl setS st := by
  refine List.ext_getElem (by rw [setS_all, setS_all]) fun i h1 h2 => ?_
  have hi : i < st.length := by rw [setS_all] at h2; exact h2
  have e1 := setS_get l (l.foldl setS st) i (by rw [setS_all]; exact hi)
  have e2 := setS_get l st i hi
  rw [e2, lastW_idem, ← e2] at e1
  rw [List.getD_eq_getElem?_getD, List.getD_eq_getElem?_getD, List.getElem?_eq_getElem h1, List.getElem?_eq_getElem h2] at e1
  exact e1
structure Calm (D : Dk) : Prop where
  ca : D.ca = []
  down : D.down = false
  armed : D.armed < 0
theorem calm_runW {D : Dk} (h : D.armed < 0) (l : List Put) : D.runW l = (0, { D with ca := D.ca ++ l }) := by
  have key : ∀ (l : List Put) (D : Dk), D.armed < 0 → l.foldl wrStep (0, D) = (0, { D with ca := D.ca ++ l }) := by
    intro l
    induction l with
    | nil => intro D _; simp
    | cons p l ih =>
      intro D hD
      rw [List.foldl_cons]
      have hw : wrStep (0, D) p = (0, { D with ca := D.ca ++ [(p.1, p.2)] }) := by
        unfold wrStep Dk.write
        rw [if_pos rfl, if_neg (by show ¬ D.armed = 0; omega)]
        simp only
        rw [if_neg (by omega)]
      rw [hw, ih { D with ca := D.ca ++ [(p.1, p.2)] } hD]
      simp
  exact key l D h
theorem calm_stepsF {D : Dk} (h : Calm D) (l : List Put) : D.steps l = (0, { D with st := l.foldl setS D.st }) := by
  unfold Dk.steps
  rw [calm_runW h.armed l, if_pos rfl]
  unfold Dk.flush
  simp only [h.ca, List.nil_append]
theorem calm_get {D : Dk} (h : Calm D) (i : Nat) : D.get i = D.st.getD i [] := by
  unfold Dk.get
  rw [h.ca]
  rfl
theorem heldL_of {D D' : Dk} (hl : D'.st.length = D.st.length) (hg : ∀ i, i < 49 → D'.get i = D.get i) : ∀ (k i : Nat) (b : List Nat) (br : Bool) (acc : List Put), i + k ≤ 48 → heldL D' k i b br acc = heldL D k i b br acc
  | 0, _, _, _, _, _ => rfl
  | k + 1, i, b, br, acc, h => by
    unfold heldL
    rw [hl, hg (1 + i) (by omega), heldL_of hl hg k (i + 1) _ _ _ (by omega)]
theorem heldF_of {D D' : Dk} (hl : D'.st.length = D.st.length) (hg : ∀ i, i < 49 → D'.get i = D.get i) (b : List Nat) : heldF D' b = heldF D b := by
  unfold heldF
  simp only
  rw [heldL_of hl hg _ 0 _ _ [] (by have := rdList_le (b := (rdUint (rdSome b false 115).2.1 (rdSome b false 115).2.2).2.1) (br := (rdUint (rdSome b false 115).2.1 (rdSome b false 115).2.2).2.2) (most := 48); omega)]
theorem heldL_hi {D : Dk} : ∀ (k i : Nat) (b : List Nat) (br : Bool) (acc l : List Put), heldL D k i b br acc = some l → (∀ p ∈ acc, 49 ≤ p.1) → ∀ p ∈ l, 49 ≤ p.1 := by
  intro k
  induction k with
  | zero =>
    intro i b br acc l h ha
    simp only [heldL, Option.some.injEq] at h
    subst h
    exact ha
  | succ k ih =>
    intro i b br acc l h ha
    simp only [heldL] at h
    by_cases hc : (rdUint b br).1 < 49 ∨ D.st.length ≤ (rdUint b br).1
    · rw [if_pos hc] at h
      cases h
    · rw [if_neg hc] at h
      exact ih _ _ _ _ _ h fun p hp => by
        rcases List.mem_append.1 hp with hp | hp
        · exact ha p hp
        · obtain rfl := List.mem_singleton.1 hp
          show 49 ≤ (rdUint b br).1
          omega
theorem heldF_hi {D : Dk} (b : List Nat) : ∀ p ∈ (heldF D b).2.1, 49 ≤ p.1 := by
  unfold heldF
  simp only
  split
  · exact fun p hp => nomatch hp
  · rename_i l hl
    exact heldL_hi _ _ _ _ _ _ hl fun p hp => nomatch hp
theorem calm_mount {D : Dk} (h : Calm D) (h64 : 49 ≤ D.st.length) : ∃ s D', mountF D = (0, some s, D') ∧ Calm D' ∧ D'.st.length = D.st.length ∧ mountF D' = (0, some s, D') := by
  have hm : ∀ D : Dk, Calm D → mountF D = (if (heldF D (D.get 0)).2.2 then (0, some (heldF D (D.get 0)).1, { D with st := (heldF D (D.get 0)).2.1.foldl setS D.st }) else (0, some 0, D)) := fun D h => by
    unfold mountF
    simp only
    cases hb : (heldF D (D.get 0)).2.2 with
    | false => simp
    | true =>
      simp only [if_true]
      rw [calm_stepsF h]
      simp
  rw [hm D h]
  cases hb : (heldF D (D.get 0)).2.2 with
  | false =>
    refine ⟨0, D, by simp, h, rfl, ?_⟩
    rw [hm D h, hb]
    simp
  | true =>
    have hhi := heldF_hi (D := D) (D.get 0)
    generalize hl : (heldF D (D.get 0)).2.1 = l at *
    have hc : Calm { D with st := l.foldl setS D.st } := ⟨h.ca, h.down, h.armed⟩
    have hg : ∀ i, i < 49 → ({ D with st := l.foldl setS D.st } : Dk).get i = D.get i := fun i hi => by
      rw [calm_get hc, calm_get h]
      show (l.foldl setS D.st).getD i [] = _
      rw [setS_get l D.st i (by omega), lastW_out l i _ fun p hp e => by have := hhi p hp; omega]
    refine ⟨(heldF D (D.get 0)).1, { D with st := l.foldl setS D.st }, by simp, hc, setS_all _ _, ?_⟩
    rw [hm _ hc, hg 0 (by omega), heldF_of (D := D) (setS_all _ _) hg, hb, hl]
    simp only [if_true]
    rw [setS_twice]
theorem steps_len (D : Dk) (l : List Put) : (D.steps l).2.st.length = D.st.length := by
  have hw : ∀ (D : Dk) (i : Nat) (b : List Nat), (D.write i b).2.st = D.st := fun D i b => by
    unfold Dk.write
    split <;> rfl
  have hr : ∀ (l : List Put) (r : Int × Dk), (l.foldl wrStep r).2.st = r.2.st := by
    intro l
    induction l with
    | nil => intro r; rfl
    | cons p l ih =>
      intro r
      rw [List.foldl_cons, ih]
      unfold wrStep
      split
      · exact hw _ _ _
      · rfl
  unfold Dk.steps Dk.runW
  split
  · show ((l.foldl wrStep (0, D)).2.flush).st.length = _
    unfold Dk.flush
    simp only
    rw [setS_all, hr]
  · rw [hr]
theorem commit_len (D : Dk) (sq : Nat) (l : List Put) : (commitF D sq l).2.1.st.length = D.st.length := by
  have h3 : ∀ s, (D.three s l).2.st.length = D.st.length := fun s => by
    unfold Dk.three
    simp only
    split
    · split
      · rw [steps_len, steps_len, steps_len]
      · rw [steps_len, steps_len]
    · rw [steps_len]
  unfold commitF
  split
  · rfl
  · simp only
    split
    · exact h3 _
    · exact h3 _
theorem crash_len (D : Dk) (keep : List Bool) : (D.crash keep).st.length = D.st.length := setS_all _ _
theorem crash_calm (D : Dk) (keep : List Bool) : Calm (D.crash keep) := ⟨rfl, rfl, by show (-1 : Int) < 0; decide⟩
end Go.Proofs.YtnbonhinpepgoaaGreat
end
section
set_option linter.unusedVariables false
namespace Go.Proofs.YtnbonhinpepgoaaGreat
open Go.RowKit Go.Maps
def secF (by_ odd : Nat) : List Nat := (List.replicate 512 by_).set odd odd
theorem secF_sec {by_ odd : Nat} (h : by_ < 256) (h2 : odd < 256) : IsSec (secF by_ odd) := by
  refine ⟨by rw [secF, List.length_set, List.length_replicate], fun x hx => ?_⟩
  rcases List.mem_or_eq_of_mem_set hx with hx | rfl
  · rw [List.eq_of_mem_replicate hx]; exact h
  · exact h2
def fillTo (by_ j : Nat) : List Nat := (List.range 512).map fun i => if i < j then by_ else 0
theorem fillTo_len (b j : Nat) : (fillTo b j).length = 512 := by rw [fillTo, List.length_map, List.length_range]
theorem fillTo_0 (b : Nat) : fillTo b 0 = zeroS := by
  unfold fillTo zeroS
  rw [show (fun i => if i < 0 then b else 0) = (fun _ => 0) from funext fun i => if_neg (Nat.not_lt_zero _), List.map_const', List.length_range]
theorem fillTo_512 (b : Nat) : fillTo b 512 = List.replicate 512 b :=
  (List.map_congr_left (g := fun _ => b) fun i hi => if_pos (List.mem_range.1 hi)).trans (by rw [List.map_const', List.length_range])
theorem fillTo_set (b j : Nat) (h : j < 512) : (fillTo b j).set j b = fillTo b (j + 1) := by
  refine List.ext_getElem (by rw [List.length_set, fillTo_len, fillTo_len]) fun i h1 h2 => ?_
  rw [List.getElem_set]
  simp only [fillTo, List.getElem_map, List.getElem_range]
  by_cases e : j = i
  · subst e
    simp
  · rw [if_neg e]
    by_cases h3 : i < j
    · rw [if_pos h3, if_pos (by omega)]
    · rw [if_neg h3, if_neg (by omega)]
set_option maxRecDepth 10000 in
theorem sector_ok (by_ odd : Nat) (hb : by_ < 256) (ho : odd < 256) (w : World) :
    Calls Tryz.prog 20 #[.int .u8 by_, .int .u8 odd] w fun e w' => ∃ k, e = .returned (.slice (some ⟨k, 0, none⟩) 512 512) ∧ Row8 w' k (secF by_ odd) ∧ w.heap.size ≤ k ∧ Fr (fun _ => False) w w' := by
  have hmk := mk_zeroS w
  obtain ⟨w1, hw1⟩ : ∃ w1, w.alloc (.cells (n8 zeroS).toArray 5) = w1 := ⟨_, rfl⟩
  rw [hw1] at hmk
  have hF1 : Fr (fun _ => False) w w1 := by rw [← hw1]; exact (Fr.refl _ _).alloc _
  have hR1 : Row8 w1 w.heap.size zeroS := row8_of (T := 5) (by rw [← hw1]; exact heap_alloc_new w _)
  have hz1 := hF1.size
  clear hw1
  have HF1 := Lib.hid hF1
  have HR1 := Lib.hid (show Row8 w1 w.heap.size (fillTo by_ 0) by rw [fillTo_0]; exact hR1)
  clear hF1 hR1
  go_enter Tryz.func20, Tryz.ntmps20
  go_wp2
  go_loopw [6] (fun t wr => ∃ j : Nat, t = .int .i64 j ∧ j ≤ 512 ∧ Hid (Row8 wr w.heap.size (fillTo by_ j)) ∧ Hid (Fr (fun _ => False) w wr)) (fun t _ => 512 - (intOf t).toNat)
  case atStart => exact ⟨0, rfl, by omega, HR1, HF1⟩
  case round =>
    clear HR1 HF1
    obtain ⟨j, rfl, hj, HR, HF⟩ := hrel
    by_cases hjl : j < 512
    · have c0 := HR.out.cell j (by rw [fillTo_len]; exact hjl)
      have z0 := HR.out.nofz j
      generalize ((fillTo by_ j)[j]'(by rw [fillTo_len]; exact hjl) : Int) = q at c0
      have HS := Lib.hid (show Row8 (wr.setCell ⟨w.heap.size, j, none⟩ (.int .u8 (by_ : Int))) w.heap.size (fillTo by_ (j + 1)) by rw [← fillTo_set by_ j hjl]; exact HR.out.set j by_ (by rw [fillTo_len]; exact hjl))
      go_wp2
      go_roundw
      case rel => exact ⟨j + 1, by go_num, by omega, HS, Lib.hid (HF.out.then_ (fr_set _ _ _ _) (fun k hk e => by omega))⟩
      case measure => simp [intOf]; omega
    · obtain rfl : j = 512 := by omega
      have c0 := HR.out.cell odd (by rw [fillTo_len]; omega)
      have z0 := HR.out.nofz odd
      generalize ((fillTo by_ 512)[odd]'(by rw [fillTo_len]; omega) : Int) = q at c0
      have HS := Lib.hid (show Row8 (wr.setCell ⟨w.heap.size, odd, none⟩ (.int .u8 (odd : Int))) w.heap.size (secF by_ odd) by rw [secF, ← fillTo_512 by_]; exact HR.out.set odd odd (by rw [fillTo_len]; omega))
      go_wp2
      go_ret
      exact ⟨w.heap.size, rfl, HS.out, Nat.le_refl _, HF.out.then_ (fr_set _ _ _ _) (fun k hk e => by omega)⟩
set_option maxRecDepth 10000 in
theorem sameR_ok (a b : List Nat) (X Y : Option Addr) (c1 c2 k1 k2 : Nat) (ha : a.length < 1000000000) (hb : b.length < 1000000000) (w : World) (h1 : BSl w X k1 a) (h2 : BSl w Y k2 b) :
    Calls Tryz.prog 25 #[.slice X a.length c1, .slice Y b.length c2] w fun e w' => e = .returned (.bool (decide (a = b))) ∧ Fr (fun _ => False) w w' := by
  obtain ⟨R, hR⟩ : ∃ R, decide (a = b) = R := ⟨_, rfl⟩
  rw [hR]
  have HR := Lib.hid hR
  have H1 := Lib.hid h1
  have H2 := Lib.hid h2
  clear hR h1 h2
  by_cases hl : a.length = b.length
  · have hl' : ((a.length : Int) != (b.length : Int)) = false := by simp [hl]
    have hl2 : (a.length : Int) = (b.length : Int) := by omega
    have HL := Lib.hid hl
    clear hl hl2
    go_enter Tryz.func25, Tryz.ntmps25
    go_wp2
    go_loopw [5] (fun t wr => ∃ j : Nat, t = .int .i64 j ∧ j ≤ a.length ∧ Hid (a.take j = b.take j) ∧ Hid (Fr (fun _ => False) w wr)) (fun t _ => a.length - (intOf t).toNat)
    case atStart => exact ⟨0, rfl, Nat.zero_le _, Lib.hid rfl, Lib.hid (Fr.refl _ _)⟩
    case round =>
      obtain ⟨j, rfl, hj, HA, HF⟩ := hrel
      by_cases hjl : j < a.length
      · have hjb : j < b.length := by have := HL.out; omega
        obtain ⟨o1, rfl, r1⟩ := H1.out (by omega)
        obtain ⟨o2, rfl, r2⟩ := H2.out (by omega)
        have c1' := HF.out.cell (r1 j (.int .u8 (a[j] : Int)) (by simp [n8, List.getElem?_map, List.getElem?_eq_getElem hjl])) id
        have c2' := HF.out.cell (r2 j (.int .u8 (b[j] : Int)) (by simp [n8, List.getElem?_map, List.getElem?_eq_getElem hjb])) id
        have HT := Lib.hid (take_eq_succ (a := a) (b := b) (j := j) (x := a[j]) (y := b[j]) (List.getElem?_eq_getElem hjl) (List.getElem?_eq_getElem hjb))
        have HE := Lib.hid (show a = b → a[j] = b[j] from fun e => by subst e; rfl)
        clear r1 r2
        generalize a[j] = x at *
        generalize b[j] = y at *
        by_cases he : x = y
        · subst he
          have e1 : ((x : Int) != (x : Int)) = false := by simp
          go_wp2
          go_quiet (fail)
          go_wp2
          go_roundw
          case rel => exact ⟨j + 1, by go_num, by omega, Lib.hid (HT.out.2 ⟨HA.out, trivial⟩), Lib.hid (HF.out.drewN _)⟩
          case measure => simp [intOf]; omega
        · have e1 : ((x : Int) != (y : Int)) = true := by rw [bne_iff_ne]; omega
          obtain rfl : R = false := by rw [← HR.out]; exact decide_eq_false fun e => he (HE.out e)
          clear he
          go_wp2
          go_quiet (fail)
          go_wp2
          go_ret
          exact ⟨rfl, HF.out.drewN _⟩
      · obtain rfl : j = a.length := by omega
        obtain rfl : R = true := by
          rw [← HR.out]
          have := HA.out
          rw [List.take_length, HL.out, List.take_length] at this
          exact decide_eq_true this
        go_wp2
        go_ret
        exact ⟨rfl, HF.out⟩
  · have hl' : ((a.length : Int) != (b.length : Int)) = true := by rw [bne_iff_ne]; omega
    obtain rfl : R = false := by rw [← HR.out]; exact decide_eq_false fun e => hl (by rw [e])
    clear hl
    go_enter Tryz.func25, Tryz.ntmps25
    go_wp2
    go_ret
    exact ⟨rfl, Fr.refl _ _⟩
def imgF (D : Dk) : List Nat := (D.st.drop 49).flatten
section
variable {g gs : Nat} {cv : Value} {D : Dk} {w : World}
set_option maxRecDepth 10000 in
theorem image_ok (h : DRep g gs cv D w) (hL : D.st.length = 64) :
    Calls Tryz.prog 23 #[.pointer (some ⟨g, 0, none⟩)] w fun e w' => ∃ v, e = .returned v ∧ w'.ownsRow w.heap.size 5 1 v (imgF D).length (n8 (imgF D)) ∧ Fr (fun _ => False) w w' := by
  have H := Lib.hid (fun W (hF : Fr (fun _ => False) w W) => h.fr hF (fun _ _ => id))
  have HL := Lib.hid hL
  have HSEC := Lib.hid (show ∀ i s, D.st[i]? = some s → IsSec s from fun i s hs => h.ok.sec s (List.mem_of_getElem? hs))
  clear h hL
  go_enter Tryz.func23, Tryz.ntmps23
  go_wp2
  go_loopw [4, 3] (fun t v wr => ∃ (j : Nat) (u : List Nat), t = .int .i64 (49 + j : Nat) ∧ 49 + j ≤ 64 ∧ u.length = 512 * j ∧ Hid (u = ((D.st.drop 49).take j).flatten) ∧ Hid (wr.ownsRow w.heap.size 5 1 v u.length (n8 u)) ∧ Hid (Fr (fun _ => False) w wr)) (fun t _ _ => 64 - (intOf t).toNat)
  case atStart => exact ⟨0, [], rfl, by omega, rfl, Lib.hid rfl, Lib.hid (World.ownsRow_nil _ _ _ _), Lib.hid (Fr.refl _ _)⟩
  case round =>
    obtain ⟨j, u, rfl, hj, hu, HU, HO, HF⟩ := hrel
    have hz := HF.out.size
    have hsz := size_any (H.out wr HF.out)
    rw [HL.out] at hsz
    by_cases hjl : 49 + j < 64
    · have hst := stable_ok (H.out wr HF.out) (49 + j) (by rw [HL.out]; exact hjl)
      obtain ⟨s, hs⟩ : ∃ s, D.st[49 + j]? = some s := ⟨_, List.getElem?_eq_getElem (by rw [HL.out]; exact hjl)⟩
      have hsec := HSEC.out _ s hs
      have hg : D.st.getD (49 + j) [] = s := by rw [List.getD_eq_getElem?_getD, hs]; rfl
      rw [hg] at hst
      have HU2 := Lib.hid (show u ++ s = ((D.st.drop 49).take (j + 1)).flatten by
        rw [List.take_add_one, List.getElem?_drop, hs, List.flatten_append, ← HU.out]
        simp)
      have hsl := hsec.len
      have HSL := Lib.hid hsl
      clear hg hs hsl hsec
      have hu2 : Hid (u.length = 512 * j) := Lib.hid hu
      have hub : u.length ≤ 7680 := by omega
      clear hu
      go_wp2_with (first
        | (go_at_call 90; refine hsz.mono ?_; rintro e w3 ⟨rfl, rfl⟩; clear hsz)
        | (go_at_call 50; refine hst.mono ?_; rintro e w4 ⟨k, rfl, hk, hkz, hF4⟩; have HK := Lib.hid hk; have hz4 := hF4.size; have HF4 := Lib.hid hF4; clear hk hF4 hst)
        | (at_builtin; refine app_at (own_fr HO.out HF4.out (fun _ _ _ _ => id)) 512 (n8 s) Tryz.underlying42 byteInfo rfl (by decide) (by rw [n8_len, HSL.out]) (n8_one _) (by omega) (by omega) (by omega) rfl rfl rfl rfl (fun _ => ⟨_, rfl, fun q v hv => by rw [addr_add0]; exact cell_of_row w4 k q _ _ _ HK.out |>.trans (by simpa using hv)⟩) ?_; intro v5 w5 hO5 hF5 hL5; have HO5 := Lib.hid (show w5.ownsRow w.heap.size 5 1 v5 (u ++ s).length (n8 (u ++ s)) from by rw [List.length_append, HSL.out, n8, List.map_append]; exact hO5); have HF5 := Lib.hid ((HF.out.trans HF4.out).then_ hF5 (fun k hk e => by have := (HO.out.lt k e).1; omega)); clear hO5 hF5 hL5))
      go_roundw
      case rel => exact ⟨j + 1, u ++ s, by go_num, by omega, by rw [List.length_append, hu2.out, HSL.out]; omega, HU2, HO5, HF5⟩
      case measure => simp [intOf]; omega
    · obtain rfl : j = 15 := by omega
      have HU2 := Lib.hid (show u = imgF D by rw [HU.out, imgF, List.take_of_length_le (by rw [List.length_drop, HL.out]; omega)])
      clear HU hu
      go_wp2_with (go_at_call 90; refine hsz.mono ?_; rintro e w3 ⟨rfl, rfl⟩; clear hsz)
      go_ret
      exact ⟨_, rfl, by rw [← HU2.out]; exact HO.out, HF.out⟩
end
end Go.Proofs.YtnbonhinpepgoaaGreat
end
section
set_option linter.unusedVariables false
namespace Go.Proofs.YtnbonhinpepgoaaGreat
open Go.RowKit Go.Maps
def TxP (F : Nat → Prop) (g gj gt n sq : Nat) (D : Dk) (l : List Put) (w : World) : Prop :=
  ∃ gs gm cv q, TxR g gs gj gt gm n sq false false 0 0 cv D q w ∧ q.p = l ∧ ∀ k, F k ↔ TFoot g gs gj gt gm cv q k
section
variable {F : Nat → Prop} {g gj gt n sq : Nat} {lv : Bool} {D : Dk} {l : List Put} {w w' : World}
theorem TxP.lt (h : TxP F g gj gt n sq D l w) {k : Nat} (hk : F k) : k < w.heap.size := by
  obtain ⟨gs, gm, cv, q, hT, hq, hF⟩ := h
  exact hT.lt ((hF k).1 hk)
theorem TxP.fr {M : Nat → Prop} (h : TxP F g gj gt n sq D l w) (hf : Fr M w w') (hM : ∀ k, F k → ¬ M k) : TxP F g gj gt n sq D l w' := by
  obtain ⟨gs, gm, cv, q, hT, hq, hF⟩ := h
  exact ⟨gs, gm, cv, q, hT.fr hf (fun k hk => hM k ((hF k).2 hk)), hq, hF⟩
theorem TxP.frF (h : TxP F g gj gt n sq D l w) (hf : Fr (fun _ => False) w w') : TxP F g gj gt n sq D l w' := h.fr hf (fun _ _ => id)
theorem TxP.write (h : TxP F g gj gt n sq D l w) (hn : n < 1000000) (i : Int) (b : List Nat) (hb : IsSec b) (X : Option Addr) (cap : Nat) (hX : Has w X b) :
    Calls Tryz.prog 19 #[.pointer (some ⟨gt, 0, none⟩), .int .i64 i, .slice X 512 cap] w fun e w' => e = .returned (.int .i64 (wrI D.st.length l i b).1) ∧ ∃ F', TxP F' g gj gt (n + 1) sq D (wrI D.st.length l i b).2 w' ∧ Mv F F' w w' := by
  obtain ⟨gs, gm, cv, q, hT, rfl, hF⟩ := h
  have hinc : TxR g gs gj gt gm (n + 1) sq false false 0 0 cv D q w := by
    obtain ⟨h1, h2, h3, h4, h5⟩ := hT
    obtain ⟨es, clock, hb, Ft, hs, hD⟩ := h4
    exact ⟨h1, h2, h3, ⟨es, clock, hb, Ft, by omega, hD⟩, h5, by assumption, by assumption, by assumption, by assumption, by assumption, by assumption, by assumption⟩
  have same : TxP F g gj gt (n + 1) sq D q.p w := ⟨gs, gm, cv, q, hinc, rfl, hF⟩
  have hlen : q.p.length = q.length := Ents.p_len q
  unfold wrI
  by_cases hr : 49 ≤ i ∧ i < (D.st.length : Int)
  · rw [if_pos hr]
    obtain ⟨a, rfl⟩ : ∃ a : Nat, i = a := ⟨i.toNat, by omega⟩
    rw [Int.toNat_natCast]
    unfold wrF
    by_cases hc : (getP q.p a).isSome = true ∨ q.p.length < 48
    · rw [if_pos hc]
      refine (hT.write hn a (by omega) (by omega) b hb X cap hX (by rw [← hlen]; exact hc)).mono ?_
      rintro e w' ⟨rfl, k, hk, hT', hf⟩
      refine ⟨rfl, fun j => TFoot g gs gj gt gm cv (q.put a b k) j, ⟨gs, gm, cv, _, hT', Ents.put_p _ _ _ _, fun _ => Iff.rfl⟩, ⟨hf.mono (fun j _ e => (hF j).2 (.inr (.inr (.inr (.inl e))))), fun j hj => ?_⟩⟩
      rcases hj with h2 | h2 | h2 | h2 | ⟨x, hxm, h2⟩
      · exact .inl ((hF j).2 (.inl h2))
      · exact .inl ((hF j).2 (.inr (.inl h2)))
      · exact .inl ((hF j).2 (.inr (.inr (.inl h2))))
      · exact .inl ((hF j).2 (.inr (.inr (.inr (.inl h2)))))
      · rcases (putK_mem _ _ _ _).1 hxm with rfl | ⟨hxm, _⟩
        · exact .inr (h2 ▸ hk)
        · exact .inl ((hF j).2 (.inr (.inr (.inr (.inr ⟨x, hxm, h2⟩)))))
    · rw [if_neg hc]
      have hc' := not_or.1 hc
      refine (twrite_full hT.t hT.j hT.d hT.m a (by omega) (by omega) X cap (by rw [Ents.has]; simpa using hc'.1) (by rw [Ents.l_len, ← hlen]; omega)).mono ?_
      rintro e w' ⟨rfl, rfl⟩
      exact ⟨rfl, F, same, Mv.refl _ _⟩
  · rw [if_neg hr]
    refine (twrite_place hT.t hT.j hT.d i hr _).mono ?_
    rintro e w' ⟨rfl, rfl⟩
    exact ⟨rfl, F, same, Mv.refl _ _⟩
theorem TxP.len (h : TxP F g gj gt n sq D l w) : Calls Tryz.prog 78 #[.pointer (some ⟨gt, 0, none⟩)] w fun e w' => e = .returned (.int .i64 l.length) ∧ w = w' := by
  obtain ⟨gs, gm, cv, q, hT, rfl, hF⟩ := h
  exact hT.len
theorem TxP.commit (h : TxP F g gj gt n sq D l w) (hd : D.down = false) (hmany : D.ca.length < 800000) :
    Calls Tryz.prog 21 #[.pointer (some ⟨gt, 0, none⟩)] w fun e w' => e = .returned (.int .i64 (commitF D sq l).1) ∧ ∃ F', JnP F' g gj (commitF D sq l).2.2.1 (commitF D sq l).2.2.2 (commitF D sq l).2.1 w' ∧ Mv F F' w w' := by
  obtain ⟨gs, gm, cv, q, hT, rfl, hF⟩ := h
  refine (hT.commit1 hd hmany).mono ?_
  rintro e w2 ⟨rfl, hT2, cv', hD2, hJ2, hF2, hL2, hn2⟩
  refine ⟨rfl, fun k => Foot g gs cv' k ∨ k = gj, ⟨gs, cv', ⟨hJ2, hD2, hn2⟩, fun _ => Iff.rfl⟩, ⟨hF2.mono fun k _ hk => (hF k).2 ?_, fun k hk => ?_⟩⟩
  · rcases hk with h | h | h
    · exact .inl h
    · exact .inr (.inl h)
    · exact .inr (.inr (.inl h))
  · rcases hk with (h | h | h) | h
    · exact .inl ((hF k).2 (.inl (.inl h)))
    · exact .inl ((hF k).2 (.inl (.inr (.inl h))))
    · rcases hL2 k h with h1 | h1
      · exact .inl ((hF k).2 (.inl (.inr (.inr h1))))
      · exact .inr h1
    · exact .inl ((hF k).2 (.inr (.inl h)))
theorem JnP.begin_ (h : JnP F g gj sq false D w) :
    Calls Tryz.prog 18 #[.pointer (some ⟨gj, 0, none⟩)] w fun e w' => ∃ gt F', e = .returned (.pointer (some ⟨gt, 0, none⟩)) ∧ TxP F' g gj gt 0 sq D [] w' ∧ Mv F F' w w' := by
  obtain ⟨gs, cv, h, hF⟩ := h
  refine h.begin_.mono ?_
  rintro e w' ⟨gt, gm, rfl, hT, h1, h2, hf⟩
  refine ⟨gt, fun k => TFoot g gs gj gt gm cv [] k, rfl, ⟨gs, gm, cv, [], hT, rfl, fun _ => Iff.rfl⟩, ⟨(Fr.refl F w).then_ hf (fun k _ e => e.elim), fun k hk => ?_⟩⟩
  rcases hk with h | h | h | h | ⟨x, hx, _⟩
  · exact .inl ((hF k).2 (.inl h))
  · exact .inl ((hF k).2 (.inr h))
  · right; omega
  · right; omega
  · cases hx
theorem JnP.arm (h : JnP F g gj sq lv D w) (n : Int) (h0 : -9223372036854775808 ≤ n) (h1 : n < 9223372036854775808) :
    Calls Tryz.prog 17 #[.pointer (some ⟨g, 0, none⟩), .int .i64 n] w fun e w' => e = .returned (.tuple #[]) ∧ JnP F g gj sq lv { D with armed := max n (-1) } w' ∧ Fr F w w' := by
  obtain ⟨gs, cv, h, hF⟩ := h
  refine (arm_any h.d n _ h0 h1 rfl).mono ?_
  rintro e w' ⟨rfl, hD, hf⟩
  exact ⟨rfl, ⟨gs, cv, ⟨h.j.fr hf h.fj, hD, h.fj⟩, hF⟩, hf.mono fun k _ hk => (hF k).2 (.inl hk)⟩
theorem JnP.disk (h : JnP F g gj sq lv D w) : ∃ F0, DSt F0 g D w ∧ JBlk gj g sq lv w ∧ ¬ F0 gj ∧ ∀ k, F0 k → F k := by
  obtain ⟨gs, cv, h, hF⟩ := h
  exact ⟨Foot g gs cv, ⟨gs, cv, h.d, fun _ => Iff.rfl⟩, h.j, h.fj, fun k hk => (hF k).2 (.inl hk)⟩
theorem DSt.crash (h : DSt F g D w) (keep : List Bool) (KX : Option Addr) (kc : Nat) (hkl : keep.length ≤ 9223372036854775807) (hk : ∀ W, Fr F w W → ∀ i b, keep[i]? = some b → ∃ q o, KX = some ⟨q, o, none⟩ ∧ W.cell? ⟨q, o + i, none⟩ = some (.bool b)) :
    Calls Tryz.prog 22 #[.pointer (some ⟨g, 0, none⟩), .slice KX keep.length kc] w fun e w' => e = .returned (.tuple #[]) ∧ ∃ F', DSt F' g (D.crash keep) w' ∧ Mv F F' w w' := by
  obtain ⟨gs, cv, h, hF⟩ := h
  refine (crash_ok h keep KX kc hkl (fun W hW => hk W (hW.mono fun k _ hk => (hF k).2 hk))).mono ?_
  rintro e w' ⟨rfl, hD, hf⟩
  refine ⟨rfl, Foot g gs (.slice none 0 0), ⟨gs, _, hD, fun _ => Iff.rfl⟩, ⟨hf.mono fun k _ hk => (hF k).2 hk, fun k hk => .inl ((hF k).2 ?_)⟩⟩
  rcases hk with h | h | h
  · exact .inl h
  · exact .inr (.inl h)
  · cases h
theorem DSt.mount (h : DSt F g D w) (hc : Calm D) {s : Nat} {D' : Dk} (hm : mountF D = (0, some s, D')) :
    Calls Tryz.prog 16 #[.pointer (some ⟨g, 0, none⟩)] w fun e w' => ∃ gj F', e = .returned (.tuple #[.pointer (some ⟨gj, 0, none⟩), .int .i64 0]) ∧ JnP F' g gj s false D' w' ∧ Mv F F' w w' := by
  obtain ⟨gs, cv, h, hF⟩ := h
  refine (mount_ok h hc.down (by rw [hc.ca]; show 0 < 900000; decide)).mono ?_
  rw [hm]
  rintro e w' ⟨cv', v, rfl, hD', hf, hL, h1, h2⟩
  obtain ⟨gj, rfl, hz, hzj, hJ⟩ := h2 s rfl
  have hlt := fun k hk => h.lt (k := k) hk
  refine ⟨gj, fun k => Foot g gs cv' k ∨ k = gj, rfl, ⟨gs, cv', ⟨hJ, hD', fun hf => ?_⟩, fun _ => Iff.rfl⟩, ⟨hf.mono fun k _ hk => (hF k).2 hk, fun k hk => ?_⟩⟩
  · rcases hf with rfl | rfl | hf
    · have := hlt gj (.inl rfl); omega
    · have := hlt gj (.inr (.inl rfl)); omega
    · have h3 := hD'.own
      rcases h3.2 with ⟨rfl, _⟩ | ⟨b', cap, cur, rfl, _, hh, _⟩
      · cases hf
      · injection hf with hf
        have h4 : w'.heap[gj]? = some (.cells cur 169 (0, 0)) := hf ▸ hh
        have h5 := hJ
        unfold JBlk at h5
        rw [h4] at h5
        injection h5 with h5
        injection h5 with _ h5 _
        cases h5
  · rcases hk with (h | h | h) | rfl
    · exact .inl ((hF k).2 (.inl h))
    · exact .inl ((hF k).2 (.inr (.inl h)))
    · rcases hL k h with h1 | h1
      · exact .inl ((hF k).2 (.inr (.inr h1)))
      · exact .inr h1
    · exact .inr hz
theorem DSt.image (h : DSt F g D w) (hL : D.st.length = 64) :
    Calls Tryz.prog 23 #[.pointer (some ⟨g, 0, none⟩)] w fun e w' => ∃ v, e = .returned v ∧ w'.ownsRow w.heap.size 5 1 v (imgF D).length (n8 (imgF D)) ∧ Fr (fun _ => False) w w' := by
  obtain ⟨gs, cv, h, hF⟩ := h
  exact image_ok h hL
theorem JnP.jread (h : JnP F g gj sq lv D w) (hd : D.down = false) (i : Nat) (h0 : 49 ≤ i) (hi : i < D.st.length) :
    Calls Tryz.prog 79 #[.pointer (some ⟨gj, 0, none⟩), .int .i64 i] w fun e w' => ∃ k, e = .returned (.tuple #[.slice (some ⟨k, 0, none⟩) 512 512, .int .i64 0]) ∧ Row8 w' k (D.get i) ∧ w.heap.size ≤ k ∧ Fr (fun _ => False) w w' := by
  obtain ⟨gs, cv, h, hF⟩ := h
  refine (jread_ok h.j h.d i h0 hi hd).mono ?_
  rintro e w' ⟨k, rfl, hk, hz, hf⟩
  exact ⟨k, rfl, row8_of hk, hz, hf⟩
theorem JnP.jseq (h : JnP F g gj sq lv D w) : Calls Tryz.prog 24 #[.pointer (some ⟨gj, 0, none⟩)] w fun e w' => e = .returned (.int .u64 sq) ∧ w = w' := by
  obtain ⟨gs, cv, h, hF⟩ := h
  exact jseq_ok h.j
theorem new_P (n : Nat) (h0 : 64 ≤ n) (h1 : n ≤ 4096) (w : World) :
    Calls Tryz.prog 15 #[.int .i64 n] w fun e w' => ∃ g F', e = .returned (.tuple #[.pointer (some ⟨g, 0, none⟩), .int .i64 0]) ∧ DSt F' g (D0 n) w' ∧ (∀ k, F' k → w.heap.size ≤ k) ∧ Fr (fun _ => False) w w' := by
  refine (disk_new n h0 h1 w).mono ?_
  rintro e w' ⟨g, gs, rfl, hD, hg, hgs, hf⟩
  refine ⟨g, Foot g gs (.slice none 0 0), rfl, ⟨gs, _, hD, fun _ => Iff.rfl⟩, fun k hk => ?_, hf⟩
  rcases hk with h | h | h
  · omega
  · omega
  · cases h
end
theorem D0_calm (n : Nat) : Calm (D0 n) := ⟨rfl, rfl, by show (-1 : Int) < 0; decide⟩
theorem calm_commitF {D : Dk} (h : Calm D) (sq : Nat) (l : List Put) (hl : l ≠ []) (h48 : l.length ≤ 48) : ∃ D', commitF D sq l = (0, D', (sq + 1) % 18446744073709551616, false) ∧ Calm D' ∧ D'.st.length = D.st.length ∧ ∀ i, 49 ≤ i → i < D.st.length → D'.get i = lastW l i (D.get i) := by
  have hc1 : ∀ (D : Dk) (l : List Put), Calm D → Calm { D with st := l.foldl setS D.st } := fun D l h => ⟨h.ca, h.down, h.armed⟩
  unfold commitF
  rw [if_neg hl]
  unfold Dk.three
  simp only
  rw [calm_stepsF h]
  simp only [if_true]
  rw [calm_stepsF (hc1 D _ h)]
  simp only [if_true]
  rw [calm_stepsF (hc1 { D with st := (slotsP l).foldl setS D.st } _ (hc1 D _ h))]
  simp only [if_true]
  generalize hsd : sealB ((sq + 1) % 18446744073709551616) l = sd
  have hC := hc1 { D with st := [(0, sd)].foldl setS ((slotsP l).foldl setS D.st) } l (hc1 _ [(0, sd)] (hc1 _ (slotsP l) h))
  refine ⟨_, rfl, hC, by rw [setS_all, setS_all, setS_all], fun i h0 hi => ?_⟩
  rw [calm_get hC, calm_get h]
  show (l.foldl setS ([(0, sd)].foldl setS ((slotsP l).foldl setS D.st))).getD i [] = _
  rw [setS_get l _ i (by rw [setS_all, setS_all]; exact hi), setS_get [(0, sd)] _ i (by rw [setS_all]; exact hi), setS_get (slotsP l) _ i hi]
  rw [lastW_out [(0, sd)] i _ (fun p hp e => by obtain rfl := List.mem_singleton.1 hp; have : 0 = i := e; omega), lastW_out (slotsP l) i _ (fun p hp e => by have := (slotsP_mem hp).1; omega)]
end Go.Proofs.YtnbonhinpepgoaaGreat
end
section
set_option linter.unusedVariables false
namespace Go.Proofs.YtnbonhinpepgoaaGreat
open Go.RowKit Go.Maps
structure Ab (w0 : World) (F : Nat → Prop) (w : World) : Prop where
  hi : ∀ k, F k → w0.heap.size ≤ k
  fr : Fr (fun _ => False) w0 w
theorem Ab.mv {w0 w w' : World} {F F' : Nat → Prop} (h : Ab w0 F w) (k : Mv F F' w w') : Ab w0 F' w' := by
  have hz := h.fr.size
  exact ⟨fun j hj => (k.own j hj).elim (h.hi j) (fun h2 => by omega), h.fr.then_ k.fr (fun j hj e => by have := h.hi j e; omega)⟩
theorem Ab.frF {w0 w w' : World} {F : Nat → Prop} (h : Ab w0 F w) (k : Fr (fun _ => False) w w') : Ab w0 F w' := ⟨h.hi, h.fr.trans k⟩
theorem Ab.fr' {w0 w w' : World} {F : Nat → Prop} (h : Ab w0 F w) (k : Fr F w w') : Ab w0 F w' := ⟨h.hi, h.fr.then_ k (fun j hj e => by have := h.hi j e; omega)⟩
theorem Row8.has {w : World} {k : Nat} {b : List Nat} (h : Row8 w k b) : Has w (some ⟨k, 0, none⟩) b := h.bsl.has
set_option maxHeartbeats 2000000 in
set_option maxRecDepth 10000 in
theorem alive10 (w : World) : Calls Tryz.prog 14 #[] w fun e w' => e = .returned (.bool true) ∧ Fr (fun _ => False) w w' := by
  have hn := new_P 64 (by decide) (by decide) w
  have hm0 := mount0 64 (by decide)
  have hs1 := secF_sec (by_ := 1) (odd := 2) (by decide) (by decide)
  have hs2 := secF_sec (by_ := 3) (odd := 4) (by decide) (by decide)
  have HSc1 := Lib.hid (fun W => sector_ok 1 2 (by decide) (by decide) W)
  have HSc2 := Lib.hid (fun W => sector_ok 3 4 (by decide) (by decide) W)
  generalize secF 1 2 = s1 at *
  generalize secF 3 4 = s2 at *
  have hlen1 := hs1.len
  have hlen2 := hs2.len
  have HS1 := Lib.hid hs1
  have HS2 := Lib.hid hs2
  have HL2 := Lib.hid hlen2
  have w1 : wrI 64 [] 50 s1 = (0, [(50, s1)]) := rfl
  have w2 : wrI 64 [(50, s1)] 60 s2 = (0, [(50, s1), (60, s2)]) := rfl
  have HW1 := Lib.hid w1
  have HW2 := Lib.hid w2
  obtain ⟨D', hcm, hcl, hdl, hget⟩ := calm_commitF (D0_calm 64) 0 [(50, s1), (60, s2)] (by simp) (by simp)
  have hg60 : D'.get 60 = s2 := hget 60 (by decide) (by rw [D0_len]; decide)
  have HCM := Lib.hid hcm
  have HCL := Lib.hid hcl
  have HDL := Lib.hid (hdl.trans (D0_len 64))
  have HG60 := Lib.hid hg60
  clear hs1 hs2 hlen1 hlen2 w1 w2 hcm hcl hdl hget hg60
  go_enter Tryz.func14, Tryz.ntmps14
  go_wp2_with (first
    | (go_at_call 15; refine hn.mono ?_; rintro e u1 ⟨g, F1, rfl, hD1, hB1, hF1⟩; have hm := hD1.mount (D0_calm 64) hm0; have HA1 := Lib.hid (Ab.mk hB1 hF1); clear hD1 hB1 hF1 hn)
    | (go_at_call 16; refine hm.mono ?_; rintro e u2 ⟨gj, F2, rfl, hJ2, hM2⟩; have HA2 := Lib.hid (HA1.out.mv hM2); have hb := hJ2.begin_; clear hJ2 hM2 hm)
    | (go_at_call 18; refine hb.mono ?_; rintro e u3 ⟨gt, F3, rfl, hT3, hM3⟩; have HA3 := Lib.hid (HA2.out.mv hM3); have HT3 := Lib.hid hT3; clear hT3 hM3 hb))
  refine (HSc1.out _).mono ?_
  rintro e u4 ⟨k4, rfl, hR4, hk4, hF4⟩
  have hw := (HT3.out.frF hF4).write (by decide) 50 s1 HS1.out (some ⟨k4, 0, none⟩) 512 hR4.has
  rw [D0_len, HW1.out] at hw
  have HA4 := Lib.hid (HA3.out.frF hF4)
  clear hR4 hF4
  go_wp2_with fail
  refine hw.mono ?_
  rintro e u5 ⟨rfl, F5, hT5, hM5⟩
  have HA5 := Lib.hid (HA4.out.mv hM5)
  have HT5 := Lib.hid hT5
  clear hT5 hM5 hw
  go_wp2_with fail
  refine (HSc2.out _).mono ?_
  rintro e u6 ⟨k6, rfl, hR6, hk6, hF6⟩
  have hw := (HT5.out.frF hF6).write (by decide) 60 s2 HS2.out (some ⟨k6, 0, none⟩) 512 hR6.has
  rw [D0_len, HW2.out] at hw
  have HA6 := Lib.hid (HA5.out.frF hF6)
  clear hR6 hF6
  go_wp2_with fail
  refine hw.mono ?_
  rintro e u7 ⟨rfl, F7, hT7, hM7⟩
  have HA7 := Lib.hid (HA6.out.mv hM7)
  have hle := hT7.len
  have hcm := hT7.commit rfl (by show 0 < 800000; decide)
  rw [HCM.out] at hcm
  clear hT7 hM7 hw
  go_wp2_with (first
    | (go_at_call 78; refine hle.mono ?_; rintro e u8 ⟨rfl, rfl⟩; clear hle)
    | (go_at_call 21; refine hcm.mono ?_; rintro e u9 ⟨rfl, F9, hJ9, hM9⟩; have HA9 := Lib.hid (HA7.out.mv hM9); have hjr := hJ9.jread HCL.out.down 60 (by decide) (by rw [HDL.out]; decide); rw [HG60.out] at hjr; have HJ9 := Lib.hid hJ9; clear hJ9 hM9 hcm)
    | (go_at_call 79; refine hjr.mono ?_; rintro e u10 ⟨k10, rfl, hR10, hk10, hF10⟩; have HF10 := Lib.hid hF10; have HR10 := Lib.hid hR10; clear hR10 hF10 hjr))
  refine (HSc2.out _).mono ?_
  rintro e u11 ⟨k11, rfl, hR11, hk11, hF11⟩
  have hsm := sameR_ok s2 s2 (some ⟨k10, 0, none⟩) (some ⟨k11, 0, none⟩) 512 512 k10 k11 (by rw [HL2.out]; decide) (by rw [HL2.out]; decide) u11 (HR10.out.fr hF11 id).bsl hR11.bsl
  rw [HL2.out, decide_eq_true rfl] at hsm
  have HF11 := Lib.hid (HF10.out.trans hF11)
  clear hR11 hF11
  have HSQ := Lib.hid (fun W (hF : Fr (fun _ => False) u9 W) => (HJ9.out.frF hF).jseq)
  go_wp2_with (first
    | (go_at_call 25; refine hsm.mono ?_; rintro e u12 ⟨rfl, hF12⟩; have hsq := HSQ.out u12 (HF11.out.trans hF12); have HF12 := Lib.hid (HF11.out.trans hF12); clear hF12 hsm)
    | (go_at_call 24; refine hsq.mono ?_; rintro e u13 ⟨rfl, rfl⟩; clear hsq))
  go_ret
  exact ⟨rfl, (HA9.out.frF HF12.out).fr⟩
end Go.Proofs.YtnbonhinpepgoaaGreat
end
section
set_option linter.unusedVariables false
namespace Go.Proofs.YtnbonhinpepgoaaGreat
open Go.RowKit Go.Maps
structure JOp where
  puts : List (Int × Nat × Nat)
  arm : Int
  keep : List Bool
structure JCells where
  PX : Option Addr
  pc : Nat
  KX : Option Addr
  kc : Nat
  mo : Int
  RX : Option Addr
  rl : Nat
  rc : Nat
def JCells.row (c : JCells) (p : JOp) : List Value := [.slice c.PX p.puts.length c.pc, .int .i64 p.arm, .slice c.KX p.keep.length c.kc, .int .i64 c.mo, .slice c.RX c.rl c.rc]
structure JOpAt (w : World) (c : JCells) (p : JOp) : Prop where
  puts : ∀ i q, p.puts[i]? = some q → ∃ b o, c.PX = some ⟨b, o, none⟩ ∧ w.cell? ⟨b, o + i * 3, none⟩ = some (.int .i64 q.1) ∧ w.cell? ⟨b, o + i * 3 + 1, none⟩ = some (.int .u8 (q.2.1 : Int)) ∧ w.cell? ⟨b, o + i * 3 + 2, none⟩ = some (.int .u8 (q.2.2 : Int)) ∧ q.2.1 < 256 ∧ q.2.2 < 256
  keep : ∀ i x, p.keep[i]? = some x → ∃ b o, c.KX = some ⟨b, o, none⟩ ∧ w.cell? ⟨b, o + i, none⟩ = some (.bool x)
  a0 : -9223372036854775808 ≤ p.arm
  a1 : p.arm < 9223372036854775808
  kl : p.keep.length ≤ 9223372036854775807
def JScr (w : World) (X : Option Addr) (L : List JOp) : Prop := ∀ j p, L[j]? = some p → ∃ b o c, X = some ⟨b, o, none⟩ ∧ JOpAt w c p ∧ ∀ i v, (c.row p)[i]? = some v → w.cell? ⟨b, o + j * 5 + i, none⟩ = some v
theorem light10 (L : List JOp) (X : Option Addr) (cap : Nat) (w : World) (hL : JScr w X L) (hl : L.length ≤ 9223372036854775807) (hpl : ∀ p ∈ L, p.puts.length ≤ 9223372036854775807) :
    Calls Tryz.prog 13 #[.slice X L.length cap] w fun e w' => e = .returned (.bool (decide (∀ p ∈ L, p.puts.length ≤ 60) && decide (L.length ≤ 12))) ∧ w = w' := by
  obtain ⟨R, hR⟩ : ∃ R, (decide (∀ p ∈ L, p.puts.length ≤ 60) && decide (L.length ≤ 12)) = R := ⟨_, rfl⟩
  rw [hR]
  have HR := Lib.hid hR
  have HL := Lib.hid hL
  have HPL := Lib.hid hpl
  clear hR hL hpl
  go_enter Tryz.func13, Tryz.ntmps13
  go_wp2
  go_loop [3] (fun t => ∃ j : Nat, t = .int .i64 j ∧ j ≤ L.length ∧ Hid (∀ p ∈ L.take j, p.puts.length ≤ 60)) (fun t => L.length - (intOf t).toNat)
  case atStart => exact ⟨0, rfl, Nat.zero_le _, Lib.hid (fun p hp => nomatch hp)⟩
  case round =>
    obtain ⟨j, rfl, hj, HA⟩ := hrel
    by_cases hjl : j < L.length
    · obtain ⟨p, hp⟩ : ∃ p, L[j]? = some p := ⟨_, List.getElem?_eq_getElem hjl⟩
      obtain ⟨b, o, c, rfl, hat, hc⟩ := HL.out j p hp
      have c0 := hc 0 _ rfl
      rw [Nat.add_zero] at c0
      have hpm := List.mem_of_getElem? hp
      have hpn := HPL.out p hpm
      have HM := Lib.hid (show ∀ x ∈ L.take (j + 1), x ∈ L.take j ∨ x = p from fun x hx => by
        rw [List.take_add_one, hp, List.mem_append] at hx
        rcases hx with hx | hx
        · exact .inl hx
        · exact .inr (by simpa using hx))
      have HPM := Lib.hid hpm
      clear hp hat hc hpm
      by_cases h60 : p.puts.length ≤ 60
      · have d0 : decide ((p.puts.length : Int) > 60) = false := decide_eq_false (by omega)
        have H60 := Lib.hid h60
        clear h60
        go_wp2
        go_round
        case rel => exact ⟨j + 1, by go_num, by omega, Lib.hid (fun x hx => by
            rcases HM.out x hx with h | rfl
            · exact HA.out x h
            · exact H60.out)⟩
        case measure => simp [intOf]; omega
      · have d0 : decide ((p.puts.length : Int) > 60) = true := decide_eq_true (by omega)
        obtain rfl : R = false := by
          rw [← HR.out, decide_eq_false (fun h => h60 (h p HPM.out))]
          rfl
        clear h60
        go_wp2
        go_ret
        exact ⟨rfl, rfl⟩
    · obtain rfl : j = L.length := by omega
      have hA := HA.out
      rw [List.take_length] at hA
      have hR := HR.out
      rw [decide_eq_true hA, Bool.true_and] at hR
      clear HR hA HA
      by_cases h12 : L.length ≤ 12
      · have d0 : decide ((L.length : Int) ≤ 12) = true := decide_eq_true (by omega)
        rw [decide_eq_true h12] at hR
        subst hR
        clear h12
        go_wp2
        go_ret
        exact ⟨rfl, rfl⟩
      · have d0 : decide ((L.length : Int) ≤ 12) = false := decide_eq_false (by omega)
        rw [decide_eq_false h12] at hR
        subst hR
        clear h12
        go_wp2
        go_ret
        exact ⟨rfl, rfl⟩
end Go.Proofs.YtnbonhinpepgoaaGreat
end
