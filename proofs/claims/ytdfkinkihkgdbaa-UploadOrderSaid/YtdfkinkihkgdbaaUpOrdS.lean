/- The walk of UploadOrder: what holds in its rounds, and how it is carried. -/
import Derived.Test.YtdfkinkihkgdbaaUpOrd
namespace Go.Proofs.Ytdfkinkihkgdbaa.PUp
open Go.RowKit Go.Shelf Go.Proofs.YtdfkinkihkgdbaaW.PrintWords Go.Proofs.YtdfkinkihkgdbaaW.PrintLast Go.Proofs.YtdfkinkihkgdbaaW.PrintMore
set_option linter.unusedVariables false
abbrev zO : Obj := .cells #[.string (⟨#[]⟩ : ByteArray), .string (⟨#[]⟩ : ByteArray), .int .u64 0, .int .u64 0, .slice none 0 0] 36
theorem z_new (W : World) : (W.alloc zO).cell? ⟨W.heap.size, 0, none⟩ = some (.string (⟨#[]⟩ : ByteArray)) ∧ (W.alloc zO).cell? ⟨W.heap.size, 1, none⟩ = some (.string (⟨#[]⟩ : ByteArray)) ∧ (W.alloc zO).cell? ⟨W.heap.size, 2, none⟩ = some (.int .u64 0) ∧ (W.alloc zO).cell? ⟨W.heap.size, 3, none⟩ = some (.int .u64 0) ∧ (W.alloc zO).cell? ⟨W.heap.size, 4, none⟩ = some (.slice none 0 0) ∧ (W.alloc zO).frozen? ⟨W.heap.size, 0, none⟩ = false ∧ (W.alloc zO).frozen? ⟨W.heap.size, 1, none⟩ = false ∧ (W.alloc zO).frozen? ⟨W.heap.size, 2, none⟩ = false ∧ (W.alloc zO).frozen? ⟨W.heap.size, 3, none⟩ = false ∧ (W.alloc zO).frozen? ⟨W.heap.size, 4, none⟩ = false := by
  have y2 := blk_new W zO
  exact ⟨(blk_cell y2 0).trans rfl, (blk_cell y2 1).trans rfl, (blk_cell y2 2).trans rfl, (blk_cell y2 3).trans rfl, (blk_cell y2 4).trans rfl, blk_frozen y2 0, blk_frozen y2 1, blk_frozen y2 2, blk_frozen y2 3, blk_frozen y2 4⟩
theorem z_blk {W W' : World} (hb : Below (W.alloc (.cells #[.string (⟨#[]⟩ : ByteArray), .string (⟨#[]⟩ : ByteArray), .int .u64 0, .int .u64 0, .slice none 0 0] 36)).drew.heap.size (W.alloc (.cells #[.string (⟨#[]⟩ : ByteArray), .string (⟨#[]⟩ : ByteArray), .int .u64 0, .int .u64 0, .slice none 0 0] 36)).drew W') : W'.heap[W.heap.size]? = some (.cells #[.string (⟨#[]⟩ : ByteArray), .string (⟨#[]⟩ : ByteArray), .int .u64 0, .int .u64 0, .slice none 0 0] 36) :=
  (hb.block _ (by show W.heap.size < (W.alloc zO).heap.size; simp)).trans (heap_alloc_new W _)
theorem z_old {W' : World} {g : Nat} (y2 : W'.heap[g]? = some (.cells #[.string (⟨#[]⟩ : ByteArray), .string (⟨#[]⟩ : ByteArray), .int .u64 0, .int .u64 0, .slice none 0 0] 36)) : W'.cell? ⟨g, 0, none⟩ = some (.string (⟨#[]⟩ : ByteArray)) ∧ W'.cell? ⟨g, 1, none⟩ = some (.string (⟨#[]⟩ : ByteArray)) ∧ W'.cell? ⟨g, 2, none⟩ = some (.int .u64 0) ∧ W'.cell? ⟨g, 3, none⟩ = some (.int .u64 0) ∧ W'.cell? ⟨g, 4, none⟩ = some (.slice none 0 0) ∧ W'.frozen? ⟨g, 0, none⟩ = false ∧ W'.frozen? ⟨g, 1, none⟩ = false ∧ W'.frozen? ⟨g, 2, none⟩ = false ∧ W'.frozen? ⟨g, 3, none⟩ = false ∧ W'.frozen? ⟨g, 4, none⟩ = false :=
  ⟨(blk_cell y2 0).trans rfl, (blk_cell y2 1).trans rfl, (blk_cell y2 2).trans rfl, (blk_cell y2 3).trans rfl, (blk_cell y2 4).trans rfl, blk_frozen y2 0, blk_frozen y2 1, blk_frozen y2 2, blk_frozen y2 3, blk_frozen y2 4⟩
/-- What holds in UploadOrder at every world. -/
structure OrdSt (w : World) (g3 g4 g5 : Nat) (Au : Option Addr) (cu : Nat) (L : List S50) (fl : Nat → Bool) (v : Nat → Value) (W : World) : Prop where
  b3 : W.heap[g3]? = some (.cells #[.string alive_e, .string kKey, .int .u64 0, .int .u64 0, .slice Au L.length cu] 36 (0, 0))
  b4 : W.heap[g4]? = some (.cells #[v 0, v 1, v 2, v 3, v 4] 45 (0, 0))
  b5 : W.heap[g5]? = some (.cells #[.bool false, .bool (fl 1), .bool (fl 2), .bool (fl 3), .bool (fl 4)] 46 (0, 0))
  V : Kd.V k50 50 W 0 (fun k => k ≠ g3 ∧ k ≠ g4 ∧ k ≠ g5) (.slice Au L.length cu) L
  bl : Below w.heap.size w W
section
variable {w W W' : World} {g3 g4 g5 : Nat} {Au : Option Addr} {cu : Nat} {L : List S50} {fl : Nat → Bool} {v : Nat → Value}
theorem OrdSt.below (h : OrdSt w g3 g4 g5 Au cu L fl v W) (hb : Below W.heap.size W W') : OrdSt w g3 g4 g5 Au cu L fl v W' :=
  ⟨blk_below h.b3 hb, blk_below h.b4 hb, blk_below h.b5 hb, Kd.V_below h.V hb, h.bl.trans (Below.mono hb h.bl.size)⟩
theorem OrdSt.box (h : OrdSt w g3 g4 g5 Au cu L fl v W) {A6 : Option Addr} {c6 : Nat} {L' : List S50} (hV : Kd.V k50 50 W 0 (fun k => k ≠ g3 ∧ k ≠ g4 ∧ k ≠ g5) (.slice A6 L'.length c6) L') (n34 : g3 ≠ g4) (n35 : g3 ≠ g5) (w3 : w.heap.size ≤ g3) :
    OrdSt w g3 g4 g5 A6 c6 L' fl v (put5 W g3 (.string alive_e) (.string kKey) (.int .u64 0) (.int .u64 0) (.slice A6 L'.length c6)) :=
  ⟨put5_blk h.b3 _ _ _ _ _, (put5_far (Ne.symm n34)).trans h.b4, (put5_far (Ne.symm n35)).trans h.b5,
    Kd.V_step hV (fun k hk _ => put5_far hk.1), put5_below h.bl w3⟩
theorem OrdSt.data (h : OrdSt w g3 g4 g5 Au cu L fl v W) {n : Nat} (h4 : n ≤ 4) (x : Value) (n34 : g3 ≠ g4) (n45 : g4 ≠ g5) (w4 : w.heap.size ≤ g4) :
    OrdSt w g3 g4 g5 Au cu L fl (upd v n x) (W.setCell ⟨g4, n, none⟩ x) := by
  refine ⟨(Below.heap_setCell W _ _ _ n34).trans h.b3, ?_, (Below.heap_setCell W _ _ _ (Ne.symm n45)).trans h.b5, Kd.V_step h.V (fun k hk _ => Below.heap_setCell W _ _ _ hk.2.1), h.bl.setCell w4 _⟩
  refine (blk_put h.b4 n x ?_)
  obtain rfl | rfl | rfl | rfl | rfl : n = 0 ∨ n = 1 ∨ n = 2 ∨ n = 3 ∨ n = 4 := by omega
  all_goals rfl
theorem OrdSt.flag (h : OrdSt w g3 g4 g5 Au cu L fl v W) {n : Nat} (h1 : 1 ≤ n) (h4 : n ≤ 4) (n35 : g3 ≠ g5) (n45 : g4 ≠ g5) (w5 : w.heap.size ≤ g5) :
    OrdSt w g3 g4 g5 Au cu L (upd fl n true) v (W.setCell ⟨g5, n, none⟩ (.bool true)) := by
  refine ⟨(Below.heap_setCell W _ _ _ n35).trans h.b3, (Below.heap_setCell W _ _ _ n45).trans h.b4, ?_, Kd.V_step h.V (fun k hk _ => Below.heap_setCell W _ _ _ hk.2.2), h.bl.setCell w5 _⟩
  refine (blk_put h.b5 n (.bool true) ?_)
  obtain rfl | rfl | rfl | rfl : n = 1 ∨ n = 2 ∨ n = 3 ∨ n = 4 := by omega
  all_goals rfl
theorem OrdSt.at4 (h : OrdSt w g3 g4 g5 Au cu L fl v W) {n : Nat} (h4 : n ≤ 4) : W.cell? ⟨g4, n, none⟩ = some (v n) ∧ W.frozen? ⟨g4, n, none⟩ = false := by
  refine ⟨(blk_cell h.b4 n).trans ?_, blk_frozen h.b4 n⟩
  obtain rfl | rfl | rfl | rfl | rfl : n = 0 ∨ n = 1 ∨ n = 2 ∨ n = 3 ∨ n = 4 := by omega
  all_goals rfl
theorem OrdSt.at5 (h : OrdSt w g3 g4 g5 Au cu L fl v W) {n : Nat} (h1 : 1 ≤ n) (h4 : n ≤ 4) : W.cell? ⟨g5, n, none⟩ = some (.bool (fl n)) ∧ W.frozen? ⟨g5, n, none⟩ = false := by
  refine ⟨(blk_cell h.b5 n).trans ?_, blk_frozen h.b5 n⟩
  obtain rfl | rfl | rfl | rfl : n = 1 ∨ n = 2 ∨ n = 3 ∨ n = 4 := by omega
  all_goals rfl
end
def fls (d : Nat → Option (List Int)) (n : Nat) : Bool := (d n).isSome
theorem fls_upd (d : Nat → Option (List Int)) (n : Nat) (x : List Int) : fls (upd d n (some x)) = upd (fls d) n true := by
  funext m
  unfold fls upd
  split <;> rfl
theorem Short.upd {d : Nat → Option (List Int)} (h : Short d) (n : Nat) {x : List Int} (hx : x.length ≤ 1536) : Short (upd d n (some x)) := by
  intro m y hm
  unfold PUp.upd at hm
  split at hm
  · cases hm; exact hx
  · exact h m y hm
/-- Where the last data of each number are read. -/
def Ld (w : World) (d : Nat → Option (List Int)) (v : Nat → Value) : Prop := (∀ n x, d n = some x → ∃ A c, v n = .slice A x.length c ∧ x.length ≤ c ∧ Kd.C (Kd.int .u8) w A x.length x) ∧ ∀ n, ∃ A m c, v n = .slice A m c
theorem Ld.upd {w : World} {d : Nat → Option (List Int)} {v : Nat → Value} (h : Ld w d v) (n : Nat) {x : List Int} {A : Option Addr} {c : Nat} (hc : x.length ≤ c) (hC : Kd.C (Kd.int .u8) w A x.length x) : Ld w (upd d n (some x)) (upd v n (.slice A x.length c)) := by
  constructor
  · intro m y hm
    unfold PUp.upd at hm ⊢
    by_cases e : m = n
    · rw [if_pos e] at hm ⊢; cases hm; exact ⟨A, c, rfl, hc, hC⟩
    · rw [if_neg e] at hm ⊢; exact h.1 m y hm
  · intro m
    unfold PUp.upd
    by_cases e : m = n
    · rw [if_pos e]; exact ⟨_, _, _, rfl⟩
    · rw [if_neg e]; exact h.2 m
/-- The fresh box behind region 9, and the parts in it. -/
structure BoxSt (g3 g4 g5 g7 : Nat) (A6 : Option Addr) (c6 : Nat) (L' : List S50) (W : World) : Prop where
  b7 : W.heap[g7]? = some (.cells #[.string alive_e, .string kKey, .int .u64 0, .int .u64 0, .slice A6 L'.length c6] 36 (0, 0))
  V : Kd.V k50 50 W 0 (fun k => k ≠ g3 ∧ k ≠ g4 ∧ k ≠ g5) (.slice A6 L'.length c6) L'
theorem BoxSt.one {g3 g4 g5 : Nat} {A6 : Option Addr} {c6 : Nat} {L' : List S50} {wr U w6 : World} (h3 : g3 < wr.heap.size) (h4 : g4 < wr.heap.size) (h5 : g5 < wr.heap.size) (hU : wr.heap.size ≤ U.heap.size)
    (hN : Kd.N k50 50 w6 U.heap.size (fun k_ => (((k_ ≠ g3 ∧ k_ ≠ g4 ∧ k_ ≠ g5) ∧ k_ < wr.heap.size) ∨ U.heap.size ≤ k_)) (.slice A6 L'.length c6) L') :
    BoxSt g3 g4 g5 w6.heap.size A6 c6 L' (w6.alloc (.cells #[.string alive_e, .string kKey, .int .u64 0, .int .u64 0, .slice A6 L'.length c6] 36)) :=
  ⟨blk_new w6 _, Kd.V_alloc (Kd.V_mono (ok' := fun k => k ≠ g3 ∧ k ≠ g4 ∧ k ≠ g5) (Kd.N_V hN) (fun k hk => hk.elim (fun h => h.1) (fun h => ⟨by omega, by omega, by omega⟩))) _⟩
theorem BoxSt.two {g3 g4 g5 : Nat} {A6 : Option Addr} {c6 : Nat} {L' : List S50} {wr U w6 : World} (h3 : g3 < wr.heap.size) (h4 : g4 < wr.heap.size) (h5 : g5 < wr.heap.size) (hU : wr.heap.size < U.heap.size)
    (hN : Kd.N k50 50 w6 U.heap.size (fun k_ => (((k_ ≠ g3 ∧ k_ ≠ g4 ∧ k_ ≠ g5) ∧ k_ < wr.heap.size) ∨ U.heap.size ≤ k_)) (.slice A6 L'.length c6) L')
    (hz : w6.heap[wr.heap.size]? = some (.cells #[.string (⟨#[]⟩ : ByteArray), .string (⟨#[]⟩ : ByteArray), .int .u64 0, .int .u64 0, .slice none 0 0] 36)) :
    BoxSt g3 g4 g5 wr.heap.size A6 c6 L' (put5 w6 wr.heap.size (.string alive_e) (.string kKey) (.int .u64 0) (.int .u64 0) (.slice A6 L'.length c6)) :=
  ⟨put5_blk hz _ _ _ _ _, Kd.V_mono (Kd.V_step (Kd.V_mono (ok' := fun k => (k ≠ g3 ∧ k ≠ g4 ∧ k ≠ g5) ∧ k ≠ wr.heap.size) (Kd.N_V hN) (fun k hk => hk.elim (fun h => ⟨h.1, by omega⟩) (fun h => ⟨⟨by omega, by omega, by omega⟩, by omega⟩))) (fun k hk _ => put5_far hk.2)) (fun k hk => hk.1)⟩
/-- The numbers up to k that are there, and their bytes. -/
def NNp (d : Nat → Option (List Int)) : Nat → List Int
  | 0 => []
  | k + 1 => NNp d k ++ oN ((k + 1 : Nat) : Int) (d (k + 1))
def DDp (d : Nat → Option (List Int)) : Nat → List Int
  | 0 => []
  | k + 1 => DDp d k ++ (oD (d (k + 1))).flatten
theorem NNp_len (d : Nat → Option (List Int)) : ∀ k, (NNp d k).length ≤ k
  | 0 => by simp [NNp]
  | k + 1 => by
    have := NNp_len d k
    unfold NNp
    rw [List.length_append]
    cases d (k + 1) <;> simp [oN] <;> omega
theorem oD_len {d : Nat → Option (List Int)} (h : Short d) (n : Nat) : (oD (d n)).flatten.length ≤ 1536 := by
  cases e : d n with
  | none => exact Nat.zero_le _
  | some x =>
    have h3 := h n x e
    have h0 : (oD (some x)).flatten = x := by unfold oD; rw [List.flatten_cons, List.flatten_nil, List.append_nil]
    rw [h0]
    exact h3
theorem DDp_len {d : Nat → Option (List Int)} (h : Short d) (k : Nat) : (DDp d k).length ≤ k * 1536 := by
  induction k with
  | zero => exact Nat.zero_le _
  | succ k ih =>
    have h1 := oD_len h (k + 1)
    have h2 : (DDp d (k + 1)).length = (DDp d k).length + (oD (d (k + 1))).flatten.length := List.length_append
    rw [h2]
    omega
theorem NNp4 (d : Nat → Option (List Int)) : NNp d 4 = NN4 (d 1) (d 2) (d 3) (d 4) := by
  simp [NNp, NN4, List.append_assoc]
theorem DDp4 (d : Nat → Option (List Int)) : DDp d 4 = (DD4 (d 1) (d 2) (d 3) (d 4)).flatten := by
  simp [DDp, DD4, List.append_assoc]
theorem PP_short {d : Nat → Option (List Int)} (h : Short d) (j : Nat) : (pD (PP d) j).length ≤ 140737488351232 := by
  have h1 : ∀ x ∈ PP d, x.f1.length < 3000000000000 := by
    have := PP_lim h
    unfold upload_Put.lim at this
    simp only [Bool.and_eq_true, decide_eq_true_eq, List.all_eq_true] at this
    exact this.2
  show ((PP d).getD j z50).f1.length ≤ _
  rw [List.getD_eq_getElem?_getD]
  cases e : (PP d)[j]? with
  | none => exact Nat.zero_le _
  | some x =>
    have := h1 x (List.mem_of_getElem? e)
    show x.f1.length ≤ _
    omega
theorem total_PP {d : Nat → Option (List Int)} (h : Short d) : upload_Total.f 200 alive_e kKey 0 0 (PP d) = some (((DDp d 4).length : Nat) : Int) := by
  have hl := PP_len d
  have e := up_total (PP d) (by omega) (PP_short h) (PP d).length 200 0 0 (by omega) (by omega) (by omega) (by omega)
  have e : upload_Total.f 200 alive_e kKey 0 0 (PP d) = some ((0 + tot (PP d) (PP d).length : Nat) : Int) := e
  rw [e, PP_Q4, tot_Q4, DDp4, Nat.zero_add]
theorem join_no {d : Nat → Option (List Int)} (hz : (NNp d 4).length = 0) : upload_Join.f 20 alive_e kKey 0 0 (PP d) (NNp d 4) = some ([], 42) := by
  rw [NNp4] at hz ⊢
  rw [PP_Q4, join_Q4, if_pos hz]
theorem join_yes {d : Nat → Option (List Int)} (h : Short d) (hz : (NNp d 4).length ≠ 0) : upload_Join.f 20 alive_e kKey 0 0 (PP d) (NNp d 4) = some (DDp d 4, 0) := by
  have hd := DDp_len h 4
  rw [NNp4] at hz ⊢
  rw [PP_Q4, join_Q4, if_neg hz]
  unfold slices_Concat_byte_byte.f
  rw [DDp4] at hd ⊢
  have hl : (DD4 (d 1) (d 2) (d 3) (d 4)).length ≤ 4 := by
    cases d 1 <;> cases d 2 <;> cases d 3 <;> cases d 4 <;> simp [DD4, oD]
  rw [if_pos (by omega), if_pos (by omega)]
  rfl
theorem len_PP (d : Nat → Option (List Int)) : (PP d).length = (NNp d 4).length := by
  rw [NNp4, PP_Q4, len_Q4]
theorem same_DD {d : Nat → Option (List Int)} (h : Short d) : steleref01_Same.f 10000 (DDp d 4) (DDp d 4) = some true := by
  have hd := DDp_len h 4
  unfold steleref01_Same.f
  rw [if_pos rfl]
  exact same_refl _ (by omega) (DDp d 4).length 10000 0 (by omega) (by omega) (by omega)
end Go.Proofs.Ytdfkinkihkgdbaa.PUp
