/- The walks of uri.Decode and uri.Path. -/
import Derived.Test.YtdfkinkihkgdbaaDoorUriB
import Derived.Deep.RegionWith
set_option linter.unusedVariables false
namespace Go.Proofs.YtdfkinkihkgdbaaDoor
open Go.RowKit

theorem sym_post {P : Program} {f : FuncId} {args : Array Value} {w : World} {E : Ending} (h : Calls P f args w fun e w' => e = E ∧ w = w') : Calls P f args w fun e w' => e = E ∧ w' = w :=
  h.mono fun _ _ ⟨a, b⟩ => ⟨a, b.symm⟩

theorem Fr.undrew {M : Nat → Prop} {w w' : World} {n : Nat} (h : Fr M (w.drewN n) w') : Fr M w w' := ⟨h.os, h.tape, h.output, h.size, h.keep⟩

theorem Bld.drewN {b base : Nat} {l : List UInt8} {w : World} (h : Bld b base l w) (n : Nat) : Bld b base l (w.drewN n) := h

def strLen : Value → Nat | .string s => s.size | _ => 0

/-- Decode's answer: the bytes and an error's number. -/
def decR (l : List UInt8) : List UInt8 × Int := match Uri.dec l with | some d => (d, 0) | none => ([], 13)

theorem dec_none_cut (h t : List UInt8) (hh : ∀ x ∈ h, x ≠ 37) : Uri.dec (h ++ 37 :: t) = (Uri.dec (37 :: t)).map (h ++ ·) := Uri.dec_head h _ hh

theorem dec_all (m : List UInt8) (hm : ∀ x ∈ m, x ≠ 37) : Uri.dec m = some m := by
  have := Uri.dec_head m [] hm
  simpa [Uri.dec_nil] using this

theorem dec_bad (a b : UInt8) (r : List UInt8) (h : ¬ (0 ≤ digZ a ∧ 0 ≤ digZ b)) : Uri.dec (37 :: a :: b :: r) = none := by
  rw [Uri.dec_pct, if_neg]
  unfold digZ at h
  simp only [Bool.and_eq_true, decide_eq_true_eq]
  rintro ⟨h1, h2⟩
  rw [if_pos h1, if_pos h2] at h
  omega

theorem dec_good (a b : UInt8) (r : List UInt8) (h : 0 ≤ digZ a ∧ 0 ≤ digZ b) : Uri.dec (37 :: a :: b :: r) = (Uri.dec r).map ((Uri.hexV a * 16 + Uri.hexV b) :: ·) := by
  rw [Uri.dec_pct, if_pos]
  unfold digZ at h
  simp only [Bool.and_eq_true, decide_eq_true_eq]
  constructor
  · by_cases h1 : Uri.hexV a < 16
    · exact h1
    · rw [if_neg h1] at h; omega
  · by_cases h1 : Uri.hexV b < 16
    · exact h1
    · rw [if_neg h1] at h; omega

theorem digZ_lt (x : UInt8) : digZ x < 16 := by
  unfold digZ; split
  · rename_i h; have := UInt8.lt_iff_toNat_lt.1 h; simp at this; omega
  · omega

theorem or_tab : ∀ a b : Fin 16, IntKind.u8.wrap (bits BinOp.or IntKind.i64 (IntKind.i64.wrap ((a.val : Int) * 16)) (b.val : Int)) = (a.val : Int) * 16 + b.val := by decide +kernel

theorem digZ_or (x y : UInt8) (A B : Nat) (hA : digZ x = A) (hB : digZ y = B) :
    IntKind.u8.wrap (bits BinOp.or IntKind.i64 (IntKind.i64.wrap ((A : Int) * 16)) (B : Int)) = ((Uri.hexV x * 16 + Uri.hexV y).toNat : Int) := by
  have lx := digZ_lt x
  have ly := digZ_lt y
  rw [hA] at lx
  rw [hB] at ly
  have := or_tab ⟨A, by omega⟩ ⟨B, by omega⟩
  simp only at this
  rw [this]
  unfold digZ at hA hB
  split at hA <;> split at hB <;> try omega
  rw [UInt8.toNat_add, UInt8.toNat_mul]
  simp
  omega

theorem dec_le (l d : List UInt8) (h : Uri.dec l = some d) : d.length ≤ l.length := by
  induction hn : l.length using Nat.strongRecOn generalizing l d with
  | _ n ih =>
    match l with
    | [] => rw [Uri.dec_nil] at h; cases h; simp
    | c :: t =>
      by_cases hc : c = 37
      · subst hc
        match t with
        | [] => rw [Uri.dec_short _ (by simp)] at h; cases h
        | [_] => rw [Uri.dec_short _ (by simp)] at h; cases h
        | a :: b :: r =>
          rw [Uri.dec_pct] at h
          split at h
          · obtain ⟨x, hx, rfl⟩ := Option.map_eq_some_iff.1 h
            have := ih r.length (by simp at hn; omega) r x hx rfl
            simp at hn ⊢; omega
          · cases h
      · rw [Uri.dec_plain hc] at h
        obtain ⟨x, hx, rfl⟩ := Option.map_eq_some_iff.1 h
        have := ih t.length (by simp at hn; omega) t x hx rfl
        simp at hn ⊢; omega

set_option maxRecDepth 100000 in
set_option maxHeartbeats 4000000 in
theorem uri_Decode (l : List UInt8) (w : World) (hl : l.length ≤ 1000000000) :
    Calls Tryd.prog 17 #[str l] w fun e w' => e = .returned (.tuple #[str (decR l).1, .int .i64 (decR l).2]) ∧ Below w.heap.size w w' := by
  have hstart : Hid (Uri.dec l = (Uri.dec l).map ([] ++ ·)) := by show _ = _; simp
  go_enter Tryd.func17, Tryd.ntmps17
  go_wp2
  obtain ⟨W, hW⟩ : ∃ W, W = w.alloc (.cells #[.pointer none, .slice none 0 0] 67) := ⟨_, rfl⟩
  have hs2 : W.heap.size = w.heap.size + 1 := by rw [hW]; simp
  have hfW : Fr (fun _ => False) w W := by rw [hW]; exact (Fr.refl _ _).alloc _
  have hbk : W.heap[w.heap.size]? = some (.cells #[.pointer none, .slice none 0 0] 67) := by rw [hW]; exact heap_alloc_new w _
  rw [← hW]
  have hbld : Bld w.heap.size (w.heap.size + 1) [] W := Bld.fresh hbk (by omega)
  clear hW hbk
  generalize hb0 : w.heap.size = b at *
  have hbw : Hid (w.heap.size = b) := hb0
  clear hb0
  go_loopw [0] (fun v wr => ∃ m acc : List UInt8, v = str m ∧ acc.length + m.length ≤ 1000000000 ∧ Hid (Uri.dec l = (Uri.dec m).map (acc ++ ·)) ∧ Bld b (b + 1) acc wr ∧ Fr (BldM b (b + 1)) W wr) (fun v _ => strLen v)
  case atStart => exact ⟨l, [], rfl, by simpa using hl, hstart, hbld, Fr.refl _ _⟩
  case round =>
    obtain ⟨m, acc, rfl, hml, hdec, hbl, hfr⟩ := hrel
    clear hbld hstart hl
    have hbs : b + 1 ≤ wr.heap.size := by have := hfr.size; omega
    have hbt : ∀ w2, Below b wr w2 → Below w.heap.size w w2 := fun w2 hb2 => by
      rw [hbw.out]
      have h1 : Below b w W := hfW.below (by rw [hbw.out]; exact Nat.le_refl _) fun _ _ => id
      have h2 : Below b W wr := hfr.below (by omega) fun k hk => by simp; omega
      exact (h1.trans h2).trans hb2
    rcases Uri.cut1_cases 37 m with ⟨hc, hno⟩ | ⟨h, t, rfl, hh, hc⟩
    · have hfin : Hid (decR l = (acc ++ m, 0)) := by show _ = _; unfold decR; rw [hdec.out, dec_all m hno]; rfl
      have HC := Lib.hid hc
      clear hc hdec
      go_wp2_with (first
        | (go_at_call 16; refine (strings_cut m 37 _ (by omega)).mono ?_; rintro e w' ⟨rfl, nd, rfl⟩; rw [HC.out])
        | (go_at_call 32; refine (WriteString_ok b (b + 1) acc m _ (hbl.drewN _) (by omega) hbs).mono ?_; rintro e w2 ⟨⟨_, rfl⟩, hb2, hf2⟩; replace hf2 := hf2.undrew)
        | (go_at_call 33; refine (String_ok b (b + 1) (acc ++ m) _ hb2 (by have := hf2.size; omega)).mono ?_; rintro e w3 ⟨rfl, hb3⟩))
      go_ret2
      rw [hfin.out]
      refine ⟨rfl, hbt _ ?_⟩
      exact ((Below.refl b wr).trans (hf2.below (B := b) (by omega) fun k hk => by simp; omega)).trans hb3
    · have HC := Lib.hid hc
      have hlen : h.length + 1 + t.length = (h ++ 37 :: t).length := by simp; omega
      clear hc
      by_cases h2 : t.length < 2
      · have hfin : Hid (decR l = ([], 13)) := by show _ = _; unfold decR; rw [hdec.out, dec_none_cut h t hh, Uri.dec_short t h2]; rfl
        clear hdec
        go_wp2_with (first
          | (go_at_call 16; refine (strings_cut _ 37 _ (by omega)).mono ?_; rintro e w' ⟨rfl, nd, rfl⟩; rw [HC.out])
          | (go_at_call 32; refine (WriteString_ok b (b + 1) acc h _ (hbl.drewN _) (by omega) hbs).mono ?_; rintro e w2 ⟨⟨_, rfl⟩, hb2, hf2⟩; replace hf2 := hf2.undrew))
        go_ret2
        rw [hfin.out]
        exact ⟨rfl, hbt _ (hf2.below (B := b) (by omega) fun k hk => by simp; omega)⟩
      · obtain ⟨x, y, r, rfl⟩ : ∃ x y r, t = x :: y :: r := by
          match t, h2 with
          | x :: y :: r, _ => exact ⟨x, y, r, rfl⟩
          | [], h2 => simp at h2
          | [_], h2 => simp at h2
        obtain ⟨S, hS⟩ : ∃ S : ByteArray, S = ⟨(x :: y :: r).toArray⟩ := ⟨_, rfl⟩
        have hSz : (2 : Int) ≤ (S.size : Int) := by rw [hS]; show (2 : Int) ≤ ((x :: y :: r).length : Int); simp; omega
        have i0 : ∀ W, (Instr.index 9 (.string S) (.int .i64 0)).run Tryd.prog W = .ok (.int .u8 (x.toNat : Int)) W := fun W => by
          rw [run_index_string W _ _ _ _ Tryd.underlying9, dif_pos ⟨by omega, by omega⟩]; subst hS; rfl
        have i1 : ∀ W, (Instr.index 9 (.string S) (.int .i64 1)).run Tryd.prog W = .ok (.int .u8 (y.toNat : Int)) W := fun W => by
          rw [run_index_string W _ _ _ _ Tryd.underlying9, dif_pos ⟨by omega, by omega⟩]; subst hS; rfl
        have i2 : Hid (S.extract 2 S.size = ⟨r.toArray⟩) := by
          show _ = _
          rw [hS, ext_list]; congr 2; rw [List.take_of_length_le (by simp [ByteArray.size])]; rfl
        have HCS : Hid ((str (Uri.cut1 37 (h ++ 37 :: x :: y :: r)).2.1) = .string S) := by show _ = _; rw [HC.out, hS]
        have hsml : S.size ≤ 1000000000 := by rw [hS]; show (x :: y :: r).length ≤ _; simp at hml ⊢; omega
        clear hS
        by_cases hg : 0 ≤ digZ x ∧ 0 ≤ digZ y
        · have hgo := dec_good x y r hg
          obtain ⟨A, hA⟩ : ∃ A : Nat, digZ x = A := ⟨(digZ x).toNat, by omega⟩
          obtain ⟨B, hB⟩ : ∃ B : Nat, digZ y = B := ⟨(digZ y).toNat, by omega⟩
          have hlx := digZ_lt x
          have hly := digZ_lt y
          rw [hA] at hg hlx
          rw [hB] at hg hly
          have hOr := digZ_or x y A B hA hB
          generalize Uri.hexV x * 16 + Uri.hexV y = z at *
          have HA := Lib.hid hA
          have HB := Lib.hid hB
          have HG := Lib.hid hgo
          clear hgo hA hB
          go_wp2_with (first
            | (go_at_call 16; refine (strings_cut _ 37 _ (by omega)).mono ?_; rintro e w' ⟨rfl, nd, rfl⟩; rw [HCS.out, HC.out])
            | (go_at_call 32; refine (WriteString_ok b (b + 1) acc h _ (hbl.drewN _) (by omega) hbs).mono ?_; rintro e w2 ⟨⟨_, rfl⟩, hb2, hf2⟩; replace hf2 := hf2.undrew)
            | (go_at_call 36; refine (uri_digit _ _).mono ?_; (first | rw [HA.out] | rw [HB.out]); rintro e w' ⟨rfl, rfl⟩))
          refine wp_region_still_tail 9 (by kernel_rfl) (by kernel_rfl) ?_
          simp only [List.take_succ_cons, List.take_zero, List.drop_succ_cons, List.drop_zero]
          repeat still_step
          still_call (HA.out ▸ sym_post (uri_digit x _))
          repeat still_step
          still_call (HB.out ▸ sym_post (uri_digit y _))
          repeat still_step
          refine wpStill_nil ?_
          have hb2' : Bld b (b + 1) (acc ++ h) w2.drew := hb2
          have hfr' : Fr (BldM b (b + 1)) W w2.drew := (hfr.trans hf2).drew
          have hbs' : b + 1 ≤ w2.drew.heap.size := by have := hf2.size; show _ ≤ w2.heap.size; omega
          change wpList _ _ _ _ _ w2.drew
          clear hb2 hf2 hfr hbl i0 i1 hOr hbs
          generalize w2.drew = wd at *
          go_wp2_with (go_at_call 31; refine (WriteByte_ok b (b + 1) (acc ++ h) z _ hb2' (by simp at hml ⊢; omega) hbs').mono ?_; rintro e w3 ⟨rfl, hb3, hf3⟩)
          go_roundw
          case rel =>
            refine ⟨r, acc ++ h ++ [z], by show Value.string _ = _; rw [i2.out], by simp at hml ⊢; omega, ?_, hb3, hfr'.trans hf3⟩
            show _ = _
            rw [hdec.out, dec_none_cut h _ hh, HG.out]
            simp [Option.map_map, Function.comp_def]
          case measure =>
            show (S.extract 2 S.size).size < (⟨(h ++ 37 :: x :: y :: r).toArray⟩ : ByteArray).size
            rw [i2.out]; show r.length < (h ++ 37 :: x :: y :: r).length; simp; omega
        · have hfin : Hid (decR l = ([], 13)) := by show _ = _; unfold decR; rw [hdec.out, dec_none_cut h _ hh, dec_bad x y r hg]; rfl
          clear hdec
          go_wp2_with (first
            | (go_at_call 16; refine (strings_cut _ 37 _ (by omega)).mono ?_; rintro e w' ⟨rfl, nd, rfl⟩; rw [HCS.out, HC.out])
            | (go_at_call 32; refine (WriteString_ok b (b + 1) acc h _ (hbl.drewN _) (by omega) hbs).mono ?_; rintro e w2 ⟨⟨_, rfl⟩, hb2, hf2⟩; replace hf2 := hf2.undrew)
            | (go_at_call 36; refine (uri_digit _ _).mono ?_; rintro e w' ⟨rfl, rfl⟩))
          all_goals
            go_ret2
            rw [hfin.out]
            exact ⟨rfl, hbt _ (hf2.below (B := b) (by omega) fun k hk => by simp; omega)⟩

/-- Path's answer. -/
def pathR : List UInt8 → List UInt8 × List UInt8 × Int
  | 47 :: r => match Uri.dec (Uri.cut1 47 r).1, Uri.dec (Uri.cut1 47 r).2.1 with
    | some x, some y => if x = [] ∧ y ≠ [] then ([], [], 13) else (x, y, 0)
    | _, _ => ([], [], 13)
  | _ => ([], [], 13)

theorem pathR_slash (r : List UInt8) : pathR (47 :: r) = match Uri.dec (Uri.cut1 47 r).1, Uri.dec (Uri.cut1 47 r).2.1 with
    | some x, some y => if x = [] ∧ y ≠ [] then ([], [], 13) else (x, y, 0)
    | _, _ => ([], [], 13) := by simp [pathR]

theorem pathR_else (l : List UInt8) (h : ∀ r, l ≠ 47 :: r) : pathR l = ([], [], 13) := by
  match l with
  | [] => rfl
  | c :: r =>
    by_cases hc : c = 47
    · exact absurd (by rw [hc]) (h r)
    · unfold pathR; split
      · rename_i h2; cases h2; exact absurd rfl hc
      · rfl

theorem decR_some {l d : List UInt8} (h : Uri.dec l = some d) : decR l = (d, 0) := by simp [decR, h]
theorem decR_none {l : List UInt8} (h : Uri.dec l = none) : decR l = ([], 13) := by simp [decR, h]

theorem cut1_le (c : UInt8) (l : List UInt8) : (Uri.cut1 c l).1.length + (Uri.cut1 c l).2.1.length ≤ l.length := by
  rcases Uri.cut1_cases c l with ⟨h, _⟩ | ⟨a, b, rfl, _, h⟩ <;> rw [h] <;> simp

theorem cutp_yes (r : List UInt8) (w : World) :
    Calls Tryd.prog 29 #[str (47 :: r), .string ⟨#[47]⟩] w fun e w' => e = .returned (.tuple #[str r, .bool true]) ∧ w = w' :=
  (Tryd.strings_CutPrefix ⟨(47 :: r).toArray⟩ ⟨#[47]⟩ w).mono fun e w' ⟨h1, h2⟩ => ⟨by rw [h1]; simp [Lib.trimPrefix, Lib.hasPrefix], h2.symm⟩

theorem cutp_no (l : List UInt8) (h : ∀ r, l ≠ 47 :: r) (w : World) :
    Calls Tryd.prog 29 #[str l, .string ⟨#[47]⟩] w fun e w' => e = .returned (.tuple #[str l, .bool false]) ∧ w = w' :=
  (Tryd.strings_CutPrefix ⟨l.toArray⟩ ⟨#[47]⟩ w).mono fun e w' ⟨h1, h2⟩ => ⟨by
    rw [h1]
    have : Lib.hasPrefix l [47] = false := by
      match l with
      | [] => rfl
      | c :: r =>
        by_cases hc : c = 47
        · exact absurd (by rw [hc]) (h r)
        · have : (47 == c) = false := by simpa using fun (e : (47 : UInt8) = c) => hc e.symm
          simp [Lib.hasPrefix, List.isPrefixOf, this]
    simp [Lib.trimPrefix, this], h2.symm⟩

theorem or2 (fa fb : Int) (w : World) : Calls Tryd.prog 18 #[.slice (some ⟨w.heap.size, 0, none⟩) 2 2] (w.alloc (.cells #[.int .i64 fa, .int .i64 fb] 25)) fun e w' => e = .returned (.int .i64 (orZ [fa, fb])) ∧ w.alloc (.cells #[.int .i64 fa, .int .i64 fb] 25) = w' :=
  or_errno [fa, fb] _ _ _ (by simp) fun i hi => by
    match i, hi with
    | 0, _ => simp [Addr.add]
    | 1, _ => simp [Addr.add]

/-- Path's end behind both parts: E: the first error. -/
def PathPost (E : Int) (x y : List UInt8) (w : World) (e : Ending) (w' : World) : Prop :=
  e = .returned (if E ≠ 0 ∨ (x = [] ∧ y ≠ []) then .tuple #[str [], str [], .int .i64 13] else .tuple #[str x, str y, .int .i64 0]) ∧ Below w.heap.size w w'

set_option maxRecDepth 100000 in
set_option maxHeartbeats 4000000 in
theorem path_core (r a b x y : List UInt8) (q : Bool) (fa fb E : Int) (w : World) (hC : Hid (Uri.cut1 47 r = (a, b, q))) (hl : r.length ≤ 100000000) (hal : a.length + b.length ≤ r.length)
    (hA : Hid (decR a = (x, fa))) (hB : Hid (decR b = (y, fb))) (hE : Hid (orZ [fa, fb] = E)) :
    Calls Tryd.prog 13 #[str (47 :: r)] w (PathPost E x y w) := by
  have hE0 : ∃ p, (E != 0) = p ∧ Hid (E ≠ 0 ↔ p = true) := ⟨_, rfl, bne_iff_ne.symm⟩
  obtain ⟨p, hp, HP⟩ := hE0
  cases p
  all_goals
    go_enter Tryd.func13, Tryd.ntmps13
    go_wp2_with (first
        | (go_at_call 29; refine (cutp_yes r _).mono ?_; rintro e w' ⟨rfl, rfl⟩)
        | (go_at_call 16; refine (strings_cut r 47 _ (by omega)).mono ?_; rintro e w' ⟨rfl, nd, rfl⟩; rw [hC.out])
        | (go_at_call_of 17 (str a); refine (uri_Decode a _ (by omega)).mono ?_; rintro e w2 ⟨rfl, hb2⟩; rw [hA.out])
        | (go_at_call_of 17 (str b); refine (uri_Decode b _ (by omega)).mono ?_; rintro e w3 ⟨rfl, hb3⟩; rw [hB.out])
        | (go_at_call 18; refine (or2 fa fb _).mono ?_; rw [hE.out]; rintro e w4 ⟨rfl, rfl⟩))
    all_goals
      go_ret3
      have hbel : Below w.heap.size w (w3.alloc (.cells #[.int .i64 fa, .int .i64 fb] 25)) := by
        have h1 : Below w.heap.size w w2 := ⟨hb2.os, hb2.tape, hb2.output, hb2.size, hb2.block⟩
        have h2 : Below w.heap.size w w3 := h1.trans (hb3.mono hb2.size)
        exact h2.alloc h2.size _
      refine ⟨?_, hbel⟩
      have hP := HP.out
      by_cases hz : E = 0
      · by_cases hn : x = [] ∧ y ≠ []
        · have hc : E ≠ 0 ∨ (x = [] ∧ y ≠ []) := .inr hn
          rw [if_pos hc]
          first | rfl | (exfalso; simp_all; done)
        · have hc : ¬ (E ≠ 0 ∨ (x = [] ∧ y ≠ [])) := fun h => h.elim (fun h => h hz) hn
          rw [if_neg hc]
          first | rfl | (simp_all; done) | (exfalso; simp_all; done)
      · have hc : E ≠ 0 ∨ (x = [] ∧ y ≠ []) := .inl hz
        rw [if_pos hc]
        first | rfl | (exfalso; simp_all; done)

set_option maxRecDepth 100000 in
set_option maxHeartbeats 4000000 in
theorem path_no (l : List UInt8) (w : World) (h : ∀ r, l ≠ 47 :: r) (hl : l.length ≤ 100000000) :
    Calls Tryd.prog 13 #[str l] w fun e w' => e = .returned (.tuple #[str [], str [], .int .i64 13]) ∧ Below w.heap.size w w' := by
  have hcl := cut1_le 47 l
  obtain ⟨a, ha⟩ : ∃ a, (Uri.cut1 47 l).1 = a := ⟨_, rfl⟩
  obtain ⟨b, hb⟩ : ∃ b, (Uri.cut1 47 l).2.1 = b := ⟨_, rfl⟩
  obtain ⟨q, hq⟩ : ∃ q, (Uri.cut1 47 l).2.2 = q := ⟨_, rfl⟩
  rw [ha, hb] at hcl
  have hC : Hid (Uri.cut1 47 l = (a, b, q)) := by show _ = _; rw [← ha, ← hb, ← hq]
  clear ha hb hq
  go_enter Tryd.func13, Tryd.ntmps13
  go_wp2_with (first
        | (go_at_call 29; refine (cutp_no l h _).mono ?_; rintro e w' ⟨rfl, rfl⟩)
        | (go_at_call 16; refine (strings_cut l 47 _ (by omega)).mono ?_; rintro e w' ⟨rfl, nd, rfl⟩; rw [hC.out])
        | (go_at_call_of 17 (str a); refine (uri_Decode a _ (by omega)).mono ?_; rintro e w2 ⟨rfl, hb2⟩)
        | (go_at_call_of 17 (str b); refine (uri_Decode b _ (by omega)).mono ?_; rintro e w3 ⟨rfl, hb3⟩))
  go_ret3
  have h1 : Below w.heap.size w w2 := ⟨hb2.os, hb2.tape, hb2.output, hb2.size, hb2.block⟩
  exact ⟨rfl, h1.trans (hb3.mono hb2.size)⟩

theorem uri_Path (l : List UInt8) (w : World) (hl : l.length ≤ 100000000) :
    Calls Tryd.prog 13 #[str l] w fun e w' => e = .returned (.tuple #[str (pathR l).1, str (pathR l).2.1, .int .i64 (pathR l).2.2]) ∧ Below w.heap.size w w' := by
  by_cases hsl : ∃ r, l = 47 :: r
  · obtain ⟨r, rfl⟩ := hsl
    have hP := pathR_slash r
    have hcl := cut1_le 47 r
    simp at hl
    refine (path_core r _ _ _ _ _ (decR (Uri.cut1 47 r).1).2 (decR (Uri.cut1 47 r).2.1).2 _ w rfl (by omega) hcl rfl rfl rfl).mono ?_
    rintro e w' ⟨rfl, hb⟩
    refine ⟨?_, hb⟩
    rw [hP]
    cases h1 : Uri.dec (Uri.cut1 47 r).1 with
    | none => rw [decR_none h1]; simp [orZ]
    | some x =>
      rw [decR_some h1]
      cases h2 : Uri.dec (Uri.cut1 47 r).2.1 with
      | none => rw [decR_none h2]; simp [orZ]
      | some y => rw [decR_some h2]; simp only [orZ, if_true]; by_cases hxy : x = [] ∧ y ≠ [] <;> simp [hxy]
  · refine (path_no l w (fun r h => hsl ⟨r, h⟩) hl).mono ?_
    rintro e w' ⟨rfl, hb⟩
    exact ⟨by rw [pathR_else l fun r h => hsl ⟨r, h⟩], hb⟩
end Go.Proofs.YtdfkinkihkgdbaaDoor
