/- The walks of uri.Encode, uri.Decode and uri.Path. -/
import Derived.Test.YtdfkinkihkgdbaaDoorUriA
import Derived.Test.YtdfkinkihkgdbaaDoorBuilder
import Derived.StillTailTactics
set_option linter.unusedVariables false
namespace Go.Proofs.YtdfkinkihkgdbaaDoor
open Go.RowKit

theorem bytes_at (w : World) (l : List UInt8) (j : Nat) (hj : j < l.length) :
    (Lib.bytesWorld w 5 ⟨l.toArray⟩).cell? ⟨w.heap.size, j, none⟩ = some (.int .u8 ((l.getD j 0).toNat : Int)) := by
  have := Lib.bytesWorld_cell w 5 ⟨l.toArray⟩ j (by show j < l.length; exact hj)
  simpa using this

theorem enc_snoc (s : Bool) (l : List UInt8) (c : UInt8) : Uri.enc s (l ++ [c]) = Uri.enc s l ++ Uri.enc1 s c := by simp [Uri.enc]

theorem enc1_le (s : Bool) (c : UInt8) : (Uri.enc1 s c).length ≤ 3 := by unfold Uri.enc1; split <;> simp

theorem enc_le (s : Bool) (l : List UInt8) : (Uri.enc s l).length ≤ 3 * l.length := by
  induction l with
  | nil => simp [Uri.enc]
  | cons c l ih =>
    have := enc1_le s c
    simp only [Uri.enc, List.flatMap_cons, List.length_append, List.length_cons] at ih ⊢
    omega

theorem take_snoc (l : List UInt8) (k : Nat) (h : k < l.length) : l.take (k + 1) = l.take k ++ [l.getD k 0] := by
  rw [List.take_succ_eq_append_getElem h]; simp [List.getD_eq_getElem?_getD, List.getElem?_eq_getElem h]

theorem hex_hi (c : UInt8) : (⟨#[48, 49, 50, 51, 52, 53, 54, 55, 56, 57, 65, 66, 67, 68, 69, 70]⟩ : ByteArray).extract ((c.toNat : Int) / 16).toNat ((c.toNat : Int) / 16 + 1).toNat = ⟨[Uri.hexU (c >>> 4)].toArray⟩ := by
  rw [Lib.extract_eq]
  congr 2
  have key : ∀ i : Fin 256, (([48, 49, 50, 51, 52, 53, 54, 55, 56, 57, 65, 66, 67, 68, 69, 70] : List UInt8).drop (((⟨⟨i⟩⟩ : UInt8).toNat : Int) / 16).toNat).take ((((⟨⟨i⟩⟩ : UInt8).toNat : Int) / 16 + 1).toNat - (((⟨⟨i⟩⟩ : UInt8).toNat : Int) / 16).toNat) = [Uri.hexU ((⟨⟨i⟩⟩ : UInt8) >>> 4)] := by decide +kernel
  exact key c.toBitVec.toFin

theorem hex_lo (c : UInt8) : (⟨#[48, 49, 50, 51, 52, 53, 54, 55, 56, 57, 65, 66, 67, 68, 69, 70]⟩ : ByteArray).extract ((c.toNat : Int) % 16).toNat ((c.toNat : Int) % 16 + 1).toNat = ⟨[Uri.hexU (c &&& 15)].toArray⟩ := by
  rw [Lib.extract_eq]
  congr 2
  have key : ∀ i : Fin 256, (([48, 49, 50, 51, 52, 53, 54, 55, 56, 57, 65, 66, 67, 68, 69, 70] : List UInt8).drop (((⟨⟨i⟩⟩ : UInt8).toNat : Int) % 16).toNat).take ((((⟨⟨i⟩⟩ : UInt8).toNat : Int) % 16 + 1).toNat - (((⟨⟨i⟩⟩ : UInt8).toNat : Int) % 16).toNat) = [Uri.hexU ((⟨⟨i⟩⟩ : UInt8) &&& 15)] := by decide +kernel
  exact key c.toBitVec.toFin

theorem and15 (c : UInt8) : bits BinOp.and IntKind.u8 (c.toNat : Int) 15 = (c.toNat : Int) % 16 := by
  have key : ∀ i : Fin 256, bits BinOp.and IntKind.u8 ((⟨⟨i⟩⟩ : UInt8).toNat : Int) 15 = ((⟨⟨i⟩⟩ : UInt8).toNat : Int) % 16 := by decide +kernel
  exact key c.toBitVec.toFin

theorem enc1_yes (s : Bool) (c : UInt8) (h : (Uri.plain c || (s && (c == 47))) = true) : Uri.enc1 s c = [c] := by simp [Uri.enc1, h]
theorem enc1_no (s : Bool) (c : UInt8) (h : (Uri.plain c || (s && (c == 47))) = false) : Uri.enc1 s c = [37, Uri.hexU (c >>> 4), Uri.hexU (c &&& 15)] := by simp [Uri.enc1, h]

set_option maxRecDepth 100000 in
set_option maxHeartbeats 4000000 in
theorem uri_Encode (l : List UInt8) (s : Bool) (w : World) (hl : l.length ≤ 1000000000) :
    Calls Tryd.prog 14 #[str l, .bool s] w fun e w' => e = .returned (str (Uri.enc s l)) ∧ Below w.heap.size w w' := by
  have hT : ∀ k, k < l.length → Hid (l.take (k + 1) = l.take k ++ [l.getD k 0]) := take_snoc l
  have hE : Hid (Uri.enc s (l.take l.length) = Uri.enc s l) := by show _ = _; rw [List.take_length]
  have hle : ∀ k, (Uri.enc s (l.take k)).length ≤ 3 * l.length := fun k => by
    have := enc_le s (l.take k); have := List.length_take_le k l; have : (l.take k).length ≤ l.length := List.length_take_le' k l; omega
  have hB := fun W j hj => bytes_at W l j hj
  have hconv := fun W => Lib.run_convert_string_bytes (P := Tryd.prog) W 9 65 5 ⟨l.toArray⟩ Tryd.underlying9 Tryd.underlying65 Tryd.underlying5
  have hsz : (⟨l.toArray⟩ : ByteArray).size = l.length := rfl
  rw [hsz] at hconv
  go_enter Tryd.func14, Tryd.ntmps14
  go_wp2
  obtain ⟨w1, hw1⟩ : ∃ w1, w1 = w.alloc (.cells #[.pointer none, .slice none 0 0] 67) := ⟨_, rfl⟩
  have hs1 : w1.heap.size = w.heap.size + 1 := by rw [hw1]; simp
  have hf1 : Fr (fun _ => False) w w1 := by rw [hw1]; exact (Fr.refl _ _).alloc _
  have hbk1 : w1.heap[w.heap.size]? = some (.cells #[.pointer none, .slice none 0 0] 67) := by rw [hw1]; exact heap_alloc_new w _
  rw [← hw1]
  clear hw1
  obtain ⟨W, hW⟩ : ∃ W, W = Lib.bytesWorld w1 5 ⟨l.toArray⟩ := ⟨_, rfl⟩
  have hs2 : W.heap.size = w.heap.size + 2 := by rw [hW, Lib.bytesWorld_size, hs1]
  have hf2 : Fr (fun _ => False) w1 W := by rw [hW]; exact (Fr.refl _ _).bytesWorld _ _
  have hbk : W.heap[w.heap.size]? = some (.cells #[.pointer none, .slice none 0 0] 67) := hf2.heap hbk1 id
  have hcells : ∀ j, j < l.length → W.cell? ⟨w.heap.size + 1, j, none⟩ = some (.int .u8 ((l.getD j 0).toNat : Int)) := fun j hj => by have := hB w1 j hj; rw [hs1] at this; rw [hW]; exact this
  rw [← hW]
  have hfW : Fr (fun _ => False) w W := hf1.trans hf2
  have hbld : Bld w.heap.size (w.heap.size + 2) [] W := Bld.fresh hbk (by omega)
  generalize grownCap _ _ _ _ = cap
  clear hW hB hconv hbk hbk1 hf1 hf2 hs1 w1
  generalize hb0 : w.heap.size = b at *
  have hbw : Hid (w.heap.size = b) := hb0
  generalize hn : l.length = n at *
  clear hb0 hn hsz
  go_loopw [11] (fun i wr => ∃ k : Nat, k ≤ n ∧ i = .int .i64 k ∧ Bld b (b + 2) (Uri.enc s (l.take k)) wr ∧ Fr (BldM b (b + 2)) W wr) (fun i _ => n - (intOf i).toNat)
  case atStart => exact ⟨0, Nat.zero_le _, rfl, hbld, Fr.refl _ _⟩
  case round =>
    obtain ⟨k, hk, rfl, hbl, hfr⟩ := hrel
    by_cases hlt : k < n
    · have hck : wr.cell? ⟨b + 1, k, none⟩ = some (.int .u8 ((l.getD k 0).toNat : Int)) := hfr.cell (hcells k hlt) (by simp)
      have hTk := hT k hlt
      clear hcells hT hbld
      generalize l.getD k 0 = c at *
      have c0 := c.toNat_lt
      have hyes := fun h => Lib.hid (enc1_yes s c h)
      have hno := fun h => Lib.hid (enc1_no s c h)
      have hsnoc : Hid (Uri.enc s (l.take (k + 1)) = Uri.enc s (l.take k) ++ Uri.enc1 s c) := by show _ = _; rw [hTk.out, enc_snoc]
      have hlen := hle k
      have hbs : b + 2 ≤ wr.heap.size := by have := hfr.size; omega
      clear hTk hle
      generalize Uri.enc s (l.take k) = acc at *
      have hpc : ∃ p, Uri.plain c = p := ⟨_, rfl⟩
      obtain ⟨p, hpc⟩ := hpc
      have hb47 : ∃ q, ((c.toNat : Int) == 47) = q ∧ (c == 47) = q := ⟨_, rfl, by rw [Bool.eq_iff_iff]; simp [← UInt8.toNat_inj]; omega⟩
      obtain ⟨q, hq, hq2⟩ := hb47
      have HQ := Lib.hid hq2
      have HP := Lib.hid hpc
      clear hq2
      have z1 : IntKind.u8.wrap ((c.toNat : Int) / 16 + 1) = (c.toNat : Int) / 16 + 1 := IntWalk.u8_in _ (by omega)
      have z4 : IntKind.u8.wrap ((c.toNat : Int) % 16 + 1) = (c.toNat : Int) % 16 + 1 := IntWalk.u8_in _ (by omega)
      have s1 : ∀ W, (Instr.slice 9 (.string ⟨#[48, 49, 50, 51, 52, 53, 54, 55, 56, 57, 65, 66, 67, 68, 69, 70]⟩) (some (.int .u8 ((c.toNat : Int) / 16))) (some (.int .u8 ((c.toNat : Int) / 16 + 1))) none).run Tryd.prog W = .ok (.string ⟨[Uri.hexU (c >>> 4)].toArray⟩) W := fun W => by
        rw [run_slice_string W _ _ _ _ _ _ Tryd.underlying9 (by omega) (by omega) (by show _ ≤ (16 : Int); omega), hex_hi]
      have s2 : ∀ W, (Instr.slice 9 (.string ⟨#[48, 49, 50, 51, 52, 53, 54, 55, 56, 57, 65, 66, 67, 68, 69, 70]⟩) (some (.int .u8 ((c.toNat : Int) % 16))) (some (.int .u8 ((c.toNat : Int) % 16 + 1))) none).run Tryd.prog W = .ok (.string ⟨[Uri.hexU (c &&& 15)].toArray⟩) W := fun W => by
        rw [run_slice_string W _ _ _ _ _ _ Tryd.underlying9 (by omega) (by omega) (by show _ ≤ (16 : Int); omega), hex_lo]
      have s3 : ∀ W, (Op.stringOp .add ⟨#[37]⟩ ⟨[Uri.hexU (c >>> 4)].toArray⟩).run Tryd.prog W = .ok (.string ⟨[37, Uri.hexU (c >>> 4)].toArray⟩) W := fun W => run_string_add_lists W [37] [_] (by simp) (by simp)
      have s4 : ∀ W, (Op.stringOp .add ⟨[37, Uri.hexU (c >>> 4)].toArray⟩ ⟨[Uri.hexU (c &&& 15)].toArray⟩).run Tryd.prog W = .ok (.string ⟨[37, Uri.hexU (c >>> 4), Uri.hexU (c &&& 15)].toArray⟩) W := fun W => run_string_add_lists W [37, _] [_] (by simp) (by simp)
      have h15 := and15 c
      generalize Uri.hexU (c >>> 4) = xh at *
      generalize Uri.hexU (c &&& 15) = xl at *
      cases s <;> cases p <;> cases q
      all_goals go_wp2_with (first | (go_at_call 30; refine (uri_plain c _).mono ?_; rintro e w' ⟨rfl, rfl⟩) | (go_at_call 31; refine (WriteByte_ok b (b + 2) acc c _ hbl (by omega) hbs).mono ?_; rintro e w2 ⟨rfl, hb2, hf2⟩))
      all_goals first
        | (go_roundw
           case rel => exact ⟨k + 1, by omega, by go_num, by rw [hsnoc.out, (hyes (by simp [HP.out, HQ.out])).out]; exact hb2, hfr.trans hf2⟩
           case measure => simp [intOf]; omega)
        | (go_still_tail 14, (by kernel_rfl)
           have hbl' : Bld b (b + 2) acc wr.drew := hbl
           have hbs' : b + 2 ≤ wr.drew.heap.size := hbs
           have hfr' : Fr (BldM b (b + 2)) W wr.drew := hfr.drew
           change wpList _ _ _ _ _ wr.drew
           clear hbl hbs hfr hck s1 s2 s3 s4 h15 z1 z4
           generalize wr.drew = wd at *
           go_wp2_with (go_at_call 32; refine (WriteString_ok b (b + 2) acc [37, xh, xl] _ hbl' (by simp; omega) hbs').mono ?_; rintro e w2 ⟨⟨_, rfl⟩, hb2, hf2⟩)
           go_roundw
           case rel => exact ⟨k + 1, by omega, by go_num, by rw [hsnoc.out, (hno (by simp [HP.out, HQ.out])).out]; exact hb2, hfr'.trans hf2⟩
           case measure => simp [intOf]; omega)
    · have hkn : k = n := by omega
      have hEk : Hid (Uri.enc s (l.take k) = Uri.enc s l) := by rw [hkn]; exact hE
      clear hcells hT hbld hkn
      have hbs : b ≤ wr.heap.size := by have := hfr.size; omega
      generalize Uri.enc s (l.take k) = acc at *
      go_wp2_with (go_at_call 33; refine (String_ok b (b + 2) acc _ hbl hbs).mono ?_; rintro e w2 ⟨rfl, hb2⟩)
      go_ret
      refine ⟨by rw [← hEk.out]; rfl, ?_⟩
      have h1 : Below b w W := hfW.below (by rw [hbw.out]; exact Nat.le_refl _) fun _ _ => id
      have h2 : Below b W wr := hfr.below (by omega) fun k hk => by simp; omega
      rw [hbw.out]
      exact (h1.trans h2).trans hb2
end Go.Proofs.YtdfkinkihkgdbaaDoor
