/- The walks of the reference of layer 4, what makes memory. -/
import Derived.Test.YtdfkinkihkgdbaaUriR
import Derived.Deep.AppendLies
set_option linter.unusedVariables false
namespace Go.Proofs.Ytdfkinkihkgdbaa
open Go.RowKit

theorem hex_at (c : UInt8) : (⟨#[48, 49, 50, 51, 52, 53, 54, 55, 56, 57, 65, 66, 67, 68, 69, 70]⟩ : ByteArray).size = 16 := rfl

theorem hex_idx (x : Nat) (h : x < 16) (W : World) :
    (Instr.index 9 (.string ⟨#[48, 49, 50, 51, 52, 53, 54, 55, 56, 57, 65, 66, 67, 68, 69, 70]⟩) (.int .u8 (x : Int))).run Try.prog W = .ok (.int .u8 ((Uri.hexU x.toUInt8).toNat : Int)) W := by
  rw [run_index_string W _ _ _ _ Try.underlying9, dif_pos ⟨by omega, by show _ < (16 : Int); omega⟩]
  have key : ∀ i : Fin 16, ([48, 49, 50, 51, 52, 53, 54, 55, 56, 57, 65, 66, 67, 68, 69, 70] : List UInt8).getD i 0 = Uri.hexU (i : Nat).toUInt8 := by decide +kernel
  congr 3
  have := key ⟨x, h⟩
  rw [← this]
  show ((([48, 49, 50, 51, 52, 53, 54, 55, 56, 57, 65, 66, 67, 68, 69, 70] : List UInt8).toArray[(x : Int).toNat]'(by simpa using h))).toNat = _
  simp [List.getD_eq_getElem?_getD, h]

theorem hi_nib (c : UInt8) : (c.toNat / 16).toUInt8 = c >>> 4 := by
  have key : ∀ i : Fin 256, ((⟨⟨i⟩⟩ : UInt8).toNat / 16).toUInt8 = (⟨⟨i⟩⟩ : UInt8) >>> 4 := by decide +kernel
  exact key c.toBitVec.toFin
theorem lo_nib (c : UInt8) : (c.toNat % 16).toUInt8 = c &&& 15 := by
  have key : ∀ i : Fin 256, ((⟨⟨i⟩⟩ : UInt8).toNat % 16).toUInt8 = (⟨⟨i⟩⟩ : UInt8) &&& 15 := by decide +kernel
  exact key c.toBitVec.toFin

set_option maxRecDepth 100000 in
set_option maxHeartbeats 4000000 in
theorem ref_Encode (l : List UInt8) (s : Bool) (w : World) (hl : l.length ≤ 1000000000) :
    Calls Try.prog 13 #[str l, .bool s] w fun e w' => e = .returned (str (Uri.enc s l)) ∧ Below w.heap.size w w' := by
  have hI := fun k hk W => idx_str l k hk W
  have hT : ∀ k, k < l.length → Hid (l.take (k + 1) = l.take k ++ [l.getD k 0]) := take_snoc l
  have hE : Hid (Uri.enc s (l.take l.length) = Uri.enc s l) := by show _ = _; rw [List.take_length]
  have hle : ∀ k, (Uri.enc s (l.take k)).length ≤ 3 * l.length := fun k => by
    have := enc_le s (l.take k); have : (l.take k).length ≤ l.length := List.length_take_le' k l; omega
  have hsz : Hid ((⟨l.toArray⟩ : ByteArray).size = l.length) := rfl
  obtain ⟨S, hS⟩ : ∃ S : ByteArray, S = ⟨l.toArray⟩ := ⟨_, rfl⟩
  have hSz : S.size = l.length := by rw [hS]; rfl
  show Calls _ _ #[.string ⟨l.toArray⟩, _] _ _
  rw [← hS] at hI ⊢
  rw [← hSz] at hl hI hT hE hle
  clear hS hSz hsz
  have hown : w.ownsRow w.heap.size 5 1 (.slice none 0 0) (Uri.enc s (l.take 0)).length (bcells (Uri.enc s (l.take 0))) := World.ownsRow_nil _ _ _ _
  go_enter Try.func13, Try.ntmps13
  go_wp2
  go_loopw [6, 7] (fun v i wr => ∃ k : Nat, k ≤ S.size ∧ i = .int .i64 k ∧ wr.ownsRow w.heap.size 5 1 v (Uri.enc s (l.take k)).length (bcells (Uri.enc s (l.take k))) ∧ Fr (fun k => w.heap.size ≤ k) w wr) (fun _ i _ => S.size - (intOf i).toNat)
  case atStart => exact ⟨0, Nat.zero_le _, rfl, hown, Fr.refl _ _⟩
  case round =>
    obtain ⟨k, hk, rfl, hrow, hfr⟩ := hrel
    clear hown
    by_cases hlt : k < S.size
    · have i0 := hI k hlt
      have hTk := hT k hlt
      clear hI hT hE
      generalize l.getD k 0 = c at *
      have c0 := c.toNat_lt
      have hyes := fun h => Lib.hid (enc1_yes s c h)
      have hno := fun h => Lib.hid (enc1_no s c h)
      have hsnoc : Hid (Uri.enc s (l.take (k + 1)) = Uri.enc s (l.take k) ++ Uri.enc1 s c) := by show _ = _; rw [hTk.out, enc_snoc]
      have hlen := hle k
      clear hTk hle
      generalize Uri.enc s (l.take k) = acc at *
      obtain ⟨p, hpc⟩ : ∃ p, Uri.plain c = p := ⟨_, rfl⟩
      obtain ⟨q, hq, hq2⟩ : ∃ q, ((c.toNat : Int) == 47) = q ∧ (c == 47) = q := ⟨_, rfl, by rw [Bool.eq_iff_iff]; simp [← UInt8.toNat_inj]; omega⟩
      have HQ := Lib.hid hq2
      have HP := Lib.hid hpc
      clear hq2
      have s1 : ∀ W, (Instr.index 9 (.string ⟨#[48, 49, 50, 51, 52, 53, 54, 55, 56, 57, 65, 66, 67, 68, 69, 70]⟩) (.int .u8 ((c.toNat : Int) / 16))).run Try.prog W = .ok (.int .u8 ((Uri.hexU (c >>> 4)).toNat : Int)) W := fun W => by
        have := hex_idx (c.toNat / 16) (by omega) W; rw [hi_nib] at this; exact_mod_cast this
      have s2 : ∀ W, (Instr.index 9 (.string ⟨#[48, 49, 50, 51, 52, 53, 54, 55, 56, 57, 65, 66, 67, 68, 69, 70]⟩) (.int .u8 ((c.toNat : Int) % 16))).run Try.prog W = .ok (.int .u8 ((Uri.hexU (c &&& 15)).toNat : Int)) W := fun W => by
        have := hex_idx (c.toNat % 16) (by omega) W; rw [lo_nib] at this; exact_mod_cast this
      have z1 : IntKind.u8.wrap ((c.toNat : Int) / 16) = (c.toNat : Int) / 16 := IntWalk.u8_in _ (by omega)
      have z2 : (c.toNat : Int).tmod 16 = (c.toNat : Int) % 16 := Int.tmod_eq_emod_of_nonneg (by omega)
      generalize Uri.hexU (c >>> 4) = xh at *
      generalize Uri.hexU (c &&& 15) = xl at *
      cases s <;> cases p <;> cases q
      all_goals go_wp2_with (first
        | (go_at_call 38; refine (ref_plain c _).mono ?_; rintro e w' ⟨rfl, rfl⟩)
        | (at_builtin; go_must (refine app_lit hrow 1 [.int .u8 (c.toNat : Int)] Try.underlying39 byteInfo rfl (by decide) rfl (one_cell1 rfl) ?_ ?_ hfr.size rfl rfl rfl rfl ?_); omega; omega; intro v' w2 hrow2 hfr2))
      all_goals first
        | (go_roundw
           case rel => exact ⟨k + 1, by omega, by go_num, by rw [hsnoc.out, (hyes (by simp [HP.out, HQ.out])).out, bcells_append, List.length_append]; exact hrow2, hfr.trans hfr2⟩
           case measure => simp [intOf]; omega)
        | (have h1c : ∀ u ∈ [Value.int .u8 37, .int .u8 (xh.toNat : Int), .int .u8 (xl.toNat : Int)], u.oneCell' = true := by intro u hu; simp at hu; rcases hu with rfl | rfl | rfl <;> rfl
           go_region_law (
             refine step_app (hrow.alloc (.cells #[.int .u8 37, .int .u8 (xh.toNat : Int), .int .u8 (xl.toNat : Int)] 5)) 3 [.int .u8 37, .int .u8 (xh.toNat : Int), .int .u8 (xl.toNat : Int)] Try.underlying39 byteInfo rfl (by decide) rfl h1c ?_ ?_ ?_ rfl rfl rfl rfl (news_alloc wr _ _) ?_; omega; omega; have := hfr.size; simp; omega; intro v' w2 hrow2 hfr2)
           all_goals
             go_wp2
             go_roundw
             case rel => exact ⟨k + 1, by omega, by go_num, by rw [hsnoc.out, (hno (by simp [HP.out, HQ.out])).out, bcells_append, List.length_append]; exact hrow2, Fr.then_ (hfr.alloc _).drew hfr2 fun _ _ h => h⟩
             case measure => simp [intOf]; omega)
    · have hkn : k = S.size := by omega
      have hEk : Hid (Uri.enc s (l.take k) = Uri.enc s l) := by rw [hkn]; exact hE
      clear hI hT hkn hE
      generalize Uri.enc s (l.take k) = acc at *
      have hcv := own_conv Try.underlying39 Try.underlying5 Try.underlying9 hrow
      go_wp2
      go_ret
      exact ⟨by rw [← hEk.out]; rfl, hfr.below (Nat.le_refl _) fun k hk => by omega⟩
end Go.Proofs.Ytdfkinkihkgdbaa
