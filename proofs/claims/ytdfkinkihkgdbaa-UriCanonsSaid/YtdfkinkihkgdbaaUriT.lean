/- The walks of the reference's Decode and Path. -/
import Derived.Test.YtdfkinkihkgdbaaUriS
set_option linter.unusedVariables false
namespace Go.Proofs.Ytdfkinkihkgdbaa
open Go.RowKit

theorem drop_one (l : List UInt8) (k : Nat) (h : k < l.length) : l.drop k = l.getD k 0 :: l.drop (k + 1) := by
  rw [List.drop_eq_getElem_cons h]; simp [List.getD_eq_getElem?_getD, List.getElem?_eq_getElem h]

theorem dec_step_plain {l acc : List UInt8} {k : Nat} {c : UInt8} (hk : k < l.length) (hc : l.getD k 0 = c) (hne : c ≠ 37) (h : Uri.dec l = (Uri.dec (l.drop k)).map (acc ++ ·)) :
    Uri.dec l = (Uri.dec (l.drop (k + 1))).map ((acc ++ [c]) ++ ·) := by
  rw [h, drop_one l k hk, hc, Uri.dec_plain hne]; simp [Option.map_map, Function.comp_def]

theorem dec_step_short {l acc : List UInt8} {k : Nat} (hk : k < l.length) (hc : l.getD k 0 = 37) (hs : l.length < k + 3) (h : Uri.dec l = (Uri.dec (l.drop k)).map (acc ++ ·)) : decR l = ([], 13) := by
  unfold decR
  rw [h, drop_one l k hk, hc, Uri.dec_short _ (by simp; omega)]; rfl

theorem drop_three (l : List UInt8) (k : Nat) (h : k + 3 ≤ l.length) : l.drop k = l.getD k 0 :: l.getD (k + 1) 0 :: l.getD (k + 2) 0 :: l.drop (k + 3) := by
  rw [drop_one l k (by omega), drop_one l (k + 1) (by omega), drop_one l (k + 2) (by omega)]

theorem dec_step_pct {l acc : List UInt8} {k : Nat} {a b : UInt8} (hk : k + 3 ≤ l.length) (hc : l.getD k 0 = 37) (ha : l.getD (k + 1) 0 = a) (hb : l.getD (k + 2) 0 = b) (h : Uri.dec l = (Uri.dec (l.drop k)).map (acc ++ ·)) :
    ((Uri.hexV a).toNat < 16 → (Uri.hexV b).toNat < 16 → Uri.dec l = (Uri.dec (l.drop (k + 3))).map ((acc ++ [Uri.hexV a * 16 + Uri.hexV b]) ++ ·)) ∧
    (¬ ((Uri.hexV a).toNat < 16 ∧ (Uri.hexV b).toNat < 16) → decR l = ([], 13)) := by
  have e := drop_three l k hk
  rw [hc, ha, hb] at e
  constructor
  · intro h1 h2
    rw [h, e, Uri.dec_pct, if_pos (by simp [UInt8.lt_iff_toNat_lt, h1, h2])]
    simp [Option.map_map, Function.comp_def]
  · intro h1
    unfold decR
    rw [h, e, Uri.dec_pct, if_neg (by simpa [UInt8.lt_iff_toNat_lt] using h1)]
    rfl

theorem dec_end {l acc : List UInt8} (h : Uri.dec l = (Uri.dec (l.drop l.length)).map (acc ++ ·)) : decR l = (acc, 0) := by
  unfold decR
  rw [h, List.drop_length, Uri.dec_nil]; simp

theorem byte_sum (a b : UInt8) (A B : Nat) (hA : (Uri.hexV a).toNat = A) (hB : (Uri.hexV b).toNat = B) (h1 : A < 16) (h2 : B < 16) :
    IntKind.u8.wrap ((A : Int) * 16 + (B : Int)) = ((Uri.hexV a * 16 + Uri.hexV b).toNat : Int) := by
  rw [IntWalk.u8_in _ (by omega), UInt8.toNat_add, UInt8.toNat_mul, hA, hB]
  simp
  omega

set_option maxRecDepth 100000 in
set_option maxHeartbeats 4000000 in
theorem ref_Decode (l : List UInt8) (w : World) (hl : l.length ≤ 1000000000) :
    Calls Try.prog 16 #[str l] w fun e w' => e = .returned (.tuple #[str (decR l).1, .int .i64 (decR l).2]) ∧ Below w.heap.size w w' := by
  have hI := fun k hk W => idx_str l k hk W
  have hstart : Hid (Uri.dec l = (Uri.dec (l.drop 0)).map ([] ++ ·)) := by show _ = _; simp
  have hP : ∀ k, k < l.length → ∀ acc c, Hid (l.getD k 0 = c → c ≠ 37 → Uri.dec l = (Uri.dec (l.drop k)).map (acc ++ ·) → Uri.dec l = (Uri.dec (l.drop (k + 1))).map ((acc ++ [c]) ++ ·)) := fun k hk acc c => dec_step_plain hk
  have hS : ∀ k, k < l.length → ∀ acc, Hid (l.getD k 0 = 37 → l.length < k + 3 → Uri.dec l = (Uri.dec (l.drop k)).map (acc ++ ·) → decR l = ([], 13)) := fun k hk acc => dec_step_short hk
  have hD : ∀ k, k + 3 ≤ l.length → ∀ acc a b, Hid (l.getD k 0 = 37 → l.getD (k + 1) 0 = a → l.getD (k + 2) 0 = b → Uri.dec l = (Uri.dec (l.drop k)).map (acc ++ ·) →
      ((Uri.hexV a).toNat < 16 → (Uri.hexV b).toNat < 16 → Uri.dec l = (Uri.dec (l.drop (k + 3))).map ((acc ++ [Uri.hexV a * 16 + Uri.hexV b]) ++ ·)) ∧
      (¬ ((Uri.hexV a).toNat < 16 ∧ (Uri.hexV b).toNat < 16) → decR l = ([], 13))) := fun k hk acc a b => dec_step_pct hk
  have hE : ∀ acc, Hid (Uri.dec l = (Uri.dec (l.drop l.length)).map (acc ++ ·) → decR l = (acc, 0)) := fun acc => dec_end
  obtain ⟨S, hSS⟩ : ∃ S : ByteArray, S = ⟨l.toArray⟩ := ⟨_, rfl⟩
  have hSz : S.size = l.length := by rw [hSS]; rfl
  show Calls _ _ #[.string ⟨l.toArray⟩] _ _
  rw [← hSS] at hI ⊢
  rw [← hSz] at hl hI hP hS hD hE
  clear hSS hSz
  have hown : w.ownsRow w.heap.size 5 1 (.slice none 0 0) ([] : List UInt8).length (bcells []) := World.ownsRow_nil _ _ _ _
  go_enter Try.func16, Try.ntmps16
  go_wp2
  go_loopw [4, 5] (fun v i wr => ∃ (k : Nat) (acc : List UInt8), k ≤ S.size ∧ acc.length ≤ k ∧ i = .int .i64 k ∧ Hid (Uri.dec l = (Uri.dec (l.drop k)).map (acc ++ ·)) ∧ wr.ownsRow w.heap.size 5 1 v acc.length (bcells acc) ∧ Fr (fun k => w.heap.size ≤ k) w wr) (fun _ i _ => S.size - (intOf i).toNat)
  case atStart => exact ⟨0, [], Nat.zero_le _, Nat.le_refl _, rfl, hstart, hown, Fr.refl _ _⟩
  case round =>
    obtain ⟨k, acc, hk, hak, rfl, hdec, hrow, hfr⟩ := hrel
    clear hown hstart
    have hbel : ∀ w2, Fr (fun k => w.heap.size ≤ k) w w2 → Below w.heap.size w w2 := fun w2 h => h.below (Nat.le_refl _) fun k hk => by omega
    by_cases hlt : k < S.size
    · have i0 := hI k hlt
      by_cases hc : l.getD k 0 = 37
      · rw [hc] at i0
        by_cases h3 : S.size < k + 3
        · have hfin : Hid (decR l = ([], 13)) := (hS k hlt acc).out hc h3 hdec.out
          clear hI hP hS hD hE hc hdec
          go_wp2
          go_ret2
          rw [hfin.out]
          exact ⟨rfl, hbel _ hfr⟩
        · have i1 := hI (k + 1) (by omega)
          have i2 := hI (k + 2) (by omega)
          have hD' := fun a b h1 h2 => (hD k (by omega) acc a b).out hc h1 h2 hdec.out
          obtain ⟨a, ha⟩ : ∃ a, l.getD (k + 1) 0 = a := ⟨_, rfl⟩
          obtain ⟨b, hb⟩ : ∃ b, l.getD (k + 2) 0 = b := ⟨_, rfl⟩
          rw [ha] at i1
          rw [hb] at i2
          have hDY := Lib.hid (hD' a b ha hb).1
          have hDN := Lib.hid (hD' a b ha hb).2
          have hBS := byte_sum a b
          clear hI hP hS hD hE hc hdec ha hb hD'
          obtain ⟨A, hA⟩ : ∃ A, (Uri.hexV a).toNat = A := ⟨_, rfl⟩
          obtain ⟨B, hB⟩ : ∃ B, (Uri.hexV b).toNat = B := ⟨_, rfl⟩
          have HA := Lib.hid hA
          have HB := Lib.hid hB
          have hbs := fun h1 h2 => hBS A B hA hB h1 h2
          clear hBS hA hB
          generalize Uri.hexV a * 16 + Uri.hexV b = z at *
          push_cast at i1
          replace i2 : ∀ W, (Instr.index 9 (.string S) (.int .i64 ((k : Int) + 2))).run Try.prog W = .ok (.int .u8 (b.toNat : Int)) W := fun W => by have := i2 W; rwa [show ((k + 2 : Nat) : Int) = (k : Int) + 2 from by omega] at this
          by_cases hAB : A < 16 ∧ B < 16
          · obtain ⟨hA16, hB16⟩ := hAB
            have hz := hbs hA16 hB16
            clear hbs
            go_wp2_with (go_at_call 41; refine (ref_digit _ _).mono ?_; (first | rw [HA.out] | rw [HB.out]); rintro e w' ⟨rfl, rfl⟩)
            have y1 : IntKind.i64.wrap ((k : Int) + 1) = (k : Int) + 1 := IntWalk.i64_in _ (by omega)
            have y2 : IntKind.i64.wrap ((k : Int) + 2) = (k : Int) + 2 := IntWalk.i64_in _ (by omega)
            have y3 : IntKind.i64.wrap ((A : Int) * 16) = (A : Int) * 16 := IntWalk.i64_in _ (by omega)
            have y4 : IntKind.i64.wrap ((A : Int) * 16 + (B : Int)) = (A : Int) * 16 + (B : Int) := IntWalk.i64_in _ (by omega)
            go_region_law (first
              | (refine step_app (hrow.alloc (.cells #[.int .u8 (z.toNat : Int)] 5)) 1 [.int .u8 (z.toNat : Int)] Try.underlying39 byteInfo rfl (by decide) rfl (one_cell1 rfl) ?_ ?_ ?_ rfl rfl rfl rfl (news_alloc wr _ _) ?_; omega; omega; have := hfr.size; simp; omega; intro v' w2 hrow2 hfr2)
              | (go_simp; go_at_call 41; refine (ref_digit _ _).mono ?_; (first | rw [HA.out] | rw [HB.out]); rintro e w' ⟨rfl, rfl⟩))
            all_goals
              clear y1 y2 y3 y4 i0 i1 i2
              have y5 : (k : Int) + 2 ≤ 9223372036854775000 := by omega
              go_wp2
              go_roundw
              case rel => exact ⟨k + 3, acc ++ [z], by omega, by simp; omega, by go_num, hDY.out (by rw [HA.out]; exact hA16) (by rw [HB.out]; exact hB16), by rw [bcells_append, List.length_append]; exact hrow2, Fr.then_ (hfr.alloc _).drew hfr2 fun _ _ h => h⟩
              case measure => simp [intOf]; omega
          · have hfin : Hid (decR l = ([], 13)) := hDN.out (by rw [HA.out, HB.out]; exact hAB)
            clear hbs hDN hDY
            go_wp2_with (go_at_call 41; refine (ref_digit _ _).mono ?_; (first | rw [HA.out] | rw [HB.out]); rintro e w' ⟨rfl, rfl⟩)
            all_goals
              go_ret2
              rw [hfin.out]
              exact ⟨rfl, hbel _ hfr⟩
      · have hnew := Lib.hid ((hP k hlt acc _).out rfl hc hdec.out)
        have hb : (((l.getD k 0).toNat : Int) != 37) = true := by
          rw [bne_iff_ne]; exact fun e => hc (UInt8.toNat_inj.1 (by simpa using Int.ofNat_inj.1 e))
        clear hI hP hS hD hE hc hdec
        generalize l.getD k 0 = c at *
        go_wp2_with (at_builtin; go_must (refine app_lit hrow 1 [.int .u8 (c.toNat : Int)] Try.underlying39 byteInfo rfl (by decide) rfl (one_cell1 rfl) ?_ ?_ hfr.size rfl rfl rfl rfl ?_); omega; omega; intro v' w2 hrow2 hfr2)
        go_roundw
        case rel => exact ⟨k + 1, acc ++ [c], by omega, by simp; omega, by go_num, hnew, by rw [bcells_append, List.length_append]; exact hrow2, hfr.trans hfr2⟩
        case measure => simp [intOf]; omega
    · have hkn : k = S.size := by omega
      have hfin : Hid (decR l = (acc, 0)) := (hE acc).out (by rw [← hkn]; exact hdec.out)
      clear hI hP hS hD hE hkn hdec
      have hcv := own_conv Try.underlying39 Try.underlying5 Try.underlying9 hrow
      go_wp2
      go_ret2
      rw [hfin.out]
      exact ⟨rfl, hbel _ hfr⟩
end Go.Proofs.Ytdfkinkihkgdbaa
