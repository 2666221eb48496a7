/- Texts of this proof, laid together: JtF, JtArg. -/
import Derived.Deep.Slices
import Derived.ChangeSame
import Derived.ChangeMaps5
import Derived.SizedLaws
import Derived.Test.YtnbonhinpepgoaaGreatJw1
set_option linter.unusedVariables false
set_option linter.unusedSimpArgs false
section
set_option linter.unusedVariables false
namespace Go.Proofs.YtnbonhinpepgoaaGreat
open Go.RowKit Go.Maps
theorem JOpAt.fr {w w' : World} {c : JCells} {p : JOp} (h : JOpAt w c p) (hf : Fr (fun _ => False) w w') : JOpAt w' c p :=
  ⟨fun i q hq => by
    obtain ⟨b, o, e, h0, h1, h2, h3⟩ := h.puts i q hq
    exact ⟨b, o, e, hf.cell h0 id, hf.cell h1 id, hf.cell h2 id, h3⟩, fun i x hx => by
    obtain ⟨b, o, e, h0⟩ := h.keep i x hx
    exact ⟨b, o, e, hf.cell h0 id⟩, h.a0, h.a1, h.kl⟩
def Kp (F : Nat → Prop) (k : Nat) (ob : Obj) (w : World) : Prop := w.heap[k]? = some ob ∧ ¬ F k
theorem Kp.mv {F F' : Nat → Prop} {k : Nat} {ob : Obj} {w w' : World} (h : Kp F k ob w) (m : Mv F F' w w') : Kp F' k ob w' :=
  ⟨m.fr.heap h.1 h.2, fun hk => (m.own k hk).elim h.2 (fun h2 => by have := block_lt h.1; omega)⟩
theorem Kp.frF {F : Nat → Prop} {k : Nat} {ob : Obj} {w w' : World} (h : Kp F k ob w) (hf : Fr (fun _ => False) w w') : Kp F k ob w' := ⟨hf.heap h.1 id, h.2⟩
theorem Kp.fr' {F : Nat → Prop} {k : Nat} {ob : Obj} {w w' : World} (h : Kp F k ob w) (hf : Fr F w w') : Kp F k ob w' := ⟨hf.heap h.1 h.2, h.2⟩
theorem Kp.sub {F F' : Nat → Prop} {k : Nat} {ob : Obj} {w : World} (h : Kp F k ob w) (hs : ∀ j, F' j → F j) : Kp F' k ob w := ⟨h.1, fun hk => h.2 (hs k hk)⟩
theorem Ab.sub {w0 w : World} {F F' : Nat → Prop} (h : Ab w0 F w) (hs : ∀ j, F' j → F j) : Ab w0 F' w := ⟨fun k hk => h.hi k (hs k hk), h.fr⟩
theorem flat512 (l : List (List Nat)) (h : ∀ s ∈ l, IsSec s) : l.flatten.length = 512 * l.length := by
  induction l with
  | nil => rfl
  | cons s l ih =>
    rw [List.flatten_cons, List.length_append, ih (fun x hx => h x (List.mem_cons_of_mem _ hx)), (h s (List.mem_cons_self ..)).len, List.length_cons]
    omega
theorem img_len {D : Dk} (h : D.Ok) (hl : D.st.length = 64) : (imgF D).length = 7680 := by
  unfold imgF
  rw [flat512 _ (fun s hs => h.sec s (List.mem_of_mem_drop hs)), List.length_drop, hl]
theorem Calm.st {D : Dk} (h : Calm D) : D.ca.length < 800000 := by rw [h.ca]; show 0 < 800000; decide
set_option maxHeartbeats 40000000 in
set_option maxRecDepth 10000 in
theorem law_JournalTwice (L : List JOp) (X : Option Addr) (cap : Nat) (w : World) (hL : JScr w X L) (hl : L.length ≤ 9223372036854775807) (hpl : ∀ p ∈ L, p.puts.length ≤ 9223372036854775807) :
    Calls Tryz.prog 3 #[.slice X L.length cap] w fun e w' => e = .returned (.bool true) ∧ Fr (fun _ => False) w w' := by
  have hli := light10 L X cap w hL hl hpl
  have HAl := Lib.hid (fun W => alive10 W)
  have hnot : ∀ (x : Bool) (w : World), (Op.unary .not (.bool x)).run Tryz.prog w = .ok (.bool (!x)) w := fun _ _ => rfl
  by_cases hlt : (∀ p ∈ L, p.puts.length ≤ 60) ∧ L.length ≤ 12
  · rw [decide_eq_true hlt.1, decide_eq_true hlt.2] at hli
    have H60 := Lib.hid hlt.1
    have h12 := hlt.2
    have HL := Lib.hid hL
    clear hlt hL hpl hl
    have hn := new_P 64 (by decide) (by decide) w
    go_enter Tryz.func3, Tryz.ntmps3
    go_wp2_with (first
      | (go_at_call 13; refine hli.mono ?_; rintro e u0 ⟨rfl, rfl⟩; clear hli)
      | (go_at_call 15; refine hn.mono ?_; rintro e u1 ⟨g, F1, rfl, hD1, hB1, hF1⟩; have HA1 := Lib.hid (Ab.mk hB1 hF1); have HD1 := Lib.hid hD1; have hal := HAl.out u1; clear hD1 hB1 hF1 hn)
      | (go_at_call 14; refine hal.mono ?_; rintro e u2 ⟨rfl, hF2⟩; have HA2 := Lib.hid (HA1.out.frF hF2); have HD2 := Lib.hid (HD1.out.fr hF2 (fun _ _ => id)); clear hF2 hal))
    go_loopw [5] (fun t wr => ∃ (j : Nat) (F : Nat → Prop) (D : Dk), t = .int .i64 j ∧ j ≤ L.length ∧ Hid (DSt F g D wr) ∧ Hid (Calm D ∧ D.st.length = 64) ∧ Hid (Ab w F wr)) (fun t _ => L.length - (intOf t).toNat)
    case atStart => exact ⟨0, F1, D0 64, rfl, Nat.zero_le _, HD2, Lib.hid ⟨D0_calm 64, D0_len 64⟩, HA2⟩
    case round =>
      clear HD2 HA2 HD1 HA1
      obtain ⟨j, F, D, rfl, hj, HD, HC, HA⟩ := hrel
      have hz := HA.out.fr.size
      by_cases hjl : j < L.length
      · obtain ⟨p, hp⟩ : ∃ p, L[j]? = some p := ⟨_, List.getElem?_eq_getElem hjl⟩
        have HP60 := Lib.hid (H60.out p (List.mem_of_getElem? hp))
        obtain ⟨b, o, c, rfl, hat, hc⟩ := HL.out j p hp
        have c0 := HA.out.fr.cell (hc 0 _ rfl) id
        rw [Nat.add_zero] at c0
        have c1 := HA.out.fr.cell (hc 1 _ rfl) id
        have c2 := HA.out.fr.cell (hc 2 _ rfl) id
        have c3 := HA.out.fr.cell (hc 3 _ rfl) id
        have c4 := HA.out.fr.cell (hc 4 _ rfl) id
        have HOP := Lib.hid hat
        clear hp hat hc
        obtain ⟨puts, arm, keep⟩ := p
        obtain ⟨PX, pc, KX, kc, mo, RX, rl, rc⟩ := c
        simp only at c0 c1 c2 c3 c4 HP60
        obtain ⟨s1, D1, hm1, hc1, hl1, hid1⟩ := calm_mount HC.out.1 (by rw [HC.out.2]; decide)
        obtain ⟨w1, hw1⟩ : ∃ w1, wr.alloc (.cells #[.slice PX puts.length pc, .int .i64 arm, .slice KX keep.length kc, .int .i64 mo, .slice RX rl rc] 32) = w1 := ⟨_, rfl⟩
        have hF1 : Fr (fun _ => False) wr w1 := by rw [← hw1]; exact (Fr.refl _ _).alloc _
        have hQ1 : w1.heap[wr.heap.size]? = some (.cells #[.slice PX puts.length pc, .int .i64 arm, .slice KX keep.length kc, .int .i64 mo, .slice RX rl rc] 32 (0, 0)) := by rw [← hw1]; exact heap_alloc_new wr _
        have hm := (HD.out.fr hF1 (fun _ _ => id)).mount HC.out.1 hm1
        have HA1 := Lib.hid (HA.out.frF hF1)
        obtain ⟨ob, hob⟩ : ∃ ob, Obj.cells #[.slice PX puts.length pc, .int .i64 arm, .slice KX keep.length kc, .int .i64 mo, .slice RX rl rc] 32 (0, 0) = ob := ⟨_, rfl⟩
        rw [hob] at hQ1
        have HOB := Lib.hid hob
        have HK1 := Lib.hid (show Kp F wr.heap.size ob w1 from ⟨hQ1, fun h => by have := HD.out.lt h; omega⟩)
        have HF1 := Lib.hid hF1
        have HC1 := Lib.hid hc1
        have HL1 := Lib.hid (hl1.trans HC.out.2)
        have HID1 := Lib.hid hid1
        have HCE := Lib.hid (fun (W : World) (h : W.heap[wr.heap.size]? = some ob) => (show W.cell? ⟨wr.heap.size, 0, none⟩ = some (.slice PX puts.length pc) ∧ W.cell? ⟨wr.heap.size, 1, none⟩ = some (.int .i64 arm) ∧ W.cell? ⟨wr.heap.size, 2, none⟩ = some (.slice KX keep.length kc) from by
          rw [← HOB.out] at h
          exact ⟨cell_of_row W _ 0 _ _ _ h, cell_of_row W _ 1 _ _ _ h, cell_of_row W _ 2 _ _ _ h⟩))
        clear hF1 hQ1 hm1 hc1 hl1 hid1
        clear hob
        go_wp2_with fail
        refine hm.mono ?_
        rintro e w2 ⟨ga, F2, rfl, hJ2, hM2⟩
        have HA2 := Lib.hid (HA1.out.mv hM2)
        have HK2 := Lib.hid (HK1.out.mv hM2)
        obtain ⟨d0, d1, d2⟩ := HCE.out w2 HK2.out.1
        have har := hJ2.arm arm HOP.out.a0 HOP.out.a1
        clear hJ2 hM2 hm
        go_wp2_with (first
          | (go_at_call 17; refine har.mono ?_; rintro e w3 ⟨rfl, hJ3, hF3⟩; have HA3 := Lib.hid (HA2.out.fr' hF3); have HK3 := Lib.hid (HK2.out.fr' hF3); have hb := hJ3.begin_; clear hJ3 hF3 har)
          | (go_at_call 18; refine hb.mono ?_; rintro e w4 ⟨gt, F4, rfl, hT4, hM4⟩; have HA4 := Lib.hid (HA3.out.mv hM4); have HK4 := Lib.hid (HK3.out.mv hM4); have HT4 := Lib.hid hT4; clear hT4 hM4 hb))
        obtain ⟨wo, rfl⟩ : ∃ wo : World, wo = wr := ⟨_, rfl⟩
        obtain ⟨DA, hDA⟩ : ∃ DA, ({ D1 with armed := max arm (-1) } : Dk) = DA := ⟨_, rfl⟩
        have HDA := Lib.hid (show DA.st.length = 64 ∧ DA.down = false ∧ DA.ca.length < 800000 from by rw [← hDA]; exact ⟨HL1.out, HC1.out.down, HC1.out.st⟩)
        rw [hDA] at HT4
        clear hDA HA1 HK1 HA2 HK2 HA3 HK3 HF1
        go_loopw [10] (fun t wi => ∃ (i : Nat) (F : Nat → Prop) (l : List Put), t = .int .i64 i ∧ i ≤ puts.length ∧ Hid (TxP F g ga gt i s1 DA l wi) ∧ Hid (Ab w F wi) ∧ Hid (Kp F wo.heap.size ob wi)) (fun t _ => puts.length - (intOf t).toNat)
        case atStart => exact ⟨0, F4, [], rfl, Nat.zero_le _, HT4, HA4, HK4⟩
        case round =>
          clear HT4 HA4 HK4
          obtain ⟨i, F5, l, rfl, hi, HT, HA5, HK5⟩ := hrel
          have hzi := HA5.out.fr.size
          obtain ⟨e0, e1, e2⟩ := HCE.out wr HK5.out.1
          have h60 := HP60.out
          by_cases hil : i < puts.length
          · obtain ⟨q, hq⟩ : ∃ q, puts[i]? = some q := ⟨_, List.getElem?_eq_getElem hil⟩
            obtain ⟨pb, po, hPX, g0, g1, g2, g3, g4⟩ := HOP.out.puts i q hq
            simp only at hPX
            subst hPX
            have f0 := HA5.out.fr.cell g0 id
            have f1 := HA5.out.fr.cell g1 id
            have f2 := HA5.out.fr.cell g2 id
            obtain ⟨qa, qb, qo⟩ := q
            simp only at f0 f1 f2 g3 g4
            have hsc := fun W => sector_ok qb qo g3 g4 W
            have hss := secF_sec g3 g4
            have HWR := Lib.hid (fun W (hF : Fr (fun _ => False) wr W) k (hR : Row8 W k (secF qb qo)) => (HT.out.frF hF).write (by omega) qa (secF qb qo) hss (some ⟨k, 0, none⟩) 512 hR.has)
            have hpb : pb < w.heap.size := World.block_lt_of_cell? w _ g0
            have HPB := Lib.hid (show ¬ F5 pb from fun h => by have := HA5.out.hi pb h; omega)
            clear hq g0 g1 g2 hss hpb
            generalize secF qb qo = sc at *
            have i0 : (0 : Int) ≤ (i : Int) := by omega
            have i1 : (i : Int) < (puts.length : Int) := by omega
            go_wp2_with fail
            go_region_held3 (fun w' => w'.cell? ⟨wo.heap.size, 0, none⟩ = some (.slice (some ⟨pb, po, none⟩) puts.length pc) ∧ w'.cell? ⟨pb, po + i * 3, none⟩ = some (.int .i64 qa) ∧ w'.cell? ⟨pb, po + i * 3 + 1, none⟩ = some (.int .u8 (qb : Int)) ∧ w'.cell? ⟨pb, po + i * 3 + 2, none⟩ = some (.int .u8 (qo : Int))) (go_keep) (first
              | (go_at_call 20; (with_reducible refine (hsc _).mono ?_); rintro e w5 ⟨k5, rfl, hR5, hk5, hF5⟩; have hS5 : Fr (fun _ => False) wr w5 := (by first | exact ((Fr.refl _ wr).drew).trans hF5 | exact hF5); have k0 := hS5.cell e0 id; have k1 := hS5.cell f0 id; have k2 := hS5.cell f1 id; have k3 := hS5.cell f2 id; have hw := HWR.out w5 hS5 k5 hR5; have HS5 := Lib.hid hS5; clear hR5 hF5 hS5)
              | (go_at_call 19; (with_reducible refine hw.mono ?_); rintro e w6 ⟨rfl, F6, hT6, hM6⟩; have j0 := hM6.fr.cell k0 HK5.out.2; have j1 := hM6.fr.cell k1 HPB.out; have j2 := hM6.fr.cell k2 HPB.out; have j3 := hM6.fr.cell k3 HPB.out; have HT6 := Lib.hid hT6; have HM6 := Lib.hid hM6; clear hT6 hM6 hw))
            go_wp2
            go_roundw
            case rel => exact ⟨i + 1, F6, _, by go_num, by omega, HT6, Lib.hid ((HA5.out.frF HS5.out).mv HM6.out), Lib.hid ((HK5.out.frF HS5.out).mv HM6.out)⟩
            case measure => simp [intOf]; omega
          · obtain rfl : i = puts.length := by omega
            have hcm := HT.out.commit HDA.out.2.1 HDA.out.2.2
            have hcl := commit_len DA s1 l
            rw [HDA.out.1] at hcl
            generalize commitF DA s1 l = R at *
            obtain ⟨rc, D5, s5, dd5⟩ := R
            simp only at hcm hcl
            have HCL := Lib.hid hcl
            clear hcl
            go_wp2_with (go_at_call 21; refine hcm.mono ?_; rintro e w7 ⟨rfl, F7, hJ7, hM7⟩; have HA7 := Lib.hid (HA5.out.mv hM7); have HK7 := Lib.hid (HK5.out.mv hM7); have HJ7 := Lib.hid hJ7; obtain ⟨b0, b1, b2⟩ := HCE.out w7 HK7.out.1; clear hJ7 hM7 hcm)
            obtain ⟨F8, hD8, _, _, hs8⟩ := HJ7.out.disk
            have hA8 := HA7.out.sub hs8
            have hcr := hD8.crash keep KX kc HOP.out.kl (fun W hF i x hx => by
              obtain ⟨b', o', e', h0⟩ := HOP.out.keep i x hx
              exact ⟨b', o', e', (hA8.fr' hF).fr.cell h0 id⟩)
            have HA8 := Lib.hid hA8
            have HDC := Lib.hid (show Calm (D5.crash keep) ∧ (D5.crash keep).st.length = 64 from ⟨crash_calm _ _, by rw [crash_len, HCL.out]⟩)
            clear hD8 hs8 hA8 HJ7 HA7 HK7 HA5 HK5 HT
            generalize D5.crash keep = DC at *
            obtain ⟨s7, D7, hm7, hc7, hl7, hid7⟩ := calm_mount HDC.out.1 (by rw [HDC.out.2]; decide)
            rw [HDC.out.2] at hl7
            have HM7 := Lib.hid hm7
            have HC7 := Lib.hid hc7
            have HL7 := Lib.hid hl7
            have HID7 := Lib.hid hid7
            clear hm7 hc7 hl7 hid7
            go_wp2_with fail
            refine hcr.mono ?_
            rintro e w8 ⟨rfl, F9, hD9, hM9⟩
            have HA9 := Lib.hid (HA8.out.mv hM9)
            have hmt := hD9.mount HDC.out.1 HM7.out
            clear hD9 hM9 hcr
            go_wp2_with fail
            refine hmt.mono ?_
            rintro e w9 ⟨ga7, F10, rfl, hJ10, hM10⟩
            obtain ⟨F11, hD11, hJ11, hn11, hs11⟩ := hJ10.disk
            have HA11 := Lib.hid ((HA9.out.mv hM10).sub hs11)
            have himg := hD11.image HL7.out
            have hil := img_len hD11.ok HL7.out
            have HIL := Lib.hid hil
            have HD11 := Lib.hid hD11
            have HJ11 := Lib.hid hJ11
            have HN11 := Lib.hid hn11
            clear hJ10 hM10 hD11 hJ11 hn11 hs11 hil hmt
            go_wp2_with fail
            refine himg.mono ?_
            rintro e w10 ⟨v13, rfl, hO13, hF13⟩
            have HA12 := Lib.hid (HA11.out.frF hF13)
            have HD12 := Lib.hid (HD11.out.fr hF13 (fun _ _ => id))
            have HJ12 := Lib.hid (HJ11.out.fr hF13 id)
            have HO13 := Lib.hid hO13
            have hmt := HD12.out.mount HC7.out HID7.out
            clear hO13 hF13 himg
            go_wp2_with fail
            refine hmt.mono ?_
            rintro e w11 ⟨ga8, F12, rfl, hJ13, hM13⟩
            have HA13 := Lib.hid (HA12.out.mv hM13)
            have hJa := HJ12.out.fr hM13.fr HN11.out
            have HO14 := Lib.hid (own_fr HO13.out hM13.fr (fun k h1 _ _ hF => by have := HD11.out.lt hF; omega))
            have hq1 := jseq_ok hJa
            have hq2 := hJ13.jseq
            obtain ⟨F14, hD14, _, _, hs14⟩ := hJ13.disk
            have himg := hD14.image HL7.out
            have HD14 := Lib.hid hD14
            have HS14 := Lib.hid hs14
            have HJ13 := Lib.hid hJ13
            clear hJa hM13 hD14 hs14 hJ13 hmt
            have hIl : (imgF D7).length < 1000000000 := by rw [HIL.out]; decide
            clear HIL
            generalize imgF D7 = im at *
            go_wp2_with (first
              | (go_at_call 24; refine hq1.mono ?_; rintro e w12 ⟨rfl, rfl⟩; clear hq1)
              | (go_at_call 24; refine hq2.mono ?_; rintro e w12 ⟨rfl, rfl⟩; clear hq2)
              | (go_at_call 23; refine himg.mono ?_; rintro e w12 ⟨v14, rfl, hO15, hF15⟩; obtain ⟨X14, cp14, cc14, hv14, hb14⟩ := own_bsl (own_fr HO14.out hF15 (fun _ _ _ _ => id)); obtain ⟨X15, cp15, cc15, hv15, hb15⟩ := own_bsl hO15; have hsm := sameR_ok im im X14 X15 cp14 cp15 cc14 cc15 hIl hIl w12 hb14 hb15; rw [decide_eq_true rfl] at hsm; subst hv14; subst hv15; have HF15 := Lib.hid hF15; clear hO15 hF15 hb14 hb15 himg)
              | (go_at_call 25; refine hsm.mono ?_; rintro e w13 ⟨rfl, hF16⟩; have HF16 := Lib.hid (HF15.out.trans hF16); clear hF16 hsm))
            go_roundw
            case rel => exact ⟨j + 1, F14, D7, by go_num, by omega, Lib.hid (HD14.out.fr HF16.out (fun _ _ => id)), Lib.hid ⟨HC7.out, HL7.out⟩, Lib.hid ((HA13.out.sub HS14.out).frF HF16.out)⟩
            case measure => simp [intOf]; omega
      · obtain rfl : j = L.length := by omega
        go_wp2
        go_ret
        exact ⟨rfl, HA.out.fr⟩
  · have hb : (decide (∀ p ∈ L, p.puts.length ≤ 60) && decide (L.length ≤ 12)) = false := by
      rw [Bool.and_eq_false_iff]
      by_cases h1 : ∀ p ∈ L, p.puts.length ≤ 60
      · exact .inr (decide_eq_false fun h2 => hlt ⟨h1, h2⟩)
      · exact .inl (decide_eq_false h1)
    rw [hb] at hli
    clear hb hlt hL hpl
    go_enter Tryz.func3, Tryz.ntmps3
    go_wp2_with (first
      | (go_at_call 13; refine hli.mono ?_; rintro e u0 ⟨rfl, rfl⟩; have hal := HAl.out w; clear hli)
      | (go_at_call 14; refine hal.mono ?_; rintro e u2 ⟨rfl, hF2⟩; have HF2 := Lib.hid hF2; clear hF2 hal))
    go_ret
    exact ⟨rfl, HF2.out⟩
end Go.Proofs.YtnbonhinpepgoaaGreat
end
section
set_option linter.unusedVariables false
set_option maxRecDepth 100000
namespace Go.Proofs.YtnbonhinpepgoaaGreat
open Go.RowKit Go.ChangeShapes Go.WideShapes
theorem open_list {α : Type} [Inhabited α] {H : Type} {enc : TypeId × Value → H} {W : World} {t e : TypeId} {c fuel : Nat} {cs : List Value} {x : DataW H × List MemPlace} (ht : Tryz.prog.underlying t = some (.slice e)) (hc : Tryz.prog.cellsOf e = c) (E : Addr → α → Prop)
    (hE : ∀ (a : Addr) (cs : List Value) (n : Nat) (x : DataW H × List MemPlace), W.cells? 0 a c = some cs → DataW.trod enc Tryz.prog W 0 (fun _ => true) true n e cs = some x → ∃ q, E a q) (hS : ∀ (a : Addr) (q : α), E a q → a.spot = none)
    (h : DataW.trod enc Tryz.prog W 0 (fun _ => true) true fuel t cs = some x) :
    ∃ (A : Option Addr) (cap : Nat) (L : List α), cs = [.slice A L.length cap] ∧ L.length ≤ cap ∧ cap ≤ 9223372036854775807 ∧ ∀ j q, L[j]? = some q → ∃ b o, A = some ⟨b, o, none⟩ ∧ E ⟨b, o + j * c, none⟩ q := by
  rcases Go.Deep.open_slice ht h with ⟨rfl, _⟩ | ⟨a, len, cap, m, n, D, Pl, rfl, _, hl, hmx, hm, hx, hcells⟩
  · exact ⟨none, 0, [], rfl, Nat.le_refl _, by omega, fun j q hq => nomatch hq⟩
  · have hm' : m = cap := hm
    have each : ∀ i, i < len → ∃ q : α, E (a.add (i * c)) q := by
      intro i hi
      obtain ⟨cs', h1, h2⟩ := hcells i (by omega)
      rw [hc] at h1
      exact hE _ _ _ _ h1 h2
    obtain ⟨f, hf⟩ := Go.Deep.choose_lt each
    have hlen : ((List.range len).map f).length = len := by simp
    refine ⟨some a, cap, (List.range len).map f, by rw [hlen], by rw [hlen]; exact hl, by unfold maxLen at hmx; exact hmx, fun j q hq => ?_⟩
    have hjl : j < len := by have := (List.getElem?_eq_some_iff.1 hq).1; rwa [hlen] at this
    rw [List.getElem?_map, List.getElem?_range hjl] at hq
    injection hq with hq
    subst hq
    obtain ⟨b, off, spot⟩ := a
    have h0 := hf j hjl
    have hs := hS _ _ (hf 0 (by omega))
    have hspot : spot = none := by simpa [Addr.add] using hs
    subst hspot
    refine ⟨b, off, rfl, ?_⟩
    rw [Go.WideShapes.add_plain] at h0
    exact h0
theorem spot_of {w : World} {a : Addr} {v : Value} (h : w.cell? (a.add 0) = some v) : a.spot = none := by
  have := World.cell?_spot h
  simpa [Addr.add] using this
theorem cell_add {w : World} {b o i : Nat} {v : Value} (h : w.cell? ((⟨b, o, none⟩ : Addr).add i) = some v) : w.cell? ⟨b, o + i, none⟩ = some v := by
  rw [Go.WideShapes.add_plain] at h
  exact h
theorem open_fields {H : Type} {enc : TypeId × Value → H} {W : World} {t : TypeId} {fs : Array Field} {c n : Nat} {a : Addr} {cs : List Value} {x : DataW H × List MemPlace} (ht : Tryz.prog.underlying t = some (.struct fs)) (hc : W.cells? 0 a c = some cs) (h : DataW.trod enc Tryz.prog W 0 (fun _ => true) true n t cs = some x) :
    cs.length = c ∧ (∀ i v, cs[i]? = some v → W.cell? (a.add i) = some v) ∧ ∃ m, ∀ (i : Nat) (f : Field), fs[i]? = some f → ∃ y, DataW.trod enc Tryz.prog W 0 (fun _ => true) true m f.type ((cs.drop f.offset).take (Tryz.prog.cellsOf f.type)) = some y := by
  obtain ⟨_, hl, hg⟩ := World.cells?_some hc
  obtain ⟨xs, m, rfl, hx, _, hxl, hfs⟩ := DataW.trod_struct ht h
  refine ⟨hl, fun i v hv => ?_, m, fun i f hf => ?_⟩
  · rw [hg i (by have := (List.getElem?_eq_some_iff.1 hv).1; omega), hv]
  · have hi : i < xs.length := by rw [hxl]; exact (Array.getElem?_eq_some_iff.1 hf).1
    exact ⟨xs[i], by rw [hfs i f hf, List.getElem?_eq_getElem hi]⟩
theorem list3 {α : Type} {l : List α} (h : l.length = 3) : ∃ a b c, l = [a, b, c] := by
  match l, h with
  | [a, b, c], _ => exact ⟨a, b, c, rfl⟩
theorem list5 {α : Type} {l : List α} (h : l.length = 5) : ∃ a b c d e, l = [a, b, c, d, e] := by
  match l, h with
  | [a, b, c, d, e], _ => exact ⟨a, b, c, d, e, rfl⟩
theorem wf_u8 {m : Int} (h : (Lit.int .u8 m).wf = true) : ∃ k : Nat, m = k ∧ k < 256 := by
  simp only [Lit.wf, Bool.and_eq_true, decide_eq_true_eq] at h
  have h' : 0 ≤ m ∧ m ≤ 255 := by simpa [IntKind.min, IntKind.max, IntKind.bits, IntKind.signed] using h
  exact ⟨m.toNat, by omega, by omega⟩
theorem wf_i64 {m : Int} (h : (Lit.int .i64 m).wf = true) : -9223372036854775808 ≤ m ∧ m < 9223372036854775808 := by
  simp only [Lit.wf, Bool.and_eq_true, decide_eq_true_eq] at h
  have h' : -9223372036854775808 ≤ m ∧ m ≤ 9223372036854775807 := by simpa [IntKind.min, IntKind.max, IntKind.bits, IntKind.signed] using h
  omega
theorem one_int : Tryz.prog.cellsOf 3 = 1 := by kernel_rfl
theorem one_u8 : Tryz.prog.cellsOf 5 = 1 := by kernel_rfl
theorem open_put10 {H : Type} {enc : TypeId × Value → H} {W : World} (a : Addr) (cs : List Value) (n : Nat) (x : DataW H × List MemPlace) (hc : W.cells? 0 a 3 = some cs) (h : DataW.trod enc Tryz.prog W 0 (fun _ => true) true n 41 cs = some x) :
    ∃ q : Int × Nat × Nat, W.cell? (a.add 0) = some (.int .i64 q.1) ∧ W.cell? (a.add 1) = some (.int .u8 (q.2.1 : Int)) ∧ W.cell? (a.add 2) = some (.int .u8 (q.2.2 : Int)) ∧ q.2.1 < 256 ∧ q.2.2 < 256 := by
  obtain ⟨hl, hg, m, hf⟩ := open_fields Tryz.underlying41 hc h
  obtain ⟨u, v, z, rfl⟩ := list3 hl
  obtain ⟨y0, f0⟩ := hf 0 _ rfl
  obtain ⟨y1, f1⟩ := hf 1 _ rfl
  obtain ⟨y2, f2⟩ := hf 2 _ rfl
  rw [show (_ : Field).type = 3 from rfl, one_int] at f0
  rw [show (_ : Field).type = 5 from rfl, one_u8] at f1 f2
  obtain ⟨m0, e0, _, w0⟩ := DataW.trod_int Tryz.underlying3 (show DataW.trod enc Tryz.prog W 0 (fun _ => true) true m 3 [u] = some y0 from f0)
  obtain ⟨m1, e1, _, w1⟩ := DataW.trod_int Tryz.underlying5 (show DataW.trod enc Tryz.prog W 0 (fun _ => true) true m 5 [v] = some y1 from f1)
  obtain ⟨m2, e2, _, w2⟩ := DataW.trod_int Tryz.underlying5 (show DataW.trod enc Tryz.prog W 0 (fun _ => true) true m 5 [z] = some y2 from f2)
  obtain rfl : u = .int .i64 m0 := by simpa using e0
  obtain rfl : v = .int .u8 m1 := by simpa using e1
  obtain rfl : z = .int .u8 m2 := by simpa using e2
  obtain ⟨k1, rfl, h1⟩ := wf_u8 w1
  obtain ⟨k2, rfl, h2⟩ := wf_u8 w2
  exact ⟨(m0, k1, k2), hg 0 _ rfl, hg 1 _ rfl, hg 2 _ rfl, h1, h2⟩
theorem open_bool1 {H : Type} {enc : TypeId × Value → H} {W : World} (a : Addr) (cs : List Value) (n : Nat) (x : DataW H × List MemPlace) (hc : W.cells? 0 a 1 = some cs) (h : DataW.trod enc Tryz.prog W 0 (fun _ => true) true n 4 cs = some x) :
    ∃ q : Bool, W.cell? (a.add 0) = some (.bool q) := by
  obtain ⟨_, hl, hg⟩ := World.cells?_some hc
  obtain ⟨b, rfl, _⟩ := DataW.trod_bool Tryz.underlying4 h
  exact ⟨b, by rw [hg 0 (by decide)]; rfl⟩
theorem open_op10 {H : Type} {enc : TypeId × Value → H} {W : World} (a : Addr) (cs : List Value) (n : Nat) (x : DataW H × List MemPlace) (hc : W.cells? 0 a 5 = some cs) (h : DataW.trod enc Tryz.prog W 0 (fun _ => true) true n 32 cs = some x) :
    ∃ q : JOp × JCells, JOpAt W q.2 q.1 ∧ q.1.puts.length ≤ 9223372036854775807 ∧ ∀ i v, (q.2.row q.1)[i]? = some v → W.cell? (a.add i) = some v := by
  obtain ⟨hl, hg, m, hf⟩ := open_fields Tryz.underlying32 hc h
  obtain ⟨u, v, z, y, t, rfl⟩ := list5 hl
  obtain ⟨y0, f0⟩ := hf 0 _ rfl
  obtain ⟨y1, f1⟩ := hf 1 _ rfl
  obtain ⟨y2, f2⟩ := hf 2 _ rfl
  obtain ⟨y3, f3⟩ := hf 3 _ rfl
  obtain ⟨y4, f4⟩ := hf 4 _ rfl
  have c29 : Tryz.prog.cellsOf 29 = 1 := by kernel_rfl
  have c30 : Tryz.prog.cellsOf 30 = 1 := by kernel_rfl
  rw [show (_ : Field).type = 29 from rfl, c29] at f0
  rw [show (_ : Field).type = 3 from rfl, one_int] at f1 f3
  rw [show (_ : Field).type = 30 from rfl, c30] at f2 f4
  obtain ⟨PX, pc, puts, e0, _, hpl, hp⟩ := open_list Tryz.underlying29 (c := 3) (by kernel_rfl) (fun a (q : Int × Nat × Nat) => W.cell? (a.add 0) = some (.int .i64 q.1) ∧ W.cell? (a.add 1) = some (.int .u8 (q.2.1 : Int)) ∧ W.cell? (a.add 2) = some (.int .u8 (q.2.2 : Int)) ∧ q.2.1 < 256 ∧ q.2.2 < 256) (fun a cs n x => open_put10 a cs n x) (fun a q h => spot_of h.1) (show DataW.trod enc Tryz.prog W 0 (fun _ => true) true m 29 [u] = some y0 from f0)
  obtain ⟨m1, e1, _, w1⟩ := DataW.trod_int Tryz.underlying3 (show DataW.trod enc Tryz.prog W 0 (fun _ => true) true m 3 [v] = some y1 from f1)
  obtain ⟨KX, kc, keep, e2, hkc, hkl, hk⟩ := open_list Tryz.underlying30 (c := 1) (by kernel_rfl) (fun a (q : Bool) => W.cell? (a.add 0) = some (.bool q)) (fun a cs n x => open_bool1 a cs n x) (fun a q h => spot_of h) (show DataW.trod enc Tryz.prog W 0 (fun _ => true) true m 30 [z] = some y2 from f2)
  obtain ⟨m3, e3, _, w3⟩ := DataW.trod_int Tryz.underlying3 (show DataW.trod enc Tryz.prog W 0 (fun _ => true) true m 3 [y] = some y3 from f3)
  obtain ⟨RX, rc, rest, e4, _, _, _⟩ := open_list Tryz.underlying30 (c := 1) (by kernel_rfl) (fun a (q : Bool) => W.cell? (a.add 0) = some (.bool q)) (fun a cs n x => open_bool1 a cs n x) (fun a q h => spot_of h) (show DataW.trod enc Tryz.prog W 0 (fun _ => true) true m 30 [t] = some y4 from f4)
  obtain rfl : u = .slice PX puts.length pc := by simpa using e0
  obtain rfl : v = .int .i64 m1 := by simpa using e1
  obtain rfl : z = .slice KX keep.length kc := by simpa using e2
  obtain rfl : y = .int .i64 m3 := by simpa using e3
  obtain rfl : t = .slice RX rest.length rc := by simpa using e4
  have hw := wf_i64 w1
  refine ⟨(⟨puts, m1, keep⟩, ⟨PX, pc, KX, kc, m3, RX, rest.length, rc⟩), ⟨fun i q hq => ?_, fun i q hq => ?_, hw.1, hw.2, by show keep.length ≤ _; omega⟩, by show puts.length ≤ _; omega, fun i v hv => hg i v hv⟩
  · obtain ⟨b, o, e, h0, h1, h2, h3, h4⟩ := hp i q hq
    exact ⟨b, o, e, by have := cell_add h0; rwa [Nat.add_zero] at this, cell_add h1, cell_add h2, h3, h4⟩
  · obtain ⟨b, o, e, h0⟩ := hk i q hq
    exact ⟨b, o, e, by have := cell_add h0; rwa [Nat.add_zero, Nat.mul_one] at this⟩
theorem open_scr10 {H : Type} {enc : TypeId × Value → H} {W : World} {v : Value} {d : DataW H} {p : List MemPlace} (hval : Value.okWide Tryz.prog W .any 0 22 v) (h : DataW.Trod enc Tryz.prog W 0 (fun _ => true) true 22 v d p) :
    ∃ (L : List JOp) (A : Option Addr) (c : Nat), v = .slice A L.length c ∧ JScr W A L ∧ L.length ≤ 9223372036854775807 ∧ ∀ p ∈ L, p.puts.length ≤ 9223372036854775807 := by
  obtain ⟨A0, l0, c0, rfl⟩ : ∃ A l c, v = .slice A l c := okWide_slice Tryz.underlying22 hval
  obtain ⟨fuel, hf⟩ := h
  haveI : Inhabited (JOp × JCells) := ⟨(⟨[], 0, []⟩, ⟨none, 0, none, 0, 0, none, 0, 0⟩)⟩
  obtain ⟨A, cap, L, e, hlc, hl, hL⟩ := open_list Tryz.underlying22 (c := 5) (by kernel_rfl) (fun a (q : JOp × JCells) => JOpAt W q.2 q.1 ∧ q.1.puts.length ≤ 9223372036854775807 ∧ ∀ i v, (q.2.row q.1)[i]? = some v → W.cell? (a.add i) = some v) (fun a cs n x => open_op10 a cs n x) (fun a q h => spot_of (h.2.2 0 _ rfl)) hf
  have e' : (Value.slice A0 l0 c0) = .slice A L.length cap := by simpa [Value.cells] using e
  obtain ⟨q1, q2, q3⟩ := Value.slice.inj e'
  subst q1; subst q2; subst q3
  have hlen : (L.map (·.1)).length = L.length := List.length_map ..
  refine ⟨L.map (·.1), A0, c0, by rw [hlen], fun j p hj => ?_, by rw [hlen]; omega, fun p hp => ?_⟩
  · rw [List.getElem?_map] at hj
    obtain ⟨q, hq, rfl⟩ := Option.map_eq_some_iff.1 hj
    obtain ⟨b, o, e, h1, h2, h3⟩ := hL j q hq
    exact ⟨b, o, q.2, e, h1, fun i v hv => cell_add (h3 i v hv)⟩
  · obtain ⟨q, hq, rfl⟩ := List.mem_map.1 hp
    obtain ⟨j, hj⟩ := List.getElem?_of_mem hq
    obtain ⟨b, o, e, h1, h2, h3⟩ := hL j q hj
    show q.1.puts.length ≤ _
    omega
end Go.Proofs.YtnbonhinpepgoaaGreat
end
