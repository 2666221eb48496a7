/- The walk of the reference's Canon. -/
import Derived.Test.YtdfkinkihkgdbaaCanB
import Derived.Test.YtdfkinkihkgdbaaUriS
import Derived.Deep.DeepCutAuto
import Derived.Deep.CutBlock
set_option linter.unusedVariables false
namespace Go.Proofs.Ytdfkinkihkgdbaa
open Go.RowKit

theorem rpairInfo : (Try.prog.info? 56).map (fun i => (i.zero, i.size, i.bytes)) = some (some (.agg #[.string ByteArray.empty, .string ByteArray.empty]), 2, 32) := by kernel_rfl

theorem insAll_take (ps : List Uri.Pr) (k : Nat) (h : k < ps.length) : Uri.insAll ((ps.take (k + 1)).map Uri.enc2) = Uri.ins (Uri.enc2 (ps.getD k ([], []))) (Uri.insAll ((ps.take k).map Uri.enc2)) := by
  rw [take_pcs ps Uri.enc2 k h, Uri.insAll_snoc]

/-- A row of pairs of the call's own, in a world that the call came to. -/
def OkR (w : World) (v : Value) (n : Nat) (ps : List Uri.Pr) (W : World) : Prop := W.ownsRow w.heap.size 56 2 v n (pcs ps) ∧ Fr (fun k => w.heap.size ≤ k) w W

theorem OkR.below {w W W' : World} {v : Value} {n : Nat} {ps : List Uri.Pr} (h : OkR w v n ps W) (hb : Below W.heap.size W W') : OkR w v n ps W' :=
  ⟨own_fr h.1 (Fr.of_below0 hb) (fun _ _ _ _ h => h), h.2.then_ (Fr.of_below0 hb) (fun _ _ h => h.elim)⟩
theorem OkR.alloc {w W : World} {v : Value} {n : Nat} {ps : List Uri.Pr} (h : OkR w v n ps W) (o : Obj) : OkR w v n ps (W.alloc o) := ⟨h.1.alloc o, h.2.alloc o⟩
theorem OkR.set {w W : World} {v : Value} {n : Nat} {ps : List Uri.Pr} (h : OkR w v n ps W) (b j : Nat) (u : Value) (hb : w.heap.size ≤ b) (hn : v.ownBlock ≠ some b) : OkR w v n ps (W.setCell ⟨b, j, none⟩ u) :=
  ⟨own_fr h.1 ((Fr.refl (fun q => q = b) W).setCell _ _ fun _ => rfl) (fun q _ _ he hq => hn (by rw [he, hq])), h.2.setCell _ _ fun _ => hb⟩
theorem OkR.drew {w W : World} {v : Value} {n : Nat} {ps : List Uri.Pr} (h : OkR w v n ps W) : OkR w v n ps W.drew := ⟨h.1, h.2.drew⟩
theorem box_new {W W' : World} {o : Obj} (h : Below (W.alloc o).heap.size (W.alloc o) W') : W'.heap[W.heap.size]? = some o := (h.block W.heap.size (by simp)).trans (heap_alloc_new W o)
theorem box_newd {W W' : World} {o : Obj} (h : Below (W.alloc o).drew.heap.size (W.alloc o).drew W') : W'.heap[W.heap.size]? = some o := (h.block W.heap.size (by simp)).trans (heap_alloc_new W o)
theorem OkR.new {w W : World} {v : Value} {n : Nat} {ps : List Uri.Pr} (h : OkR w v n ps W) : w.heap.size ≤ W.heap.size ∧ v.ownBlock ≠ some W.heap.size :=
  ⟨h.2.size, fun he => Nat.lt_irrefl _ (h.1.lt _ he).2⟩

theorem pcs_take : ∀ (ps : List Uri.Pr) (q : Nat), pcs (ps.take q) = (pcs ps).take (q * 2) ∧ pcs (ps.drop q) = (pcs ps).drop (q * 2)
  | ps, 0 => by simp [pcs]
  | [], q + 1 => by simp [pcs]
  | p :: t, q + 1 => by
    have ih := pcs_take t q
    have e : pcs (p :: t) = str p.1 :: str p.2 :: pcs t := rfl
    rw [e, show (q + 1) * 2 = q * 2 + 1 + 1 by omega]
    simp only [List.take_succ_cons, List.drop_succ_cons]
    exact ⟨by rw [← ih.1]; rfl, ih.2⟩

set_option maxRecDepth 100000 in
set_option maxHeartbeats 4000000 in
theorem ref_Canon (ps : List Uri.Pr) (A : Option Addr) (c : Nat) (w : World) (hr : PRow w A ps) (hl : ps.length ≤ 1000) (hs : ∀ k, k < ps.length → (ps.getD k ([], [])).1.length + (ps.getD k ([], [])).2.length ≤ 100000) :
    Calls Try.prog 33 #[.slice A ps.length c] w fun e w' => e = .returned (str (Uri.canon ps)) ∧ Below w.heap.size w w' := by
  have hT : ∀ k, k < ps.length → Hid (Uri.insAll ((ps.take (k + 1)).map Uri.enc2) = Uri.ins (Uri.enc2 (ps.getD k ([], []))) (Uri.insAll ((ps.take k).map Uri.enc2))) := fun k h => insAll_take ps k h
  have hL : ∀ k, k ≤ ps.length → Hid ((Uri.insAll ((ps.take k).map Uri.enc2)).length = k) := fun k h => by show _ = _; rw [Uri.insAll_length]; simp; omega
  have hE : Hid (Uri.insAll ((ps.take ps.length).map Uri.enc2) = Uri.sorted (ps.map Uri.enc2)) := by show _ = _; rw [List.take_length, Uri.insAll_eq]
  have hown : w.ownsRow w.heap.size 56 2 (.slice none 0 0) 0 (pcs (Uri.insAll ((ps.take 0).map Uri.enc2))) := World.ownsRow_nil _ _ _ _
  have hcan : Hid (Uri.canon ps = Uri.jn [38] ((Uri.sorted (ps.map Uri.enc2)).map Uri.piece)) := rfl
  have hlm : (ps.map Uri.enc2).length = ps.length := by simp
  have hsl := Uri.sorted_length (ps.map Uri.enc2)
  have hmem : ∀ k, k < ps.length → ((Uri.sorted (ps.map Uri.enc2)).getD k ([], [])).1.length + ((Uri.sorted (ps.map Uri.enc2)).getD k ([], [])).2.length ≤ 300000 := fun k hk => by
    have hk2 : k < (Uri.sorted (ps.map Uri.enc2)).length := by omega
    have hm : (Uri.sorted (ps.map Uri.enc2))[k] ∈ ps.map Uri.enc2 := (Uri.sorted_perm _).mem_iff.1 (List.getElem_mem hk2)
    obtain ⟨p, hp, he⟩ := List.mem_map.1 hm
    obtain ⟨i, hi, rfl⟩ := List.getElem_of_mem hp
    have h2 := enc2_len ps[i] (by have := hs i hi; simpa [List.getD_eq_getElem?_getD, List.getElem?_eq_getElem hi] using this)
    rw [he] at h2
    simpa [List.getD_eq_getElem?_getD, List.getElem?_eq_getElem hk2] using h2
  rw [hlm] at hsl
  clear hlm
  obtain ⟨n, hn⟩ : ∃ n, n = ps.length := ⟨_, rfl⟩
  unfold PRow at hr
  rw [← hn] at hr hl hT hE hs hL hsl hmem ⊢
  clear hn
  go_enter Try.func33, Try.ntmps33
  go_wp2
  go_loopw [3, 4] (fun v i wr => ∃ k : Nat, k ≤ n ∧ i = .int .i64 k ∧ wr.ownsRow w.heap.size 56 2 v k (pcs (Uri.insAll ((ps.take k).map Uri.enc2))) ∧ Fr (fun k => w.heap.size ≤ k) w wr) (fun _ i _ => n - (intOf i).toNat)
  case atStart => exact ⟨0, Nat.zero_le _, rfl, hown, Fr.refl _ _⟩
  case round =>
    obtain ⟨k, hk, rfl, hrow, hfr⟩ := hrel
    clear hown
    by_cases hlt : k < n
    · obtain ⟨g, o, rfl, hg, hc⟩ := hr (by omega)
      have hTk := hT k hlt
      have hLk := hL k hk
      have hsk := hs k hlt
      obtain ⟨c1, c2⟩ := hc k hlt
      have d1 := hfr.cell c1 (by show ¬ w.heap.size ≤ g; omega)
      have d2 := hfr.cell c2 (by show ¬ w.heap.size ≤ g; omega)
      clear hc hr hT hE c1 c2 hs hcan hsl hL hmem
      generalize ps.getD k ([], []) = p at *
      generalize Uri.insAll ((ps.take k).map Uri.enc2) = acc at *
      obtain ⟨x, y⟩ := p
      simp only at hsk d1 d2
      have hex := enc_le false x
      have hey := enc_le false y
      have hX : Hid (Uri.enc2 (x, y) = (Uri.enc false x, Uri.enc false y)) := rfl
      rw [hX.out] at hTk
      clear hX
      have hc1 := ref_Encode x false
      have hc2 := ref_Encode y false
      generalize Uri.enc false x = ex at *
      generalize Uri.enc false y = ey at *
      have h1c := encP_cell (ex, ey)
      have hok : OkR w u3 k acc wr := ⟨hrow, hfr⟩
      clear hrow hfr
      go_upto_region 5 with fail
      go_cut [5] from 15 to 27 (fun v5 wc => ∃ b, v5 = .pointer (some ⟨b, 0, none⟩) ∧ w.heap.size ≤ b ∧ u3.ownBlock ≠ some b ∧ wc.heap[b]? = some (.cells #[str ex, str ey] 56 (0, 0)) ∧ wc.ownsRow w.heap.size 56 2 u3 k (pcs acc) ∧ Fr (fun k => w.heap.size ≤ k) w wc)
      case first =>
        have kA : ∀ (W : World) (ob : Obj), (W.cell? ⟨g, o + k * 2, none⟩ = some (str x) ∧ W.cell? ⟨g, o + k * 2 + 1, none⟩ = some (str y) ∧ OkR w u3 k acc W) → ((W.alloc ob).cell? ⟨g, o + k * 2, none⟩ = some (str x) ∧ (W.alloc ob).cell? ⟨g, o + k * 2 + 1, none⟩ = some (str y) ∧ OkR w u3 k acc (W.alloc ob)) := fun W ob h =>
          ⟨((Fr.refl (fun _ => False) W).alloc ob).cell h.1 (fun h => h), ((Fr.refl (fun _ => False) W).alloc ob).cell h.2.1 (fun h => h), h.2.2.alloc ob⟩
        have kS : ∀ (W : World) (b j : Nat) (u : Value), (W.cell? ⟨g, o + k * 2, none⟩ = some (str x) ∧ W.cell? ⟨g, o + k * 2 + 1, none⟩ = some (str y) ∧ OkR w u3 k acc W) → w.heap.size ≤ b → u3.ownBlock ≠ some b → ((W.setCell ⟨b, j, none⟩ u).cell? ⟨g, o + k * 2, none⟩ = some (str x) ∧ (W.setCell ⟨b, j, none⟩ u).cell? ⟨g, o + k * 2 + 1, none⟩ = some (str y) ∧ OkR w u3 k acc (W.setCell ⟨b, j, none⟩ u)) := fun W b j u h hb hn =>
          ⟨((Fr.refl (fun q => q = b) W).setCell _ _ fun _ => rfl).cell h.1 (by show ¬ g = b; omega), ((Fr.refl (fun q => q = b) W).setCell _ _ fun _ => rfl).cell h.2.1 (by show ¬ g = b; omega), h.2.2.set b j u hb hn⟩
        have kB : ∀ (W W' : World), (W.cell? ⟨g, o + k * 2, none⟩ = some (str x) ∧ W.cell? ⟨g, o + k * 2 + 1, none⟩ = some (str y) ∧ OkR w u3 k acc W) → Below W.heap.size W W' → (W'.cell? ⟨g, o + k * 2, none⟩ = some (str x) ∧ W'.cell? ⟨g, o + k * 2 + 1, none⟩ = some (str y) ∧ OkR w u3 k acc W') := fun W W' h hb =>
          ⟨(Fr.of_below0 hb).cell h.1 (fun h => h), (Fr.of_below0 hb).cell h.2.1 (fun h => h), h.2.2.below hb⟩
        have hS1 : wr.cell? ⟨g, o + k * 2, none⟩ = some (str x) ∧ wr.cell? ⟨g, o + k * 2 + 1, none⟩ = some (str y) ∧ OkR w u3 k acc wr := ⟨d1, d2, hok⟩
        have n1 := hok.new
        have kD : ∀ (W : World), (W.cell? ⟨g, o + k * 2, none⟩ = some (str x) ∧ W.cell? ⟨g, o + k * 2 + 1, none⟩ = some (str y) ∧ OkR w u3 k acc W) → (W.drew.cell? ⟨g, o + k * 2, none⟩ = some (str x) ∧ W.drew.cell? ⟨g, o + k * 2 + 1, none⟩ = some (str y) ∧ OkR w u3 k acc W.drew) := fun W h => ⟨h.1, h.2.1, h.2.2.drew⟩
        go_region_held3 (fun w' => w'.cell? ⟨g, o + k * 2, none⟩ = some (str x) ∧ w'.cell? ⟨g, o + k * 2 + 1, none⟩ = some (str y) ∧ OkR w u3 k acc w')
          (first | assumption | exact kD _ (by assumption) | exact kA _ _ (by assumption) | exact kD _ (kA _ _ (by assumption)) | exact kS _ _ _ _ (kS _ _ _ _ (by assumption) n1.1 n1.2) n1.1 n1.2 | exact kS _ _ _ _ (kS _ _ _ _ (by assumption) n2.1 n2.2) n2.1 n2.2 | exact kS _ _ _ _ (kS _ _ _ _ (by assumption) n3.1 n3.2) n3.1 n3.2)
          (first
            | (go_at_call_of 13 (str x); refine (hc1 _ (by omega)).mono ?_; rintro e w2 ⟨rfl, hb2⟩; have hS2 := kB _ _ (by assumption) hb2; have n2 := hS2.2.2.new; (first | (have y2 := box_new hb2) | (have y2 := box_newd hb2) | skip); (first | (have y3 := Lib.cell_of_heap y2 0; have y4 := Lib.cell_of_heap y2 1; have y5 := Lib.frozen_of_heap y2 0; have y6 := Lib.frozen_of_heap y2 1) | skip))
            | (go_at_call_of 13 (str y); refine (hc2 _ (by omega)).mono ?_; rintro e w3 ⟨rfl, hb3⟩; have hS3 := kB _ _ (by assumption) hb3; have n3 := hS3.2.2.new; (first | (have t2 := (Fr.of_below0 hb3).heap y2 (fun h => h)) | (have t2 := box_new hb3) | (have t2 := box_newd hb3) | skip); (first | (have t3 := Lib.cell_of_heap t2 0; have t4 := Lib.cell_of_heap t2 1; have t5 := Lib.frozen_of_heap t2 0; have t6 := Lib.frozen_of_heap t2 1) | skip)))
        all_goals
          go_wp2
          go_meet
          case rel => first
            | exact ⟨_, rfl, n3.1, n3.2, heap_alloc_new w3 _, (hS3.2.2.alloc _).1, (hS3.2.2.alloc _).2⟩
            | exact ⟨_, rfl, n2.1, n2.2, heap_setCell (heap_setCell t2 _) _, ((hS3.2.2.set _ 0 _ n2.1 n2.2).set _ 1 _ n2.1 n2.2).1, ((hS3.2.2.set _ 0 _ n2.1 n2.2).set _ 1 _ n2.1 n2.2).2⟩
            | exact ⟨_, rfl, n1.1, n1.2, heap_setCell (heap_setCell t2 _) _, ((hS3.2.2.set _ 0 _ n1.1 n1.2).set _ 1 _ n1.1 n1.2).1, ((hS3.2.2.set _ 0 _ n1.1 n1.2).set _ 1 _ n1.1 n1.2).2⟩
      case rest =>
        obtain ⟨b, rfl, hb, hnb, hbox, hrow, hfr⟩ := hcut
        clear hc1 hc2 d1 d2 hok
        obtain ⟨A3, cap3, rfl⟩ : ∃ A3 cap3, u3 = .slice A3 k cap3 := by
          rcases hrow.2 with ⟨rfl, h0⟩ | ⟨gq, cap, cur, rfl, _⟩
          · exact ⟨none, 0, by rw [h0]⟩
          · exact ⟨_, _, rfl⟩
        have hpl := Uri.pos_le (ex, ey) acc k
        have hpk : Hid (Uri.ins (ex, ey) acc = acc.take (Uri.pos (ex, ey) acc k) ++ (ex, ey) :: acc.drop (Uri.pos (ex, ey) acc k)) := by show Uri.ins (ex, ey) acc = _; unfold Uri.ins; rw [hLk.out]
        have hstep : ∀ m, m < k → Hid (Uri.pos (ex, ey) acc (m + 1) = if Uri.gtP (acc.getD m ([], [])) (ex, ey) then Uri.pos (ex, ey) acc m else m + 1) := fun m _ => rfl
        have hp0 : Hid (Uri.pos (ex, ey) acc 0 = 0) := rfl
        generalize hpp : Uri.pos (ex, ey) acc = P at *
        clear hpp
        go_upto_block 2 with fail
        go_cut [6] from 30 to 66 (fun v6 wq => v6 = .int .i64 (P k : Int) ∧ ∃ d, wq = wc.drewN d)
        case first =>
          go_wp2_with fail
          go_loopw [6] (fun v6 wq => ∃ m : Nat, m ≤ k ∧ v6 = .int .i64 m ∧ P m = P k ∧ ∃ d, wq = wc.drewN d) (fun v6 _ => (intOf v6).toNat)
          case atStart => exact ⟨k, Nat.le_refl _, rfl, rfl, 0, rfl⟩
          case round =>
            obtain ⟨m, hm, rfl, hPm, d, rfl⟩ := hrel
            rcases m with _ | m
            · go_upto_region 7 with fail
              go_quiet (fail)
              go_wp2_with fail
              go_meet
              case rel => exact ⟨by first | (rw [← hPm, hp0.out]; done) | (rw [← hPm, hp0.out]; rfl), d + nq, by first | rfl | exact World.drewN_drewN _ _ _⟩
            · rcases hrow.2 with ⟨_, h0⟩ | ⟨gq, cap, cur, he3, hgq, hhq, hcapq, _⟩
              · omega
              · simp only [Value.slice.injEq] at he3
                obtain ⟨rfl, _, rfl⟩ := he3
                have c1 := hrow.cells (g := gq) rfl (m * 2) _ (pcs_get acc m (by rw [hLk.out]; omega)).1
                have c2 := hrow.cells (g := gq) rfl (m * 2 + 1) _ (pcs_get acc m (by rw [hLk.out]; omega)).2
                rw [addr_add0] at c1 c2
                have e0 : wc.cell? ⟨b, 0, none⟩ = some (str ex) := by rw [Lib.cell_of_heap hbox]; rfl
                have e1 : wc.cell? ⟨b, 1, none⟩ = some (str ey) := by rw [Lib.cell_of_heap hbox]; rfl
                have hst := hstep m (by omega)
                clear hstep
                generalize acc.getD m ([], []) = pm at *
                obtain ⟨u, v⟩ := pm
                simp only at c1 c2
                have z1 : IntKind.i64.wrap ((m : Int) + 1 - 1) = (m : Int) := by rw [show (m : Int) + 1 - 1 = m by omega]; exact IntWalk.i64_in _ (by omega)
                obtain ⟨b1, hb1⟩ : ∃ b1, Op.bytesLess u ex = b1 := ⟨_, rfl⟩
                obtain ⟨b2, hb2⟩ : ∃ b2, (u == ex) = b2 := ⟨_, rfl⟩
                obtain ⟨b3, hb3⟩ : ∃ b3, Op.bytesLess v ey = b3 := ⟨_, rfl⟩
                obtain ⟨b4, hb4⟩ : ∃ b4, (v == ey) = b4 := ⟨_, rfl⟩
                have hgt : Hid (Uri.gtP (u, v) (ex, ey) = (!(b1 || b2) || (b2 && !(b3 || b4)))) := by
                  show Uri.gtP (u, v) (ex, ey) = _
                  unfold Uri.gtP Uri.gtB Uri.lt
                  simp only [hb1, hb2, hb3, hb4]
                cases b2
                · cases b1
                  all_goals
                    go_upto_region 7 with fail
                    go_quiet (fail)
                    go_wp2_with fail
                    first
                      | (go_meet
                         case rel => exact ⟨by rw [← hPm, hst.out, hgt.out]; rfl, d + nq, by first | rfl | exact World.drewN_drewN _ _ _⟩)
                      | (go_roundw
                         case rel => exact ⟨m, by omega, by go_num, by rw [← hPm, hst.out, hgt.out]; rfl, d + nq, by first | rfl | exact World.drewN_drewN _ _ _⟩
                         case measure => simp [intOf])
                · cases b1 <;> cases b3 <;> cases b4
                  all_goals
                    go_upto_region 7 with fail
                    go_quiet (fail)
                    go_wp2_with fail
                    first
                      | (go_meet
                         case rel => exact ⟨by rw [← hPm, hst.out, hgt.out]; rfl, d + nq, by first | rfl | exact World.drewN_drewN _ _ _⟩)
                      | (go_roundw
                         case rel => exact ⟨m, by omega, by go_num, by rw [← hPm, hst.out, hgt.out]; rfl, d + nq, by first | rfl | exact World.drewN_drewN _ _ _⟩
                         case measure => simp [intOf])
        case rest =>
          obtain ⟨rfl, d, rfl⟩ := hcut
          have e0 : (wc.drewN d).cell? ⟨b, 0, none⟩ = some (str ex) := by show wc.cell? _ = _; rw [Lib.cell_of_heap hbox]; rfl
          have e1 : (wc.drewN d).cell? ⟨b, 1, none⟩ = some (str ey) := by show wc.cell? _ = _; rw [Lib.cell_of_heap hbox]; rfl
          have hokV : OkR w (.slice A3 k cap3) k acc (wc.drewN d) := ⟨hrow, hfr.drewN d⟩
          have hbV : b < (wc.drewN d).heap.size := block_lt hbox
          have hkc : k ≤ cap3 := by
            rcases hrow.2 with ⟨he, h0⟩ | ⟨gq, cap, cur, he, _, _, hcap, _⟩
            · omega
            · simp only [Value.slice.injEq] at he; omega
          generalize wc.drewN d = V at *
          clear hstep hp0 hrow hfr hbox
          generalize P k = q at *
          obtain ⟨i0, hi0, hiz, his, hib⟩ := info_parts rpairInfo
          have s1 := fun W => slice_to Try.underlying54 hi0 A3 k cap3 q hpl hkc W
          have s2 := fun W => slice_from Try.underlying54 hi0 A3 k cap3 q hpl W
          have hlen : (pcs acc).length = k * 2 := by rw [pcs_length, hLk.out]
          have hX1 : 0 < q → ∃ ad, A3 = some ad ∧ ad.block < V.heap.size ∧ ∀ j u, ((pcs acc).take (q * 2))[j]? = some u → V.cell? (ad.add j) = some u := fun h0 => by
            rcases hokV.1.2 with ⟨he, h1⟩ | ⟨gq, cap, cur, he, _, hh, _⟩
            · omega
            · simp only [Value.slice.injEq] at he
              obtain ⟨rfl, _, rfl⟩ := he
              exact ⟨_, rfl, block_lt hh, fun j u hj => hokV.1.cells (g := gq) rfl j u (by rw [List.getElem?_take] at hj; split at hj <;> simp_all)⟩
          have hX2 : 0 < k - q → ∃ ad, (if cap3 = q then A3 else A3.map (·.add (q * i0.size))) = some ad ∧ ad.block < V.heap.size ∧ ∀ j u, ((pcs acc).drop (q * 2))[j]? = some u → V.cell? (ad.add j) = some u := fun h0 => by
            rcases hokV.1.2 with ⟨he, h1⟩ | ⟨gq, cap, cur, he, _, hh, _⟩
            · omega
            · simp only [Value.slice.injEq] at he
              obtain ⟨rfl, _, rfl⟩ := he
              rw [if_neg (by omega), his]
              refine ⟨⟨gq, q * 2, none⟩, by rw [Option.map_some, addr_add0], block_lt hh, fun j u hj => ?_⟩
              rw [List.getElem?_drop] at hj
              have := hokV.1.cells (g := gq) rfl (q * 2 + j) u hj
              rw [addr_add0] at this
              rw [Addr.add_lit]
              exact this
          generalize (if cap3 = q then A3 else A3.map (·.add (q * i0.size))) = X2 at *
          have hVw := hokV.2.size
          have hins : Hid (pcs (Uri.ins (ex, ey) acc) = [] ++ (pcs acc).take (q * 2) ++ [str ex, str ey] ++ (pcs acc).drop (q * 2)) := by
            show _ = _
            rw [hpk.out, pcs_append, show (ex, ey) :: acc.drop q = [(ex, ey)] ++ acc.drop q from rfl, pcs_append, (pcs_take acc q).1, (pcs_take acc q).2]
            simp [pcs, encP]
          have hZ : Fr (fun j => V.heap.size ≤ j) V V := Fr.refl _ _
          have h1t : ∀ u ∈ (pcs acc).take (q * 2), u.oneCell' = true := fun u hu => pcs_cell acc u (List.mem_of_mem_take hu)
          have h1d : ∀ u ∈ (pcs acc).drop (q * 2), u.oneCell' = true := fun u hu => pcs_cell acc u (List.mem_of_mem_drop hu)
          have hlt1 : ((pcs acc).take (q * 2)).length = q * 2 := by rw [List.length_take, hlen]; omega
          have hlt2 : ((pcs acc).drop (q * 2)).length = (k - q) * 2 := by rw [List.length_drop, hlen]; omega
          have kA : ∀ (W : World) (ob : Obj), (W.cell? ⟨b, 0, none⟩ = some (str ex) ∧ W.cell? ⟨b, 1, none⟩ = some (str ey) ∧ Fr (fun j => V.heap.size ≤ j) V W) → ((W.alloc ob).cell? ⟨b, 0, none⟩ = some (str ex) ∧ (W.alloc ob).cell? ⟨b, 1, none⟩ = some (str ey) ∧ Fr (fun j => V.heap.size ≤ j) V (W.alloc ob)) := fun W ob h =>
            ⟨((Fr.refl (fun _ => False) W).alloc ob).cell h.1 (fun h => h), ((Fr.refl (fun _ => False) W).alloc ob).cell h.2.1 (fun h => h), h.2.2.alloc ob⟩
          have kD : ∀ (W : World), (W.cell? ⟨b, 0, none⟩ = some (str ex) ∧ W.cell? ⟨b, 1, none⟩ = some (str ey) ∧ Fr (fun j => V.heap.size ≤ j) V W) → (W.drew.cell? ⟨b, 0, none⟩ = some (str ex) ∧ W.drew.cell? ⟨b, 1, none⟩ = some (str ey) ∧ Fr (fun j => V.heap.size ≤ j) V W.drew) := fun W h => ⟨h.1, h.2.1, h.2.2.drew⟩
          have kF : ∀ (W : World), Fr (fun j => V.heap.size ≤ j) V W → (W.cell? ⟨b, 0, none⟩ = some (str ex) ∧ W.cell? ⟨b, 1, none⟩ = some (str ey) ∧ Fr (fun j => V.heap.size ≤ j) V W) := fun W h => ⟨h.cell e0 (by show ¬ V.heap.size ≤ b; omega), h.cell e1 (by show ¬ V.heap.size ≤ b; omega), h⟩
          have hS0 := kF V hZ
          have h1p := encP_cell (ex, ey)
          have kC1 : ∀ W, Fr (fun j => V.heap.size ≤ j) V W → 0 < q → ∃ ad, A3 = some ad ∧ ∀ j u, ((pcs acc).take (q * 2))[j]? = some u → W.cell? (ad.add j) = some u := fun W hF h0 => by
            obtain ⟨ad, e, hb4, hc⟩ := hX1 h0
            exact ⟨ad, e, fun j u hj => hF.cell (hc j u hj) (by rw [show (ad.add j).block = ad.block by unfold Addr.add; split <;> rfl]; show ¬ V.heap.size ≤ ad.block; omega)⟩
          have kC2 : ∀ W, Fr (fun j => V.heap.size ≤ j) V W → 0 < k - q → ∃ ad, X2 = some ad ∧ ∀ j u, ((pcs acc).drop (q * 2))[j]? = some u → W.cell? (ad.add j) = some u := fun W hF h0 => by
            obtain ⟨ad, e, hb4, hc⟩ := hX2 h0
            exact ⟨ad, e, fun j u hj => hF.cell (hc j u hj) (by rw [show (ad.add j).block = ad.block by unfold Addr.add; split <;> rfl]; show ¬ V.heap.size ≤ ad.block; omega)⟩
          have f1 : Fr (fun j => V.heap.size ≤ j) V (V.alloc (.cells #[] 56)).drew := (hZ.alloc _).drew
          have o1 : (V.alloc (.cells #[] 56)).drew.ownsRow V.heap.size 56 2 (.slice (some ⟨V.heap.size, 0, none⟩) 0 0) 0 [] := own_empty (heap_alloc_new V _) (Nat.le_refl _)
          have b1 : V.heap.size ≤ (V.alloc (.cells #[] 56)).drew.heap.size := f1.size
          have c1 := kC1 _ f1
          have f2 : Fr (fun j => V.heap.size ≤ j) V ((V.alloc (.cells #[] 56)).alloc (.cells #[str ex, str ey] 56)).drew := ((hZ.alloc _).alloc _).drew
          have o2 : ((V.alloc (.cells #[] 56)).alloc (.cells #[str ex, str ey] 56)).drew.ownsRow V.heap.size 56 2 (.slice (some ⟨V.heap.size, 0, none⟩) 0 0) 0 [] := o1.alloc _
          have b2 : V.heap.size ≤ ((V.alloc (.cells #[] 56)).alloc (.cells #[str ex, str ey] 56)).drew.heap.size := f2.size
          have c2 := kC1 _ f2
          have n2 : ∀ j u, [str ex, str ey][j]? = some u → ((V.alloc (.cells #[] 56)).alloc (.cells #[str ex, str ey] 56)).drew.cell? ((⟨V.heap.size + 1, 0, none⟩ : Addr).add j) = some u := fun j u hj => by
            have h := news_alloc (V.alloc (.cells #[] 56)) [str ex, str ey] 56 j u hj
            rw [show (V.alloc (.cells #[] 56)).heap.size = V.heap.size + 1 by simp] at h
            exact h
          have f3 : Fr (fun j => V.heap.size ≤ j) V ((V.alloc (.cells #[str ex, str ey] 56)).alloc (.cells #[] 56)).drew := ((hZ.alloc _).alloc _).drew
          have o3 : ((V.alloc (.cells #[str ex, str ey] 56)).alloc (.cells #[] 56)).drew.ownsRow V.heap.size 56 2 (.slice (some ⟨V.heap.size + 1, 0, none⟩) 0 0) 0 [] := own_empty (by
            have h := heap_alloc_new (V.alloc (.cells #[str ex, str ey] 56)) (.cells #[] 56)
            rw [show (V.alloc (.cells #[str ex, str ey] 56)).heap.size = V.heap.size + 1 by simp] at h
            exact h) (by omega)
          have b3 : V.heap.size ≤ ((V.alloc (.cells #[str ex, str ey] 56)).alloc (.cells #[] 56)).drew.heap.size := f3.size
          have c3 := kC1 _ f3
          have n3 : ∀ j u, [str ex, str ey][j]? = some u → ((V.alloc (.cells #[str ex, str ey] 56)).alloc (.cells #[] 56)).drew.cell? ((⟨V.heap.size, 0, none⟩ : Addr).add j) = some u := fun j u hj =>
            ((Fr.refl (fun _ => False) _).alloc _).cell (news_alloc V [str ex, str ey] 56 j u hj) (fun h => h)
          go_upto_region 9 with fail
          go_region_held3 (fun w' => w'.cell? ⟨b, 0, none⟩ = some (str ex) ∧ w'.cell? ⟨b, 1, none⟩ = some (str ey) ∧ Fr (fun j => V.heap.size ≤ j) V w')
            (first | assumption | exact kD _ (by assumption) | exact kA _ _ (by assumption) | exact kD _ (kA _ _ (by assumption)))
            (first
              | (refine step_app3 hrow6 (k - q) ((pcs acc).drop (q * 2)) Try.underlying54 rpairInfo rfl (by decide) hlt2 h1d (by omega) (by omega) (by have := hS6.2.2.size; omega) (by rfl) (by rfl) (by rfl) (by rfl) (kC2 _ hS6.2.2) ?_; intro v3 w7 hrow7 hfr7; have hS7 := kF _ (Fr.own hS6.2.2 hrow6 hfr7 (fun _ h => h)))
              | (refine step_app3 hrow5 1 [str ex, str ey] Try.underlying54 rpairInfo rfl (by decide) rfl h1p (by omega) (by omega) (by have := hS5.2.2.size; omega) (by rfl) (by rfl) (by rfl) (by rfl) (fun _ => ⟨_, rfl, hn5⟩) ?_; intro v2 w6 hrow6 hfr6; have hS6 := kF _ (Fr.own hS5.2.2 hrow5 hfr6 (fun _ h => h)))
              | (refine step_app3 (hrow5.alloc (.cells #[str ex, str ey] 56)) 1 [str ex, str ey] Try.underlying54 rpairInfo rfl (by decide) rfl h1p (by omega) (by omega) (by have := hS5.2.2.size; simp; omega) (by rfl) (by rfl) (by rfl) (by rfl) (fun _ => ⟨_, rfl, news_alloc w5 [str ex, str ey] 56⟩) ?_; intro v2 w6 hrow6 hfr6; have hS6 := kF _ (Fr.own (hS5.2.2.alloc (.cells #[str ex, str ey] 56)) (hrow5.alloc _) hfr6 (fun _ h => h)))
              | (refine step_app3 o1 q ((pcs acc).take (q * 2)) Try.underlying54 rpairInfo rfl (by decide) hlt1 h1t (by omega) (by omega) b1 (by rfl) (by rfl) (by rfl) (by rfl) c1 ?_; intro v1 w5 hrow5 hfr5; have hS5 := kF _ (Fr.own f1 o1 hfr5 (fun _ h => h)))
              | (refine step_app3 o2 q ((pcs acc).take (q * 2)) Try.underlying54 rpairInfo rfl (by decide) hlt1 h1t (by omega) (by omega) b2 (by rfl) (by rfl) (by rfl) (by rfl) c2 ?_; intro v1 w5 hrow5 hfr5; have hS5 := kF _ (Fr.own f2 o2 hfr5 (fun _ h => h)); have hn5 := fun j u hj => hfr5.cell (n2 j u hj) (by rw [Addr.add_lit]; simp [Value.ownBlock]))
              | (refine step_app3 o3 q ((pcs acc).take (q * 2)) Try.underlying54 rpairInfo rfl (by decide) hlt1 h1t (by omega) (by omega) b3 (by rfl) (by rfl) (by rfl) (by rfl) c3 ?_; intro v1 w5 hrow5 hfr5; have hS5 := kF _ (Fr.own f3 o3 hfr5 (fun _ h => h)); have hn5 := fun j u hj => hfr5.cell (n3 j u hj) (by rw [Addr.add_lit]; simp [Value.ownBlock])))
          all_goals
            go_wp2
            go_roundw
            case rel => exact ⟨k + 1, by omega, by go_num, by
              rw [hTk.out, hins.out, show k + 1 = 0 + q + 1 + (k - q) by omega]
              exact own_lower hrow7 hVw, hokV.2.then_ hS7.2.2 fun j hj h => by omega⟩
            case measure => simp [intOf]; omega
    · have hkn : k = n := by omega
      subst hkn
      rw [hE.out] at hrow
      generalize Uri.sorted (ps.map Uri.enc2) = ss at *
      have hmm : ∀ j, j < k → Hid (Uri.jn [38] ((ss.take (j + 1)).map Uri.piece) = (if j = 0 then [] else Uri.jn [38] ((ss.take j).map Uri.piece) ++ [38]) ++ Uri.piece (ss.getD j ([], []))) := fun j hj => by
        show _ = _
        rw [List.take_succ_eq_append_getElem (by omega), List.map_append, List.map_cons, List.map_nil, show ss.getD j ([], []) = ss[j] by simp [List.getD_eq_getElem?_getD, List.getElem?_eq_getElem (show j < ss.length by omega)]]
        by_cases h0 : j = 0
        · subst h0; simp [Uri.jn]
        · rw [if_neg h0, Uri.jn_snoc _ _ _ (by intro h; have := congrArg List.length h; rw [List.length_map, List.length_take, List.length_nil] at this; omega)]
      have hE2 : Hid (Uri.jn [38] ((ss.take k).map Uri.piece) = Uri.canon ps) := by show _ = _; rw [hcan.out, ← hsl, List.take_length]
      clear hr hT hE hs hL hcan
      obtain ⟨A3, cap3, rfl⟩ : ∃ A3 cap3, u3 = .slice A3 k cap3 := by
        rcases hrow.2 with ⟨rfl, h0⟩ | ⟨gq, cap, cur, rfl, _⟩
        · exact ⟨none, 0, by rw [h0]⟩
        · exact ⟨_, _, rfl⟩
      have hJ : ∀ j, j ≤ k → (Uri.jn [38] ((ss.take j).map Uri.piece)).length ≤ j * 300002 := fun j => by
        induction j with
        | zero => intro _; simp [Uri.jn]
        | succ j ih =>
          intro hj
          have h1 := ih (by omega)
          have h2 := hmem j (by omega)
          rw [(hmm j (by omega)).out]
          generalize ss.getD j ([], []) = pp at h2 ⊢
          generalize Uri.jn [38] ((ss.take j).map Uri.piece) = a0 at h1 ⊢
          split
          · simp [Uri.piece]; omega
          · simp [Uri.piece]; omega
      have hrd : ∀ j, j < k → ∃ gq, A3 = some ⟨gq, 0, none⟩ ∧ wr.cell? ⟨gq, j * 2, none⟩ = some (str (ss.getD j ([], [])).1) ∧ wr.cell? ⟨gq, j * 2 + 1, none⟩ = some (str (ss.getD j ([], [])).2) := fun j hj => by
        rcases hrow.2 with ⟨_, h0⟩ | ⟨gq, cap, cur, he, _⟩
        · omega
        · simp only [Value.slice.injEq] at he
          obtain ⟨rfl, _, rfl⟩ := he
          have c1 := hrow.cells (g := gq) rfl (j * 2) _ (pcs_get ss j (by omega)).1
          have c2 := hrow.cells (g := gq) rfl (j * 2 + 1) _ (pcs_get ss j (by omega)).2
          rw [addr_add0] at c1 c2
          exact ⟨gq, rfl, c1, c2⟩
      have hjn0 : Hid (Uri.jn [38] ((ss.take 0).map Uri.piece) = []) := rfl
      obtain ⟨J, hJJ⟩ : ∃ J : Nat → List UInt8, ∀ j, Uri.jn [38] ((ss.take j).map Uri.piece) = J j := ⟨_, fun _ => rfl⟩
      simp only [hJJ] at hmm hE2 hJ hjn0
      clear hJJ hrow hmem hsl
      go_wp2_with fail
      go_loopw [7, 8] (fun v i wq => ∃ j : Nat, j ≤ k ∧ i = .int .i64 j ∧ v = str (J j) ∧ ∃ d, wq = wr.drewN d) (fun _ i _ => k - (intOf i).toNat)
      case atStart => exact ⟨0, Nat.zero_le _, rfl, by rw [hjn0.out], 0, rfl⟩
      case round =>
        obtain ⟨j, hj, rfl, rfl, d, rfl⟩ := hrel
        by_cases hlt2 : j < k
        · obtain ⟨gq, rfl, c1, c2⟩ := hrd j hlt2
          have hm := hmm j hlt2
          have hjl := hJ (j + 1) (by omega)
          rw [hm.out, List.length_append] at hjl
          have hja := hJ j hj
          clear hrd hmm hJ hE2
          generalize ss.getD j ([], []) = p at *
          have ha0 : j = 0 → J j = [] := fun h => by rw [h]; exact hjn0.out
          clear hjn0
          generalize J j = acc at *
          obtain ⟨x, y⟩ := p
          simp only at c1 c2
          have hpl : (Uri.piece (x, y)).length = x.length + 1 + y.length := by simp [Uri.piece]; omega
          have hxy : x.length + y.length ≤ 400000000 := by omega
          have hac : acc.length ≤ 400000000 := by omega
          clear hjl hja hpl
          by_cases h0 : 0 < j
          · rw [if_neg (by omega)] at hm
            have hP : Hid (((⟨acc.toArray⟩ : ByteArray) ++ ⟨#[38]⟩ ++ ⟨x.toArray⟩ ++ ⟨#[61]⟩ ++ ⟨y.toArray⟩) = ⟨(J (j + 1)).toArray⟩) := by
              show _ = _
              rw [hm.out]
              simp only [ByteArray.mk_append_mk]
              simp [Uri.piece]
            go_upto_region 16 with fail
            go_quiet (fail)
            go_wp2_with fail
            go_roundw
            case rel => exact ⟨j + 1, by omega, by go_num, congrArg Value.string hP.out, d + nq, by first | rfl | exact World.drewN_drewN _ _ _⟩
            case measure => simp [intOf]; omega
          · rw [if_pos (by omega)] at hm
            have hj0 : j = 0 := by omega
            have hP : Hid (((⟨acc.toArray⟩ : ByteArray) ++ ⟨x.toArray⟩ ++ ⟨#[61]⟩ ++ ⟨y.toArray⟩) = ⟨(J (j + 1)).toArray⟩) := by
              show _ = _
              rw [hm.out]
              have ha : acc = [] := ha0 hj0
              rw [ha]
              simp only [ByteArray.mk_append_mk]
              simp [Uri.piece]
            clear ha0 hm
            subst hj0
            simp only [Nat.zero_mul, Nat.zero_add] at c1 c2
            go_upto_region 16 with fail
            go_quiet (fail)
            go_wp2_with fail
            go_roundw
            case rel => exact ⟨0 + 1, by omega, by go_num, congrArg Value.string hP.out, d + nq, by first | rfl | exact World.drewN_drewN _ _ _⟩
            case measure => simp [intOf]; omega
        · have hjk : j = k := by omega
          subst hjk
          clear hrd hmm hJ hjn0
          go_wp2_with fail
          go_ret
          exact ⟨by rw [← hE2.out]; rfl, (hfr.drewN d).below (Nat.le_refl _) fun q hq => by omega⟩
end Go.Proofs.Ytdfkinkihkgdbaa
