/- The walks of strings.Builder's Grow at a builder that nothing was written to, and of strings.Join. -/
import Derived.Test.YtdfkinkihkgdbaaDoorBuilder
import Derived.Test.YtdfkinkihkgdbaaDoorUriA
import Derived.Test.YtdfkinkihkgdbaaDoorCanMath
import Derived.Test.YtdfkinkihkgdbaaDoorShelfB
set_option linter.unusedVariables false
namespace Go.Proofs.YtdfkinkihkgdbaaDoor
open Go.RowKit

theorem bld_of_at {b : Nat} {p : Value} {w : World} (hp : p = .pointer none ∨ p = .pointer (some ⟨b, 0, none⟩)) (h : Lib.BuilderAt 67 5 b b p [] w) : Bld b (b + 1) [] w := by
  obtain ⟨_, v, h1, h2, h3⟩ := h
  refine ⟨Nat.lt_succ_self b, p, v, hp, h1, h2.1, ?_⟩
  rcases h2.2 with hn | ⟨g, cap, cur, rfl, hg, r⟩
  · exact .inl hn
  · refine .inr ⟨g, cap, cur, rfl, ?_, r⟩
    have : g ≠ b := fun e => h3 (by rw [e]; rfl)
    omega

set_option maxHeartbeats 1000000 in
theorem Grow_ok (b n : Nat) (w : World) (hbk : w.heap[b]? = some (.cells #[.pointer none, .slice none 0 0] 67 (0, 0))) (hn : n ≤ 281474976710656) :
    Calls Tryd.prog 41 #[.pointer (some ⟨b, 0, none⟩), .int .i64 n] w fun e w' => e = .returned (.tuple #[]) ∧ Bld b (b + 1) [] w' ∧ Fr (fun k => b ≤ k) w w' := by
  have hlt := block_lt hbk
  have hcc := copyCheck_fresh b w (by simp [World.cell?, hbk]) (by simp [World.shape?, hbk]) (by simp [World.frozen?, hbk])
  have hb1 : (w.setCell ⟨b, 0, none⟩ (.pointer (some ⟨b, 0, none⟩))).heap[b]? = some (.cells #[.pointer (some ⟨b, 0, none⟩), .slice none 0 0] 67 (0, 0)) := by
    simp [World.setCell, Array.getElem?_modify, hbk]
  have hf1 : Fr (fun k => b ≤ k) w (w.setCell ⟨b, 0, none⟩ (.pointer (some ⟨b, 0, none⟩))) := (Fr.refl _ _).setCell _ _ fun _ => Nat.le_refl _
  have hs1 : (w.setCell ⟨b, 0, none⟩ (.pointer (some ⟨b, 0, none⟩))).heap.size = w.heap.size := by simp
  generalize hW : w.setCell ⟨b, 0, none⟩ (.pointer (some ⟨b, 0, none⟩)) = W at *
  clear hW
  have c1 : W.cell? ⟨b, 1, none⟩ = some (.slice none 0 0) := by rw [Lib.cell_of_heap hb1]; rfl
  have hg := fun q => Tryd.Builder_grow_fresh b b n (W.drewN q) (Nat.le_refl _) hb1 (by show b ≤ W.heap.size; omega) hn
  go_enter Tryd.func41, Tryd.ntmps41
  go_wp2_with (go_at_call 44; refine hcc.mono ?_; rintro e w1 ⟨rfl, rfl⟩)
  go_quiet (fail)
  by_cases h0 : (0 : Int) < (n : Int)
  · go_wp2_with (go_at_call 59; refine (hg _).mono ?_; rintro e w2 ⟨rfl, hb2, hb3⟩)
    go_end0
    exact ⟨rfl, bld_of_at (.inr rfl) hb2, hf1.trans (Fr.of_below (hb3 : Below b _ w2) |> fun q => ⟨q.os, q.tape, q.output, q.size, q.keep⟩)⟩
  · go_wp2
    go_end0
    refine ⟨rfl, ?_, hf1.drewN _⟩
    exact ⟨Nat.lt_succ_self b, Value.pointer (some ⟨b, 0, none⟩), Value.slice none 0 0, Or.inr rfl, hb1, World.ownsRow_nil _ _ _ _⟩

theorem Bld.lt {b base : Nat} {l : List UInt8} {w : World} (h : Bld b base l w) : b < w.heap.size := by
  obtain ⟨_, _, _, _, h1, _⟩ := h
  exact block_lt h1

/-- Where a row of texts lies. -/
def TRow (w : World) (g : Nat) (xs : List (List UInt8)) : Prop := ∀ i, i < xs.length → w.cell? ⟨g, i, none⟩ = some (str (xs.getD i []))

theorem TRow.fr {M : Nat → Prop} {w w' : World} {g : Nat} {xs : List (List UInt8)} (h : TRow w g xs) (hf : Fr M w w') (hM : ¬ M g) : TRow w' g xs := fun i hi => hf.cell (h i hi) hM

theorem jn_take (sep : List UInt8) (xs : List (List UInt8)) (k : Nat) (h0 : 0 < k) (hk : k < xs.length) : Uri.jn sep (xs.take (k + 1)) = Uri.jn sep (xs.take k) ++ sep ++ xs.getD k [] := by
  rw [List.take_succ_eq_append_getElem hk, Uri.jn_snoc sep _ _ (by intro h; have := congrArg List.length h; simp at this; first | omega | (rcases this with h5 | h5 <;> first | omega | (subst h5; simp at hk)))]
  congr 1
  simp [List.getD_eq_getElem?_getD, List.getElem?_eq_getElem hk]

theorem sum_take (xs : List (List UInt8)) (k : Nat) (hk : k < xs.length) : ((xs.take (k + 1)).map List.length).sum = ((xs.take k).map List.length).sum + (xs.getD k []).length := by
  rw [List.take_succ_eq_append_getElem hk, List.map_append, List.sum_append]
  simp [List.getD_eq_getElem?_getD, List.getElem?_eq_getElem hk]

theorem sum_le (xs : List (List UInt8)) (k : Nat) : ((xs.take k).map List.length).sum ≤ (xs.map List.length).sum := by
  conv => rhs; rw [← List.take_append_drop k xs, List.map_append, List.sum_append]
  omega

theorem tdiv_big (n m : Nat) (h0 : 2 ≤ n) (hn : n ≤ 1000000) (hm : m ≤ 1000000) : decide (9223372036854775807 / ((n : Int) - 1) ≤ (m : Int)) = false := by
  rw [decide_eq_false_iff_not, Int.not_le]
  have : ((m : Int) + 1) ≤ 9223372036854775807 / ((n : Int) - 1) := by
    rw [Int.le_ediv_iff_mul_le (by omega)]
    have h1 : ((m : Int) + 1) * ((n : Int) - 1) ≤ 1000001 * 1000000 := by
      have e1 : ((m : Int) + 1) * ((n : Int) - 1) ≤ 1000001 * ((n : Int) - 1) := Int.mul_le_mul_of_nonneg_right (by omega) (by omega)
      omega
    omega
  omega

set_option maxRecDepth 100000 in
set_option maxHeartbeats 4000000 in
theorem strings_Join_many (xs : List (List UInt8)) (sep : List UInt8) (g c : Nat) (w : World) (hx : TRow w g xs) (h2 : 2 ≤ xs.length) (hn : xs.length ≤ 1000000) (hs : 0 < sep.length ∧ sep.length ≤ 1000)
    (hsum : (xs.map List.length).sum ≤ 10000000000) (hg : g < w.heap.size) (hc : xs.length ≤ c) :
    Calls Tryd.prog 28 #[.slice (some ⟨g, 0, none⟩) xs.length c, str sep] w fun e w' => e = .returned (str (Uri.jn sep xs)) ∧ Below w.heap.size w w' := by
  have hO : ∀ k, k < xs.length → Hid (((xs.take (k + 1)).map List.length).sum = ((xs.take k).map List.length).sum + (xs.getD k []).length) := fun k h => sum_take xs k h
  have hle : ∀ k, ((xs.take k).map List.length).sum ≤ (xs.map List.length).sum := sum_le xs
  have hJ : ∀ k, 0 < k → k < xs.length → Hid (Uri.jn sep (xs.take (k + 1)) = Uri.jn sep (xs.take k) ++ sep ++ xs.getD k []) := fun k h0 h => jn_take sep xs k h0 h
  have hJ1 : Hid (Uri.jn sep (xs.take 1) = xs.getD 0 []) := by
    show _ = _
    match xs, h2 with
    | x :: t, _ => simp [Uri.jn]
  have hJE : Hid (Uri.jn sep (xs.take xs.length) = Uri.jn sep xs) := by show _ = _; rw [List.take_length]
  have hlen : ∀ k, (Uri.jn sep (xs.take k)).length ≤ (xs.map List.length).sum + sep.length * xs.length := fun k => by
    have h3 := Uri.jn_len sep (xs.take k)
    have h4 := hle k
    have h5 : sep.length * (xs.take k).length ≤ sep.length * xs.length := Nat.mul_le_mul_left _ (List.length_take_le' k xs)
    omega
  have hmul : sep.length * xs.length ≤ 1000000000 := by
    have := Nat.mul_le_mul hs.2 hn; omega
  have hq := tdiv_big xs.length sep.length h2 hn (by omega)
  have hS : 0 ≤ (xs.map List.length).sum := Nat.zero_le _
  obtain ⟨n, hnn⟩ : ∃ n, n = xs.length := ⟨_, rfl⟩
  have hcell : ∀ i, i < n → w.cell? ⟨g, i, none⟩ = some (str (xs.getD i [])) := fun i hi => hx i (by omega)
  rw [← hnn] at h2 hn hO hJ hJE hlen hmul hq hc ⊢
  clear hx hnn
  obtain ⟨f, hf⟩ : ∃ f : Nat → List UInt8, ∀ i, xs.getD i [] = f i := ⟨_, fun _ => rfl⟩
  simp only [hf] at hcell hO hJ hJ1
  clear hf
  generalize (xs.map List.length).sum = N at *
  have h0 : Hid (((xs.take 0).map List.length).sum = 0) := rfl
  obtain ⟨G, hG⟩ : ∃ G : Nat → Nat, ∀ i, ((xs.take i).map List.length).sum = G i := ⟨_, fun _ => rfl⟩
  simp only [hG] at hO hle h0
  clear hG
  obtain ⟨J, hJJ⟩ : ∃ J : Nat → List UInt8, ∀ i, Uri.jn sep (xs.take i) = J i := ⟨_, fun _ => rfl⟩
  simp only [hJJ] at hJ hJ1 hJE hlen
  clear hJJ
  generalize Uri.jn sep xs = R at *
  obtain ⟨S, hSS⟩ : ∃ S : ByteArray, S = ⟨sep.toArray⟩ := ⟨_, rfl⟩
  have hSz : S.size = sep.length := by rw [hSS]; rfl
  show Calls _ _ #[_, .string ⟨sep.toArray⟩] _ _
  rw [← hSS]
  rw [← hSz] at hs hq hmul hlen
  have HS := Lib.hid hSS
  have HSz := Lib.hid hSz
  clear hSS hSz
  obtain ⟨p, hp⟩ : ∃ p : Nat, (S.size : Int) * ((n : Int) - 1) = (p : Int) := ⟨S.size * (n - 1), by rw [Int.natCast_mul, Int.ofNat_sub (by omega)]; rfl⟩
  have hpl : p ≤ 1000000000 := by
    have h3 : (S.size : Int) * ((n : Int) - 1) ≤ (S.size : Int) * (n : Int) := Int.mul_le_mul_of_nonneg_left (by omega) (by omega)
    have h4 : ((S.size * n : Nat) : Int) = (S.size : Int) * (n : Int) := Int.natCast_mul _ _
    omega
  have z0 : IntKind.i64.wrap ((n : Int) - 1) = (n : Int) - 1 := IntWalk.i64_in _ (by omega)
  have z1 : IntKind.i64.wrap ((S.size : Int) * ((n : Int) - 1)) = (p : Int) := by rw [hp]; exact IntWalk.i64_in _ (by omega)
  have z2 : IntKind.i64.wrap (0 + (p : Int)) = (p : Int) := by rw [Int.zero_add]; exact IntWalk.i64_in _ (by omega)
  go_enter Tryd.func28, Tryd.ntmps28
  go_wp2
  go_loop [5, 41] (fun v i => ∃ k : Nat, k ≤ n ∧ i = .int .i64 k ∧ v = .int .i64 ((p + G k : Nat) : Int)) (fun _ i => n - (intOf i).toNat)
  case atStart => exact ⟨0, Nat.zero_le _, rfl, by rw [h0.out]; rfl⟩
  case round =>
    obtain ⟨k, hk, rfl, rfl⟩ := hrel
    have hlk := hle k
    have hle1 := hle (k + 1)
    clear hle hq z0 z1 z2 hp
    by_cases hlt : k < n
    · have hck := hcell k hlt
      have hok := hO k hlt
      have hl2 : G k + (f k).length ≤ N + (f k).length := by omega
      have hxl : (f k).length ≤ 10000000000 := by have := hle1; have := hok.out; omega
      clear hcell hO h0 hJ hJ1 hJE hlen
      have hz : (⟨(f k).toArray⟩ : ByteArray).size = (f k).length := rfl
      generalize f k = x at *
      go_wp2
      go_round
      case rel => exact ⟨k + 1, by omega, by go_num, by rw [hok.out]; first | rfl | (push_cast; congr 1; omega)⟩
      case measure => simp [intOf]; omega
    · clear hO h0 hle1
      have c0 := hcell 0 (by omega)
      have hgr := Grow_ok w.heap.size (p + G k) (w.alloc (.cells #[.pointer none, .slice none 0 0] 67)) (heap_alloc_new w _) (by omega)
      have hF0 : Fr (fun k => w.heap.size ≤ k) w (w.alloc (.cells #[.pointer none, .slice none 0 0] 67)) := (Fr.refl _ _).alloc _
      have hW0 : (w.alloc (.cells #[.pointer none, .slice none 0 0] 67)).heap.size = w.heap.size + 1 := by simp
      have hl0 : (f 0).length ≤ 20000000000 := by have h5 := hlen 1; rw [hJ1.out] at h5; omega
      generalize hT : p + G k = T at *
      go_wp2_with (first
        | (go_at_call 41; refine hgr.mono ?_; rintro e w2 ⟨rfl, hB2, hF2⟩
           have c2 : w2.cell? ⟨g, 0, none⟩ = some (str (f 0)) := Fr.cell (Fr.trans hF0 hF2) c0 (by show ¬ w.heap.size ≤ g; omega))
        | (go_at_call 32; refine (WriteString_ok w.heap.size (w.heap.size + 1) [] (f 0) w2 hB2 (by simp; omega) (by have := hF2.size; omega)).mono ?_; rintro e w3 ⟨⟨nw, rfl⟩, hB3, hF3⟩))
      rw [List.nil_append, ← hJ1.out] at hB3
      have hFr3 : Fr (fun k => w.heap.size ≤ k) w w3 := Fr.then_ (Fr.trans hF0 hF2) hF3 fun k _ h => by rcases h with h | h <;> omega
      clear hB2 hF2 hF3 c2 hgr hF0 c0 hT hJ1 hl0 hlk
      go_loopw [65] (fun i wr => ∃ q : Nat, q + 1 ≤ n ∧ i = .int .i64 q ∧ Bld w.heap.size (w.heap.size + 1) (J (q + 1)) wr ∧ Fr (fun k => w.heap.size ≤ k) w wr) (fun i _ => n - (intOf i).toNat)
      case atStart => exact ⟨0, by omega, rfl, hB3, hFr3⟩
      case round =>
        obtain ⟨q, hq1, rfl, hBq, hFq⟩ := hrel
        have hSq := hBq.lt
        clear hB3 hFr3
        by_cases hlt : q + 1 < n
        · have cq := hFq.cell (hcell (q + 1) hlt) (by show ¬ w.heap.size ≤ g; omega)
          have hJq := hJ (q + 1) (by omega) hlt
          have hlq := hlen (q + 2)
          rw [hJq.out, List.length_append, List.length_append] at hlq
          clear hcell hJ hJE hlen
          have e1 : 1 + q = q + 1 := by omega
          generalize f (q + 1) = x at *
          generalize J (q + 1) = acc at *
          have hws := WriteString_ok w.heap.size (w.heap.size + 1) acc sep wr hBq (by have := HSz.out; omega) hSq
          rw [← HS.out] at hws
          go_wp2_with (first
            | (go_at_call 32; refine hws2.mono ?_; clear hws2; rintro e w5 ⟨⟨nw, rfl⟩, hB5, hF5⟩)
            | (go_at_call 32; refine hws.mono ?_; clear hws; rintro e w4 ⟨⟨nw, rfl⟩, hB4, hF4⟩
               have hws2 := WriteString_ok w.heap.size (w.heap.size + 1) (acc ++ sep) x w4 hB4 (by have := HSz.out; simp; omega) hB4.lt))
          go_roundw
          case rel => exact ⟨q + 1, by omega, by go_num, by rw [hJq.out]; exact hB5, Fr.then_ (Fr.then_ hFq hF4 fun _ _ h => by rcases h with h | h <;> omega) hF5 fun _ _ h => by rcases h with h | h <;> omega⟩
          case measure => simp [intOf]; omega
        · have hqn : q + 1 = n := by omega
          rw [hqn, hJE.out] at hBq
          clear hcell hJ hJE hlen
          have hst := String_ok w.heap.size (w.heap.size + 1) R wr hBq (by omega)
          go_wp2_with (go_at_call 33; refine hst.mono ?_; rintro e w4 ⟨rfl, hb4⟩)
          go_ret
          exact ⟨rfl, (hFq.below (Nat.le_refl _) fun k hk => by omega).trans hb4⟩

theorem strings_Join_none (A : Option Addr) (c : Nat) (sep : List UInt8) (w : World) :
    Calls Tryd.prog 28 #[.slice A 0 c, str sep] w fun e w' => e = .returned (str []) ∧ Below w.heap.size w w' := by
  go_enter Tryd.func28, Tryd.ntmps28
  go_wp2
  go_ret
  exact ⟨rfl, Below.refl _ _⟩

theorem strings_Join_one (x sep : List UInt8) (g c : Nat) (w : World) (hx : w.cell? ⟨g, 0, none⟩ = some (str x)) :
    Calls Tryd.prog 28 #[.slice (some ⟨g, 0, none⟩) 1 c, str sep] w fun e w' => e = .returned (str x) ∧ Below w.heap.size w w' := by
  go_enter Tryd.func28, Tryd.ntmps28
  go_wp2
  go_ret
  exact ⟨rfl, Below.refl _ _⟩

/-- A row of texts of the call's own. -/
def tcells (xs : List (List UInt8)) : List Value := xs.map str

theorem strings_Join (xs : List (List UInt8)) (sep : List UInt8) (base : Nat) (v : Value) (w : World) (hown : w.ownsRow base 9 1 v xs.length (tcells xs)) (hn : xs.length ≤ 1000000) (hs : 0 < sep.length ∧ sep.length ≤ 1000)
    (hsum : (xs.map List.length).sum ≤ 10000000000) :
    Calls Tryd.prog 28 #[v, str sep] w fun e w' => e = .returned (str (Uri.jn sep xs)) ∧ Below w.heap.size w w' := by
  have hlt := hown.lt
  rcases hown.2 with ⟨rfl, h0⟩ | ⟨g, cap, cur, rfl, hg, hh, hcap, _⟩
  · obtain rfl : xs = [] := List.eq_nil_of_length_eq_zero h0
    exact strings_Join_none none 0 sep w
  · have hrow : TRow w g xs := fun i hi => by
      have hc := hown.cells (g := g) rfl i (str (xs.getD i [])) (by simp [tcells, List.getD_eq_getElem?_getD, List.getElem?_eq_getElem hi])
      rwa [addr_add0] at hc
    by_cases h2 : 2 ≤ xs.length
    · exact strings_Join_many xs sep g cap w hrow h2 hn hs hsum (block_lt hh) hcap
    · rcases xs with _ | ⟨x, _ | ⟨y, t⟩⟩
      · exact strings_Join_none _ _ sep w
      · have := strings_Join_one x sep g cap w (hrow 0 (by simp))
        rw [Uri.jn_one]
        exact this
      · simp at h2
end Go.Proofs.YtdfkinkihkgdbaaDoor
