/- More words on rows of the call's own: what an append leaves as it was; a row that nothing turned. -/
import Derived.Test.YtdfkinkihkgdbaaDoorCore
import Derived.Lib.AppendZeros
set_option linter.unusedVariables false
namespace Go.Proofs.YtdfkinkihkgdbaaDoor
open Go.RowKit

theorem own_fr {M : Nat → Prop} {w w' : World} {base n size : Nat} {e : TypeId} {v : Value} {xs : List Value} (h : w.ownsRow base e size v n xs) (hf : Fr M w w') (hM : ∀ k, base ≤ k → k < w.heap.size → v.ownBlock = some k → ¬ M k) : w'.ownsRow base e size v n xs := by
  refine ⟨h.1, ?_⟩
  rcases h.2 with hn | ⟨g, cap, cur, rfl, hg, hh, r⟩
  · exact .inl hn
  · exact .inr ⟨g, cap, cur, rfl, hg, hf.heap hh (hM g hg (block_lt hh) rfl), r⟩

section
variable {P : Program} {ops : Array Oper} {rest : List Oper} {o : Oper} {a : Act} {Q : Exit → Act → World → Prop}

/-- append as one step of a region that draws its order: of what was there the row's own block alone may turn. -/
theorem step_app2 {K : Act → World → Prop} {E : Prop} {W : World} {base n size bytes : Nat} {v : Value} {xs : List Value} {t e : TypeId} {z : Value} {s x : Operand} {c : Nat} {ad : Addr} (hown : W.ownsRow base e size v n xs) (m : Nat) (news : List Value)
    (ht : P.underlying t = some (.slice e)) (hinfo : (P.info? e).map (fun i => (i.zero, i.size, i.bytes)) = some (some z, size, bytes)) (hz : z.cells.size = size) (hsz : 0 < size)
    (hl : news.length = m * size) (h1 : ∀ u ∈ news, u.oneCell' = true) (h63 : n + m ≤ 140737488355328) (hbytes : (n + m) * bytes ≤ 140737488355328) (hbase : base ≤ W.heap.size)
    (hgd : o.guard = none) (ho : o.op = .call { callee := .builtin .append, args := #[s, x], argTypes := #[t, t] }) (hs : a.eval s = v) (hx : a.eval x = .slice (some ad) m c) (hnews : ∀ j u, news[j]? = some u → W.cell? (ad.add j) = some u)
    (h : ∀ v' w', w'.ownsRow base e size v' (n + m) (xs ++ news) → Fr (fun k => v.ownBlock = some k) W w' → K (a.put o.dst v') w') :
    if Region.wanted o (yielded ops a.tmps) = true then Oper.wp P o a W K Q else E := by
  obtain ⟨i0, hi, hz0, hz1, hz2⟩ := info_parts hinfo
  rw [if_pos (by simp [Region.wanted, hgd])]
  exact wp_append_own _ s x t ho base e i0 z size bytes ht hi hz0 hz1 hz2 hz hsz v n xs hs hown ad m c news hx hl hnews h1 (by unfold maxLen; omega) hbytes hbase fun v' w' h2 h3 _ => h v' w' h2 (Fr.grown (Fr.refl _ _) h3 fun k hk _ => hk)

/-- .. in a region that draws none. -/
theorem app_row2 {W : World} {base n size bytes : Nat} {v : Value} {xs : List Value} {t e : TypeId} {z : Value} {s x : Operand} {c : Nat} {ad : Addr} (hown : W.ownsRow base e size v n xs) (m : Nat) (news : List Value)
    (ht : P.underlying t = some (.slice e)) (hinfo : (P.info? e).map (fun i => (i.zero, i.size, i.bytes)) = some (some z, size, bytes)) (hz : z.cells.size = size) (hsz : 0 < size)
    (hl : news.length = m * size) (h1 : ∀ u ∈ news, u.oneCell' = true) (h63 : n + m ≤ 140737488355328) (hbytes : (n + m) * bytes ≤ 140737488355328) (hbase : base ≤ W.heap.size)
    (hgd : o.guard = none) (ho : o.op = .call { callee := .builtin .append, args := #[s, x], argTypes := #[t, t] }) (hs : a.eval s = v) (hx : a.eval x = .slice (some ad) m c) (hnews : ∀ j u, news[j]? = some u → W.cell? (ad.add j) = some u)
    (h : ∀ v' w', w'.ownsRow base e size v' (n + m) (xs ++ news) → Fr (fun k => v.ownBlock = some k) W w' → wpList P ops Q rest (a.put o.dst v') w') :
    wpList P ops Q (o :: rest) a W := by
  obtain ⟨i0, hi, hz0, hz1, hz2⟩ := info_parts hinfo
  exact wpList_append_own _ hgd s x t ho base e i0 z size bytes ht hi hz0 hz1 hz2 hz hsz v n xs hs hown ad m c news hx hl hnews h1 (by unfold maxLen; omega) hbytes hbase fun v' w' h2 h3 _ => h v' w' h2 (Fr.grown (Fr.refl _ _) h3 fun k hk _ => hk)

theorem run_app_none {W : World} {t ty e : TypeId} {i : TypeInfo} (ht : P.underlying t = some (.slice e)) (hi : P.info? e = some i) (B X : Option Addr) (l c0 c : Nat) (hle : l ≤ c0) :
    (Builtin.append_ #[t, t] ty #[.slice B l c0, .slice X 0 c]).run P W = .ok (.slice B l c0) W := by
  cases B <;> cases X <;> simp [Builtin.append_, run_underlying ht, sizeOf, typeInfo, hi, Builtin.lenOf, hle, Builtin.firstCells, storeCells, loadCells, loadCellsFrom]

/-- .. of whatever slice, an empty or a nil one too. -/
theorem step_app3 {K : Act → World → Prop} {E : Prop} {W : World} {base n size bytes : Nat} {v : Value} {xs : List Value} {t e : TypeId} {z : Value} {s x : Operand} {c : Nat} {X : Option Addr} (hown : W.ownsRow base e size v n xs) (m : Nat) (news : List Value)
    (ht : P.underlying t = some (.slice e)) (hinfo : (P.info? e).map (fun i => (i.zero, i.size, i.bytes)) = some (some z, size, bytes)) (hz : z.cells.size = size) (hsz : 0 < size)
    (hl : news.length = m * size) (h1 : ∀ u ∈ news, u.oneCell' = true) (h63 : n + m ≤ 140737488355328) (hbytes : (n + m) * bytes ≤ 140737488355328) (hbase : base ≤ W.heap.size)
    (hgd : o.guard = none) (ho : o.op = .call { callee := .builtin .append, args := #[s, x], argTypes := #[t, t] }) (hs : a.eval s = v) (hx : a.eval x = .slice X m c) (hnews : 0 < m → ∃ ad, X = some ad ∧ ∀ j u, news[j]? = some u → W.cell? (ad.add j) = some u)
    (h : ∀ v' w', w'.ownsRow base e size v' (n + m) (xs ++ news) → Fr (fun k => v.ownBlock = some k) W w' → K (a.put o.dst v') w') :
    if Region.wanted o (yielded ops a.tmps) = true then Oper.wp P o a W K Q else E := by
  by_cases hm : 0 < m
  · obtain ⟨ad, rfl, hn⟩ := hnews hm
    exact step_app2 hown m news ht hinfo hz hsz hl h1 h63 hbytes hbase hgd ho hs hx hn h
  · obtain rfl : m = 0 := by omega
    obtain rfl : news = [] := List.eq_nil_of_length_eq_zero (by simpa using hl)
    obtain ⟨i0, hi, hz0, hz1, hz2⟩ := info_parts hinfo
    obtain ⟨B, l, c0, rfl, hle⟩ : ∃ B l c0, v = .slice B l c0 ∧ l ≤ c0 := by
      rcases hown.2 with ⟨rfl, _⟩ | ⟨g, cap, cur, rfl, _, _, hc, _⟩
      · exact ⟨_, _, _, rfl, Nat.le_refl _⟩
      · exact ⟨_, _, _, rfl, hc⟩
    rw [if_pos (by simp [Region.wanted, hgd])]
    exact Lib.wp_append_run _ s x t t ho _ _ hs hx _ _ (run_app_none ht hi B X l c0 c hle) (h _ _ (by simpa using hown) (Fr.refl _ _))
end

theorem slice_to {P : Program} {t e : TypeId} {i : TypeInfo} (ht : P.underlying t = some (.slice e)) (hi : P.info? e = some i) (A : Option Addr) (n c q : Nat) (hq : q ≤ n) (hc : n ≤ c) (W : World) :
    (Instr.slice t (.slice A n c) none (some (.int .i64 (q : Int))) none).run P W = .ok (.slice A q c) W := by
  have hel : P.elem t = e := by simp [Program.elem, ht]
  have hA : (A.map fun x => x.add 0) = A := by cases A <;> simp [Addr.add]
  rw [run_slice_h W t A n c (by rw [hel]; exact ht) .i64 q (by omega) (by omega), hel]
  simp [sizeOf, typeInfo, hi, sliced, Result.andThen, hA]

theorem slice_from {P : Program} {t e : TypeId} {i : TypeInfo} (ht : P.underlying t = some (.slice e)) (hi : P.info? e = some i) (A : Option Addr) (n c q : Nat) (hq : q ≤ n) (W : World) :
    (Instr.slice t (.slice A n c) (some (.int .i64 (q : Int))) none none).run P W = .ok (.slice (if c = q then A else A.map (·.add (q * i.size))) (n - q) (c - q)) W := by
  have hel : P.elem t = e := by simp [Program.elem, ht]
  rw [run_slice_l W t A n c (by rw [hel]; exact ht) .i64 q (by omega) (by omega), hel]
  simp [sizeOf, typeInfo, hi, sliced, Result.andThen]

theorem own_lower {w : World} {base base' n size : Nat} {e : TypeId} {v : Value} {xs : List Value} (h : w.ownsRow base e size v n xs) (hb : base' ≤ base) : w.ownsRow base' e size v n xs :=
  ⟨h.1, h.2.imp id fun ⟨g, cap, cur, hv, hg, r⟩ => ⟨g, cap, cur, hv, Nat.le_trans hb hg, r⟩⟩

theorem own_empty {W : World} {base g size : Nat} {e : TypeId} (h : W.heap[g]? = some (.cells #[] e (0, 0))) (hb : base ≤ g) : W.ownsRow base e size (.slice (some ⟨g, 0, none⟩) 0 0) 0 [] :=
  ⟨by simp, .inr ⟨g, 0, #[], rfl, hb, h, Nat.le_refl _, by simp [maxLen], by simp, by simp⟩⟩

theorem Fr.own {M : Nat → Prop} {w w1 w2 : World} {base n size : Nat} {e : TypeId} {v : Value} {xs : List Value} (h : Fr M w w1) (hown : w1.ownsRow base e size v n xs) (hf : Fr (fun k => v.ownBlock = some k) w1 w2) (hM : ∀ k, base ≤ k → M k) : Fr M w w2 :=
  Fr.then_ h hf fun k _ he => hM k (hown.lt k he).1
end Go.Proofs.YtdfkinkihkgdbaaDoor
