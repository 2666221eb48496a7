/- Plain laws about the canonical text of pairs: sorted lists, joined texts; no program. -/
import Derived.Test.YtdfkinkihkgdbaaDoorUriMath
import Derived.Sort.LotA
import Derived.Shelf.SlSortCmp.Insertion
import Derived.Sort.Walk0
set_option linter.unusedVariables false
namespace Go.Proofs.YtdfkinkihkgdbaaDoor.Uri
open Go.Sort

abbrev Pr := List UInt8 × List UInt8
def lt (x y : List UInt8) : Bool := Op.bytesLess x y
theorem lt_eq (x y : List UInt8) : lt x y = decide (x < y) := bytesLess_eq x y
def gtB (x y : List UInt8) : Bool := !(lt x y || x == y)
theorem gtB_eq (x y : List UInt8) : gtB x y = decide (y < x) := by
  unfold gtB
  rw [lt_eq]
  by_cases h : x = y
  · subst h; simp [List.lt_irrefl]
  · have hb : (x == y) = false := by simpa using h
    rw [hb, Bool.or_false]
    by_cases h1 : x < y
    · have : ¬ y < x := fun h2 => List.lt_irrefl _ (List.lt_trans h1 h2)
      simp [h1, this]
    · have h2 : y < x := by
        rcases List.le_total x y with h3 | h3
        · exact Classical.byContradiction fun h4 => h (List.le_antisymm h3 (List.not_lt.1 h4 |> fun q => by simpa using List.not_lt.1 h1))
        · exact Classical.byContradiction fun h4 => h (List.le_antisymm (List.not_lt.1 h4) h3)
      simp [h1, h2]

def cmpS (x y : List UInt8) : Int := if lt x y then -1 else if gtB x y then 1 else 0
def cmpP (a b : Pr) : Int := if cmpS a.1 b.1 ≠ 0 then cmpS a.1 b.1 else cmpS a.2 b.2
def gtP (a b : Pr) : Bool := gtB a.1 b.1 || (a.1 == b.1 && gtB a.2 b.2)

theorem cmpS_cases (x y : List UInt8) : (cmpS x y = -1 ∧ x < y) ∨ (cmpS x y = 0 ∧ x = y) ∨ (cmpS x y = 1 ∧ y < x) := by
  unfold cmpS
  rw [lt_eq, gtB_eq]
  by_cases h1 : x < y
  · left; simp [h1]
  · by_cases h2 : y < x
    · right; right; simp [h1, h2]
    · right; left
      exact ⟨by simp [h1, h2], List.le_antisymm (List.not_lt.1 h2) (List.not_lt.1 h1)⟩

/-- Pairs' order. -/
def PLt (a b : Pr) : Prop := a.1 < b.1 ∨ (a.1 = b.1 ∧ a.2 < b.2)

theorem ltOf_iff (a b : Pr) : (ltOf cmpP a b = true) ↔ PLt a b := by
  unfold ltOf cmpP PLt
  rcases cmpS_cases a.1 b.1 with ⟨h, h1⟩ | ⟨h, h1⟩ | ⟨h, h1⟩
  · simp [h, h1]
  · rw [if_neg (by simp [h])]
    rcases cmpS_cases a.2 b.2 with ⟨k, k1⟩ | ⟨k, k1⟩ | ⟨k, k1⟩
    · rw [k]; simp [h1, k1]
    · rw [k]; simp [h1, k1, List.lt_irrefl]
    · have : ¬ a.2 < b.2 := fun q => List.lt_irrefl _ (List.lt_trans q k1)
      rw [k]; simp [h1, this, List.lt_irrefl]
  · have h2 : ¬ a.1 < b.1 := fun q => List.lt_irrefl _ (List.lt_trans q h1)
    have h3 : a.1 ≠ b.1 := fun q => List.lt_irrefl b.1 (by rw [q] at h1; exact h1)
    simp [h, h2, h3]

theorem gtP_iff (a b : Pr) : (gtP a b = true) ↔ PLt b a := by
  unfold gtP PLt
  rw [gtB_eq, gtB_eq]
  simp only [Bool.or_eq_true, Bool.and_eq_true, decide_eq_true_eq, beq_iff_eq]
  constructor
  · rintro (h | ⟨h, k⟩)
    · exact .inl h
    · exact .inr ⟨h.symm, k⟩
  · rintro (h | ⟨h, k⟩)
    · exact .inl h
    · exact .inr ⟨h.symm, k⟩

theorem PLt.irrefl (a : Pr) : ¬ PLt a a := by
  rintro (h | ⟨_, h⟩) <;> exact List.lt_irrefl _ h
theorem PLt.trans {a b c : Pr} (h : PLt a b) (k : PLt b c) : PLt a c := by
  rcases h with h | ⟨h, h'⟩ <;> rcases k with k | ⟨k, k'⟩
  · exact .inl (List.lt_trans h k)
  · exact .inl (k ▸ h)
  · exact .inl (h ▸ k)
  · exact .inr ⟨h.trans k, List.lt_trans h' k'⟩
theorem PLt.tri (a b : Pr) : PLt a b ∨ a = b ∨ PLt b a := by
  rcases cmpS_cases a.1 b.1 with ⟨_, h1⟩ | ⟨_, h1⟩ | ⟨_, h1⟩
  · exact .inl (.inl h1)
  · rcases cmpS_cases a.2 b.2 with ⟨_, k1⟩ | ⟨_, k1⟩ | ⟨_, k1⟩
    · exact .inl (.inr ⟨h1, k1⟩)
    · exact .inr (.inl (Prod.ext h1 k1))
    · exact .inr (.inr (.inr ⟨h1.symm, k1⟩))
  · exact .inr (.inr (.inl h1))

theorem ltOf_false (a b : Pr) : (ltOf cmpP a b = false) ↔ ¬ PLt a b := by rw [← ltOf_iff]; simp

/-- Not greater. -/
def PLe (a b : Pr) : Prop := ¬ PLt b a
theorem PLe.trans {a b c : Pr} (h : PLe a b) (k : PLe b c) : PLe a c := by
  intro q
  rcases PLt.tri a b with h1 | h1 | h1
  · exact k (q.trans h1)
  · subst h1; exact k q
  · exact h h1
theorem PLe.anti {a b : Pr} (h : PLe a b) (k : PLe b a) : a = b := by
  rcases PLt.tri a b with h1 | h1 | h1
  · exact (k h1).elim
  · exact h1
  · exact (h h1).elim
theorem PLe.total (a b : Pr) : PLe a b ∨ PLe b a := by
  by_cases h : PLt b a
  · exact .inr fun q => PLt.irrefl _ (h.trans q)
  · exact .inl h

theorem swo : SWO (ltOf cmpP) where
  irrefl x := by rw [ltOf_false]; exact PLt.irrefl x
  trans x y z h k := by rw [ltOf_iff] at *; exact h.trans k
  ntrans x y z h k := by rw [ltOf_false] at *; exact (show PLe z x from PLe.trans (show PLe z y from k) (show PLe y x from h))

theorem parts (x y : Pr) (h : ltOf cmpP x y = false) (k : ltOf cmpP y x = false) : x = y := by
  rw [ltOf_false] at h k
  exact PLe.anti (show PLe x y from k) (show PLe y x from h)

/-- The pairs in their order. -/
def sorted (l : List Pr) : List Pr := l.mergeSort fun x y => !(ltOf cmpP) y x

theorem le_iff (x y : Pr) : ((!(ltOf cmpP) y x) = true) ↔ PLe x y := by
  unfold PLe
  rw [← ltOf_iff]; simp

theorem sorted_pairwise (l : List Pr) : (sorted l).Pairwise PLe := by
  have h := List.pairwise_mergeSort (le := fun x y => !(ltOf cmpP) y x) (fun a b c h k => by rw [le_iff] at *; exact PLe.trans h k) (fun a b => by
    rcases PLe.total a b with h | h
    · have := (le_iff a b).2 h; simp [this]
    · have := (le_iff b a).2 h; simp [this]) l
  exact h.imp fun {a b} h => (le_iff a b).1 h

theorem sorted_perm (l : List Pr) : (sorted l).Perm l := List.mergeSort_perm l _

theorem sorted_of {l m : List Pr} (h : m.Perm l) (hs : m.Pairwise PLe) : m = sorted l :=
  List.Perm.eq_of_pairwise (le := PLe) (fun _ _ _ _ h k => PLe.anti h k) hs (sorted_pairwise l) (h.trans (sorted_perm l).symm)

/-- Where the reference puts a pair: behind the last one that is not greater, from place k downward. -/
def pos (p : Pr) (out : List Pr) : Nat → Nat
  | 0 => 0
  | k + 1 => if gtP (out.getD k ([], [])) p then pos p out k else k + 1

theorem pos_le (p : Pr) (out : List Pr) : ∀ k, pos p out k ≤ k
  | 0 => Nat.le_refl _
  | k + 1 => by
    unfold pos
    split
    · exact Nat.le_trans (pos_le p out k) (Nat.le_succ k)
    · exact Nat.le_refl _

def ins (p : Pr) (out : List Pr) : List Pr := out.take (pos p out out.length) ++ p :: out.drop (pos p out out.length)

theorem ins_perm (p : Pr) (out : List Pr) : (ins p out).Perm (p :: out) := by
  unfold ins
  refine List.perm_middle.trans ?_
  rw [List.take_append_drop]

theorem pos_above (p : Pr) (out : List Pr) : ∀ k j, pos p out k ≤ j → j < k → PLt p (out.getD j ([], []))
  | 0, j, h, k => by omega
  | k + 1, j, h, hk => by
    unfold pos at h
    split at h
    · next hg =>
      by_cases hj : j = k
      · subst hj; exact (gtP_iff _ _).1 hg
      · exact pos_above p out k j h (by omega)
    · omega

theorem pos_below (p : Pr) (out : List Pr) : ∀ k, pos p out k = 0 ∨ PLe (out.getD (pos p out k - 1) ([], [])) p
  | 0 => .inl rfl
  | k + 1 => by
    unfold pos
    split
    · exact pos_below p out k
    · next hg => exact .inr fun h => hg ((gtP_iff _ _).2 h)

theorem ins_sorted (p : Pr) (out : List Pr) (h : out.Pairwise PLe) : (ins p out).Pairwise PLe := by
  unfold ins
  have hle := pos_le p out out.length
  generalize hk : pos p out out.length = k at *
  have hG : ∀ j (hj : j < out.length), out.getD j ([], []) = out[j] := fun j hj => by simp [List.getD_eq_getElem?_getD, List.getElem?_eq_getElem hj]
  have hA : ∀ x ∈ out.drop k, PLe p x := by
    intro x hx
    obtain ⟨i, hi, rfl⟩ := List.getElem_of_mem hx
    rw [List.length_drop] at hi
    rw [List.getElem_drop]
    have := pos_above p out out.length (k + i) (by omega) (by omega)
    rw [hG _ (by omega)] at this
    exact fun q => PLt.irrefl _ (this.trans q)
  have hB : ∀ x ∈ out.take k, PLe x p := by
    intro x hx
    obtain ⟨i, hi, rfl⟩ := List.getElem_of_mem hx
    rw [List.length_take] at hi
    rw [List.getElem_take]
    rcases pos_below p out out.length with h0 | h0
    · omega
    · rw [hk, hG _ (by omega)] at h0
      by_cases hik : i = k - 1
      · subst hik; exact h0
      · exact PLe.trans (List.pairwise_iff_getElem.1 h i (k - 1) (by omega) (by omega) (by omega)) h0
  have h2 := h
  rw [← List.take_append_drop k out, List.pairwise_append] at h2
  obtain ⟨p1, p2, p3⟩ := h2
  rw [List.pairwise_append]
  refine ⟨p1, List.pairwise_cons.2 ⟨hA, p2⟩, fun a ha b hb => ?_⟩
  rcases List.mem_cons.1 hb with rfl | hb
  · exact hB a ha
  · exact p3 a ha b hb

def insAll (l : List Pr) : List Pr := l.foldl (fun o p => ins p o) []

theorem insAll_snoc (l : List Pr) (p : Pr) : insAll (l ++ [p]) = ins p (insAll l) := by simp [insAll]

theorem insAll_both (l : List Pr) : (insAll l).Perm l ∧ (insAll l).Pairwise PLe := by
  have key : ∀ (l : List Pr) (o m : List Pr), o.Perm m → o.Pairwise PLe → (l.foldl (fun o p => ins p o) o).Perm (m ++ l) ∧ (l.foldl (fun o p => ins p o) o).Pairwise PLe := by
    intro l
    induction l with
    | nil => intro o m h k; simpa using ⟨h, k⟩
    | cons p l ih =>
      intro o m h k
      have := ih (ins p o) (m ++ [p]) ((ins_perm p o).trans ((h.cons p).trans (List.perm_append_singleton p m).symm)) (ins_sorted p o k)
      simpa using this
  have h := key l [] [] (List.Perm.refl _) List.Pairwise.nil
  rw [List.nil_append] at h
  exact h

theorem insAll_eq (l : List Pr) : insAll l = sorted l := sorted_of (insAll_both l).1 (insAll_both l).2

theorem insAll_length (l : List Pr) : (insAll l).length = l.length := (insAll_both l).1.length_eq
theorem sorted_length (l : List Pr) : (sorted l).length = l.length := (sorted_perm l).length_eq

/-- Texts, one behind the other, a text between. -/
def jn (sep : List UInt8) : List (List UInt8) → List UInt8
  | [] => []
  | x :: t => x ++ t.flatMap (sep ++ ·)

theorem jn_snoc (sep : List UInt8) (l : List (List UInt8)) (x : List UInt8) (h : l ≠ []) : jn sep (l ++ [x]) = jn sep l ++ sep ++ x := by
  match l, h with
  | y :: t, _ => simp [jn]
theorem jn_one (sep x : List UInt8) : jn sep [x] = x := by simp [jn]

/-- A pair as it is written. -/
def piece (p : Pr) : List UInt8 := p.1 ++ 61 :: p.2
def enc2 (p : Pr) : Pr := (enc false p.1, enc false p.2)
def canon (l : List Pr) : List UInt8 := jn [38] ((sorted (l.map enc2)).map piece)

theorem jn_len (sep : List UInt8) (l : List (List UInt8)) : (jn sep l).length ≤ (l.map List.length).sum + sep.length * l.length := by
  match l with
  | [] => simp [jn]
  | x :: t =>
    have : ∀ t : List (List UInt8), (t.flatMap (sep ++ ·)).length = (t.map List.length).sum + sep.length * t.length := by
      intro t
      induction t with
      | nil => rfl
      | cons y t ih => simp [ih, Nat.mul_add]; omega
    simp [jn, this, Nat.mul_add]; omega

end Go.Proofs.YtdfkinkihkgdbaaDoor.Uri
