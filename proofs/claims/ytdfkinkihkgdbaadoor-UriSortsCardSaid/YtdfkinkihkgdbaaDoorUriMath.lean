/- Plain laws about encoding and decoding of paths: lists of bytes, no program. -/
namespace Go.Proofs.YtdfkinkihkgdbaaDoor.Uri

/-- A byte that stays as it is. -/
def plain (c : UInt8) : Bool :=
  (97 ≤ c && c ≤ 122) || (65 ≤ c && c ≤ 90) || (48 ≤ c && c ≤ 57) || c == 45 || c == 46 || c == 95 || c == 126

def hexU (n : UInt8) : UInt8 := if n < 10 then 48 + n else 55 + n

/-- The value of a digit; 16: it is none. -/
def hexV (c : UInt8) : UInt8 :=
  if 48 ≤ c && c ≤ 57 then c - 48 else if 97 ≤ c && c ≤ 102 then c - 97 + 10 else if 65 ≤ c && c ≤ 70 then c - 65 + 10 else 16

def enc1 (slash : Bool) (c : UInt8) : List UInt8 :=
  if plain c || slash && c == 47 then [c] else [37, hexU (c >>> 4), hexU (c &&& 15)]

def enc (slash : Bool) (l : List UInt8) : List UInt8 := l.flatMap (enc1 slash)

def dec : List UInt8 → Option (List UInt8)
  | [] => some []
  | c :: t =>
    if c = 37 then
      match t with
      | a :: b :: r => if hexV a < 16 && hexV b < 16 then (dec r).map ((hexV a * 16 + hexV b) :: ·) else none
      | _ => none
    else (dec t).map (c :: ·)

theorem dec_nil : dec [] = some [] := by rw [dec.eq_def]
theorem dec_plain {c : UInt8} (h : c ≠ 37) (t : List UInt8) : dec (c :: t) = (dec t).map (c :: ·) := by rw [dec.eq_def]; simp [h]
theorem dec_pct (a b : UInt8) (r : List UInt8) : dec (37 :: a :: b :: r) = if hexV a < 16 && hexV b < 16 then (dec r).map ((hexV a * 16 + hexV b) :: ·) else none := by
  rw [dec.eq_def]; simp
theorem dec_short (t : List UInt8) (h : t.length < 2) : dec (37 :: t) = none := by
  match t, h with
  | [], _ => rw [dec.eq_def]; simp
  | [_], _ => rw [dec.eq_def]; simp

/-- Bytes that are no sign go ahead. -/
theorem dec_head (h t : List UInt8) (hh : ∀ c ∈ h, c ≠ 37) : dec (h ++ t) = (dec t).map (h ++ ·) := by
  induction h with
  | nil => simp
  | cons c h ih =>
    rw [List.cons_append, dec_plain (hh c (by simp)), ih (fun d hd => hh d (by simp [hd]))]
    simp [Option.map_map, Function.comp_def]

theorem enc1_dec : ∀ (s : Bool) (c : UInt8), (enc1 s c = [c] ∧ c ≠ 37) ∨ (∃ a b, enc1 s c = [37, a, b] ∧ hexV a < 16 ∧ hexV b < 16 ∧ hexV a * 16 + hexV b = c) := by
  have key : ∀ (s : Bool) (i : Fin 256), (enc1 s ⟨⟨i⟩⟩ = [⟨⟨i⟩⟩] ∧ (⟨⟨i⟩⟩ : UInt8) ≠ 37) ∨
      (enc1 s ⟨⟨i⟩⟩ = [37, hexU ((⟨⟨i⟩⟩ : UInt8) >>> 4), hexU ((⟨⟨i⟩⟩ : UInt8) &&& 15)] ∧ hexV (hexU ((⟨⟨i⟩⟩ : UInt8) >>> 4)) < 16 ∧ hexV (hexU ((⟨⟨i⟩⟩ : UInt8) &&& 15)) < 16 ∧
        hexV (hexU ((⟨⟨i⟩⟩ : UInt8) >>> 4)) * 16 + hexV (hexU ((⟨⟨i⟩⟩ : UInt8) &&& 15)) = ⟨⟨i⟩⟩) := by
    decide +kernel
  intro s c
  rcases key s c.toBitVec.toFin with h | ⟨h1, h2, h3, h4⟩
  · exact .inl h
  · exact .inr ⟨_, _, h1, h2, h3, h4⟩

theorem dec_enc1 (s : Bool) (c : UInt8) (t : List UInt8) : dec (enc1 s c ++ t) = (dec t).map (c :: ·) := by
  rcases enc1_dec s c with ⟨h, hc⟩ | ⟨a, b, h, ha, hb, hc⟩
  · rw [h]; exact dec_plain hc t
  · rw [h]
    show dec (37 :: a :: b :: t) = _
    rw [dec_pct, hc]; simp [ha, hb]

theorem dec_enc (s : Bool) (l : List UInt8) : dec (enc s l) = some l := by
  induction l with
  | nil => rfl
  | cons c l ih =>
    show dec (enc1 s c ++ enc s l) = _
    rw [dec_enc1, ih]; rfl

theorem enc_inj (s : Bool) {l m : List UInt8} (h : enc s l = enc s m) : l = m := by
  have := dec_enc s l
  rw [h, dec_enc] at this
  exact (Option.some.inj this).symm

/-- Cut at the first c: what is ahead, what is behind, whether there was one. -/
def cut1 (c : UInt8) : List UInt8 → List UInt8 × List UInt8 × Bool
  | [] => ([], [], false)
  | x :: t => if x = c then ([], t, true) else (x :: (cut1 c t).1, (cut1 c t).2)

theorem cut1_not (c : UInt8) (l : List UInt8) (h : ∀ x ∈ l, x ≠ c) : cut1 c l = (l, [], false) := by
  induction l with
  | nil => rfl
  | cons x l ih => simp [cut1, h x (by simp), ih fun y hy => h y (by simp [hy])]

theorem cut1_at (c : UInt8) (h t : List UInt8) (hh : ∀ x ∈ h, x ≠ c) : cut1 c (h ++ c :: t) = (h, t, true) := by
  induction h with
  | nil => simp [cut1]
  | cons x h ih => simp [cut1, hh x (by simp), ih fun y hy => hh y (by simp [hy])]

theorem cut1_cases (c : UInt8) (l : List UInt8) : (cut1 c l = (l, [], false) ∧ ∀ x ∈ l, x ≠ c) ∨ ∃ h t, l = h ++ c :: t ∧ (∀ x ∈ h, x ≠ c) ∧ cut1 c l = (h, t, true) := by
  induction l with
  | nil => exact .inl ⟨rfl, by simp⟩
  | cons x l ih =>
    by_cases hx : x = c
    · exact .inr ⟨[], l, by simp [hx], by simp, by simp [cut1, hx]⟩
    · rcases ih with ⟨h1, h2⟩ | ⟨h, t, h1, h2, h3⟩
      · exact .inl ⟨by simp [cut1, hx, h1], fun y hy => (List.mem_cons.1 hy).elim (fun e => e ▸ hx) (h2 y)⟩
      · exact .inr ⟨x :: h, t, by simp [h1], fun y hy => (List.mem_cons.1 hy).elim (fun e => e ▸ hx) (h2 y), by simp [cut1, hx, h3]⟩

end Go.Proofs.YtdfkinkihkgdbaaDoor.Uri
