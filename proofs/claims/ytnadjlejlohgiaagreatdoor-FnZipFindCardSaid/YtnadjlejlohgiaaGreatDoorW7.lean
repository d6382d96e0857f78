/- Own texts joined: Lz. -/
/- Tokens of a text, and the text that tokens make, as plain functions over lists of numbers, and what is true of them. Nothing of the program stands here. -/
namespace Go.Proofs.YtnadjlejlohgiaaGreatDoor.Lz
/-- A token: a byte, or so many bytes that stand so far back. -/
structure Tok where
  byte : Int
  long : Int
  back : Int
  deriving DecidableEq
/-- How many places from p on hold what the places from q on hold: at most so many. -/
def run (t : List Nat) (p q : Nat) : Nat → Nat
  | 0 => 0
  | f + 1 => if p < t.length ∧ t[p]? = t[q]? then run t (p + 1) (q + 1) f + 1 else 0
theorem run_le (t : List Nat) : ∀ (f p q : Nat), run t p q f ≤ f
  | 0, _, _ => Nat.le_refl _
  | f + 1, p, q => by
    unfold run
    by_cases h : p < t.length ∧ t[p]? = t[q]?
    · rw [if_pos h]; have := run_le t f (p + 1) (q + 1); omega
    · rw [if_neg h]; omega
theorem run_lt (t : List Nat) : ∀ (f p q i : Nat), i < run t p q f → p + i < t.length ∧ t[p + i]? = t[q + i]?
  | 0, _, _, i => by intro h; simp [run] at h
  | f + 1, p, q, i => by
    intro h
    unfold run at h
    by_cases hc : p < t.length ∧ t[p]? = t[q]?
    · rw [if_pos hc] at h
      cases i with
      | zero => exact hc
      | succ i =>
        have := run_lt t f (p + 1) (q + 1) i (by omega)
        rw [show p + (i + 1) = p + 1 + i from by omega, show q + (i + 1) = q + 1 + i from by omega]
        exact this
    · rw [if_neg hc] at h; omega
theorem run_bound (t : List Nat) (f p q : Nat) : run t p q f ≤ t.length - p := by
  by_cases h : run t p q f = 0
  · omega
  · have := (run_lt t f p q (run t p q f - 1) (by omega)).1
    omega
/-- How many bytes from a place on are the same as so far back; at most 60. -/
def mlen (t : List Nat) (at_ back : Nat) : Nat := run t at_ (at_ - back) 60
/-- The longest of the first j distances, and the least such distance. -/
def best (t : List Nat) (at_ : Nat) : Nat → Nat × Nat
  | 0 => (0, 0)
  | j + 1 => if mlen t at_ (j + 1) > (best t at_ j).1 then (mlen t at_ (j + 1), j + 1) else best t at_ j
theorem best_form (t : List Nat) (a : Nat) : ∀ j, ((best t a j).1 = 0 ∧ (best t a j).2 = 0) ∨ (1 ≤ (best t a j).2 ∧ (best t a j).2 ≤ j ∧ (best t a j).1 = mlen t a (best t a j).2 ∧ 0 < (best t a j).1)
  | 0 => .inl ⟨rfl, rfl⟩
  | j + 1 => by
    unfold best
    by_cases h : mlen t a (j + 1) > (best t a j).1
    · rw [if_pos h]; exact .inr ⟨by omega, Nat.le_refl _, rfl, by simp only; omega⟩
    · rw [if_neg h]
      rcases best_form t a j with h0 | ⟨h1, h2, h3, h4⟩
      · exact .inl h0
      · exact .inr ⟨h1, by omega, h3, h4⟩
theorem best_le (t : List Nat) (a j : Nat) : (best t a j).1 ≤ 60 ∧ (best t a j).1 ≤ t.length - a := by
  rcases best_form t a j with h | ⟨_, _, h, _⟩
  · omega
  · rw [h]; exact ⟨run_le _ _ _ _, run_bound _ _ _ _⟩
theorem mlen_le (t : List Nat) (a b : Nat) : mlen t a b ≤ 60 := run_le _ _ _ _
theorem best_le_60 (t : List Nat) (a j : Nat) : (best t a j).1 ≤ 60 := (best_le t a j).1
/-- Tokens from a place on. -/
def toks (t : List Nat) : Nat → Nat → List Tok
  | 0, _ => []
  | f + 1, a => if a < t.length then (if (best t a (min 250 a)).1 < 3 then ⟨(t.getD a 0 : Nat), 0, 0⟩ :: toks t f (a + 1) else ⟨0, (best t a (min 250 a)).1, (best t a (min 250 a)).2⟩ :: toks t f (a + (best t a (min 250 a)).1)) else []
def tokens (t : List Nat) : List Tok := toks t t.length 0
theorem toks_more (t : List Nat) : ∀ (f g a : Nat), t.length - a ≤ f → t.length - a ≤ g → toks t f a = toks t g a
  | 0, g, a, h, _ => by
    cases g with
    | zero => rfl
    | succ g => simp only [toks]; rw [if_neg (by omega)]
  | f + 1, g, a, h, h' => by
    by_cases ha : a < t.length
    · cases g with
      | zero => omega
      | succ g =>
        simp only [toks]
        rw [if_pos ha, if_pos ha]
        by_cases hb : (best t a (min 250 a)).1 < 3
        · rw [if_pos hb, if_pos hb, toks_more t f g (a + 1) (by omega) (by omega)]
        · rw [if_neg hb, if_neg hb, toks_more t f g _ (by omega) (by omega)]
    · have : ∀ g, toks t g a = [] := fun g => by cases g <;> simp [toks, ha]
      rw [this, this]
/-- So many bytes, one by one those that stand so far back. -/
def copy (out : List Nat) (back : Nat) : Nat → List Nat
  | 0 => out
  | n + 1 => copy out back n ++ [(copy out back n).getD ((copy out back n).length - back) 0]
theorem copy_length (out : List Nat) (back : Nat) : ∀ n, (copy out back n).length = out.length + n
  | 0 => rfl
  | n + 1 => by simp only [copy, List.length_append, List.length_cons, List.length_nil, copy_length out back n]; omega
/-- What a token makes behind bytes. -/
def add (out : List Nat) (t : Tok) : Option (List Nat) :=
  if t.long = 0 then (if t.back = 0 ∧ 0 ≤ t.byte ∧ t.byte ≤ 255 then some (out ++ [t.byte.toNat]) else none)
  else if t.byte = 0 ∧ 3 ≤ t.long ∧ t.long ≤ 60 ∧ 1 ≤ t.back ∧ t.back ≤ 250 ∧ t.back ≤ (out.length : Int) then some (copy out t.back.toNat t.long.toNat) else none
/-- The text that tokens make behind bytes. -/
def text : List Nat → List Tok → Option (List Nat)
  | out, [] => some out
  | out, t :: r => match add out t with
    | none => none
    | some o => if o.length > 300 then none else text o r
theorem copy_prefix (out : List Nat) (back : Nat) : ∀ n, ∃ e, copy out back n = out ++ e ∧ e.length = n
  | 0 => ⟨[], by simp [copy], rfl⟩
  | n + 1 => by
    obtain ⟨e, h, hl⟩ := copy_prefix out back n
    refine ⟨e ++ [(copy out back n).getD ((copy out back n).length - back) 0], ?_, by simp [hl]⟩
    simp only [copy]
    rw [h, List.append_assoc]
theorem add_prefix {out o : List Nat} {t : Tok} (h : add out t = some o) : ∃ e, e ≠ [] ∧ o = out ++ e := by
  unfold add at h
  by_cases h0 : t.long = 0
  · rw [if_pos h0] at h
    by_cases h1 : t.back = 0 ∧ 0 ≤ t.byte ∧ t.byte ≤ 255
    · rw [if_pos h1] at h
      exact ⟨_, by simp, (Option.some.inj h).symm⟩
    · rw [if_neg h1] at h; cases h
  · rw [if_neg h0] at h
    by_cases h1 : t.byte = 0 ∧ 3 ≤ t.long ∧ t.long ≤ 60 ∧ 1 ≤ t.back ∧ t.back ≤ 250 ∧ t.back ≤ (out.length : Int)
    · rw [if_pos h1] at h
      obtain ⟨e, he, hl⟩ := copy_prefix out t.back.toNat t.long.toNat
      refine ⟨e, ?_, by rw [← he]; exact (Option.some.inj h).symm⟩
      intro hn
      subst hn
      simp at hl
      omega
    · rw [if_neg h1] at h; cases h
theorem byte_ok {t : List Nat} {a : Nat} (hb : ∀ x ∈ t, x < 256) (h : a < t.length) : add (t.take a) ⟨(t.getD a 0 : Nat), 0, 0⟩ = some (t.take (a + 1)) := by
  have hx : t.getD a 0 = t[a] := by rw [List.getD_eq_getElem?_getD, List.getElem?_eq_getElem h]; rfl
  have := hb _ (List.getElem_mem h)
  unfold add
  dsimp only
  rw [if_pos rfl, hx, if_pos ⟨rfl, by omega, by omega⟩, List.take_succ_eq_append_getElem h]
  simp
theorem copy_run {t : List Nat} {a back : Nat} (h1 : 1 ≤ back) (h2 : back ≤ a) (ha : a ≤ t.length) : ∀ n, n ≤ mlen t a back → copy (t.take a) back n = t.take (a + n)
  | 0, _ => rfl
  | n + 1, h => by
    have ih := copy_run h1 h2 ha n (by omega)
    obtain ⟨hl, he⟩ := run_lt t 60 a (a - back) n h
    simp only [copy]
    rw [ih, List.length_take, show min (a + n) t.length = a + n from by omega]
    rw [show a + (n + 1) = a + n + 1 from by omega, List.take_succ_eq_append_getElem hl]
    congr 1
    congr 1
    rw [List.getD_eq_getElem?_getD, List.getElem?_take, if_pos (by omega), show a + n - back = a - back + n from by omega, ← he, List.getElem?_eq_getElem hl]
    rfl
theorem long_ok {t : List Nat} {a : Nat} (h : a < t.length) (h3 : ¬ (best t a (min 250 a)).1 < 3) : add (t.take a) ⟨0, (best t a (min 250 a)).1, (best t a (min 250 a)).2⟩ = some (t.take (a + (best t a (min 250 a)).1)) := by
  have hl := best_le t a (min 250 a)
  rcases best_form t a (min 250 a) with h0 | ⟨f1, f2, f3, f4⟩
  · omega
  unfold add
  dsimp only
  rw [if_neg (by omega), if_pos ⟨rfl, by omega, by omega, by omega, by omega, by rw [List.length_take]; omega⟩]
  simp only [Int.toNat_natCast]
  rw [copy_run f1 (by omega) (by omega) _ (by rw [← f3]; exact Nat.le_refl _)]
theorem text_toks {t : List Nat} (hb : ∀ x ∈ t, x < 256) (h300 : t.length ≤ 300) : ∀ f a, t.length - a ≤ f → a ≤ t.length → text (t.take a) (toks t f a) = some t
  | 0, a, h, h' => by
    simp only [toks, text]
    rw [List.take_of_length_le (by omega)]
  | f + 1, a, h, h' => by
    simp only [toks]
    by_cases ha : a < t.length
    · rw [if_pos ha]
      by_cases h3 : (best t a (min 250 a)).1 < 3
      · rw [if_pos h3]
        simp only [text]
        rw [byte_ok hb ha]
        simp only
        rw [if_neg (by rw [List.length_take]; omega)]
        exact text_toks hb h300 f (a + 1) (by omega) (by omega)
      · rw [if_neg h3]
        have hl := best_le t a (min 250 a)
        simp only [text]
        rw [long_ok ha h3]
        simp only
        rw [if_neg (by rw [List.length_take]; omega)]
        exact text_toks hb h300 f _ (by omega) (by omega)
    · rw [if_neg ha]
      simp only [text]
      rw [List.take_of_length_le (by omega)]
theorem text_tokens {t : List Nat} (hb : ∀ x ∈ t, x < 256) (h300 : t.length ≤ 300) : text [] (tokens t) = some t := by
  have := text_toks hb h300 t.length 0 (by omega) (by omega)
  simpa [tokens] using this
theorem toks_length (t : List Nat) : ∀ f a, a ≤ t.length → (toks t f a).length ≤ t.length - a
  | 0, a, _ => by simp [toks]
  | f + 1, a, h => by
    simp only [toks]
    by_cases ha : a < t.length
    · rw [if_pos ha]
      by_cases h3 : (best t a (min 250 a)).1 < 3
      · rw [if_pos h3]
        have := toks_length t f (a + 1) (by omega)
        simp only [List.length_cons]; omega
      · rw [if_neg h3]
        have hl := best_le t a (min 250 a)
        have := toks_length t f (a + (best t a (min 250 a)).1) (by omega)
        simp only [List.length_cons]; omega
    · rw [if_neg ha]; simp
theorem tokens_length (t : List Nat) : (tokens t).length ≤ t.length := toks_length t _ 0 (Nat.zero_le _)
end Go.Proofs.YtnadjlejlohgiaaGreatDoor.Lz

