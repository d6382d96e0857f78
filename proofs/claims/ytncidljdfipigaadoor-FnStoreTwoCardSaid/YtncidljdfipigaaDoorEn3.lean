/- A stored text whose length is not told rightly; two parts one behind the other. Nothing of the program stands here. -/
import Derived.Test.YtncidljdfipigaaDoorEn2
namespace Go.Proofs.YtncidljdfipigaaDoor.En
open Go.Proofs.YtncidljdfipigaaDoor.Bt Go.Proofs.YtncidljdfipigaaDoor.Cd Go.Proofs.YtncidljdfipigaaDoor.Hf Go.Proofs.YtncidljdfipigaaDoor.Lz Go.Proofs.YtncidljdfipigaaDoor.De
set_option linter.unusedVariables false
theorem bits16 (x : Nat) : bitsOf x 16 = bitsOf (x % 256) 8 ++ bitsOf (x / 256) 8 := by
  rw [show (16 : Nat) = 8 + 8 from rfl, bits_add, ← bits_mod 8 x]
theorem store_bytes (t : List Nat) (h : t.length ≤ 300) : store t = 1 :: t.length % 256 :: t.length / 256 :: (65535 - t.length) % 256 :: (65535 - t.length) / 256 :: t := by
  have e : storeBits t.length = unpack [1, t.length % 256, t.length / 256, (65535 - t.length) % 256, (65535 - t.length) / 256] := by
    unfold storeBits
    rw [bits16, bits16]
    simp only [unpack_cons, List.append_assoc]
    rw [show pad (bitsOf 1 3) = bitsOf 1 8 from by decide]
    simp [unpack]
  unfold store
  rw [e, pack_unpack]
  · rfl
  · intro x hx
    simp only [List.mem_cons, List.not_mem_nil, or_false] at hx
    omega
theorem unpack_head (x a b c d : Nat) (t : List Nat) (hx : x = 1 ∨ x = 0) (ha : a < 256) (hb : b < 256) (hc : c < 256) (hd : d < 256) : unpack (x :: a :: b :: c :: d :: t) = bitsOf x 1 ++ (bitsOf 0 2 ++ (List.replicate 5 false ++ (bitsOf (a + 256 * b) 16 ++ (bitsOf (c + 256 * d) 16 ++ unpack t)))) := by
  have e : ∀ p q : Nat, p < 256 → q < 256 → bitsOf (p + 256 * q) 16 = bitsOf p 8 ++ bitsOf q 8 := fun p q hp hq => by
    rw [bits16, show (p + 256 * q) % 256 = p from by omega, show (p + 256 * q) / 256 = q from by omega]
  rw [e a b ha hb, e c d hc hd]
  simp only [unpack_cons, List.append_assoc]
  rcases hx with rfl | rfl <;> rfl
theorem flate_bent (a b c d : Nat) (t : List Nat) (ha : a < 256) (hb : b < 256) (hc : c < 256) (hd : d < 256) (hne : a + 256 * b + (c + 256 * d) ≠ 65535) : flate (1 :: a :: b :: c :: d :: t) = none := by
  have h : whole (unpack (1 :: a :: b :: c :: d :: t)) = none := by
    rw [unpack_head 1 a b c d t (.inl rfl) ha hb hc hd]
    unfold whole
    apply next_none
    rw [parts]
    apply next_none
    unfold De.part
    rw [next_some (num_small (by decide) _), next_some (num_small (by decide) _)]
    apply next_none
    unfold body
    rw [if_pos rfl]
    unfold stored
    rw [next_some (align5 (by simp only [List.length_append, bits_length, unpack_length]; omega)), next_some (num_small (by omega) _), next_some (num_small (by omega) _), if_neg (fun h => hne h.1)]
    rfl
  unfold flate
  split
  · rfl
  · rw [h]
theorem xor4 : ∀ a, a < 256 → a ^^^ 4 < 256 ∧ a ^^^ 4 ≠ a := by decide +kernel
/-- One byte of the told length, or of what it is told by once more, is another one. -/
theorem store_bent (t : List Nat) (h : t.length ≤ 300) (k : Nat) (h1 : 1 ≤ k) (h4 : k ≤ 4) : flate ((store t).take k ++ ((store t).getD k 0 ^^^ 4) :: (store t).drop (k + 1)) = none := by
  rw [store_bytes t h]
  have b0 : t.length % 256 < 256 := by omega
  have b1 : t.length / 256 < 256 := by omega
  have b2 : (65535 - t.length) % 256 < 256 := by omega
  have b3 : (65535 - t.length) / 256 < 256 := by omega
  have x0 := xor4 _ b0
  have x1 := xor4 _ b1
  have x2 := xor4 _ b2
  have x3 := xor4 _ b3
  have hk : k = 1 ∨ k = 2 ∨ k = 3 ∨ k = 4 := by omega
  rcases hk with rfl | rfl | rfl | rfl
  · refine flate_bent _ _ _ _ t x0.1 b1 b2 b3 ?_
    simp only [List.getD_cons_succ, List.getD_cons_zero]
    generalize t.length % 256 ^^^ 4 = y at *
    omega
  · refine flate_bent _ _ _ _ t b0 x1.1 b2 b3 ?_
    simp only [List.getD_cons_succ, List.getD_cons_zero]
    generalize t.length / 256 ^^^ 4 = y at *
    omega
  · refine flate_bent _ _ _ _ t b0 b1 x2.1 b3 ?_
    simp only [List.getD_cons_succ, List.getD_cons_zero]
    generalize (65535 - t.length) % 256 ^^^ 4 = y at *
    omega
  · refine flate_bent _ _ _ _ t b0 b1 b2 x3.1 ?_
    simp only [List.getD_cons_succ, List.getD_cons_zero]
    generalize (65535 - t.length) / 256 ^^^ 4 = y at *
    omega
theorem copy_shift (p out : List Nat) (back : Nat) (h1 : 1 ≤ back) (h : back ≤ out.length) : ∀ n, copy (p ++ out) back n = p ++ copy out back n
  | 0 => rfl
  | n + 1 => by
    simp only [copy]
    have hl := copy_length out back n
    rw [copy_shift p out back h1 h n, List.append_assoc]
    congr 2
    congr 1
    rw [List.getD_eq_getElem?_getD, List.getD_eq_getElem?_getD, List.length_append, List.getElem?_append_right (by omega)]
    congr 2
    omega
theorem add_shift {p out o : List Nat} {t : Tok} (h : add out t = some o) : add (p ++ out) t = some (p ++ o) := by
  by_cases hl : t.long = 0
  · obtain ⟨b, b0, b1, rfl⟩ := add_byte h hl
    unfold add
    rw [if_pos hl, if_pos ⟨b, b0, b1⟩, List.append_assoc]
  · have hh := h
    unfold add at h
    rw [if_neg hl] at h
    by_cases hc : t.byte = 0 ∧ 3 ≤ t.long ∧ t.long ≤ 60 ∧ 1 ≤ t.back ∧ t.back ≤ 250 ∧ t.back ≤ (out.length : Int)
    · rw [if_pos hc] at h
      cases h
      unfold add
      rw [if_neg hl, if_pos (by rw [List.length_append]; omega), copy_shift _ _ _ (by omega) (by omega)]
    · rw [if_neg hc] at h; cases h
theorem text_shift {p : List Nat} : ∀ (l : List Tok) (out o : List Nat), text out l = some o → p.length + o.length ≤ 300 → text (p ++ out) l = some (p ++ o)
  | [], out, o, h, _ => by cases h; rfl
  | t :: l, out, o, h, hp => by
    simp only [text] at h
    cases ha : add out t with
    | none => rw [ha] at h; cases h
    | some o1 =>
      rw [ha] at h
      simp only at h
      split at h
      · cases h
      · have ih := text_shift l o1 o h hp
        simp only [text]
        rw [add_shift ha]
        simp only
        have hlen : o1.length ≤ o.length := by
          have : ∀ (l : List Tok) (a b : List Nat), text a l = some b → a.length ≤ b.length := by
            intro l
            induction l with
            | nil => intro a b h; cases h; exact Nat.le_refl _
            | cons t l ih =>
              intro a b h
              simp only [text] at h
              cases ha : add a t with
              | none => rw [ha] at h; cases h
              | some c =>
                rw [ha] at h
                simp only at h
                split at h
                · cases h
                · obtain ⟨e, _, rfl⟩ := add_prefix ha
                  have := ih _ _ h
                  rw [List.length_append] at this; omega
          exact this l o1 o h
        rw [if_neg (by rw [List.length_append]; omega)]
        exact ih
theorem packed_over {lit dist : List Nat} {p : List Nat} (rest : List Bool) : ∀ (l : List Tok) (out o : List Nat) (f : Nat), Has lit dist l → text out l = some o → p.length + out.length ≤ 300 → 300 < p.length + o.length →
    packed lit dist f (p ++ out) (l.flatMap (encTok lit dist) ++ (enc lit 256 ++ rest)) = none
  | _, _, _, 0, _, _, _, _ => rfl
  | [], out, o, g + 1, H, ht, ho, hf => by cases ht; omega
  | t :: l, out, o, g + 1, H, ht, ho, hf => by
    simp only [text] at ht
    cases ha : add out t with
    | none => rw [ha] at ht; cases ht
    | some o1 =>
      rw [ha] at ht
      simp only at ht
      by_cases h300 : o1.length > 300
      · rw [if_pos h300] at ht; cases ht
      rw [if_neg h300] at ht
      have hs := add_shift (p := p) ha
      rw [packed, List.flatMap_cons, List.append_assoc]
      by_cases hl : t.long = 0
      · obtain ⟨_, b0, b1, rfl⟩ := add_byte ha hl
        have := H.byte t (by simp) hl
        rw [encTok, if_pos hl, next_some (sym_enc' H.fl H.l15 this _), if_neg (by omega), if_pos (by omega)]
        by_cases hh : (p ++ out).length < 300
        · rw [if_pos hh, List.append_assoc]
          exact packed_over rest l _ o g H.tail ht (by rw [List.length_append] at hh; rw [List.length_append, List.length_singleton]; omega) hf
        · rw [if_neg hh]; rfl
      · obtain ⟨hb, l3, l60, k1, k250⟩ := add_long ha hl
        have s1 := H.long t (by simp) hl
        have s2 := H.back t (by simp) hl
        obtain ⟨a1, a2, a3, a4⟩ := lad_long t.long.toNat (by omega) (by omega)
        obtain ⟨c1, c2, c3, c4⟩ := lad_back t.back.toNat (by omega) (by omega)
        have et : (⟨0, ((longBase.getD (lad longBase t.long.toNat) 0 + (t.long.toNat - longBase.getD (lad longBase t.long.toNat) 0) : Nat) : Int), ((backBase.getD (lad backBase t.back.toNat) 0 + (t.back.toNat - backBase.getD (lad backBase t.back.toNat) 0) : Nat) : Int)⟩ : Tok) = t := by
          cases t; simp only at *; simp only [Tok.mk.injEq]; omega
        rw [encTok, if_neg hl, List.append_assoc, next_some (sym_enc' H.fl H.l15 s1 _), if_neg (by omega), if_neg (by omega)]
        have hag : ∀ r, again dist (p ++ out) (257 + lad longBase t.long.toNat - 257) ((bitsOf (t.long.toNat - longBase.getD (lad longBase t.long.toNat) 0) (longBits.getD (lad longBase t.long.toNat) 0) ++
      (enc dist (lad backBase t.back.toNat) ++ bitsOf (t.back.toNat - backBase.getD (lad backBase t.back.toNat) 0) (backBits.getD (lad backBase t.back.toNat) 0))) ++ r) = if (p ++ o1).length ≤ 300 then some (p ++ o1, r) else none := by
          intro r
          rw [show 257 + lad longBase t.long.toNat - 257 = lad longBase t.long.toNat from by omega, again, if_neg (by omega), List.append_assoc, next_some (num_small a3 _), List.append_assoc, next_some (sym_enc' H.fd H.d15 s2 _), if_neg (by omega), next_some (num_small c3 _)]
          unfold put
          rw [et, hs]
          simp only
          split <;> rfl
        by_cases hh : (p ++ o1).length ≤ 300
        · rw [next_some (x := p ++ o1) (r := l.flatMap (encTok lit dist) ++ (enc lit 256 ++ rest)) (by rw [hag, if_pos hh])]
          exact packed_over rest l o1 o g H.tail ht (by rw [List.length_append] at hh; exact hh) hf
        · exact next_none (by rw [hag, if_neg hh])
theorem fixed_bits (t : List Nat) : unpack (fixed t) = bitsOf 1 1 ++ (bitsOf 1 2 ++ (encToks fixLit fixDist (tokens t) ++ List.replicate ((8 - (fixBits t).length % 8) % 8) false)) := by
  unfold fixed
  rw [unpack_pack']
  unfold pad
  conv => lhs; lhs; unfold fixBits
  simp only [List.append_assoc]
theorem store_two (s t : List Nat) (hs : ∀ x ∈ s, x < 256) (ht : ∀ x ∈ t, x < 256) (h1 : s.length ≤ 300) (h2 : t.length ≤ 300) (h7 : (store s).length + (fixed t).length ≤ 700) :
    flate (0 :: ((store s).drop 1 ++ fixed t)) = if s.length + t.length ≤ 300 then some (s ++ t, (store s).length + (fixed t).length) else none := by
  have hx := text_tokens ht h2
  have e0 : 0 :: ((store s).drop 1 ++ fixed t) = 0 :: s.length % 256 :: s.length / 256 :: (65535 - s.length) % 256 :: (65535 - s.length) / 256 :: (s ++ fixed t) := by
    rw [store_bytes s h1]; rfl
  have hl : (0 :: ((store s).drop 1 ++ fixed t)).length = (store s).length + (fixed t).length := by
    rw [List.length_cons, List.length_append, List.length_drop, store_length]; omega
  have hf8 : (unpack (fixed t)).length % 8 = 0 := by rw [unpack_length]; omega
  have first : ∀ f, parts (f + 1) [] (unpack (0 :: ((store s).drop 1 ++ fixed t))) = parts f s (unpack (fixed t)) := by
    intro f
    rw [e0, unpack_head 0 _ _ _ _ _ (.inr rfl) (by omega) (by omega) (by omega) (by omega), show s.length % 256 + 256 * (s.length / 256) = s.length from by omega, show (65535 - s.length) % 256 + 256 * ((65535 - s.length) / 256) = 65535 - s.length from by omega]
    rw [parts]
    have hp : De.part [] (bitsOf 0 1 ++ (bitsOf 0 2 ++ (List.replicate 5 false ++ (bitsOf s.length 16 ++ (bitsOf (65535 - s.length) 16 ++ unpack (s ++ fixed t)))))) = some ((s, 0), unpack (fixed t)) := by
      unfold De.part
      rw [next_some (num_small (by decide) _), next_some (num_small (by decide) _)]
      unfold body
      rw [if_pos rfl, unpack_append, next_some (stored_is hs (by simpa using h1) hf8)]; rfl
    rw [next_some hp, if_neg (show ¬ ((0 : Nat) = 1) by omega)]
  by_cases h : s.length + t.length ≤ 300
  · rw [if_pos h]
    have hpk := packed_encToks_on (fixed_has (out := []) hx) (text_shift (p := s) (tokens t) [] t hx (by omega)) (by simpa using h1) (List.replicate ((8 - (fixBits t).length % 8) % 8) false)
    rw [List.append_nil] at hpk
    have hw : whole (unpack (0 :: ((store s).drop 1 ++ fixed t))) = some (s ++ t, []) := by
      unfold whole
      rw [next_some (x := s ++ t) (r := List.replicate ((8 - (fixBits t).length % 8) % 8) false)]
      · rw [next_some (align_zeros (by omega))]; rfl
      · rw [first 5999, parts, fixed_bits]
        have hp : De.part s (bitsOf 1 1 ++ (bitsOf 1 2 ++ (encToks fixLit fixDist (tokens t) ++ List.replicate ((8 - (fixBits t).length % 8) % 8) false))) = some ((s ++ t, 1), List.replicate ((8 - (fixBits t).length % 8) % 8) false) := by
          unfold De.part
          rw [next_some (num_small (by decide) _), next_some (num_small (by decide) _)]
          unfold body
          rw [if_neg (by decide), if_pos rfl, next_some hpk]; rfl
        rw [next_some hp, if_pos rfl]; rfl
    rw [flate_of hw (by rw [hl]; exact h7), hl]
  · rw [if_neg h]
    have hpk : packed fixLit fixDist 302 s (encToks fixLit fixDist (tokens t) ++ List.replicate ((8 - (fixBits t).length % 8) % 8) false) = none := by
      unfold encToks
      rw [List.append_assoc]
      have := packed_over (p := s) (List.replicate ((8 - (fixBits t).length % 8) % 8) false) (tokens t) [] t 302 (fixed_has (out := []) hx) hx (by simpa using h1) (by omega)
      rw [List.append_nil] at this
      exact this
    have hw : whole (unpack (0 :: ((store s).drop 1 ++ fixed t))) = none := by
      unfold whole
      apply next_none
      rw [first 5999, parts, fixed_bits]
      apply next_none
      unfold De.part
      rw [next_some (num_small (by decide) _), next_some (num_small (by decide) _)]
      apply next_none
      unfold body
      rw [if_neg (by decide), if_pos rfl, hpk]
    unfold flate
    rw [hw]
    split <;> rfl
end Go.Proofs.YtncidljdfipigaaDoor.En
