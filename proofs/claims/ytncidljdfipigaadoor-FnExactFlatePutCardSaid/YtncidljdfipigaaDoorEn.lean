/- What packs a text in three ways, as plain functions, and that what is packed is unpacked. Nothing of the program stands here. -/
import Derived.Test.YtncidljdfipigaaDoorDe
namespace Go.Proofs.YtncidljdfipigaaDoor.En
open Go.Proofs.YtncidljdfipigaaDoor.Bt Go.Proofs.YtncidljdfipigaaDoor.Cd Go.Proofs.YtncidljdfipigaaDoor.Hf Go.Proofs.YtncidljdfipigaaDoor.Lz Go.Proofs.YtncidljdfipigaaDoor.De
set_option linter.unusedVariables false
/-- The last place whose number is not above n. -/
def lad (b : List Nat) (n : Nat) : Nat := (b.filter fun x => decide (x ≤ n)).length - 1
set_option maxRecDepth 100000 in
theorem lad_long : ∀ n, n < 61 → 3 ≤ n → lad longBase n < 28 ∧ longBase.getD (lad longBase n) 0 ≤ n ∧ n - longBase.getD (lad longBase n) 0 < 2 ^ longBits.getD (lad longBase n) 0 ∧ longBits.getD (lad longBase n) 0 ≤ 3 := by decide +kernel
set_option maxRecDepth 100000 in
theorem lad_back : ∀ n, n < 251 → 1 ≤ n → lad backBase n < 30 ∧ backBase.getD (lad backBase n) 0 ≤ n ∧ n - backBase.getD (lad backBase n) 0 < 2 ^ backBits.getD (lad backBase n) 0 ∧ backBits.getD (lad backBase n) 0 ≤ 6 := by decide +kernel
def encTok (lit dist : List Nat) (t : Tok) : List Bool :=
  if t.long = 0 then enc lit t.byte.toNat else
    enc lit (257 + lad longBase t.long.toNat) ++ (bitsOf (t.long.toNat - longBase.getD (lad longBase t.long.toNat) 0) (longBits.getD (lad longBase t.long.toNat) 0) ++
      (enc dist (lad backBase t.back.toNat) ++ bitsOf (t.back.toNat - backBase.getD (lad backBase t.back.toNat) 0) (backBits.getD (lad backBase t.back.toNat) 0)))
def encToks (lit dist : List Nat) (l : List Tok) : List Bool := l.flatMap (encTok lit dist) ++ enc lit 256
def storeBits (n : Nat) : List Bool := pad (bitsOf 1 3) ++ bitsOf n 16 ++ bitsOf (65535 - n) 16
def store (t : List Nat) : List Nat := pack (storeBits t.length) ++ t
def fixBits (t : List Nat) : List Bool := bitsOf 1 1 ++ bitsOf 1 2 ++ encToks fixLit fixDist (tokens t)
def fixed (t : List Nat) : List Nat := pack (fixBits t)
def symsL (l : List Tok) : List Nat := l.map fun t => if t.long = 0 then t.byte.toNat else 257 + lad longBase t.long.toNat
def symsB (l : List Tok) : List Nat := (l.filter fun t => decide (t.long ≠ 0)).map fun t => lad backBase t.back.toNat
def cntL (l : List Tok) : List Nat := bump ((List.replicate 286 0).set 256 1) (symsL l)
def cntB (l : List Tok) : List Nat := if symsB l = [] then (List.replicate 30 0).set 0 1 else bump (List.replicate 30 0) (symsB l)
def trimTo (lens : List Nat) (least : Nat) : Nat → Nat
  | 0 => 0
  | n + 1 => if least < n + 1 ∧ lens.getD n 0 = 0 then trimTo lens least n else n + 1
def trim (lens : List Nat) (least : Nat) : List Nat := lens.take (trimTo lens least lens.length)
def ownLit (l : List Tok) : List Nat := trim (fit 15 (cntL l)) 257
def ownDist (l : List Tok) : List Nat := trim (fit 15 (cntB l)) 1
def ownMeta (all : List Nat) : List Nat := fit 7 (bump (List.replicate 19 0) all)
def headBits (lit dist : List Nat) : List Bool :=
  bitsOf (lit.length - 257) 5 ++ bitsOf (dist.length - 1) 5 ++ bitsOf 15 4 ++ (order.flatMap fun k => bitsOf ((ownMeta (lit ++ dist)).getD k 0) 3) ++ (lit ++ dist).flatMap (enc (ownMeta (lit ++ dist)))
def ownBits (t : List Nat) : List Bool := bitsOf 1 1 ++ bitsOf 2 2 ++ headBits (ownLit (tokens t)) (ownDist (tokens t)) ++ encToks (ownLit (tokens t)) (ownDist (tokens t)) (tokens t)
def ownPut (t : List Nat) : List Nat := pack (ownBits t)
/-- The shortest, the first of as short ones. -/
def flatePut (t : List Nat) : List Nat :=
  let a := if (fixed t).length < (store t).length then fixed t else store t
  if (ownPut t).length < a.length then ownPut t else a
theorem num_bits (n x : Nat) (r : List Bool) : num n (bitsOf x n ++ r) = some (x % 2 ^ n, r) := by
  unfold num
  rw [if_pos (by rw [List.length_append, bits_length]; omega)]
  have e1 : (bitsOf x n ++ r).take n = bitsOf x n := by rw [List.take_append, bits_length, Nat.sub_self, List.take_zero, List.append_nil, List.take_of_length_le (by rw [bits_length]; exact Nat.le_refl _)]
  have e2 : (bitsOf x n ++ r).drop n = r := by rw [List.drop_append, bits_length, Nat.sub_self, List.drop_zero, List.drop_of_length_le (by rw [bits_length]; exact Nat.le_refl _), List.nil_append]
  rw [e1, e2, val_bits]
theorem num_small {n x : Nat} (h : x < 2 ^ n) (r : List Bool) : num n (bitsOf x n ++ r) = some (x, r) := by
  rw [num_bits, Nat.mod_eq_of_lt h]
/-- Two codes that hold all symbols of some tokens. -/
structure Has (lit dist : List Nat) (l : List Tok) : Prop where
  fl : Fits lit
  fd : Fits dist
  l15 : ∀ x ∈ lit, x ≤ 15
  d15 : ∀ x ∈ dist, x ≤ 15
  last : 1 ≤ lit.getD 256 0
  byte : ∀ t ∈ l, t.long = 0 → 1 ≤ lit.getD t.byte.toNat 0
  long : ∀ t ∈ l, t.long ≠ 0 → 1 ≤ lit.getD (257 + lad longBase t.long.toNat) 0
  back : ∀ t ∈ l, t.long ≠ 0 → 1 ≤ dist.getD (lad backBase t.back.toNat) 0
theorem lt_of_getD {l : List Nat} {k : Nat} (h : 1 ≤ l.getD k 0) : k < l.length := by
  rcases Nat.lt_or_ge k l.length with h' | h'
  · exact h'
  · rw [getD_over h'] at h; omega
theorem sym_enc' {lens : List Nat} (hf : Fits lens) (h15 : ∀ x ∈ lens, x ≤ 15) {k : Nat} (h : 1 ≤ lens.getD k 0) (rest : List Bool) : sym lens (enc lens k ++ rest) = some (k, rest) :=
  sym_enc hf (lt_of_getD h) h (getD_le h15 k) rest
theorem add_long {out o : List Nat} {t : Tok} (h : add out t = some o) (hl : t.long ≠ 0) : t.byte = 0 ∧ 3 ≤ t.long ∧ t.long ≤ 60 ∧ 1 ≤ t.back ∧ t.back ≤ 250 := by
  unfold add at h
  rw [if_neg hl] at h
  by_cases h1 : t.byte = 0 ∧ 3 ≤ t.long ∧ t.long ≤ 60 ∧ 1 ≤ t.back ∧ t.back ≤ 250 ∧ t.back ≤ (out.length : Int)
  · exact ⟨h1.1, h1.2.1, h1.2.2.1, h1.2.2.2.1, h1.2.2.2.2.1⟩
  · rw [if_neg h1] at h; cases h
theorem add_byte {out o : List Nat} {t : Tok} (h : add out t = some o) (hl : t.long = 0) : t.back = 0 ∧ 0 ≤ t.byte ∧ t.byte ≤ 255 ∧ o = out ++ [t.byte.toNat] := by
  unfold add at h
  rw [if_pos hl] at h
  by_cases h1 : t.back = 0 ∧ 0 ≤ t.byte ∧ t.byte ≤ 255
  · rw [if_pos h1] at h; cases h; exact ⟨h1.1, h1.2.1, h1.2.2, rfl⟩
  · rw [if_neg h1] at h; cases h
theorem Has.tail {lit dist : List Nat} {t : Tok} {l : List Tok} (h : Has lit dist (t :: l)) : Has lit dist l :=
  ⟨h.fl, h.fd, h.l15, h.d15, h.last, fun x hx => h.byte x (by simp [hx]), fun x hx => h.long x (by simp [hx]), fun x hx => h.back x (by simp [hx])⟩
theorem packed_toks {lit dist : List Nat} (rest : List Bool) : ∀ (l : List Tok) (out o : List Nat) (f : Nat), Has lit dist l → text out l = some o → out.length ≤ 300 → 302 ≤ f + out.length →
    packed lit dist f out (l.flatMap (encTok lit dist) ++ (enc lit 256 ++ rest)) = some (o, rest)
  | [], out, o, f, H, ht, ho, hf => by
    obtain ⟨g, rfl⟩ : ∃ g, f = g + 1 := ⟨f - 1, by omega⟩
    cases ht
    rw [packed, List.flatMap_nil, List.nil_append, next_some (sym_enc' H.fl H.l15 H.last rest), if_pos rfl]; rfl
  | t :: l, out, o, f, H, ht, ho, hf => by
    obtain ⟨g, rfl⟩ : ∃ g, f = g + 1 := ⟨f - 1, by omega⟩
    simp only [text] at ht
    cases ha : add out t with
    | none => rw [ha] at ht; cases ht
    | some o1 =>
      rw [ha] at ht
      simp only at ht
      by_cases h300 : o1.length > 300
      · rw [if_pos h300] at ht; cases ht
      rw [if_neg h300] at ht
      obtain ⟨e, hne, he⟩ := add_prefix ha
      have hlen : out.length < o1.length := by rw [he, List.length_append]; have := List.length_pos_iff.2 hne; omega
      have ih := packed_toks rest l o1 o g H.tail ht (by omega) (by omega)
      rw [packed, List.flatMap_cons, List.append_assoc]
      by_cases hl : t.long = 0
      · obtain ⟨_, b0, b1, rfl⟩ := add_byte ha hl
        have := H.byte t (by simp) hl
        rw [encTok, if_pos hl, next_some (sym_enc' H.fl H.l15 this _), if_neg (by omega), if_pos (by omega), if_pos (by rw [List.length_append, List.length_singleton] at hlen h300; omega)]
        exact ih
      · obtain ⟨hb, l3, l60, k1, k250⟩ := add_long ha hl
        have s1 := H.long t (by simp) hl
        have s2 := H.back t (by simp) hl
        obtain ⟨a1, a2, a3, a4⟩ := lad_long t.long.toNat (by omega) (by omega)
        obtain ⟨c1, c2, c3, c4⟩ := lad_back t.back.toNat (by omega) (by omega)
        have et : (⟨0, ((longBase.getD (lad longBase t.long.toNat) 0 + (t.long.toNat - longBase.getD (lad longBase t.long.toNat) 0) : Nat) : Int), ((backBase.getD (lad backBase t.back.toNat) 0 + (t.back.toNat - backBase.getD (lad backBase t.back.toNat) 0) : Nat) : Int)⟩ : Tok) = t := by
          cases t; simp only at *; simp only [Tok.mk.injEq]; omega
        rw [encTok, if_neg hl, List.append_assoc, next_some (sym_enc' H.fl H.l15 s1 _), if_neg (by omega), if_neg (by omega)]
        rw [next_some (x := o1) (r := l.flatMap (encTok lit dist) ++ (enc lit 256 ++ rest)) ?_]
        · exact ih
        · rw [show 257 + lad longBase t.long.toNat - 257 = lad longBase t.long.toNat from by omega, again, if_neg (by omega), List.append_assoc, next_some (num_small a3 _), List.append_assoc, next_some (sym_enc' H.fd H.d15 s2 _), if_neg (by omega), next_some (num_small c3 _)]
          unfold put
          rw [et, ha]
          simp only
          rw [if_pos (by omega)]; rfl
theorem packed_encToks {lit dist : List Nat} {l : List Tok} {o : List Nat} (H : Has lit dist l) (ht : text [] l = some o) (rest : List Bool) : packed lit dist 302 [] (encToks lit dist l ++ rest) = some (o, rest) := by
  unfold encToks
  rw [List.append_assoc]
  exact packed_toks rest l [] o 302 H ht (by simp) (by simp)
theorem packed_encToks_on {lit dist : List Nat} {l : List Tok} {out o : List Nat} (H : Has lit dist l) (ht : text out l = some o) (ho : out.length ≤ 300) (rest : List Bool) : packed lit dist 302 out (encToks lit dist l ++ rest) = some (o, rest) := by
  unfold encToks
  rw [List.append_assoc]
  exact packed_toks rest l out o 302 H ht ho (by omega)
theorem fixLit_ok : okLens fixLit = true := by decide +kernel
theorem fixDist_ok : okLens fixDist = true := by decide +kernel
theorem fixLit_pos : ∀ k, k < 288 → 1 ≤ fixLit.getD k 0 ∧ fixLit.getD k 0 ≤ 9 := by decide +kernel
theorem fixDist_pos : ∀ k, k < 32 → fixDist.getD k 0 = 5 := by decide +kernel
theorem text_adds : ∀ (l : List Tok) (out o : List Nat), text out l = some o → ∀ t ∈ l, ∃ o1 o2, add o1 t = some o2
  | [], _, _, _, t, h => by cases h
  | x :: l, out, o, ht, t, h => by
    simp only [text] at ht
    cases ha : add out x with
    | none => rw [ha] at ht; cases ht
    | some o1 =>
      rw [ha] at ht
      simp only at ht
      split at ht
      · cases ht
      · rcases List.mem_cons.1 h with rfl | h
        · exact ⟨_, _, ha⟩
        · exact text_adds l o1 o ht t h
theorem fixed_has {l : List Tok} {out o : List Nat} (ht : text out l = some o) : Has fixLit fixDist l := by
  refine ⟨ok_fits fixLit_ok, ok_fits fixDist_ok, ok_le fixLit_ok, ok_le fixDist_ok, (fixLit_pos 256 (by omega)).1, fun t h h0 => ?_, fun t h h0 => ?_, fun t h h0 => ?_⟩
  · obtain ⟨o1, o2, ha⟩ := text_adds l out o ht t h
    have := add_byte ha h0
    exact (fixLit_pos _ (by omega)).1
  · obtain ⟨o1, o2, ha⟩ := text_adds l out o ht t h
    have := add_long ha h0
    have := lad_long t.long.toNat (by omega) (by omega)
    exact (fixLit_pos _ (by omega)).1
  · obtain ⟨o1, o2, ha⟩ := text_adds l out o ht t h
    have := add_long ha h0
    have := lad_back t.back.toNat (by omega) (by omega)
    rw [fixDist_pos _ (by omega)]; omega
theorem align_zeros {z : Nat} (h : z < 8) : align (List.replicate z false) = some ((), []) := by
  unfold align
  rw [List.length_replicate, Nat.mod_eq_of_lt h, if_pos]
  · simp
  · simp
/-- A last part, and noughts behind it up to the next whole byte. -/
theorem whole_last {b : List Bool} {o : List Nat} {k z : Nat} (hk : k < 4) (hz : z < 8) (hb : body k [] (b ++ List.replicate z false) = some (o, List.replicate z false)) :
    whole (bitsOf 1 1 ++ (bitsOf k 2 ++ (b ++ List.replicate z false))) = some (o, []) := by
  have hp : part [] (bitsOf 1 1 ++ (bitsOf k 2 ++ (b ++ List.replicate z false))) = some ((o, 1), List.replicate z false) := by
    unfold De.part
    rw [next_some (num_small (by decide) _), next_some (num_small (by omega) _), next_some hb]; rfl
  unfold whole
  rw [next_some (x := o) (r := List.replicate z false)]
  · rw [next_some (align_zeros hz)]; rfl
  · rw [parts, next_some hp, if_pos rfl]; rfl
theorem flate_of {t o : List Nat} (h : whole (unpack t) = some (o, [])) (h7 : t.length ≤ 700) : flate t = some (o, t.length) := by
  unfold flate
  rw [if_neg (by omega), h]
  simp
theorem flate_pack {b : List Bool} {o : List Nat} {k : Nat} (hk : k < 4) (hb : ∀ r, body k [] (b ++ r) = some (o, r)) (h7 : (pack (bitsOf 1 1 ++ (bitsOf k 2 ++ b))).length ≤ 700) :
    flate (pack (bitsOf 1 1 ++ (bitsOf k 2 ++ b))) = some (o, (pack (bitsOf 1 1 ++ (bitsOf k 2 ++ b))).length) := by
  refine flate_of ?_ h7
  rw [unpack_pack']
  unfold pad
  rw [List.append_assoc, List.append_assoc]
  exact whole_last hk (by omega) (hb _)
theorem fixed_flate {t : List Nat} (hb : ∀ x ∈ t, x < 256) (h300 : t.length ≤ 300) (h7 : (fixed t).length ≤ 700) : flate (fixed t) = some (t, (fixed t).length) := by
  have ht := text_tokens hb h300
  unfold fixed fixBits at h7 ⊢
  rw [List.append_assoc] at h7 ⊢
  refine flate_pack (by omega) (fun r => ?_) h7
  unfold body
  rw [if_neg (by omega), if_pos rfl]
  exact packed_encToks (fixed_has ht) ht r
theorem encTok_length {out o : List Nat} {t : Tok} (ha : add out t = some o) : (encTok fixLit fixDist t).length + 9 * out.length ≤ 9 * o.length ∧ (encTok fixLit fixDist t).length ≤ 23 := by
  unfold encTok
  by_cases hl : t.long = 0
  · obtain ⟨_, b0, b1, rfl⟩ := add_byte ha hl
    have := (fixLit_pos t.byte.toNat (by omega)).2
    rw [if_pos hl, List.length_append, List.length_singleton]
    unfold enc
    rw [List.length_reverse, bits_length]; omega
  · obtain ⟨hb, l3, l60, k1, k250⟩ := add_long ha hl
    obtain ⟨a1, a2, a3, a4⟩ := lad_long t.long.toNat (by omega) (by omega)
    obtain ⟨c1, c2, c3, c4⟩ := lad_back t.back.toNat (by omega) (by omega)
    have f1 := (fixLit_pos (257 + lad longBase t.long.toNat) (by omega)).2
    have f2 := fixDist_pos (lad backBase t.back.toNat) (by omega)
    have hlen : o.length = out.length + t.long.toNat := by
      unfold add at ha
      rw [if_neg hl] at ha
      split at ha
      · cases ha; rw [copy_length]
      · cases ha
    rw [if_neg hl]
    simp only [List.length_append, enc, List.length_reverse, bits_length]
    omega
theorem toks_bits : ∀ (l : List Tok) (out o : List Nat), text out l = some o → (l.flatMap (encTok fixLit fixDist)).length + 9 * out.length ≤ 9 * o.length ∧ (l.flatMap (encTok fixLit fixDist)).length ≤ 23 * l.length
  | [], out, o, h => by cases h; simp
  | t :: l, out, o, h => by
    simp only [text] at h
    cases ha : add out t with
    | none => rw [ha] at h; cases h
    | some o1 =>
      rw [ha] at h
      simp only at h
      split at h
      · cases h
      · have ih := toks_bits l o1 o h
        have e := encTok_length ha
        rw [List.flatMap_cons, List.length_append, List.length_cons]
        omega
theorem enc256 : (enc fixLit 256).length = 7 := by
  have : fixLit.getD 256 0 = 7 := by decide +kernel
  unfold enc; rw [List.length_reverse, bits_length, this]
theorem fixBits_length {t : List Nat} (hb : ∀ x ∈ t, x < 256) (h300 : t.length ≤ 300) : 10 ≤ (fixBits t).length ∧ (fixBits t).length ≤ 10 + 9 * t.length ∧ (fixBits t).length ≤ 10 + 23 * (tokens t).length := by
  have := toks_bits _ _ _ (text_tokens hb h300)
  have e := enc256
  unfold fixBits encToks
  simp only [List.length_append, bits_length, List.length_nil] at this ⊢
  omega
theorem fixed_length {t : List Nat} (hb : ∀ x ∈ t, x < 256) (h300 : t.length ≤ 300) : 2 ≤ (fixed t).length ∧ (fixed t).length ≤ 339 ∧ (fixed t).length ≤ (17 + 23 * (tokens t).length) / 8 := by
  have := fixBits_length hb h300
  unfold fixed
  rw [pack_length]
  omega
theorem storeBits_length (n : Nat) : (storeBits n).length = 40 := by
  unfold storeBits
  rw [List.length_append, List.length_append, pad_length, bits_length, bits_length, bits_length]
theorem store_length (t : List Nat) : (store t).length = t.length + 5 := by
  unfold store
  rw [List.length_append, pack_length, storeBits_length]; omega
theorem pad3 (x : Nat) (r : List Bool) : pad (bitsOf x 3) ++ r = bitsOf x 3 ++ (List.replicate 5 false ++ r) := by
  unfold pad; rw [bits_length, List.append_assoc]
theorem align5 {r : List Bool} (h : r.length % 8 = 0) : align (List.replicate 5 false ++ r) = some ((), r) := by
  have hl : (List.replicate 5 false ++ r).length % 8 = 5 := by rw [List.length_append, List.length_replicate]; omega
  unfold align
  rw [hl]
  have e1 : (List.replicate 5 false ++ r).take 5 = List.replicate 5 false := by rw [List.take_append]; simp
  have e2 : (List.replicate 5 false ++ r).drop 5 = r := by rw [List.drop_append]; simp
  rw [e1, e2]; simp
/-- A text that is stored, ahead of more. -/
theorem stored_is {t out : List Nat} {r : List Bool} (hb : ∀ x ∈ t, x < 256) (h : out.length + t.length ≤ 300) (hr : r.length % 8 = 0) :
    stored out (List.replicate 5 false ++ (bitsOf t.length 16 ++ (bitsOf (65535 - t.length) 16 ++ (unpack t ++ r)))) = some (out ++ t, r) := by
  unfold stored
  rw [next_some (align5 (by simp only [List.length_append, bits_length, unpack_length]; omega)), next_some (num_small (by omega) _), next_some (num_small (by omega) _), if_pos ⟨by omega, h⟩]
  have hbytes : bytes t.length (unpack t ++ r) = some (t, r) := by
    unfold bytes
    have hl : (unpack t).length = 8 * t.length := unpack_length t
    rw [if_pos (by rw [List.length_append]; omega), packN_take _ _ _ (by omega), packN_unpack t hb, List.drop_append, hl, Nat.sub_self, List.drop_zero, List.drop_of_length_le (by omega), List.nil_append]
  rw [next_some hbytes]; rfl
theorem bits13 : bitsOf 1 3 = bitsOf 1 1 ++ bitsOf 0 2 := by decide
theorem unpack_store {t : List Nat} : unpack (store t) = bitsOf 1 1 ++ (bitsOf 0 2 ++ (List.replicate 5 false ++ (bitsOf t.length 16 ++ (bitsOf (65535 - t.length) 16 ++ (unpack t ++ []))))) := by
  unfold store
  rw [unpack_append, unpack_pack', pad_of _ (by rw [storeBits_length]), storeBits, List.append_assoc, pad3, bits13]
  simp only [List.append_assoc, List.append_nil]
theorem store_flate {t : List Nat} (hb : ∀ x ∈ t, x < 256) (h300 : t.length ≤ 300) : flate (store t) = some (t, (store t).length) := by
  refine flate_of ?_ (by rw [store_length]; omega)
  rw [unpack_store]
  have := whole_last (k := 0) (z := 0) (b := List.replicate 5 false ++ (bitsOf t.length 16 ++ (bitsOf (65535 - t.length) 16 ++ (unpack t ++ [])))) (o := t) (by omega) (by omega) (by
    unfold body
    rw [if_pos rfl]
    simp only [List.replicate_zero, List.append_nil]
    have := stored_is (t := t) (out := []) (r := []) hb (by simpa using h300) rfl
    simpa using this)
  simpa using this
end Go.Proofs.YtncidljdfipigaaDoor.En
