/- Own texts joined: En. -/
import Derived.Test.YtnadjlejlohgiaaGreatDoorS16
/- What packs a text in three ways, as plain functions, and that what is packed is unpacked. Nothing of the program stands here. -/
namespace Go.Proofs.YtnadjlejlohgiaaGreatDoor.En
open Go.Proofs.YtnadjlejlohgiaaGreatDoor.Bt Go.Proofs.YtnadjlejlohgiaaGreatDoor.Cd Go.Proofs.YtnadjlejlohgiaaGreatDoor.Hf Go.Proofs.YtnadjlejlohgiaaGreatDoor.Lz Go.Proofs.YtnadjlejlohgiaaGreatDoor.De
set_option linter.unusedVariables false
/-- The last place whose number is not above n. -/
def lad (b : List Nat) (n : Nat) : Nat := (b.filter fun x => decide (x ≤ n)).length - 1
set_option maxRecDepth 100000 in
theorem lad_long : ∀ n, n < 61 → 3 ≤ n → lad longBase n < 28 ∧ longBase.getD (lad longBase n) 0 ≤ n ∧ n - longBase.getD (lad longBase n) 0 < 2 ^ longBits.getD (lad longBase n) 0 ∧ longBits.getD (lad longBase n) 0 ≤ 3 := by decide +kernel
set_option maxRecDepth 100000 in
theorem lad_back : ∀ n, n < 251 → 1 ≤ n → lad backBase n < 30 ∧ backBase.getD (lad backBase n) 0 ≤ n ∧ n - backBase.getD (lad backBase n) 0 < 2 ^ backBits.getD (lad backBase n) 0 ∧ backBits.getD (lad backBase n) 0 ≤ 6 := by decide +kernel
def encTok (lit dist : List Nat) (t : Tok) : List Bool :=
  if t.long = 0 then enc lit t.byte.toNat else
    enc lit (257 + lad longBase t.long.toNat) ++ (bitsOf (t.long.toNat - longBase.getD (lad longBase t.long.toNat) 0) (longBits.getD (lad longBase t.long.toNat) 0) ++
      (enc dist (lad backBase t.back.toNat) ++ bitsOf (t.back.toNat - backBase.getD (lad backBase t.back.toNat) 0) (backBits.getD (lad backBase t.back.toNat) 0)))
def encToks (lit dist : List Nat) (l : List Tok) : List Bool := l.flatMap (encTok lit dist) ++ enc lit 256
def storeBits (n : Nat) : List Bool := pad (bitsOf 1 3) ++ bitsOf n 16 ++ bitsOf (65535 - n) 16
def store (t : List Nat) : List Nat := pack (storeBits t.length) ++ t
def fixBits (t : List Nat) : List Bool := bitsOf 1 1 ++ bitsOf 1 2 ++ encToks fixLit fixDist (tokens t)
def fixed (t : List Nat) : List Nat := pack (fixBits t)
def symsL (l : List Tok) : List Nat := l.map fun t => if t.long = 0 then t.byte.toNat else 257 + lad longBase t.long.toNat
def symsB (l : List Tok) : List Nat := (l.filter fun t => decide (t.long ≠ 0)).map fun t => lad backBase t.back.toNat
def cntL (l : List Tok) : List Nat := bump ((List.replicate 286 0).set 256 1) (symsL l)
def cntB (l : List Tok) : List Nat := if symsB l = [] then (List.replicate 30 0).set 0 1 else bump (List.replicate 30 0) (symsB l)
def trimTo (lens : List Nat) (least : Nat) : Nat → Nat
  | 0 => 0
  | n + 1 => if least < n + 1 ∧ lens.getD n 0 = 0 then trimTo lens least n else n + 1
def trim (lens : List Nat) (least : Nat) : List Nat := lens.take (trimTo lens least lens.length)
def ownLit (l : List Tok) : List Nat := trim (fit 15 (cntL l)) 257
def ownDist (l : List Tok) : List Nat := trim (fit 15 (cntB l)) 1
def ownMeta (all : List Nat) : List Nat := fit 7 (bump (List.replicate 19 0) all)
def headBits (lit dist : List Nat) : List Bool :=
  bitsOf (lit.length - 257) 5 ++ bitsOf (dist.length - 1) 5 ++ bitsOf 15 4 ++ (order.flatMap fun k => bitsOf ((ownMeta (lit ++ dist)).getD k 0) 3) ++ (lit ++ dist).flatMap (enc (ownMeta (lit ++ dist)))
def ownBits (t : List Nat) : List Bool := bitsOf 1 1 ++ bitsOf 2 2 ++ headBits (ownLit (tokens t)) (ownDist (tokens t)) ++ encToks (ownLit (tokens t)) (ownDist (tokens t)) (tokens t)
def ownPut (t : List Nat) : List Nat := pack (ownBits t)
/-- The shortest, the first of as short ones. -/
def flatePut (t : List Nat) : List Nat :=
  let a := if (fixed t).length < (store t).length then fixed t else store t
  if (ownPut t).length < a.length then ownPut t else a
/-- Two codes that hold all symbols of some tokens. -/
structure Has (lit dist : List Nat) (l : List Tok) : Prop where
  fl : Fits lit
  fd : Fits dist
  l15 : ∀ x ∈ lit, x ≤ 15
  d15 : ∀ x ∈ dist, x ≤ 15
  last : 1 ≤ lit.getD 256 0
  byte : ∀ t ∈ l, t.long = 0 → 1 ≤ lit.getD t.byte.toNat 0
  long : ∀ t ∈ l, t.long ≠ 0 → 1 ≤ lit.getD (257 + lad longBase t.long.toNat) 0
  back : ∀ t ∈ l, t.long ≠ 0 → 1 ≤ dist.getD (lad backBase t.back.toNat) 0
theorem lt_of_getD {l : List Nat} {k : Nat} (h : 1 ≤ l.getD k 0) : k < l.length := by
  rcases Nat.lt_or_ge k l.length with h' | h'
  · exact h'
  · rw [getD_over h'] at h; omega
theorem add_long {out o : List Nat} {t : Tok} (h : add out t = some o) (hl : t.long ≠ 0) : t.byte = 0 ∧ 3 ≤ t.long ∧ t.long ≤ 60 ∧ 1 ≤ t.back ∧ t.back ≤ 250 := by
  unfold add at h
  rw [if_neg hl] at h
  by_cases h1 : t.byte = 0 ∧ 3 ≤ t.long ∧ t.long ≤ 60 ∧ 1 ≤ t.back ∧ t.back ≤ 250 ∧ t.back ≤ (out.length : Int)
  · exact ⟨h1.1, h1.2.1, h1.2.2.1, h1.2.2.2.1, h1.2.2.2.2.1⟩
  · rw [if_neg h1] at h; cases h
theorem add_byte {out o : List Nat} {t : Tok} (h : add out t = some o) (hl : t.long = 0) : t.back = 0 ∧ 0 ≤ t.byte ∧ t.byte ≤ 255 ∧ o = out ++ [t.byte.toNat] := by
  unfold add at h
  rw [if_pos hl] at h
  by_cases h1 : t.back = 0 ∧ 0 ≤ t.byte ∧ t.byte ≤ 255
  · rw [if_pos h1] at h; cases h; exact ⟨h1.1, h1.2.1, h1.2.2, rfl⟩
  · rw [if_neg h1] at h; cases h
theorem fixLit_ok : okLens fixLit = true := by decide +kernel
theorem fixDist_ok : okLens fixDist = true := by decide +kernel
theorem fixLit_pos : ∀ k, k < 288 → 1 ≤ fixLit.getD k 0 ∧ fixLit.getD k 0 ≤ 9 := by decide +kernel
theorem fixDist_pos : ∀ k, k < 32 → fixDist.getD k 0 = 5 := by decide +kernel
theorem text_adds : ∀ (l : List Tok) (out o : List Nat), text out l = some o → ∀ t ∈ l, ∃ o1 o2, add o1 t = some o2
  | [], _, _, _, t, h => by cases h
  | x :: l, out, o, ht, t, h => by
    simp only [text] at ht
    cases ha : add out x with
    | none => rw [ha] at ht; cases ht
    | some o1 =>
      rw [ha] at ht
      simp only at ht
      split at ht
      · cases ht
      · rcases List.mem_cons.1 h with rfl | h
        · exact ⟨_, _, ha⟩
        · exact text_adds l o1 o ht t h
theorem fixed_has {l : List Tok} {out o : List Nat} (ht : text out l = some o) : Has fixLit fixDist l := by
  refine ⟨ok_fits fixLit_ok, ok_fits fixDist_ok, ok_le fixLit_ok, ok_le fixDist_ok, (fixLit_pos 256 (by omega)).1, fun t h h0 => ?_, fun t h h0 => ?_, fun t h h0 => ?_⟩
  · obtain ⟨o1, o2, ha⟩ := text_adds l out o ht t h
    have := add_byte ha h0
    exact (fixLit_pos _ (by omega)).1
  · obtain ⟨o1, o2, ha⟩ := text_adds l out o ht t h
    have := add_long ha h0
    have := lad_long t.long.toNat (by omega) (by omega)
    exact (fixLit_pos _ (by omega)).1
  · obtain ⟨o1, o2, ha⟩ := text_adds l out o ht t h
    have := add_long ha h0
    have := lad_back t.back.toNat (by omega) (by omega)
    rw [fixDist_pos _ (by omega)]; omega
theorem encTok_length {out o : List Nat} {t : Tok} (ha : add out t = some o) : (encTok fixLit fixDist t).length + 9 * out.length ≤ 9 * o.length ∧ (encTok fixLit fixDist t).length ≤ 23 := by
  unfold encTok
  by_cases hl : t.long = 0
  · obtain ⟨_, b0, b1, rfl⟩ := add_byte ha hl
    have := (fixLit_pos t.byte.toNat (by omega)).2
    rw [if_pos hl, List.length_append, List.length_singleton]
    unfold enc
    rw [List.length_reverse, bits_length]; omega
  · obtain ⟨hb, l3, l60, k1, k250⟩ := add_long ha hl
    obtain ⟨a1, a2, a3, a4⟩ := lad_long t.long.toNat (by omega) (by omega)
    obtain ⟨c1, c2, c3, c4⟩ := lad_back t.back.toNat (by omega) (by omega)
    have f1 := (fixLit_pos (257 + lad longBase t.long.toNat) (by omega)).2
    have f2 := fixDist_pos (lad backBase t.back.toNat) (by omega)
    have hlen : o.length = out.length + t.long.toNat := by
      unfold add at ha
      rw [if_neg hl] at ha
      split at ha
      · cases ha; rw [copy_length]
      · cases ha
    rw [if_neg hl]
    simp only [List.length_append, enc, List.length_reverse, bits_length]
    omega
theorem toks_bits : ∀ (l : List Tok) (out o : List Nat), text out l = some o → (l.flatMap (encTok fixLit fixDist)).length + 9 * out.length ≤ 9 * o.length ∧ (l.flatMap (encTok fixLit fixDist)).length ≤ 23 * l.length
  | [], out, o, h => by cases h; simp
  | t :: l, out, o, h => by
    simp only [text] at h
    cases ha : add out t with
    | none => rw [ha] at h; cases h
    | some o1 =>
      rw [ha] at h
      simp only at h
      split at h
      · cases h
      · have ih := toks_bits l o1 o h
        have e := encTok_length ha
        rw [List.flatMap_cons, List.length_append, List.length_cons]
        omega
theorem enc256 : (enc fixLit 256).length = 7 := by
  have : fixLit.getD 256 0 = 7 := by decide +kernel
  unfold enc; rw [List.length_reverse, bits_length, this]
theorem fixBits_length {t : List Nat} (hb : ∀ x ∈ t, x < 256) (h300 : t.length ≤ 300) : 10 ≤ (fixBits t).length ∧ (fixBits t).length ≤ 10 + 9 * t.length ∧ (fixBits t).length ≤ 10 + 23 * (tokens t).length := by
  have := toks_bits _ _ _ (text_tokens hb h300)
  have e := enc256
  unfold fixBits encToks
  simp only [List.length_append, bits_length, List.length_nil] at this ⊢
  omega
theorem storeBits_length (n : Nat) : (storeBits n).length = 40 := by
  unfold storeBits
  rw [List.length_append, List.length_append, pad_length, bits_length, bits_length, bits_length]
end Go.Proofs.YtnadjlejlohgiaaGreatDoor.En

