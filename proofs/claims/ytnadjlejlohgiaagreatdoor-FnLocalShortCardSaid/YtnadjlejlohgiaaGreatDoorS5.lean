/- Own texts joined: Bt. -/
/- Numbers as bits, the lowest first; bits packed into bytes and unpacked. Nothing of the program stands here. -/
namespace Go.Proofs.YtnadjlejlohgiaaGreatDoor.Bt
def b1 (b : Bool) : Nat := if b then 1 else 0
theorem b1_le (b : Bool) : b1 b ≤ 1 := by cases b <;> decide
/-- The number that bits make, the lowest first. -/
def val : List Bool → Nat
  | [] => 0
  | b :: t => b1 b + 2 * val t
/-- The n lowest bits of a number. -/
def bitsOf (num : Nat) : Nat → List Bool
  | 0 => []
  | n + 1 => (num % 2 == 1) :: bitsOf (num / 2) n
theorem b1_mod (num : Nat) : b1 (num % 2 == 1) = num % 2 := by
  unfold b1
  by_cases h : num % 2 = 1
  · simp [h]
  · have : num % 2 = 0 := by omega
    simp [this]
theorem bits_length : ∀ (n num : Nat), (bitsOf num n).length = n
  | 0, _ => rfl
  | n + 1, num => by simp [bitsOf, bits_length n]
theorem val_bits : ∀ (n num : Nat), val (bitsOf num n) = num % 2 ^ n
  | 0, num => by simp [bitsOf, val, Nat.mod_one]
  | n + 1, num => by
    simp only [bitsOf, val, b1_mod, val_bits n]
    rw [Nat.pow_succ, Nat.mul_comm (2 ^ n) 2, Nat.mod_mul]
theorem val_lt : ∀ l : List Bool, val l < 2 ^ l.length
  | [] => by simp [val]
  | b :: t => by
    have := val_lt t
    have := b1_le b
    simp only [val, List.length_cons, Nat.pow_succ]
    omega
theorem bits_zero : ∀ n : Nat, bitsOf 0 n = List.replicate n false
  | 0 => rfl
  | n + 1 => by simp [bitsOf, bits_zero n, List.replicate_succ]
theorem bits_val_pad : ∀ (l : List Bool) (m : Nat), l.length ≤ m → bitsOf (val l) m = l ++ List.replicate (m - l.length) false
  | [], m, _ => by simp [val, bits_zero]
  | b :: t, 0, h => by simp at h
  | b :: t, m + 1, h => by
    have h1 : (b1 b + 2 * val t) % 2 = b1 b := by have := b1_le b; omega
    have h2 : (b1 b + 2 * val t) / 2 = val t := by have := b1_le b; omega
    have h3 : (b1 b == 1) = b := by cases b <;> decide
    simp only [val, bitsOf, h1, h2, h3, List.cons_append, List.length_cons, Nat.add_sub_add_right]
    rw [bits_val_pad t m (by simpa using h)]
theorem bits_val (l : List Bool) : bitsOf (val l) l.length = l := by
  have := bits_val_pad l l.length (Nat.le_refl _)
  simpa using this
theorem val_append : ∀ (a b : List Bool), val (a ++ b) = val a + 2 ^ a.length * val b
  | [], b => by simp [val]
  | x :: a, b => by
    simp only [List.cons_append, val, val_append a b, List.length_cons, Nat.pow_succ]
    rw [Nat.mul_add, Nat.mul_comm (2 ^ a.length) 2, Nat.mul_assoc]
    omega
theorem bits_snoc : ∀ (n num : Nat), bitsOf num (n + 1) = bitsOf num n ++ [num / 2 ^ n % 2 == 1]
  | 0, num => by simp [bitsOf]
  | n + 1, num => by
    have ih := bits_snoc n (num / 2)
    rw [bitsOf, ih, bitsOf, List.cons_append, Nat.div_div_eq_div_mul, Nat.pow_succ, Nat.mul_comm (2 ^ n) 2]
/-- Bits as so many bytes. -/
def packN : Nat → List Bool → List Nat
  | 0, _ => []
  | n + 1, bs => val (bs.take 8) :: packN n (bs.drop 8)
def pack (bs : List Bool) : List Nat := packN ((bs.length + 7) / 8) bs
def unpack (t : List Nat) : List Bool := t.flatMap (bitsOf · 8)
theorem packN_length : ∀ (n : Nat) (bs : List Bool), (packN n bs).length = n
  | 0, _ => rfl
  | n + 1, bs => by simp [packN, packN_length n]
theorem pack_length (bs : List Bool) : (pack bs).length = (bs.length + 7) / 8 := packN_length _ _
theorem packN_get : ∀ (n : Nat) (bs : List Bool) (i : Nat), i < n → (packN n bs)[i]? = some (val ((bs.drop (8 * i)).take 8))
  | 0, _, i, h => by omega
  | n + 1, bs, 0, _ => by simp [packN]
  | n + 1, bs, i + 1, h => by
    simp only [packN, List.getElem?_cons_succ]
    rw [packN_get n _ i (by omega), List.drop_drop, show 8 + 8 * i = 8 * (i + 1) from by omega]
theorem pack_get (bs : List Bool) (i : Nat) (h : i < (bs.length + 7) / 8) : (pack bs)[i]? = some (val ((bs.drop (8 * i)).take 8)) := packN_get _ bs i h
theorem packN_lt : ∀ (n : Nat) (bs : List Bool), ∀ x ∈ packN n bs, x < 256
  | 0, _, x, h => by simp [packN] at h
  | n + 1, bs, x, h => by
    simp only [packN, List.mem_cons] at h
    rcases h with rfl | h
    · have h1 := val_lt (bs.take 8)
      have h2 : (bs.take 8).length ≤ 8 := by rw [List.length_take]; omega
      have h3 : 2 ^ (bs.take 8).length ≤ 2 ^ 8 := Nat.pow_le_pow_right (by omega) h2
      omega
    · exact packN_lt n _ x h
theorem pack_lt (bs : List Bool) : ∀ x ∈ pack bs, x < 256 := packN_lt _ bs
theorem unpack_cons (x : Nat) (t : List Nat) : unpack (x :: t) = bitsOf x 8 ++ unpack t := by simp [unpack]
theorem unpack_append (a b : List Nat) : unpack (a ++ b) = unpack a ++ unpack b := by simp [unpack]
theorem unpack_length : ∀ t : List Nat, (unpack t).length = 8 * t.length
  | [] => rfl
  | x :: t => by rw [unpack_cons, List.length_append, bits_length, unpack_length t, List.length_cons]; omega
theorem unpack_packN : ∀ (n : Nat) (bs : List Bool), bs.length ≤ 8 * n → 8 * n < bs.length + 8 → unpack (packN n bs) = bs ++ List.replicate (8 * n - bs.length) false
  | 0, bs, h, _ => by
    have : bs = [] := List.length_eq_zero_iff.1 (by omega)
    subst this; rfl
  | n + 1, bs, h, h2 => by
    rw [packN, unpack_cons, bits_val_pad _ _ (by rw [List.length_take]; omega)]
    by_cases h8 : 8 ≤ bs.length
    · rw [unpack_packN n _ (by rw [List.length_drop]; omega) (by rw [List.length_drop]; omega), List.length_take, List.length_drop, show 8 - min 8 bs.length = 0 from by omega, List.replicate_zero, List.append_nil, ← List.append_assoc, List.take_append_drop,
        show 8 * n - (bs.length - 8) = 8 * (n + 1) - bs.length from by omega]
    · have : n = 0 := by omega
      subst this
      rw [List.take_of_length_le (by omega)]
      simp [packN, unpack]
theorem unpack_pack (bs : List Bool) : unpack (pack bs) = bs ++ List.replicate (8 * ((bs.length + 7) / 8) - bs.length) false := unpack_packN _ bs (by omega) (by omega)
theorem packN_unpack : ∀ t : List Nat, (∀ x ∈ t, x < 256) → packN t.length (unpack t) = t
  | [], _ => rfl
  | x :: t, h => by
    have hx := h x (by simp)
    have e1 : (bitsOf x 8 ++ unpack t).take 8 = bitsOf x 8 := by
      rw [List.take_append, bits_length]; simp [List.take_of_length_le, bits_length]
    have e2 : (bitsOf x 8 ++ unpack t).drop 8 = unpack t := by
      rw [List.drop_append, bits_length]; simp [List.drop_of_length_le, bits_length]
    rw [List.length_cons, packN, unpack_cons, e1, e2, val_bits, packN_unpack t (fun y hy => h y (by simp [hy])), Nat.mod_eq_of_lt (by omega)]
theorem pack_unpack (t : List Nat) (h : ∀ x ∈ t, x < 256) : pack (unpack t) = t := by
  unfold pack
  rw [unpack_length, show (8 * t.length + 7) / 8 = t.length from by omega]
  exact packN_unpack t h
/-- Noughts up to the next whole byte. -/
def pad (bs : List Bool) : List Bool := bs ++ List.replicate ((8 - bs.length % 8) % 8) false
theorem pad_length (bs : List Bool) : (pad bs).length = 8 * ((bs.length + 7) / 8) := by
  unfold pad; rw [List.length_append, List.length_replicate]; omega
theorem unpack_pack' (bs : List Bool) : unpack (pack bs) = pad bs := by
  rw [unpack_pack]; unfold pad; congr 2; omega
theorem pack_pad (bs : List Bool) : pack (pad bs) = pack bs := by
  rw [← unpack_pack', pack_unpack _ (pack_lt bs)]
theorem pad_of (bs : List Bool) (h : bs.length % 8 = 0) : pad bs = bs := by
  unfold pad; rw [h]; simp
theorem pack_append (a b : List Bool) (h : a.length % 8 = 0) : pack (a ++ b) = pack a ++ pack b := by
  have e1 : unpack (pack (a ++ b)) = unpack (pack a ++ pack b) := by
    rw [unpack_append, unpack_pack', unpack_pack', unpack_pack', pad_of a h]
    unfold pad
    rw [List.append_assoc, List.length_append]
    congr 3; omega
  have := congrArg pack e1
  rw [pack_unpack _ (pack_lt _), pack_unpack] at this
  · exact this
  · intro x hx
    rcases List.mem_append.1 hx with h | h
    · exact pack_lt _ x h
    · exact pack_lt _ x h
theorem pack_one (b : Bool) : pack [b] = [b1 b] := by simp [pack, packN, val]
theorem pack_snoc0 (bs : List Bool) (b : Bool) (h : bs.length % 8 = 0) : pack (bs ++ [b]) = pack bs ++ [b1 b] := by
  rw [pack_append _ _ h, pack_one]
theorem pack_snoc1 (bs : List Bool) (b : Bool) (h : bs.length % 8 ≠ 0) :
    bs.length / 8 < (pack bs).length ∧ (pack bs).getD (bs.length / 8) 0 = val (bs.drop (8 * (bs.length / 8))) ∧
    pack (bs ++ [b]) = (pack bs).set (bs.length / 8) ((pack bs).getD (bs.length / 8) 0 + 2 ^ (bs.length % 8) * b1 b) := by
  have hl : bs.length / 8 < (bs.length + 7) / 8 := by omega
  have hg := pack_get bs (bs.length / 8) hl
  have ht : (bs.drop (8 * (bs.length / 8))).take 8 = bs.drop (8 * (bs.length / 8)) := List.take_of_length_le (by rw [List.length_drop]; omega)
  rw [ht] at hg
  have hv : (pack bs).getD (bs.length / 8) 0 = val (bs.drop (8 * (bs.length / 8))) := by
    rw [List.getD_eq_getElem?_getD, hg]; rfl
  refine ⟨by rw [pack_length]; exact hl, hv, ?_⟩
  rw [hv]
  apply List.ext_getElem?
  intro i
  rw [List.getElem?_set]
  by_cases hi : i < (bs.length + 7) / 8
  · rw [pack_get _ i (by rw [List.length_append, List.length_singleton]; omega)]
    by_cases hq : bs.length / 8 = i
    · subst hq
      rw [if_pos rfl, if_pos (by rw [pack_length]; exact hl), List.drop_append, show 8 * (bs.length / 8) - bs.length = 0 from by omega, List.drop_zero]
      rw [List.take_of_length_le (by rw [List.length_append, List.length_drop, List.length_singleton]; omega), val_append, List.length_drop]
      rw [show bs.length - 8 * (bs.length / 8) = bs.length % 8 from by omega]
      simp [val]
    · rw [if_neg hq, pack_get _ i hi, List.drop_append, List.take_append, List.length_drop]
      have e : 8 - (bs.length - 8 * i) = 0 := by omega
      rw [e, List.take_zero, List.append_nil]
  · rw [List.getElem?_eq_none (by rw [pack_length, List.length_append, List.length_singleton]; omega), if_neg (by omega), List.getElem?_eq_none (by rw [pack_length]; omega)]
end Go.Proofs.YtnadjlejlohgiaaGreatDoor.Bt

