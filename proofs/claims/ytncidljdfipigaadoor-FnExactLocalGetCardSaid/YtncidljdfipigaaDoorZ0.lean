/- Own texts joined: Bt, Cd, Hf, Lz, De, En. -/
/- Numbers as bits, the lowest first; bits packed into bytes and unpacked. Nothing of the program stands here. -/
namespace Go.Proofs.YtncidljdfipigaaDoor.Bt
def b1 (b : Bool) : Nat := if b then 1 else 0
theorem b1_le (b : Bool) : b1 b ≤ 1 := by cases b <;> decide
/-- The number that bits make, the lowest first. -/
def val : List Bool → Nat
  | [] => 0
  | b :: t => b1 b + 2 * val t
/-- The n lowest bits of a number. -/
def bitsOf (num : Nat) : Nat → List Bool
  | 0 => []
  | n + 1 => (num % 2 == 1) :: bitsOf (num / 2) n
theorem b1_mod (num : Nat) : b1 (num % 2 == 1) = num % 2 := by
  unfold b1
  by_cases h : num % 2 = 1
  · simp [h]
  · have : num % 2 = 0 := by omega
    simp [this]
theorem b1_lt {b : Bool} : (b1 b % 2 == 1) = b := by cases b <;> decide
theorem bits_length : ∀ (n num : Nat), (bitsOf num n).length = n
  | 0, _ => rfl
  | n + 1, num => by simp [bitsOf, bits_length n]
theorem val_bits : ∀ (n num : Nat), val (bitsOf num n) = num % 2 ^ n
  | 0, num => by simp [bitsOf, val, Nat.mod_one]
  | n + 1, num => by
    simp only [bitsOf, val, b1_mod, val_bits n]
    rw [Nat.pow_succ, Nat.mul_comm (2 ^ n) 2, Nat.mod_mul]
theorem val_lt : ∀ l : List Bool, val l < 2 ^ l.length
  | [] => by simp [val]
  | b :: t => by
    have := val_lt t
    have := b1_le b
    simp only [val, List.length_cons, Nat.pow_succ]
    omega
theorem bits_zero : ∀ n : Nat, bitsOf 0 n = List.replicate n false
  | 0 => rfl
  | n + 1 => by simp [bitsOf, bits_zero n, List.replicate_succ]
theorem bits_val_pad : ∀ (l : List Bool) (m : Nat), l.length ≤ m → bitsOf (val l) m = l ++ List.replicate (m - l.length) false
  | [], m, _ => by simp [val, bits_zero]
  | b :: t, 0, h => by simp at h
  | b :: t, m + 1, h => by
    have h1 : (b1 b + 2 * val t) % 2 = b1 b := by have := b1_le b; omega
    have h2 : (b1 b + 2 * val t) / 2 = val t := by have := b1_le b; omega
    have h3 : (b1 b == 1) = b := by cases b <;> decide
    simp only [val, bitsOf, h1, h2, h3, List.cons_append, List.length_cons, Nat.add_sub_add_right]
    rw [bits_val_pad t m (by simpa using h)]
theorem bits_val (l : List Bool) : bitsOf (val l) l.length = l := by
  have := bits_val_pad l l.length (Nat.le_refl _)
  simpa using this
theorem val_append : ∀ (a b : List Bool), val (a ++ b) = val a + 2 ^ a.length * val b
  | [], b => by simp [val]
  | x :: a, b => by
    simp only [List.cons_append, val, val_append a b, List.length_cons, Nat.pow_succ]
    rw [Nat.mul_add, Nat.mul_comm (2 ^ a.length) 2, Nat.mul_assoc]
    omega
theorem val_replicate (n : Nat) : val (List.replicate n false) = 0 := by
  induction n with
  | zero => rfl
  | succ n ih => simp [List.replicate_succ, val, ih, b1]
theorem bits_snoc : ∀ (n num : Nat), bitsOf num (n + 1) = bitsOf num n ++ [num / 2 ^ n % 2 == 1]
  | 0, num => by simp [bitsOf]
  | n + 1, num => by
    have ih := bits_snoc n (num / 2)
    rw [bitsOf, ih, bitsOf, List.cons_append, Nat.div_div_eq_div_mul, Nat.pow_succ, Nat.mul_comm (2 ^ n) 2]
theorem bits_mod : ∀ (n num : Nat), bitsOf (num % 2 ^ n) n = bitsOf num n := by
  intro n num
  have h := bits_val (bitsOf num n)
  rw [val_bits, bits_length] at h
  exact h
theorem bits_add (num a b : Nat) : bitsOf num (a + b) = bitsOf num a ++ bitsOf (num / 2 ^ a) b := by
  induction b with
  | zero => simp [bitsOf]
  | succ b ih => rw [← Nat.add_assoc, bits_snoc, ih, bits_snoc, List.append_assoc, Nat.div_div_eq_div_mul, ← Nat.pow_add]
/-- Bits as so many bytes. -/
def packN : Nat → List Bool → List Nat
  | 0, _ => []
  | n + 1, bs => val (bs.take 8) :: packN n (bs.drop 8)
def pack (bs : List Bool) : List Nat := packN ((bs.length + 7) / 8) bs
def unpack (t : List Nat) : List Bool := t.flatMap (bitsOf · 8)
theorem packN_length : ∀ (n : Nat) (bs : List Bool), (packN n bs).length = n
  | 0, _ => rfl
  | n + 1, bs => by simp [packN, packN_length n]
theorem pack_length (bs : List Bool) : (pack bs).length = (bs.length + 7) / 8 := packN_length _ _
theorem packN_get : ∀ (n : Nat) (bs : List Bool) (i : Nat), i < n → (packN n bs)[i]? = some (val ((bs.drop (8 * i)).take 8))
  | 0, _, i, h => by omega
  | n + 1, bs, 0, _ => by simp [packN]
  | n + 1, bs, i + 1, h => by
    simp only [packN, List.getElem?_cons_succ]
    rw [packN_get n _ i (by omega), List.drop_drop, show 8 + 8 * i = 8 * (i + 1) from by omega]
theorem pack_get (bs : List Bool) (i : Nat) (h : i < (bs.length + 7) / 8) : (pack bs)[i]? = some (val ((bs.drop (8 * i)).take 8)) := packN_get _ bs i h
theorem packN_lt : ∀ (n : Nat) (bs : List Bool), ∀ x ∈ packN n bs, x < 256
  | 0, _, x, h => by simp [packN] at h
  | n + 1, bs, x, h => by
    simp only [packN, List.mem_cons] at h
    rcases h with rfl | h
    · have h1 := val_lt (bs.take 8)
      have h2 : (bs.take 8).length ≤ 8 := by rw [List.length_take]; omega
      have h3 : 2 ^ (bs.take 8).length ≤ 2 ^ 8 := Nat.pow_le_pow_right (by omega) h2
      omega
    · exact packN_lt n _ x h
theorem pack_lt (bs : List Bool) : ∀ x ∈ pack bs, x < 256 := packN_lt _ bs
theorem unpack_cons (x : Nat) (t : List Nat) : unpack (x :: t) = bitsOf x 8 ++ unpack t := by simp [unpack]
theorem unpack_append (a b : List Nat) : unpack (a ++ b) = unpack a ++ unpack b := by simp [unpack]
theorem unpack_length : ∀ t : List Nat, (unpack t).length = 8 * t.length
  | [] => rfl
  | x :: t => by rw [unpack_cons, List.length_append, bits_length, unpack_length t, List.length_cons]; omega
theorem unpack_packN : ∀ (n : Nat) (bs : List Bool), bs.length ≤ 8 * n → 8 * n < bs.length + 8 → unpack (packN n bs) = bs ++ List.replicate (8 * n - bs.length) false
  | 0, bs, h, _ => by
    have : bs = [] := List.length_eq_zero_iff.1 (by omega)
    subst this; rfl
  | n + 1, bs, h, h2 => by
    rw [packN, unpack_cons, bits_val_pad _ _ (by rw [List.length_take]; omega)]
    by_cases h8 : 8 ≤ bs.length
    · rw [unpack_packN n _ (by rw [List.length_drop]; omega) (by rw [List.length_drop]; omega), List.length_take, List.length_drop, show 8 - min 8 bs.length = 0 from by omega, List.replicate_zero, List.append_nil, ← List.append_assoc, List.take_append_drop,
        show 8 * n - (bs.length - 8) = 8 * (n + 1) - bs.length from by omega]
    · have : n = 0 := by omega
      subst this
      rw [List.take_of_length_le (by omega)]
      simp [packN, unpack]
theorem unpack_pack (bs : List Bool) : unpack (pack bs) = bs ++ List.replicate (8 * ((bs.length + 7) / 8) - bs.length) false := unpack_packN _ bs (by omega) (by omega)
theorem packN_unpack : ∀ t : List Nat, (∀ x ∈ t, x < 256) → packN t.length (unpack t) = t
  | [], _ => rfl
  | x :: t, h => by
    have hx := h x (by simp)
    have e1 : (bitsOf x 8 ++ unpack t).take 8 = bitsOf x 8 := by
      rw [List.take_append, bits_length]; simp [List.take_of_length_le, bits_length]
    have e2 : (bitsOf x 8 ++ unpack t).drop 8 = unpack t := by
      rw [List.drop_append, bits_length]; simp [List.drop_of_length_le, bits_length]
    rw [List.length_cons, packN, unpack_cons, e1, e2, val_bits, packN_unpack t (fun y hy => h y (by simp [hy])), Nat.mod_eq_of_lt (by omega)]
theorem pack_unpack (t : List Nat) (h : ∀ x ∈ t, x < 256) : pack (unpack t) = t := by
  unfold pack
  rw [unpack_length, show (8 * t.length + 7) / 8 = t.length from by omega]
  exact packN_unpack t h
/-- Noughts up to the next whole byte. -/
def pad (bs : List Bool) : List Bool := bs ++ List.replicate ((8 - bs.length % 8) % 8) false
theorem pad_length (bs : List Bool) : (pad bs).length = 8 * ((bs.length + 7) / 8) := by
  unfold pad; rw [List.length_append, List.length_replicate]; omega
theorem unpack_pack' (bs : List Bool) : unpack (pack bs) = pad bs := by
  rw [unpack_pack]; unfold pad; congr 2; omega
theorem pack_pad (bs : List Bool) : pack (pad bs) = pack bs := by
  rw [← unpack_pack', pack_unpack _ (pack_lt bs)]
theorem pad_of (bs : List Bool) (h : bs.length % 8 = 0) : pad bs = bs := by
  unfold pad; rw [h]; simp
theorem pad_pad (bs : List Bool) : pad (pad bs) = pad bs := pad_of _ (by rw [pad_length]; omega)
theorem pack_append (a b : List Bool) (h : a.length % 8 = 0) : pack (a ++ b) = pack a ++ pack b := by
  have e1 : unpack (pack (a ++ b)) = unpack (pack a ++ pack b) := by
    rw [unpack_append, unpack_pack', unpack_pack', unpack_pack', pad_of a h]
    unfold pad
    rw [List.append_assoc, List.length_append]
    congr 3; omega
  have := congrArg pack e1
  rw [pack_unpack _ (pack_lt _), pack_unpack] at this
  · exact this
  · intro x hx
    rcases List.mem_append.1 hx with h | h
    · exact pack_lt _ x h
    · exact pack_lt _ x h
theorem pack_one (b : Bool) : pack [b] = [b1 b] := by simp [pack, packN, val]
theorem pack_snoc0 (bs : List Bool) (b : Bool) (h : bs.length % 8 = 0) : pack (bs ++ [b]) = pack bs ++ [b1 b] := by
  rw [pack_append _ _ h, pack_one]
theorem pack_snoc1 (bs : List Bool) (b : Bool) (h : bs.length % 8 ≠ 0) :
    bs.length / 8 < (pack bs).length ∧ (pack bs).getD (bs.length / 8) 0 = val (bs.drop (8 * (bs.length / 8))) ∧
    pack (bs ++ [b]) = (pack bs).set (bs.length / 8) ((pack bs).getD (bs.length / 8) 0 + 2 ^ (bs.length % 8) * b1 b) := by
  have hl : bs.length / 8 < (bs.length + 7) / 8 := by omega
  have hg := pack_get bs (bs.length / 8) hl
  have ht : (bs.drop (8 * (bs.length / 8))).take 8 = bs.drop (8 * (bs.length / 8)) := List.take_of_length_le (by rw [List.length_drop]; omega)
  rw [ht] at hg
  have hv : (pack bs).getD (bs.length / 8) 0 = val (bs.drop (8 * (bs.length / 8))) := by
    rw [List.getD_eq_getElem?_getD, hg]; rfl
  refine ⟨by rw [pack_length]; exact hl, hv, ?_⟩
  rw [hv]
  apply List.ext_getElem?
  intro i
  rw [List.getElem?_set]
  by_cases hi : i < (bs.length + 7) / 8
  · rw [pack_get _ i (by rw [List.length_append, List.length_singleton]; omega)]
    by_cases hq : bs.length / 8 = i
    · subst hq
      rw [if_pos rfl, if_pos (by rw [pack_length]; exact hl), List.drop_append, show 8 * (bs.length / 8) - bs.length = 0 from by omega, List.drop_zero]
      rw [List.take_of_length_le (by rw [List.length_append, List.length_drop, List.length_singleton]; omega), val_append, List.length_drop]
      rw [show bs.length - 8 * (bs.length / 8) = bs.length % 8 from by omega]
      simp [val]
    · rw [if_neg hq, pack_get _ i hi, List.drop_append, List.take_append, List.length_drop]
      have e : 8 - (bs.length - 8 * i) = 0 := by omega
      rw [e, List.take_zero, List.append_nil]
  · rw [List.getElem?_eq_none (by rw [pack_length, List.length_append, List.length_singleton]; omega), if_neg (by omega), List.getElem?_eq_none (by rw [pack_length]; omega)]
end Go.Proofs.YtncidljdfipigaaDoor.Bt

/- Canonical codes by their lengths: what each symbol's code is, when codes fit, and that a symbol is found by its code. Nothing of the program stands here. -/
namespace Go.Proofs.YtncidljdfipigaaDoor.Cd
open Go.Proofs.YtncidljdfipigaaDoor.Bt
/-- The first code of a length. -/
def first (lens : List Nat) : Nat → Nat
  | 0 => 0
  | 1 => 0
  | l + 2 => 2 * (first lens (l + 1) + lens.count (l + 1))
theorem first_succ (lens : List Nat) {l : Nat} (h : 1 ≤ l) : first lens (l + 1) = 2 * (first lens l + lens.count l) := by
  obtain ⟨m, rfl⟩ : ∃ m, l = m + 1 := ⟨l - 1, by omega⟩
  rfl
/-- The code of a symbol of length l. -/
def codeAt (lens : List Nat) (l k : Nat) : Nat := first lens l + (lens.take k).count l
def code (lens : List Nat) (k : Nat) : Nat := if 1 ≤ lens.getD k 0 ∧ lens.getD k 0 ≤ 15 then codeAt lens (lens.getD k 0) k else 0
def codes (lens : List Nat) : List Nat := (List.range lens.length).map (code lens)
theorem codes_length (lens : List Nat) : (codes lens).length = lens.length := by simp [codes]
theorem codes_get (lens : List Nat) {k : Nat} (h : k < lens.length) : (codes lens)[k]? = some (code lens k) := by
  simp [codes, h]
theorem codes_getD (lens : List Nat) {k : Nat} (h : k < lens.length) : (codes lens).getD k 0 = code lens k := by
  rw [List.getD_eq_getElem?_getD, codes_get lens h]; rfl
def Fits (lens : List Nat) : Prop := ∀ l, 1 ≤ l → l ≤ 15 → first lens l + lens.count l ≤ 2 ^ l
theorem count_take_le (lens : List Nat) (k l : Nat) : (lens.take k).count l ≤ lens.count l := (List.take_sublist k lens).count_le l
theorem count_take_succ {lens : List Nat} {k : Nat} (h : k < lens.length) (l : Nat) : (lens.take (k + 1)).count l = (lens.take k).count l + if lens.getD k 0 = l then 1 else 0 := by
  rw [List.take_succ_eq_append_getElem h, List.count_append, List.getD_eq_getElem?_getD, List.getElem?_eq_getElem h]
  simp only [Option.getD_some, List.count_cons, List.count_nil, Nat.zero_add, beq_iff_eq]
theorem code_lt {lens : List Nat} (hf : Fits lens) {k : Nat} (h : k < lens.length) (h1 : 1 ≤ lens.getD k 0) (h2 : lens.getD k 0 ≤ 15) : code lens k < 2 ^ lens.getD k 0 := by
  have := hf _ h1 h2
  have a := count_take_succ h (lens.getD k 0)
  have b := count_take_le lens (k + 1) (lens.getD k 0)
  rw [if_pos rfl] at a
  unfold code codeAt
  rw [if_pos ⟨h1, h2⟩]
  omega
theorem code_range {lens : List Nat} {k l : Nat} (h : k < lens.length) (hl : lens.getD k 0 = l) (h1 : 1 ≤ l) (h2 : l ≤ 15) : first lens l ≤ code lens k ∧ code lens k < first lens l + lens.count l := by
  have a := count_take_succ h l
  have b := count_take_le lens (k + 1) l
  rw [if_pos hl] at a
  unfold code codeAt
  rw [hl, if_pos ⟨h1, h2⟩]
  omega
theorem count_mono (lens : List Nat) {i j : Nat} (h : i ≤ j) (l : Nat) : (lens.take i).count l ≤ (lens.take j).count l := by
  have : lens.take i = (lens.take j).take i := by rw [List.take_take]; congr 1; omega
  rw [this]
  exact count_take_le _ _ _
theorem code_inj {lens : List Nat} {i j l : Nat} (hi : i < lens.length) (hj : j < lens.length) (li : lens.getD i 0 = l) (lj : lens.getD j 0 = l) (h1 : 1 ≤ l) (h2 : l ≤ 15) (h : code lens i = code lens j) : i = j := by
  unfold code codeAt at h
  rw [li, lj, if_pos ⟨h1, h2⟩, if_pos ⟨h1, h2⟩] at h
  have a := count_take_succ hi l
  have b := count_take_succ hj l
  rw [if_pos li] at a
  rw [if_pos lj] at b
  rcases Nat.lt_trichotomy i j with g | g | g
  · have := count_mono lens (show i + 1 ≤ j from g) l
    omega
  · exact g
  · have := count_mono lens (show j + 1 ≤ i from g) l
    omega
theorem first_far (lens : List Nat) {l : Nat} (h : 1 ≤ l) : ∀ d, 2 ^ (d + 1) * (first lens l + lens.count l) ≤ first lens (l + d + 1)
  | 0 => by rw [Nat.add_zero, first_succ lens h]; omega
  | d + 1 => by
    have ih := first_far lens h d
    rw [show l + (d + 1) + 1 = (l + d + 1) + 1 from by omega, first_succ lens (by omega), Nat.pow_succ, Nat.mul_comm _ 2, Nat.mul_assoc]
    omega
/-- The symbol of a code of a length: the first. -/
def find (lens : List Nat) (l c : Nat) : Option Nat := (List.range lens.length).find? fun i => decide (lens.getD i 0 = l ∧ code lens i = c)
theorem find_some {lens : List Nat} {l c k : Nat} (h : find lens l c = some k) : k < lens.length ∧ lens.getD k 0 = l ∧ code lens k = c := by
  unfold find at h
  have h1 := List.find?_some h
  have h2 := List.mem_of_find?_eq_some h
  simp only [decide_eq_true_eq] at h1
  exact ⟨by simpa using h2, h1.1, h1.2⟩
theorem find_none {lens : List Nat} {l c : Nat} (h : find lens l c = none) {k : Nat} (hk : k < lens.length) : ¬ (lens.getD k 0 = l ∧ code lens k = c) := by
  unfold find at h
  have := List.find?_eq_none.1 h k (by simpa using hk)
  simpa using this
theorem find_is {lens : List Nat} {l c k : Nat} (hk : k < lens.length) (hl : lens.getD k 0 = l) (hc : code lens k = c) (h1 : 1 ≤ l) (h2 : l ≤ 15) : find lens l c = some k := by
  cases h : find lens l c with
  | none => exact absurd ⟨hl, hc⟩ (find_none h hk)
  | some j =>
    obtain ⟨hj, lj, cj⟩ := find_some h
    rw [code_inj hj hk lj hl h1 h2 (cj.trans hc.symm)]
/-- A symbol by its code: from length l on, when c is what was read. -/
def symGo (lens : List Nat) : Nat → Nat → Nat → List Bool → Option (Nat × List Bool)
  | 0, _, _, _ => none
  | _ + 1, _, _, [] => none
  | f + 1, l, c, b :: t => match find lens l (2 * c + b1 b) with
    | some k => some (k, t)
    | none => symGo lens f (l + 1) (2 * c + b1 b) t
def sym (lens : List Nat) (bs : List Bool) : Option (Nat × List Bool) := symGo lens 15 1 0 bs
/-- A symbol's code as it is written: the highest bit first. -/
def enc (lens : List Nat) (k : Nat) : List Bool := (bitsOf (code lens k) (lens.getD k 0)).reverse
theorem bits_reverse (x m : Nat) : (bitsOf x (m + 1)).reverse = (x / 2 ^ m % 2 == 1) :: (bitsOf x m).reverse := by
  rw [bits_snoc, List.reverse_append]; rfl
theorem half (x m : Nat) : 2 * (x / 2 ^ (m + 1)) + b1 (x / 2 ^ m % 2 == 1) = x / 2 ^ m := by
  rw [b1_mod, Nat.pow_succ, ← Nat.div_div_eq_div_mul]; omega
theorem symGo_enc {lens : List Nat} (hf : Fits lens) {k : Nat} (h : k < lens.length) (h2 : lens.getD k 0 ≤ 15) (rest : List Bool) :
    ∀ (m l f : Nat), 1 ≤ l → l + m = lens.getD k 0 → m < f → symGo lens f l (code lens k / 2 ^ (m + 1)) ((bitsOf (code lens k) (m + 1)).reverse ++ rest) = some (k, rest)
  | 0, l, f + 1, h1, hl, _ => by
    rw [bits_reverse, List.cons_append, symGo, half, Nat.pow_zero, Nat.div_one, find_is h (by omega) rfl h1 (by omega)]
    simp [bitsOf]
  | m + 1, l, f + 1, h1, hl, hm => by
    rw [bits_reverse, List.cons_append, symGo, half]
    have hn : find lens l (code lens k / 2 ^ (m + 1)) = none := by
      cases hs : find lens l (code lens k / 2 ^ (m + 1)) with
      | none => rfl
      | some j =>
        exfalso
        obtain ⟨hj, lj, cj⟩ := find_some hs
        have a := (code_range hj lj h1 (by omega)).2
        have b := (code_range h rfl (by omega) h2).1
        have c := first_far lens h1 m
        rw [show l + m + 1 = lens.getD k 0 from by omega] at c
        rw [cj] at a
        have d := Nat.div_lt_iff_lt_mul (x := code lens k) (y := first lens l + lens.count l) (Nat.two_pow_pos (m + 1)) |>.1 a
        rw [Nat.mul_comm] at d
        omega
    rw [hn]
    exact symGo_enc hf h h2 rest m (l + 1) f (by omega) (by omega) (by omega)
theorem sym_enc {lens : List Nat} (hf : Fits lens) {k : Nat} (h : k < lens.length) (h1 : 1 ≤ lens.getD k 0) (h2 : lens.getD k 0 ≤ 15) (rest : List Bool) : sym lens (enc lens k ++ rest) = some (k, rest) := by
  have hc := code_lt hf h h1 h2
  have := symGo_enc hf h h2 rest (lens.getD k 0 - 1) 1 15 (Nat.le_refl _) (by omega) (by omega)
  rw [show lens.getD k 0 - 1 + 1 = lens.getD k 0 from by omega, Nat.div_eq_of_lt hc] at this
  exact this
/-- How much of all codes lengths take, in 32768 parts. -/
def kraft (lens : List Nat) : Nat := (lens.map fun l => if l = 0 then 0 else 2 ^ (15 - l)).sum
def used (lens : List Nat) : Nat := (lens.filter fun l => decide (0 < l)).length
def okLens (lens : List Nat) : Bool := decide (lens.length ≤ 300) && lens.all (fun l => decide (l ≤ 15)) && (decide (kraft lens = 32768) || (decide (used lens = 1) && decide (kraft lens = 16384)))
def part (lens : List Nat) (l : Nat) : Nat := (lens.map fun x => if 1 ≤ x ∧ x ≤ l then 2 ^ (15 - x) else 0).sum
theorem part_succ (l : Nat) : ∀ lens : List Nat, part lens (l + 1) = part lens l + lens.count (l + 1) * 2 ^ (15 - (l + 1))
  | [] => by simp [part]
  | x :: t => by
    have ih := part_succ l t
    unfold part at ih ⊢
    simp only [List.map_cons, List.sum_cons, List.count_cons, ih]
    by_cases h : x = l + 1
    · subst h
      rw [if_pos (by omega), if_neg (by omega), if_pos (by simp), Nat.add_mul, Nat.one_mul]
      omega
    · have hb : (x == l + 1) = false := by simpa using h
      rw [hb]
      by_cases h2 : 1 ≤ x ∧ x ≤ l
      · rw [if_pos (show 1 ≤ x ∧ x ≤ l + 1 by omega), if_pos h2]; simp; omega
      · rw [if_neg (show ¬ (1 ≤ x ∧ x ≤ l + 1) by omega), if_neg h2]; simp
theorem part_zero (lens : List Nat) : part lens 0 = 0 := by
  unfold part
  induction lens with
  | nil => rfl
  | cons x t ih => rw [List.map_cons, List.sum_cons, ih, if_neg (by omega)]
theorem part_le (l : Nat) : ∀ lens : List Nat, part lens l ≤ kraft lens
  | [] => Nat.le_refl _
  | x :: t => by
    have ih := part_le l t
    unfold part kraft at ih ⊢
    simp only [List.map_cons, List.sum_cons]
    by_cases h2 : 1 ≤ x ∧ x ≤ l
    · rw [if_pos h2, if_neg (by omega)]; omega
    · rw [if_neg h2]; omega
theorem part_first (lens : List Nat) : ∀ l, 1 ≤ l → l ≤ 15 → (first lens l + lens.count l) * 2 ^ (15 - l) = part lens l
  | 0, h, _ => by omega
  | 1, _, _ => by
    have := part_succ 0 lens
    rw [part_zero] at this
    rw [this]; simp [first]
  | l + 2, _, h => by
    have ih := part_first lens (l + 1) (by omega) (by omega)
    rw [part_succ, ← ih, first, Nat.add_mul, show 15 - (l + 1) = 15 - (l + 2) + 1 from by omega, Nat.pow_succ]
    congr 1
    rw [Nat.mul_comm 2, Nat.mul_assoc, Nat.mul_comm 2]
theorem fits_of {lens : List Nat} (h : kraft lens ≤ 32768) : Fits lens := by
  intro l h1 h2
  have a := part_first lens l h1 h2
  have b := part_le l lens
  have c : 2 ^ l * 2 ^ (15 - l) = 32768 := by rw [← Nat.pow_add, show l + (15 - l) = 15 from by omega]
  have d : (first lens l + lens.count l) * 2 ^ (15 - l) ≤ 2 ^ l * 2 ^ (15 - l) := by omega
  exact Nat.le_of_mul_le_mul_right d (Nat.two_pow_pos _)
theorem ok_kraft {lens : List Nat} (h : okLens lens = true) : kraft lens ≤ 32768 := by
  simp only [okLens, Bool.and_eq_true, Bool.or_eq_true, decide_eq_true_eq] at h
  omega
theorem ok_fits {lens : List Nat} (h : okLens lens = true) : Fits lens := fits_of (ok_kraft h)
theorem ok_le {lens : List Nat} (h : okLens lens = true) : ∀ x ∈ lens, x ≤ 15 := by
  simp only [okLens, Bool.and_eq_true, Bool.or_eq_true, decide_eq_true_eq, List.all_eq_true] at h
  exact h.1.2
theorem getD_le {lens : List Nat} {m : Nat} (h : ∀ x ∈ lens, x ≤ m) (k : Nat) : lens.getD k 0 ≤ m := by
  rw [List.getD_eq_getElem?_getD]
  cases hk : lens[k]? with
  | none => exact Nat.zero_le _
  | some x => exact h x (List.mem_of_getElem? hk)
theorem symGo_lt {lens : List Nat} : ∀ (f l c : Nat) (bs : List Bool) (k : Nat) (r : List Bool), symGo lens f l c bs = some (k, r) → k < lens.length ∧ ∃ s, bs = s ++ r ∧ s ≠ []
  | 0, _, _, _, _, _, h => by simp [symGo] at h
  | f + 1, l, c, [], k, r, h => by simp [symGo] at h
  | f + 1, l, c, b :: t, k, r, h => by
    simp only [symGo] at h
    cases hs : find lens l (2 * c + b1 b) with
    | some j =>
      rw [hs] at h
      cases h
      exact ⟨(find_some hs).1, [b], rfl, by simp⟩
    | none =>
      rw [hs] at h
      obtain ⟨h1, s, rfl, _⟩ := symGo_lt f _ _ t k r h
      exact ⟨h1, b :: s, rfl, by simp⟩
theorem symGo_ext {lens : List Nat} (e : List Bool) : ∀ (f l c : Nat) (bs : List Bool) (k : Nat) (r : List Bool), symGo lens f l c bs = some (k, r) → symGo lens f l c (bs ++ e) = some (k, r ++ e)
  | 0, _, _, _, _, _, h => by simp [symGo] at h
  | f + 1, l, c, [], k, r, h => by simp [symGo] at h
  | f + 1, l, c, b :: t, k, r, h => by
    simp only [symGo, List.cons_append] at h ⊢
    cases hs : find lens l (2 * c + b1 b) with
    | some j => rw [hs] at h; cases h; rfl
    | none => rw [hs] at h; exact symGo_ext e f _ _ t k r h
theorem symGo_cut {lens : List Nat} (e : List Bool) : ∀ (f l c : Nat) (bs : List Bool) (k : Nat) (r : List Bool), symGo lens f l c (bs ++ e) = some (k, r ++ e) → symGo lens f l c bs = some (k, r)
  | 0, _, _, _, _, _, h => by simp [symGo] at h
  | f + 1, l, c, [], k, r, h => by
    obtain ⟨_, s, hs, hne⟩ := symGo_lt _ _ _ _ _ _ h
    have := congrArg List.length hs
    simp at this
    have : s.length = 0 := by omega
    exact absurd (List.length_eq_zero_iff.1 this) hne
  | f + 1, l, c, b :: t, k, r, h => by
    simp only [symGo, List.cons_append] at h ⊢
    cases hs : find lens l (2 * c + b1 b) with
    | some j =>
      rw [hs] at h
      simp only [Option.some.injEq, Prod.mk.injEq] at h
      obtain ⟨rfl, h⟩ := h
      rw [List.append_cancel_right h]
    | none => rw [hs] at h; exact symGo_cut e f _ _ t k r h
end Go.Proofs.YtncidljdfipigaaDoor.Cd

/- Lengths of codes by how often symbols come: two of the least are put together, again and again; what is true of the lengths. Nothing of the program stands here. -/
namespace Go.Proofs.YtncidljdfipigaaDoor.Hf
open Go.Proofs.YtncidljdfipigaaDoor.Bt Go.Proofs.YtncidljdfipigaaDoor.Cd
/-- Symbols that are put together: how often they come, the least symbol, all symbols. -/
structure It where
  c : Nat
  f : Nat
  s : List Nat
def dflt : It := ⟨0, 0, []⟩
def less (x y : It) : Bool := decide (x.c < y.c ∨ x.c = y.c ∧ x.f < y.f)
/-- The place of the least of the first j + 1. -/
def leastTo (l : List It) : Nat → Nat
  | 0 => 0
  | j + 1 => if less (l.getD (j + 1) dflt) (l.getD (leastTo l j) dflt) then j + 1 else leastTo l j
def least (l : List It) : Nat := leastTo l (l.length - 1)
theorem leastTo_le (l : List It) : ∀ j, leastTo l j ≤ j
  | 0 => Nat.le_refl _
  | j + 1 => by
    have := leastTo_le l j
    unfold leastTo; split <;> omega
theorem least_lt {l : List It} (h : 0 < l.length) : least l < l.length := by
  have := leastTo_le l (l.length - 1)
  unfold least; omega
theorem leastTo_min (l : List It) : ∀ (j i : Nat), i ≤ j → (l.getD (leastTo l j) dflt).c ≤ (l.getD i dflt).c
  | 0, i, h => by
    obtain rfl : i = 0 := by omega
    exact Nat.le_refl _
  | j + 1, i, h => by
    unfold leastTo
    by_cases hl : less (l.getD (j + 1) dflt) (l.getD (leastTo l j) dflt) = true
    · rw [if_pos hl]
      simp only [less, decide_eq_true_eq] at hl
      by_cases hi : i = j + 1
      · rw [hi]; exact Nat.le_refl _
      · have := leastTo_min l j i (by omega)
        omega
    · rw [if_neg hl]
      simp only [less, decide_eq_true_eq] at hl
      by_cases hi : i = j + 1
      · rw [hi]; omega
      · exact leastTo_min l j i (by omega)
theorem least_min (l : List It) : ∀ x ∈ l, (l.getD (least l) dflt).c ≤ x.c := by
  intro x hx
  obtain ⟨i, hi, rfl⟩ := List.mem_iff_getElem.1 hx
  have := leastTo_min l (l.length - 1) i (by omega)
  rw [List.getD_eq_getElem?_getD (i := i), List.getElem?_eq_getElem hi] at this
  exact this
/-- One more at each of some places. -/
def bump : List Nat → List Nat → List Nat
  | out, [] => out
  | out, k :: t => bump (out.set k (out.getD k 0 + 1)) t
theorem bump_length : ∀ (s out : List Nat), (bump out s).length = out.length
  | [], _ => rfl
  | k :: t, out => by rw [bump, bump_length t, List.length_set]
theorem getD_set (out : List Nat) (k v j : Nat) (h : j < out.length) : (out.set k v).getD j 0 = if k = j then v else out.getD j 0 := by
  rw [List.getD_eq_getElem?_getD, List.getD_eq_getElem?_getD, List.getElem?_set]
  by_cases e : k = j
  · subst e; rw [if_pos rfl, if_pos rfl, if_pos h]; rfl
  · rw [if_neg e, if_neg e]
theorem bump_get : ∀ (s out : List Nat) (k : Nat), k < out.length → (bump out s).getD k 0 = out.getD k 0 + s.count k
  | [], _, _, _ => by simp [bump]
  | x :: t, out, k, h => by
    rw [bump, bump_get t _ k (by rw [List.length_set]; exact h), getD_set out x _ k h, List.count_cons]
    by_cases e : x = k
    · subst e; simp; omega
    · simp [e]
theorem list_ext {a b : List Nat} (hl : a.length = b.length) (h : ∀ k, k < a.length → a.getD k 0 = b.getD k 0) : a = b := by
  apply List.ext_getElem hl
  intro i h1 h2
  have := h i h1
  rw [List.getD_eq_getElem?_getD, List.getD_eq_getElem?_getD, List.getElem?_eq_getElem h1, List.getElem?_eq_getElem h2] at this
  exact this
theorem bump_perm (out : List Nat) {s t : List Nat} (h : s.Perm t) : bump out s = bump out t := by
  apply list_ext
  · rw [bump_length, bump_length]
  · intro k hk
    rw [bump_length] at hk
    rw [bump_get _ _ _ hk, bump_get _ _ _ hk, h.count_eq]
theorem bump_append : ∀ (s t out : List Nat), bump out (s ++ t) = bump (bump out s) t
  | [], _, _ => rfl
  | x :: s, t, out => by rw [List.cons_append, bump, bump, bump_append s t]
def one (a b : It) : It := ⟨a.c + b.c, min a.f b.f, a.s ++ b.s⟩
/-- The two least put together, as long as there are two. -/
def rounds : Nat → List Nat → List It → List Nat
  | 0, out, _ => out
  | n + 1, out, l => if l.length ≤ 1 then out else
    rounds n (bump out ((l.getD (least l) dflt).s ++ ((l.eraseIdx (least l)).getD (least (l.eraseIdx (least l))) dflt).s))
      ((l.eraseIdx (least l)).eraseIdx (least (l.eraseIdx (least l))) ++ [one (l.getD (least l) dflt) ((l.eraseIdx (least l)).getD (least (l.eraseIdx (least l))) dflt)])
def leaf (counts : List Nat) (k : Nat) : It := ⟨counts.getD k 0, k, [k]⟩
def some_ (counts : List Nat) (n : Nat) : List Nat := (List.range n).filter fun k => decide (0 < counts.getD k 0)
def leaves (counts : List Nat) : List It := (some_ counts counts.length).map (leaf counts)
def lensOf (counts : List Nat) : List Nat :=
  if (leaves counts).length = 1 then (List.replicate counts.length 0).set ((leaves counts).getD 0 dflt).f 1
  else rounds (leaves counts).length (List.replicate counts.length 0) (leaves counts)
theorem rounds_length : ∀ (n : Nat) (out : List Nat) (l : List It), (rounds n out l).length = out.length
  | 0, _, _ => rfl
  | n + 1, out, l => by
    unfold rounds; split
    · rfl
    · rw [rounds_length n, bump_length]
theorem lensOf_length (counts : List Nat) : (lensOf counts).length = counts.length := by
  unfold lensOf; split
  · simp
  · rw [rounds_length]; simp
def fib : Nat → Nat
  | 0 => 0
  | 1 => 1
  | n + 2 => fib n + fib (n + 1)
theorem fib_step (n : Nat) : fib (n + 2) = fib n + fib (n + 1) := rfl
theorem fib_le : ∀ n, fib n ≤ fib (n + 1)
  | 0 => by decide
  | n + 1 => by rw [fib_step]; omega
theorem fib_mono {a b : Nat} (h : a ≤ b) : fib a ≤ fib b := by
  induction b with
  | zero => obtain rfl : a = 0 := by omega
            exact Nat.le_refl _
  | succ b ih =>
    by_cases e : a = b + 1
    · rw [e]; exact Nat.le_refl _
    · exact Nat.le_trans (ih (by omega)) (fib_le b)
theorem fib_pos {n : Nat} (h : 1 ≤ n) : 1 ≤ fib n := fib_mono h
/-- What is known of symbols that are put together. -/
structure Tree (out : List Nat) (l : List It) (x : It) (d m : Nat) : Prop where
  ne : x.s ≠ []
  deep : ∀ k ∈ x.s, out.getD k 0 ≤ d
  sum : ∀ D, d ≤ D → (x.s.map fun k => 2 ^ (D - out.getD k 0)).sum = 2 ^ D
  big : fib (d + 2) ≤ x.c
  big2 : 1 ≤ d → fib (d + 1) ≤ m
  low : ∀ y ∈ l, m ≤ y.c
structure Good (out : List Nat) (l : List It) : Prop where
  nodup : (l.flatMap (·.s)).Nodup
  lt : ∀ k ∈ l.flatMap (·.s), k < out.length
  zero : ∀ k, k ∉ l.flatMap (·.s) → out.getD k 0 = 0
  tree : ∀ x ∈ l, ∃ d m, Tree out l x d m
theorem Good.perm {out : List Nat} {l l' : List It} (h : Good out l) (p : l.Perm l') : Good out l' := by
  have q : (l.flatMap (·.s)).Perm (l'.flatMap (·.s)) := p.flatMap_right _
  refine ⟨q.nodup_iff.1 h.nodup, fun k hk => h.lt k (q.mem_iff.2 hk), fun k hk => h.zero k (fun hh => hk (q.mem_iff.1 hh)), fun x hx => ?_⟩
  obtain ⟨d, m, t⟩ := h.tree x (p.mem_iff.2 hx)
  exact ⟨d, m, t.ne, t.deep, t.sum, t.big, t.big2, fun y hy => t.low y (p.mem_iff.2 hy)⟩
theorem count_one {l : List Nat} (h : l.Nodup) (k : Nat) : l.count k = if k ∈ l then 1 else 0 := by
  by_cases hk : k ∈ l
  · rw [if_pos hk, h.count, if_pos hk]
  · rw [if_neg hk, List.count_eq_zero.2 hk]
theorem bump_at {out s : List Nat} (h : s.Nodup) {k : Nat} (hk : k < out.length) : (bump out s).getD k 0 = out.getD k 0 + if k ∈ s then 1 else 0 := by
  rw [bump_get _ _ _ hk, count_one h]
theorem getD_over {l : List Nat} {k : Nat} (h : l.length ≤ k) : l.getD k 0 = 0 := by
  rw [List.getD_eq_getElem?_getD, List.getElem?_eq_none h]; rfl
theorem Good.join {out : List Nat} {a b : It} {r : List It} (h : Good out (a :: b :: r)) (hab : a.c ≤ b.c) (hbr : ∀ x ∈ r, b.c ≤ x.c) :
    Good (bump out (a.s ++ b.s)) (one a b :: r) := by
  have hfl : (a :: b :: r).flatMap (·.s) = (a.s ++ b.s) ++ r.flatMap (·.s) := by simp [List.flatMap_cons, List.append_assoc]
  have hfl2 : (one a b :: r).flatMap (·.s) = (a.s ++ b.s) ++ r.flatMap (·.s) := by simp [List.flatMap_cons, one]
  have hnd := h.nodup
  rw [hfl] at hnd
  have hlt := h.lt
  rw [hfl] at hlt
  have hz := h.zero
  rw [hfl] at hz
  obtain ⟨n1, n2, n3⟩ := List.nodup_append.1 hnd
  obtain ⟨m1, m2, m3⟩ := List.nodup_append.1 n1
  have hat : ∀ k, k < out.length → (bump out (a.s ++ b.s)).getD k 0 = out.getD k 0 + if k ∈ a.s ++ b.s then 1 else 0 := fun k hk => bump_at n1 hk
  refine ⟨by rw [hfl2]; exact hnd, by rw [hfl2, bump_length]; exact hlt, ?_, ?_⟩
  · rw [hfl2]
    intro k hk
    by_cases hkl : k < out.length
    · rw [hat k hkl, if_neg (fun e => hk (List.mem_append_left _ e)), hz k hk]
    · exact getD_over (by rw [bump_length]; omega)
  · obtain ⟨da, ma, ta⟩ := h.tree a (by simp)
    obtain ⟨db, mb, tb⟩ := h.tree b (by simp)
    have pa : ∀ k ∈ a.s, (bump out (a.s ++ b.s)).getD k 0 = out.getD k 0 + 1 := fun k hk => by
      rw [hat k (hlt k (by simp [hk])), if_pos (by simp [hk])]
    have pb : ∀ k ∈ b.s, (bump out (a.s ++ b.s)).getD k 0 = out.getD k 0 + 1 := fun k hk => by
      rw [hat k (hlt k (by simp [hk])), if_pos (by simp [hk])]
    have low : ∀ m, (∀ y ∈ a :: b :: r, m ≤ y.c) → ∀ y ∈ one a b :: r, m ≤ y.c := fun m hm y hy => by
      rcases List.mem_cons.1 hy with rfl | hy
      · have := hm a (by simp)
        show m ≤ a.c + b.c
        omega
      · exact hm y (by simp [hy])
    intro x hx
    rcases List.mem_cons.1 hx with rfl | hx
    · have hda : fib (da + 1) ≤ b.c := by
        by_cases e : 1 ≤ da
        · exact Nat.le_trans (ta.big2 e) (ta.low b (by simp))
        · obtain rfl : da = 0 := by omega
          have := tb.big
          have := fib_mono (show 1 ≤ db + 2 by omega)
          have e1 : fib 1 = 1 := rfl
          show fib 1 ≤ b.c
          omega
      have hdb : fib (db + 1) ≤ a.c := by
        by_cases e : 1 ≤ db
        · exact Nat.le_trans (tb.big2 e) (tb.low a (by simp))
        · obtain rfl : db = 0 := by omega
          have := ta.big
          have := fib_mono (show 1 ≤ da + 2 by omega)
          have e1 : fib 1 = 1 := rfl
          show fib 1 ≤ a.c
          omega
      have hba := ta.big
      have hbb := tb.big
      refine ⟨max da db + 1, b.c, by show a.s ++ b.s ≠ []; simp [ta.ne], ?_, ?_, ?_, ?_, ?_⟩
      · intro k hk
        rcases List.mem_append.1 (show k ∈ a.s ++ b.s from hk) with hk | hk
        · rw [pa k hk]; have := ta.deep k hk; omega
        · rw [pb k hk]; have := tb.deep k hk; omega
      · intro D hD
        obtain ⟨E, rfl⟩ : ∃ E, D = E + 1 := ⟨D - 1, by omega⟩
        have ea : a.s.map (fun k => 2 ^ (E + 1 - (bump out (a.s ++ b.s)).getD k 0)) = a.s.map (fun k => 2 ^ (E - out.getD k 0)) :=
          List.map_congr_left fun k hk => by rw [pa k hk, Nat.add_sub_add_right]
        have eb : b.s.map (fun k => 2 ^ (E + 1 - (bump out (a.s ++ b.s)).getD k 0)) = b.s.map (fun k => 2 ^ (E - out.getD k 0)) :=
          List.map_congr_left fun k hk => by rw [pb k hk, Nat.add_sub_add_right]
        show ((a.s ++ b.s).map _).sum = _
        rw [List.map_append, List.sum_append_nat, ea, eb, ta.sum E (by omega), tb.sum E (by omega), Nat.pow_succ]
        omega
      · show fib (max da db + 1 + 2) ≤ a.c + b.c
        rcases Nat.le_total da db with g | g
        · rw [Nat.max_eq_right g, show db + 1 + 2 = (db + 1) + 2 from rfl, fib_step]
          have e2 : db + 1 + 1 = db + 2 := rfl
          rw [e2]; omega
        · rw [Nat.max_eq_left g, show da + 1 + 2 = (da + 1) + 2 from rfl, fib_step]
          have e2 : da + 1 + 1 = da + 2 := rfl
          rw [e2]; omega
      · intro _
        show fib (max da db + 2) ≤ b.c
        rcases Nat.le_total da db with g | g
        · rw [Nat.max_eq_right g]; exact hbb
        · rw [Nat.max_eq_left g]; omega
      · intro y hy
        rcases List.mem_cons.1 hy with rfl | hy
        · show b.c ≤ a.c + b.c; omega
        · exact hbr y hy
    · obtain ⟨d, m, t⟩ := h.tree x (by simp [hx])
      have same : ∀ k ∈ x.s, (bump out (a.s ++ b.s)).getD k 0 = out.getD k 0 := fun k hk => by
        have hm : k ∈ r.flatMap (·.s) := List.mem_flatMap.2 ⟨x, hx, hk⟩
        rw [hat k (hlt k (List.mem_append_right _ hm)), if_neg (fun e => n3 k e k hm rfl)]; rfl
      refine ⟨d, m, t.ne, fun k hk => by rw [same k hk]; exact t.deep k hk, fun D hD => ?_, t.big, t.big2, low m t.low⟩
      rw [← t.sum D hD]
      congr 1
      exact List.map_congr_left fun k hk => by rw [same k hk]
theorem erase_cons : ∀ (l : List It) (i : Nat) (h : i < l.length), l.Perm (l[i] :: l.eraseIdx i)
  | x :: t, 0, _ => by simp
  | x :: t, i + 1, h => by
    have ih := erase_cons t i (by simpa using h)
    simp only [List.getElem_cons_succ, List.eraseIdx_cons_succ]
    exact (ih.cons x).trans (List.Perm.swap _ _ _)
theorem erase_perm {l : List It} {i : Nat} (h : i < l.length) : l.Perm (l.getD i dflt :: l.eraseIdx i) := by
  have := erase_cons l i h
  rw [List.getD_eq_getElem?_getD, List.getElem?_eq_getElem h]
  exact this
theorem two_least {l : List It} (h : 2 ≤ l.length) : ∃ a b r, a = l.getD (least l) dflt ∧ b = (l.eraseIdx (least l)).getD (least (l.eraseIdx (least l))) dflt ∧ r = (l.eraseIdx (least l)).eraseIdx (least (l.eraseIdx (least l))) ∧
    l.Perm (a :: b :: r) ∧ a.c ≤ b.c ∧ ∀ x ∈ r, b.c ≤ x.c := by
  have h1 := least_lt (l := l) (by omega)
  have p1 := erase_perm h1
  have hl : (l.eraseIdx (least l)).length = l.length - 1 := List.length_eraseIdx_of_lt h1
  have h2 := least_lt (l := l.eraseIdx (least l)) (by omega)
  have p2 := erase_perm h2
  refine ⟨_, _, _, rfl, rfl, rfl, p1.trans (p2.cons _), ?_, ?_⟩
  · exact least_min l _ (p1.mem_iff.2 (List.mem_cons_of_mem _ (p2.mem_iff.2 (by simp))))
  · intro x hx
    exact least_min _ x (p2.mem_iff.2 (by simp [hx]))
theorem rounds_good : ∀ (n : Nat) (out : List Nat) (l : List It), Good out l → l.length ≤ n → 1 ≤ l.length →
    ∃ x, Good (rounds n out l) [x] ∧ x.c = (l.map (·.c)).sum ∧ x.s.Perm (l.flatMap (·.s))
  | 0, out, l, h, hn, h1 => by omega
  | n + 1, out, l, h, hn, h1 => by
    unfold rounds
    by_cases hl : l.length ≤ 1
    · rw [if_pos hl]
      match l, h1, hl with
      | [x], _, _ => exact ⟨x, h, by simp, by simp⟩
    · rw [if_neg hl]
      obtain ⟨a, b, r, ha, hb, hr, p, hab, hbr⟩ := two_least (l := l) (by omega)
      rw [← ha, ← hb, ← hr]
      have g := ((h.perm p).join hab hbr).perm (show (one a b :: r).Perm (r ++ [one a b]) from (List.perm_append_comm (l₁ := [one a b]) (l₂ := r)))
      have hlen := p.length_eq
      simp only [List.length_cons] at hlen
      obtain ⟨x, gx, cx, sx⟩ := rounds_good n _ _ g (by simp; omega) (by simp)
      refine ⟨x, gx, ?_, ?_⟩
      · rw [cx]
        have := (p.map (·.c)).sum_nat
        rw [this]
        simp [one]; omega
      · refine sx.trans ?_
        refine ((List.perm_append_comm (l₁ := r) (l₂ := [one a b])).flatMap_right _).trans ?_
        refine List.Perm.trans ?_ (p.flatMap_right (·.s)).symm
        simp [List.flatMap_cons, one]
theorem leaves_good (counts : List Nat) : Good (List.replicate counts.length 0) (leaves counts) := by
  have hf : (leaves counts).flatMap (·.s) = some_ counts counts.length := by
    unfold leaves
    rw [List.flatMap_map]
    simp [leaf]
  have hm : ∀ k, k ∈ some_ counts counts.length ↔ k < counts.length ∧ 0 < counts.getD k 0 := fun k => by simp [some_]
  have hz : ∀ k, (List.replicate counts.length 0).getD k 0 = 0 := fun k => by
    rw [List.getD_eq_getElem?_getD, List.getElem?_replicate]; split <;> rfl
  refine ⟨by rw [hf]; exact List.nodup_range.filter _, fun k hk => ?_, fun k _ => hz k, fun x hx => ?_⟩
  · rw [hf, hm] at hk; simpa using hk.1
  · obtain ⟨k, hk, rfl⟩ := List.mem_map.1 hx
    have := (hm k).1 hk
    refine ⟨0, 0, by simp [leaf], fun j hj => by rw [hz j]; exact Nat.le_refl _, fun D _ => ?_, ?_, fun h => by omega, fun y hy => Nat.zero_le _⟩
    · simp only [leaf, List.map_cons, List.map_nil, List.sum_cons, List.sum_nil, hz]; simp
    · show fib 2 ≤ counts.getD k 0
      have e : fib 2 = 1 := rfl
      omega
theorem sum_range_some (counts : List Nat) : ((leaves counts).map (·.c)).sum = counts.sum := by
  have h1 : ∀ n, n ≤ counts.length → (((some_ counts n).map (leaf counts)).map (·.c)).sum = (counts.take n).sum := by
    intro n
    induction n with
    | zero => intro _; simp [some_]
    | succ n ih =>
      intro hn
      have ih := ih (by omega)
      have hg : counts.getD n 0 = counts[n] := by rw [List.getD_eq_getElem?_getD, List.getElem?_eq_getElem (by omega)]; rfl
      have e : some_ counts (n + 1) = some_ counts n ++ if 0 < counts.getD n 0 then [n] else [] := by
        unfold some_
        rw [List.range_succ, List.filter_append]
        congr 1
        by_cases h : 0 < counts.getD n 0 <;> simp [List.filter_cons]
      rw [e, List.map_append, List.map_append, List.sum_append_nat, ih, List.take_succ_eq_append_getElem (by omega), List.sum_append_nat]
      by_cases h : 0 < counts.getD n 0
      · rw [if_pos h]; simp only [List.map_cons, List.map_nil, List.sum_cons, List.sum_nil, leaf, hg]
      · rw [if_neg h]; simp only [List.map_nil, List.sum_nil, List.sum_cons]; omega
  have := h1 counts.length (Nat.le_refl _)
  rw [List.take_length] at this
  exact this
theorem leaf_f (counts : List Nat) (h : (leaves counts).length = 1) : ∃ k, k < counts.length ∧ leaves counts = [leaf counts k] ∧ (∀ j, 0 < counts.getD j 0 ↔ j = k) := by
  unfold leaves at h ⊢
  rw [List.length_map] at h
  obtain ⟨k, hk⟩ := List.length_eq_one_iff.1 h
  have hm : ∀ j, j ∈ some_ counts counts.length ↔ j < counts.length ∧ 0 < counts.getD j 0 := fun j => by simp [some_]
  rw [hk] at hm ⊢
  simp only [List.mem_singleton] at hm
  refine ⟨k, ((hm k).1 rfl).1, rfl, fun j => ⟨fun hj => ?_, fun e => ((hm j).1 e).2⟩⟩
  by_cases hl : j < counts.length
  · exact (hm j).2 ⟨hl, hj⟩
  · rw [getD_over (by omega)] at hj; omega
theorem sum_map_range (g : Nat → Nat) : ∀ (l : List Nat), (l.map g).sum = ((List.range l.length).map fun k => g (l.getD k 0)).sum := by
  intro l
  congr 1
  apply List.ext_getElem?
  intro i
  rw [List.getElem?_map, List.getElem?_map]
  by_cases h : i < l.length
  · simp [h]
  · simp [h]
theorem sum_over {n : Nat} {s : List Nat} (hn : s.Nodup) (hs : ∀ k ∈ s, k < n) (g : Nat → Nat) (hg : ∀ k, k < n → k ∉ s → g k = 0) : ((List.range n).map g).sum = (s.map g).sum := by
  have p : (List.range n).Perm (s ++ (List.range n).filter (fun k => decide (k ∉ s))) := by
    refine (List.perm_ext_iff_of_nodup List.nodup_range ?_).2 (fun a => ?_)
    · refine List.nodup_append.2 ⟨hn, List.nodup_range.filter _, fun a ha b hb e => ?_⟩
      subst e
      simp at hb
      exact hb.2 ha
    · simp only [List.mem_range, List.mem_append, List.mem_filter, decide_eq_true_eq]
      constructor
      · intro h
        by_cases hm : a ∈ s
        · exact .inl hm
        · exact .inr ⟨h, hm⟩
      · rintro (h | h)
        · exact hs a h
        · exact h.1
  have := (p.map g).sum_nat
  rw [this, List.map_append, List.sum_append_nat]
  have z : ∀ t : List Nat, (∀ k ∈ t, g k = 0) → (t.map g).sum = 0 := by
    intro t
    induction t with
    | nil => intro _; rfl
    | cons x t ih => intro h; rw [List.map_cons, List.sum_cons, h x (by simp), ih (fun k hk => h k (by simp [hk]))]
  rw [z ((List.range n).filter (fun k => decide (k ∉ s))) (fun k hk => by
    have := List.mem_filter.1 hk
    exact hg k (List.mem_range.1 this.1) (by simpa using this.2))]
  exact Nat.add_zero _
theorem sum_pos_le {t : List Nat} {g : Nat → Nat} {k : Nat} (hk : k ∈ t) : g k ≤ (t.map g).sum := by
  induction t with
  | nil => cases hk
  | cons x t ih =>
    rw [List.map_cons, List.sum_cons]
    rcases List.mem_cons.1 hk with rfl | h
    · omega
    · have := ih h; omega
/-- What is known of the lengths. -/
structure Lens (counts lens : List Nat) : Prop where
  len : lens.length = counts.length
  pos : ∀ k, 0 < counts.getD k 0 → 1 ≤ lens.getD k 0
  zero : ∀ k, counts.getD k 0 = 0 → lens.getD k 0 = 0
  full : (∀ x ∈ lens, x ≤ 15) → kraft lens = 32768 ∨ (used lens = 1 ∧ kraft lens = 16384)
theorem getD_le' {l : List Nat} {m : Nat} (h : ∀ k, k < l.length → l.getD k 0 ≤ m) : ∀ x ∈ l, x ≤ m := by
  intro x hx
  obtain ⟨i, hi, rfl⟩ := List.mem_iff_getElem.1 hx
  have := h i hi
  rw [List.getD_eq_getElem?_getD, List.getElem?_eq_getElem hi] at this
  exact this
theorem used_range (lens : List Nat) : used lens = ((List.range lens.length).map fun k => if 0 < lens.getD k 0 then 1 else 0).sum := by
  rw [← sum_map_range (fun x => if 0 < x then 1 else 0) lens]
  unfold used
  induction lens with
  | nil => rfl
  | cons x t ih => rw [List.map_cons, List.sum_cons, ← ih, List.filter_cons]; by_cases h : 0 < x <;> simp [h]; omega
theorem lensOf_ok (counts : List Nat) (hp : ∃ k, 0 < counts.getD k 0) : Lens counts (lensOf counts) ∧ ∃ d, fib (d + 2) ≤ max 2 counts.sum ∧ ∀ x ∈ lensOf counts, x ≤ d := by
  by_cases h1 : (leaves counts).length = 1
  · obtain ⟨k, hk, hl, hj⟩ := leaf_f counts h1
    have e : lensOf counts = (List.replicate counts.length 0).set k 1 := by
      unfold lensOf; rw [if_pos h1, hl]; rfl
    have hz : ∀ j, (List.replicate counts.length 0).getD j 0 = 0 := fun j => by
      rw [List.getD_eq_getElem?_getD, List.getElem?_replicate]; split <;> rfl
    have hg : ∀ j, j < counts.length → (lensOf counts).getD j 0 = if k = j then 1 else 0 := fun j hj => by
      rw [e, getD_set _ _ _ _ (by simpa using hj), hz j]
    have hg2 : ∀ j, (lensOf counts).getD j 0 = if k = j then 1 else 0 := fun j => by
      by_cases h : j < counts.length
      · exact hg j h
      · rw [getD_over (by rw [lensOf_length]; omega), if_neg (by omega)]
    refine ⟨⟨lensOf_length _, fun j h => ?_, fun j h => ?_, fun _ => .inr ⟨?_, ?_⟩⟩, 1, ?_, getD_le' fun j _ => ?_⟩
    · rw [hg2, if_pos ((hj j).1 h).symm]; omega
    · rw [hg2, if_neg]
      intro ee
      have := (hj j).2 ee.symm
      omega
    · rw [used_range, lensOf_length, sum_over (s := [k]) (by simp) (by simpa using hk)]
      · simp only [List.map_cons, List.map_nil, List.sum_cons, List.sum_nil, hg2, if_pos]; rfl
      · intro j hj hjs
        rw [hg2]
        have : k ≠ j := fun e => hjs (by simp [e])
        simp [this]
    · unfold kraft
      rw [sum_map_range, lensOf_length, sum_over (s := [k]) (by simp) (by simpa using hk)]
      · simp only [List.map_cons, List.map_nil, List.sum_cons, List.sum_nil, hg2, if_pos]; rfl
      · intro j hj hjs
        rw [hg2]
        have : k ≠ j := fun e => hjs (by simp [e])
        simp [this]
    · have e : fib (1 + 2) = 2 := rfl
      omega
    · rw [hg2]; split <;> omega
  · have h2 : 2 ≤ (leaves counts).length := by
      obtain ⟨k, hk⟩ := hp
      have hkl : k < counts.length := by
        rcases Nat.lt_or_ge k counts.length with h | h
        · exact h
        · rw [getD_over h] at hk; omega
      have : k ∈ some_ counts counts.length := by simp [some_]; exact ⟨hkl, by simpa [List.getD_eq_getElem?_getD] using hk⟩
      have : 0 < (leaves counts).length := by
        unfold leaves; rw [List.length_map]; exact List.length_pos_of_mem this
      omega
    have e : lensOf counts = rounds (leaves counts).length (List.replicate counts.length 0) (leaves counts) := by unfold lensOf; rw [if_neg h1]
    obtain ⟨x, g, cx, sx⟩ := rounds_good _ _ _ (leaves_good counts) (Nat.le_refl _) (by omega)
    rw [← e] at g
    have hf : (leaves counts).flatMap (·.s) = some_ counts counts.length := by
      unfold leaves
      rw [List.flatMap_map]
      simp [leaf]
    rw [hf] at sx
    have hm : ∀ k, k ∈ some_ counts counts.length ↔ k < counts.length ∧ 0 < counts.getD k 0 := fun k => by simp [some_]
    have hx : ∀ k, k ∈ x.s ↔ 0 < counts.getD k 0 := fun k => by
      rw [sx.mem_iff, hm]
      constructor
      · exact fun h => h.2
      · intro h
        refine ⟨?_, h⟩
        rcases Nat.lt_or_ge k counts.length with h' | h'
        · exact h'
        · rw [getD_over h'] at h; omega
    obtain ⟨d, m, t⟩ := g.tree x (by simp)
    have hnd : x.s.Nodup := by have := g.nodup; simpa using this
    have hlt : ∀ k ∈ x.s, k < counts.length := fun k hk => by
      have := g.lt k (by simpa using hk); rw [lensOf_length] at this; exact this
    have hz : ∀ k, k ∉ x.s → (lensOf counts).getD k 0 = 0 := fun k hk => g.zero k (by simpa using hk)
    have hl2 : 2 ≤ x.s.length := by
      rw [sx.length_eq]; unfold leaves at h2; rw [List.length_map] at h2; exact h2
    have hone : ∀ k ∈ x.s, 1 ≤ (lensOf counts).getD k 0 := by
      intro k hk
      rcases Nat.eq_zero_or_pos ((lensOf counts).getD k 0) with h0 | h0
      · exfalso
        have hs := t.sum d (Nat.le_refl _)
        obtain ⟨a, b, hab⟩ := List.append_of_mem hk
        rw [hab, List.map_append, List.sum_append_nat, List.map_cons, List.sum_cons, h0, Nat.sub_zero] at hs
        have hlen : 2 ≤ a.length + (b.length + 1) := by rw [hab] at hl2; simpa using hl2
        have z : ∀ t : List Nat, t ≠ [] → 0 < (t.map fun k => 2 ^ (d - (lensOf counts).getD k 0)).sum := by
          intro t ht
          cases t with
          | nil => exact absurd rfl ht
          | cons y t => rw [List.map_cons, List.sum_cons]; have := Nat.two_pow_pos (d - (lensOf counts).getD y 0); omega
        by_cases ha : a = []
        · by_cases hb : b = []
          · subst ha; subst hb; simp at hlen
          · have := z b hb; omega
        · have := z a ha; omega
      · exact h0
    refine ⟨⟨lensOf_length _, fun k hk => hone k ((hx k).2 hk), fun k hk => hz k (fun h => by have := (hx k).1 h; omega), fun h15 => .inl ?_⟩, d, ?_, getD_le' fun k hk => ?_⟩
    · unfold kraft
      rw [sum_map_range, lensOf_length, sum_over hnd hlt]
      · have h15' : ∀ k ∈ x.s, (lensOf counts).getD k 0 ≤ 15 := fun k _ => getD_le h15 k
        rw [← show (x.s.map fun k => 2 ^ (15 - (lensOf counts).getD k 0)).sum = 32768 from ?_]
        · congr 1
          exact List.map_congr_left fun k hk => by rw [if_neg (by have := hone k hk; omega)]
        · by_cases hd : d ≤ 15
          · exact t.sum 15 hd
          · have hs := t.sum d (Nat.le_refl _)
            have e2 : (x.s.map fun k => 2 ^ (d - (lensOf counts).getD k 0)) = (x.s.map fun k => 2 ^ (d - 15) * 2 ^ (15 - (lensOf counts).getD k 0)) :=
              List.map_congr_left fun k hk => by rw [← Nat.pow_add]; congr 1; have := h15' k hk; omega
            have e3 : ∀ (q : Nat) (f : Nat → Nat) (t : List Nat), (t.map fun k => q * f k).sum = q * (t.map f).sum := by
              intro q f t
              induction t with
              | nil => rfl
              | cons y t ih => rw [List.map_cons, List.sum_cons, ih, List.map_cons, List.sum_cons, Nat.mul_add]
            rw [e2, e3, show (2 : Nat) ^ d = 2 ^ (d - 15) * 2 ^ 15 from by rw [← Nat.pow_add]; congr 1; omega] at hs
            exact Nat.eq_of_mul_eq_mul_left (Nat.two_pow_pos _) hs
      · intro k hk hks
        rw [hz k hks]; rfl
    · rw [sum_range_some] at cx
      have := t.big
      omega
    · by_cases hks : k ∈ x.s
      · exact t.deep k hks
      · rw [hz k hks]; exact Nat.zero_le _
/-- The greatest of some lengths. -/
def topTo (l : List Nat) : Nat → Nat
  | 0 => 0
  | n + 1 => max (topTo l n) (l.getD n 0)
def top (l : List Nat) : Nat := topTo l l.length
theorem topTo_ge (l : List Nat) : ∀ (n k : Nat), k < n → l.getD k 0 ≤ topTo l n
  | 0, _, h => by omega
  | n + 1, k, h => by
    unfold topTo
    by_cases e : k = n
    · subst e; omega
    · have := topTo_ge l n k (by omega); omega
theorem topTo_le {l : List Nat} {m : Nat} (h : ∀ x ∈ l, x ≤ m) : ∀ n, topTo l n ≤ m
  | 0 => Nat.zero_le _
  | n + 1 => by
    have := topTo_le h n
    have := getD_le h n
    unfold topTo; omega
theorem le_top {l : List Nat} : ∀ x ∈ l, x ≤ top l := getD_le' fun k hk => topTo_ge l l.length k hk
def halve (c : List Nat) : List Nat := c.map fun x => (x + 1) / 2
theorem halve_length (c : List Nat) : (halve c).length = c.length := by simp [halve]
theorem halve_getD (c : List Nat) (k : Nat) : (halve c).getD k 0 = (c.getD k 0 + 1) / 2 := by
  unfold halve
  rw [List.getD_eq_getElem?_getD, List.getD_eq_getElem?_getD, List.getElem?_map]
  cases c[k]? <;> rfl
theorem halve_sum_le : ∀ c : List Nat, (halve c).sum ≤ c.sum
  | [] => Nat.le_refl _
  | x :: t => by
    have := halve_sum_le t
    unfold halve at this ⊢
    rw [List.map_cons, List.sum_cons, List.sum_cons]; omega
theorem halve_sum_lt : ∀ c : List Nat, (∃ x ∈ c, 2 ≤ x) → (halve c).sum < c.sum
  | [], h => by obtain ⟨x, hx, _⟩ := h; cases hx
  | y :: t, h => by
    have hle := halve_sum_le t
    obtain ⟨x, hx, h2⟩ := h
    rcases List.mem_cons.1 hx with rfl | hx
    · unfold halve at hle ⊢
      rw [List.map_cons, List.sum_cons, List.sum_cons]; omega
    · have := halve_sum_lt t ⟨x, hx, h2⟩
      unfold halve at this ⊢
      rw [List.map_cons, List.sum_cons, List.sum_cons]; omega
theorem sum_le_length : ∀ c : List Nat, (∀ x ∈ c, x ≤ 1) → c.sum ≤ c.length
  | [], _ => Nat.le_refl _
  | y :: t, h => by
    have := sum_le_length t (fun x hx => h x (by simp [hx]))
    have := h y (by simp)
    rw [List.sum_cons, List.length_cons]; omega
theorem top_small {c : List Nat} {most : Nat} (hm : 1 ≤ most) (hc : ∃ k, 0 < c.getD k 0) (hs : c.sum < fib (most + 3)) : top (lensOf c) ≤ most := by
  obtain ⟨_, d, hd, hx⟩ := lensOf_ok c hc
  refine topTo_le (fun x h => Nat.le_trans (hx x h) ?_) _
  rcases Nat.lt_or_ge most d with h | h
  · have a := fib_mono (show most + 3 ≤ d + 2 by omega)
    have b := fib_mono (show 4 ≤ most + 3 by omega)
    have e : fib 4 = 3 := rfl
    omega
  · exact h
theorem halve_less {c : List Nat} {most : Nat} (hm : 1 ≤ most) (hc : ∃ k, 0 < c.getD k 0) (hl : c.length < fib (most + 3)) (ht : most < top (lensOf c)) : (halve c).sum < c.sum := by
  apply halve_sum_lt
  rcases Classical.em (∃ x ∈ c, 2 ≤ x) with h | h
  · exact h
  · exfalso
    have h1 : ∀ x ∈ c, x ≤ 1 := fun x hx => by
      rcases Nat.lt_or_ge x 2 with h' | h'
      · omega
      · exact absurd ⟨x, hx, h'⟩ h
    have := sum_le_length c h1
    have := top_small hm hc (by omega)
    omega
theorem halve_pos {c : List Nat} (hc : ∃ k, 0 < c.getD k 0) : ∃ k, 0 < (halve c).getD k 0 := by
  obtain ⟨k, hk⟩ := hc
  exact ⟨k, by rw [halve_getD]; omega⟩
/-- Lengths none of which is longer than most: counts are halved as long as one is. -/
def fitN (most : Nat) : Nat → List Nat → List Nat
  | 0, c => lensOf c
  | n + 1, c => if top (lensOf c) ≤ most then lensOf c else fitN most n (halve c)
def fit (most : Nat) (c : List Nat) : List Nat := fitN most c.sum c
theorem fitN_more {most : Nat} (hm : 1 ≤ most) : ∀ (a b : Nat) (c : List Nat), (∃ k, 0 < c.getD k 0) → c.length < fib (most + 3) → c.sum ≤ a → c.sum ≤ b → fitN most a c = fitN most b c
  | 0, b, c, hc, hl, ha, hb => by
    obtain ⟨k, hk⟩ := hc
    exfalso
    have : c.getD k 0 ≤ c.sum := by
      have hkl : k < c.length := by
        rcases Nat.lt_or_ge k c.length with h | h
        · exact h
        · rw [getD_over h] at hk; omega
      have hm : c.getD k 0 ∈ c := by rw [List.getD_eq_getElem?_getD, List.getElem?_eq_getElem hkl]; exact List.getElem_mem hkl
      have := sum_pos_le (g := id) hm
      simpa using this
    omega
  | a + 1, 0, c, hc, hl, ha, hb => (fitN_more hm 0 (a + 1) c hc hl hb ha).symm
  | a + 1, b + 1, c, hc, hl, ha, hb => by
    unfold fitN
    by_cases h : top (lensOf c) ≤ most
    · rw [if_pos h, if_pos h]
    · rw [if_neg h, if_neg h]
      have := halve_less hm hc hl (by omega)
      exact fitN_more hm a b (halve c) (halve_pos hc) (by rw [halve_length]; exact hl) (by omega) (by omega)
theorem fit_step {most : Nat} {c : List Nat} (hm : 1 ≤ most) (hc : ∃ k, 0 < c.getD k 0) (hl : c.length < fib (most + 3)) : fit most c = if top (lensOf c) ≤ most then lensOf c else fit most (halve c) := by
  unfold fit
  rw [fitN_more hm c.sum (c.sum + 1) c hc hl (Nat.le_refl _) (by omega)]
  conv => lhs; unfold fitN
  by_cases h : top (lensOf c) ≤ most
  · rw [if_pos h, if_pos h]
  · rw [if_neg h, if_neg h]
    exact fitN_more hm _ _ _ (halve_pos hc) (by rw [halve_length]; exact hl) (halve_sum_le c) (Nat.le_refl _)
theorem fit_ok {most : Nat} (hm : 1 ≤ most) (h15 : most ≤ 15) : ∀ (n : Nat) (c : List Nat), c.sum ≤ n → (∃ k, 0 < c.getD k 0) → c.length < fib (most + 3) → Lens c (fit most c) ∧ (∀ x ∈ fit most c, x ≤ most) := by
  intro n
  induction n with
  | zero =>
    intro c hn hc hl
    rw [fit_step hm hc hl]
    have := top_small hm hc (show c.sum < fib (most + 3) by have := fib_pos (show 1 ≤ most + 3 by omega); omega)
    rw [if_pos this]
    exact ⟨(lensOf_ok c hc).1, fun x hx => Nat.le_trans (le_top x hx) this⟩
  | succ n ih =>
    intro c hn hc hl
    rw [fit_step hm hc hl]
    by_cases h : top (lensOf c) ≤ most
    · rw [if_pos h]
      exact ⟨(lensOf_ok c hc).1, fun x hx => Nat.le_trans (le_top x hx) h⟩
    · rw [if_neg h]
      have hless := halve_less hm hc hl (by omega)
      obtain ⟨L, hle⟩ := ih (halve c) (by omega) (halve_pos hc) (by rw [halve_length]; exact hl)
      refine ⟨⟨by rw [L.len, halve_length], fun k hk => L.pos k (by rw [halve_getD]; omega), fun k hk => L.zero k (by rw [halve_getD, hk]), L.full⟩, hle⟩
theorem fit_okLens {most : Nat} {c : List Nat} (hm : 1 ≤ most) (h15 : most ≤ 15) (hc : ∃ k, 0 < c.getD k 0) (hl : c.length < fib (most + 3)) (h300 : c.length ≤ 300) : okLens (fit most c) = true := by
  obtain ⟨L, hle⟩ := fit_ok hm h15 c.sum c (Nat.le_refl _) hc hl
  have h15' : ∀ x ∈ fit most c, x ≤ 15 := fun x hx => Nat.le_trans (hle x hx) h15
  have := L.full h15'
  simp only [okLens, Bool.and_eq_true, Bool.or_eq_true, decide_eq_true_eq, List.all_eq_true]
  exact ⟨⟨by rw [L.len]; exact h300, h15'⟩, this⟩
end Go.Proofs.YtncidljdfipigaaDoor.Hf

/- Tokens of a text, and the text that tokens make, as plain functions over lists of numbers, and what is true of them. Nothing of the program stands here. -/
namespace Go.Proofs.YtncidljdfipigaaDoor.Lz
/-- A token: a byte, or so many bytes that stand so far back. -/
structure Tok where
  byte : Int
  long : Int
  back : Int
  deriving DecidableEq
/-- How many places from p on hold what the places from q on hold: at most so many. -/
def run (t : List Nat) (p q : Nat) : Nat → Nat
  | 0 => 0
  | f + 1 => if p < t.length ∧ t[p]? = t[q]? then run t (p + 1) (q + 1) f + 1 else 0
theorem run_le (t : List Nat) : ∀ (f p q : Nat), run t p q f ≤ f
  | 0, _, _ => Nat.le_refl _
  | f + 1, p, q => by
    unfold run
    by_cases h : p < t.length ∧ t[p]? = t[q]?
    · rw [if_pos h]; have := run_le t f (p + 1) (q + 1); omega
    · rw [if_neg h]; omega
theorem run_lt (t : List Nat) : ∀ (f p q i : Nat), i < run t p q f → p + i < t.length ∧ t[p + i]? = t[q + i]?
  | 0, _, _, i => by intro h; simp [run] at h
  | f + 1, p, q, i => by
    intro h
    unfold run at h
    by_cases hc : p < t.length ∧ t[p]? = t[q]?
    · rw [if_pos hc] at h
      cases i with
      | zero => exact hc
      | succ i =>
        have := run_lt t f (p + 1) (q + 1) i (by omega)
        rw [show p + (i + 1) = p + 1 + i from by omega, show q + (i + 1) = q + 1 + i from by omega]
        exact this
    · rw [if_neg hc] at h; omega
theorem run_end (t : List Nat) : ∀ (f p q : Nat), run t p q f < f → ¬ (p + run t p q f < t.length ∧ t[p + run t p q f]? = t[q + run t p q f]?)
  | 0, _, _ => by intro h; simp [run] at h
  | f + 1, p, q => by
    intro h
    unfold run at h ⊢
    by_cases hc : p < t.length ∧ t[p]? = t[q]?
    · rw [if_pos hc] at h ⊢
      have := run_end t f (p + 1) (q + 1) (by omega)
      rw [show p + (run t (p + 1) (q + 1) f + 1) = p + 1 + run t (p + 1) (q + 1) f from by omega, show q + (run t (p + 1) (q + 1) f + 1) = q + 1 + run t (p + 1) (q + 1) f from by omega]
      exact this
    · rw [if_neg hc]; exact hc
theorem run_bound (t : List Nat) (f p q : Nat) : run t p q f ≤ t.length - p := by
  by_cases h : run t p q f = 0
  · omega
  · have := (run_lt t f p q (run t p q f - 1) (by omega)).1
    omega
/-- How many bytes from a place on are the same as so far back; at most 60. -/
def mlen (t : List Nat) (at_ back : Nat) : Nat := run t at_ (at_ - back) 60
/-- The longest of the first j distances, and the least such distance. -/
def best (t : List Nat) (at_ : Nat) : Nat → Nat × Nat
  | 0 => (0, 0)
  | j + 1 => if mlen t at_ (j + 1) > (best t at_ j).1 then (mlen t at_ (j + 1), j + 1) else best t at_ j
theorem best_form (t : List Nat) (a : Nat) : ∀ j, ((best t a j).1 = 0 ∧ (best t a j).2 = 0) ∨ (1 ≤ (best t a j).2 ∧ (best t a j).2 ≤ j ∧ (best t a j).1 = mlen t a (best t a j).2 ∧ 0 < (best t a j).1)
  | 0 => .inl ⟨rfl, rfl⟩
  | j + 1 => by
    unfold best
    by_cases h : mlen t a (j + 1) > (best t a j).1
    · rw [if_pos h]; exact .inr ⟨by omega, Nat.le_refl _, rfl, by simp only; omega⟩
    · rw [if_neg h]
      rcases best_form t a j with h0 | ⟨h1, h2, h3, h4⟩
      · exact .inl h0
      · exact .inr ⟨h1, by omega, h3, h4⟩
theorem best_max (t : List Nat) (a : Nat) : ∀ j b, 1 ≤ b → b ≤ j → mlen t a b ≤ (best t a j).1 ∧ (b < (best t a j).2 → mlen t a b < (best t a j).1)
  | 0, b, h1, h2 => by omega
  | j + 1, b, h1, h2 => by
    unfold best
    by_cases h : mlen t a (j + 1) > (best t a j).1
    · rw [if_pos h]
      by_cases hb : b = j + 1
      · subst hb; exact ⟨Nat.le_refl _, fun hh => by simp at hh⟩
      · have := (best_max t a j b h1 (by omega)).1
        exact ⟨by simp only; omega, fun _ => by simp only; omega⟩
    · rw [if_neg h]
      by_cases hb : b = j + 1
      · subst hb
        refine ⟨by omega, fun hh => ?_⟩
        rcases best_form t a j with h0 | ⟨_, h2, _, _⟩ <;> omega
      · exact best_max t a j b h1 (by omega)
theorem best_le (t : List Nat) (a j : Nat) : (best t a j).1 ≤ 60 ∧ (best t a j).1 ≤ t.length - a := by
  rcases best_form t a j with h | ⟨_, _, h, _⟩
  · omega
  · rw [h]; exact ⟨run_le _ _ _ _, run_bound _ _ _ _⟩
theorem mlen_le (t : List Nat) (a b : Nat) : mlen t a b ≤ 60 := run_le _ _ _ _
theorem best_le_60 (t : List Nat) (a j : Nat) : (best t a j).1 ≤ 60 := (best_le t a j).1
/-- Tokens from a place on. -/
def toks (t : List Nat) : Nat → Nat → List Tok
  | 0, _ => []
  | f + 1, a => if a < t.length then (if (best t a (min 250 a)).1 < 3 then ⟨(t.getD a 0 : Nat), 0, 0⟩ :: toks t f (a + 1) else ⟨0, (best t a (min 250 a)).1, (best t a (min 250 a)).2⟩ :: toks t f (a + (best t a (min 250 a)).1)) else []
def tokens (t : List Nat) : List Tok := toks t t.length 0
theorem toks_more (t : List Nat) : ∀ (f g a : Nat), t.length - a ≤ f → t.length - a ≤ g → toks t f a = toks t g a
  | 0, g, a, h, _ => by
    cases g with
    | zero => rfl
    | succ g => simp only [toks]; rw [if_neg (by omega)]
  | f + 1, g, a, h, h' => by
    by_cases ha : a < t.length
    · cases g with
      | zero => omega
      | succ g =>
        simp only [toks]
        rw [if_pos ha, if_pos ha]
        by_cases hb : (best t a (min 250 a)).1 < 3
        · rw [if_pos hb, if_pos hb, toks_more t f g (a + 1) (by omega) (by omega)]
        · rw [if_neg hb, if_neg hb, toks_more t f g _ (by omega) (by omega)]
    · have : ∀ g, toks t g a = [] := fun g => by cases g <;> simp [toks, ha]
      rw [this, this]
/-- So many bytes, one by one those that stand so far back. -/
def copy (out : List Nat) (back : Nat) : Nat → List Nat
  | 0 => out
  | n + 1 => copy out back n ++ [(copy out back n).getD ((copy out back n).length - back) 0]
theorem copy_length (out : List Nat) (back : Nat) : ∀ n, (copy out back n).length = out.length + n
  | 0 => rfl
  | n + 1 => by simp only [copy, List.length_append, List.length_cons, List.length_nil, copy_length out back n]; omega
/-- What a token makes behind bytes. -/
def add (out : List Nat) (t : Tok) : Option (List Nat) :=
  if t.long = 0 then (if t.back = 0 ∧ 0 ≤ t.byte ∧ t.byte ≤ 255 then some (out ++ [t.byte.toNat]) else none)
  else if t.byte = 0 ∧ 3 ≤ t.long ∧ t.long ≤ 60 ∧ 1 ≤ t.back ∧ t.back ≤ 250 ∧ t.back ≤ (out.length : Int) then some (copy out t.back.toNat t.long.toNat) else none
/-- The text that tokens make behind bytes. -/
def text : List Nat → List Tok → Option (List Nat)
  | out, [] => some out
  | out, t :: r => match add out t with
    | none => none
    | some o => if o.length > 300 then none else text o r
theorem copy_prefix (out : List Nat) (back : Nat) : ∀ n, ∃ e, copy out back n = out ++ e ∧ e.length = n
  | 0 => ⟨[], by simp [copy], rfl⟩
  | n + 1 => by
    obtain ⟨e, h, hl⟩ := copy_prefix out back n
    refine ⟨e ++ [(copy out back n).getD ((copy out back n).length - back) 0], ?_, by simp [hl]⟩
    simp only [copy]
    rw [h, List.append_assoc]
theorem add_prefix {out o : List Nat} {t : Tok} (h : add out t = some o) : ∃ e, e ≠ [] ∧ o = out ++ e := by
  unfold add at h
  by_cases h0 : t.long = 0
  · rw [if_pos h0] at h
    by_cases h1 : t.back = 0 ∧ 0 ≤ t.byte ∧ t.byte ≤ 255
    · rw [if_pos h1] at h
      exact ⟨_, by simp, (Option.some.inj h).symm⟩
    · rw [if_neg h1] at h; cases h
  · rw [if_neg h0] at h
    by_cases h1 : t.byte = 0 ∧ 3 ≤ t.long ∧ t.long ≤ 60 ∧ 1 ≤ t.back ∧ t.back ≤ 250 ∧ t.back ≤ (out.length : Int)
    · rw [if_pos h1] at h
      obtain ⟨e, he, hl⟩ := copy_prefix out t.back.toNat t.long.toNat
      refine ⟨e, ?_, by rw [← he]; exact (Option.some.inj h).symm⟩
      intro hn
      subst hn
      simp at hl
      omega
    · rw [if_neg h1] at h; cases h
theorem text_append (b : List Tok) : ∀ (a : List Tok) (out : List Nat), text out (a ++ b) = (text out a).bind fun o => text o b
  | [], out => rfl
  | t :: r, out => by
    simp only [List.cons_append, text]
    cases add out t with
    | none => rfl
    | some o =>
      simp only
      by_cases h : o.length > 300
      · rw [if_pos h, if_pos h]; rfl
      · rw [if_neg h, if_neg h]; exact text_append b r o
theorem text_le : ∀ (a : List Tok) (out o : List Nat), out.length ≤ 300 → text out a = some o → o.length ≤ 300
  | [], out, o, h, e => by cases e; exact h
  | t :: r, out, o, h, e => by
    simp only [text] at e
    cases ha : add out t with
    | none => rw [ha] at e; cases e
    | some o' =>
      rw [ha] at e
      simp only at e
      by_cases h' : o'.length > 300
      · rw [if_pos h'] at e; cases e
      · rw [if_neg h'] at e; exact text_le r o' o (by omega) e
theorem byte_ok {t : List Nat} {a : Nat} (hb : ∀ x ∈ t, x < 256) (h : a < t.length) : add (t.take a) ⟨(t.getD a 0 : Nat), 0, 0⟩ = some (t.take (a + 1)) := by
  have hx : t.getD a 0 = t[a] := by rw [List.getD_eq_getElem?_getD, List.getElem?_eq_getElem h]; rfl
  have := hb _ (List.getElem_mem h)
  unfold add
  dsimp only
  rw [if_pos rfl, hx, if_pos ⟨rfl, by omega, by omega⟩, List.take_succ_eq_append_getElem h]
  simp
theorem copy_run {t : List Nat} {a back : Nat} (h1 : 1 ≤ back) (h2 : back ≤ a) (ha : a ≤ t.length) : ∀ n, n ≤ mlen t a back → copy (t.take a) back n = t.take (a + n)
  | 0, _ => rfl
  | n + 1, h => by
    have ih := copy_run h1 h2 ha n (by omega)
    obtain ⟨hl, he⟩ := run_lt t 60 a (a - back) n h
    simp only [copy]
    rw [ih, List.length_take, show min (a + n) t.length = a + n from by omega]
    rw [show a + (n + 1) = a + n + 1 from by omega, List.take_succ_eq_append_getElem hl]
    congr 1
    congr 1
    rw [List.getD_eq_getElem?_getD, List.getElem?_take, if_pos (by omega), show a + n - back = a - back + n from by omega, ← he, List.getElem?_eq_getElem hl]
    rfl
theorem long_ok {t : List Nat} {a : Nat} (h : a < t.length) (h3 : ¬ (best t a (min 250 a)).1 < 3) : add (t.take a) ⟨0, (best t a (min 250 a)).1, (best t a (min 250 a)).2⟩ = some (t.take (a + (best t a (min 250 a)).1)) := by
  have hl := best_le t a (min 250 a)
  rcases best_form t a (min 250 a) with h0 | ⟨f1, f2, f3, f4⟩
  · omega
  unfold add
  dsimp only
  rw [if_neg (by omega), if_pos ⟨rfl, by omega, by omega, by omega, by omega, by rw [List.length_take]; omega⟩]
  simp only [Int.toNat_natCast]
  rw [copy_run f1 (by omega) (by omega) _ (by rw [← f3]; exact Nat.le_refl _)]
theorem text_toks {t : List Nat} (hb : ∀ x ∈ t, x < 256) (h300 : t.length ≤ 300) : ∀ f a, t.length - a ≤ f → a ≤ t.length → text (t.take a) (toks t f a) = some t
  | 0, a, h, h' => by
    simp only [toks, text]
    rw [List.take_of_length_le (by omega)]
  | f + 1, a, h, h' => by
    simp only [toks]
    by_cases ha : a < t.length
    · rw [if_pos ha]
      by_cases h3 : (best t a (min 250 a)).1 < 3
      · rw [if_pos h3]
        simp only [text]
        rw [byte_ok hb ha]
        simp only
        rw [if_neg (by rw [List.length_take]; omega)]
        exact text_toks hb h300 f (a + 1) (by omega) (by omega)
      · rw [if_neg h3]
        have hl := best_le t a (min 250 a)
        simp only [text]
        rw [long_ok ha h3]
        simp only
        rw [if_neg (by rw [List.length_take]; omega)]
        exact text_toks hb h300 f _ (by omega) (by omega)
    · rw [if_neg ha]
      simp only [text]
      rw [List.take_of_length_le (by omega)]
theorem text_tokens {t : List Nat} (hb : ∀ x ∈ t, x < 256) (h300 : t.length ≤ 300) : text [] (tokens t) = some t := by
  have := text_toks hb h300 t.length 0 (by omega) (by omega)
  simpa [tokens] using this
theorem toks_length (t : List Nat) : ∀ f a, a ≤ t.length → (toks t f a).length ≤ t.length - a
  | 0, a, _ => by simp [toks]
  | f + 1, a, h => by
    simp only [toks]
    by_cases ha : a < t.length
    · rw [if_pos ha]
      by_cases h3 : (best t a (min 250 a)).1 < 3
      · rw [if_pos h3]
        have := toks_length t f (a + 1) (by omega)
        simp only [List.length_cons]; omega
      · rw [if_neg h3]
        have hl := best_le t a (min 250 a)
        have := toks_length t f (a + (best t a (min 250 a)).1) (by omega)
        simp only [List.length_cons]; omega
    · rw [if_neg ha]; simp
theorem tokens_length (t : List Nat) : (tokens t).length ≤ t.length := toks_length t _ 0 (Nat.zero_le _)
/-- The same byte again and again. -/
theorem text_bytes (b : Nat) (hb : b < 256) : ∀ (m : Nat) (out : List Nat), out.length + m ≤ 300 → text out (List.replicate m ⟨b, 0, 0⟩) = some (out ++ List.replicate m b)
  | 0, out, _ => by simp [text]
  | m + 1, out, h => by
    rw [List.replicate_succ]
    simp only [text]
    have ha : add out ⟨b, 0, 0⟩ = some (out ++ [b]) := by
      unfold add
      dsimp only
      rw [if_pos rfl, if_pos ⟨rfl, by omega, by omega⟩]
      simp
    rw [ha]
    simp only
    rw [if_neg (by rw [List.length_append, List.length_singleton]; omega), text_bytes b hb m (out ++ [b]) (by rw [List.length_append, List.length_singleton]; omega), List.append_assoc, List.replicate_succ]
    rfl
theorem text_over (b : Nat) (hb : b < 256) (m : Nat) (out : List Nat) (h : 300 < out.length + m) (ho : out.length ≤ 300) : text out (List.replicate m ⟨b, 0, 0⟩) = none := by
  have e : m = (300 - out.length) + (1 + (m - (300 - out.length) - 1)) := by omega
  rw [e, ← List.replicate_append_replicate, text_append, text_bytes b hb _ out (by omega)]
  simp only [Option.bind_some]
  rw [← List.replicate_append_replicate]
  have ha : add (out ++ List.replicate (300 - out.length) b) ⟨b, 0, 0⟩ = some (out ++ List.replicate (300 - out.length) b ++ [b]) := by
    unfold add
    dsimp only
    rw [if_pos rfl, if_pos ⟨rfl, by omega, by omega⟩]
    simp
  simp only [List.replicate_one, List.singleton_append, text]
  rw [ha]
  simp only
  rw [if_pos (by simp; omega)]
/-- A text's own bytes, one by one. -/
theorem text_each : ∀ (r out : List Nat), (∀ x ∈ r, x < 256) → out.length ≤ 300 → text out (r.map fun x => (⟨(x : Nat), 0, 0⟩ : Tok)) = if out.length + r.length ≤ 300 then some (out ++ r) else none
  | [], out, _, ho => by
    simp only [List.map_nil, text, List.length_nil, List.append_nil]
    rw [if_pos (by omega)]
  | b :: r, out, hb, ho => by
    have hb0 := hb b (by simp)
    have ha : add out ⟨(b : Nat), 0, 0⟩ = some (out ++ [b]) := by
      unfold add
      dsimp only
      rw [if_pos rfl, if_pos ⟨rfl, by omega, by omega⟩]
      simp
    simp only [List.map_cons, text]
    rw [ha]
    simp only
    by_cases h : out.length + 1 > 300
    · rw [if_pos (by rw [List.length_append, List.length_singleton]; omega), if_neg (by rw [List.length_cons]; omega)]
    · rw [if_neg (by rw [List.length_append, List.length_singleton]; omega)]
      rw [text_each r (out ++ [b]) (fun x hx => hb x (by simp [hx])) (by rw [List.length_append, List.length_singleton]; omega)]
      rw [List.length_append, List.length_singleton, List.length_cons, List.append_assoc]
      rw [show out.length + 1 + r.length = out.length + (r.length + 1) from by omega]
      rfl
theorem copy_self (t : List Nat) : ∀ n, n ≤ t.length → copy t t.length n = t ++ t.take n
  | 0, _ => by simp [copy]
  | n + 1, h => by
    simp only [copy]
    rw [copy_self t n (by omega), List.take_succ_eq_append_getElem (by omega)]
    rw [← List.append_assoc]
    congr 1
    congr 1
    rw [List.length_append, List.length_take, show t.length + min n t.length - t.length = n from by omega]
    rw [List.getD_eq_getElem?_getD, List.getElem?_append_left (by omega), List.getElem?_eq_getElem (by omega)]
    rfl
/-- One and the same byte: the first distance is the best. -/
theorem run_same {n z : Nat} : ∀ (f p q : Nat), q < p → run (List.replicate n z) p q f = min f (n - p)
  | 0, p, q, _ => by simp [run]
  | f + 1, p, q, h => by
    simp only [run, List.length_replicate]
    by_cases hp : p < n
    · rw [if_pos ⟨hp, by rw [List.getElem?_replicate, List.getElem?_replicate, if_pos hp, if_pos (by omega)]⟩, run_same f (p + 1) (q + 1) (by omega)]
      omega
    · rw [if_neg (fun c => hp c.1)]
      omega
theorem best_succ (t : List Nat) (a j : Nat) : best t a (j + 1) = if mlen t a (j + 1) > (best t a j).1 then (mlen t a (j + 1), j + 1) else best t a j := rfl
theorem best_same {n z a : Nat} (ha : 1 ≤ a) : ∀ j, 1 ≤ j → j ≤ a → (best (List.replicate n z) a j).1 = min 60 (n - a)
  | 0, h, _ => by omega
  | j + 1, _, hj => by
    have hm : mlen (List.replicate n z) a (j + 1) = min 60 (n - a) := run_same _ _ _ (by omega)
    rw [best_succ, hm]
    by_cases h0 : j = 0
    · subst h0
      have e : best (List.replicate n z) a 0 = (0, 0) := rfl
      rw [e]
      by_cases h : min 60 (n - a) > 0
      · rw [if_pos h]
      · rw [if_neg h]; simp only; omega
    · rw [best_same ha j (by omega) (by omega), if_neg (by omega)]
      exact best_same ha j (by omega) (by omega)
theorem toks_same {n z : Nat} : ∀ f a, n - a ≤ f → 1 ≤ a → (toks (List.replicate n z) f a).length ≤ (n - a) / 60 + 2
  | 0, a, _, _ => by simp [toks]
  | f + 1, a, h, ha => by
    simp only [toks, List.length_replicate]
    by_cases hlt : a < n
    · rw [if_pos hlt, best_same ha (min 250 a) (by omega) (by omega)]
      by_cases h3 : min 60 (n - a) < 3
      · rw [if_pos h3]
        have hl := toks_length (List.replicate n z) f (a + 1)
        rw [List.length_replicate] at hl
        have := hl (by omega)
        rw [List.length_cons]
        omega
      · rw [if_neg h3, List.length_cons]
        by_cases h60 : 60 ≤ n - a
        · rw [show min 60 (n - a) = 60 from by omega]
          have := toks_same (n := n) (z := z) f (a + 60) (by omega) (by omega)
          omega
        · rw [show min 60 (n - a) = n - a from by omega]
          have hl := toks_length (List.replicate n z) f (a + (n - a))
          rw [List.length_replicate] at hl
          have := hl (by omega)
          omega
    · rw [if_neg hlt]; simp
theorem tokens_same (n z : Nat) : (tokens (List.replicate n z)).length ≤ 4 + n / 60 := by
  unfold tokens
  rw [List.length_replicate]
  cases n with
  | zero => simp [toks]
  | succ n =>
    have e : best (List.replicate (n + 1) z) 0 (min 250 0) = (0, 0) := rfl
    rw [toks, List.length_replicate, if_pos (by omega), e, if_pos (by decide), List.length_cons]
    have := toks_same (n := n + 1) (z := z) n 1 (by omega) (by omega)
    rw [Nat.zero_add]
    omega
end Go.Proofs.YtncidljdfipigaaDoor.Lz

/- What unpacks a text, as a plain function on bits: numbers, parts of three kinds; and that it looks at no more than it takes. Nothing of the program stands here. -/
namespace Go.Proofs.YtncidljdfipigaaDoor.De
open Go.Proofs.YtncidljdfipigaaDoor.Bt Go.Proofs.YtncidljdfipigaaDoor.Cd Go.Proofs.YtncidljdfipigaaDoor.Hf Go.Proofs.YtncidljdfipigaaDoor.Lz
set_option linter.unusedVariables false
abbrev Dec (α : Type) := List Bool → Option (α × List Bool)
def ret {α : Type} (x : α) : Dec α := fun bs => some (x, bs)
def bad {α : Type} : Dec α := fun _ => none
def next {α β : Type} (d : Dec α) (k : α → Dec β) : Dec β := fun bs => match d bs with
  | none => none
  | some (x, r) => k x r
/-- It takes what stands ahead and looks at nothing behind. -/
structure Loc {α : Type} (d : Dec α) : Prop where
  suf : ∀ bs x r, d bs = some (x, r) → ∃ s, bs = s ++ r
  ext : ∀ e bs x r, e.length % 8 = 0 → d bs = some (x, r) → d (bs ++ e) = some (x, r ++ e)
  cut : ∀ e bs x r, e.length % 8 = 0 → d (bs ++ e) = some (x, r ++ e) → d bs = some (x, r)
section
variable {α β : Type}
theorem next_some {d : Dec α} {k : α → Dec β} {bs r : List Bool} {x : α} (h : d bs = some (x, r)) : next d k bs = k x r := by
  unfold next; rw [h]
theorem next_none {d : Dec α} {k : α → Dec β} {bs : List Bool} (h : d bs = none) : next d k bs = none := by
  unfold next; rw [h]
theorem next_inv {d : Dec α} {k : α → Dec β} {bs r : List Bool} {y : β} (h : next d k bs = some (y, r)) : ∃ x r1, d bs = some (x, r1) ∧ k x r1 = some (y, r) := by
  unfold next at h
  cases hd : d bs with
  | none => rw [hd] at h; cases h
  | some p => rw [hd] at h; exact ⟨p.1, p.2, rfl, h⟩
theorem Loc.ret (x : α) : Loc (ret x) where
  suf bs y r h := by cases h; exact ⟨[], rfl⟩
  ext e bs y r _ h := by cases h; rfl
  cut e bs y r _ h := by
    unfold De.ret at h ⊢
    simp only [Option.some.injEq, Prod.mk.injEq] at h
    obtain ⟨rfl, h⟩ := h
    rw [List.append_cancel_right h]
theorem Loc.bad : Loc (bad : Dec α) where
  suf bs y r h := by cases h
  ext e bs y r _ h := by cases h
  cut e bs y r _ h := by cases h
theorem Loc.next {d : Dec α} {k : α → Dec β} (hd : Loc d) (hk : ∀ x, Loc (k x)) : Loc (next d k) where
  suf bs y r h := by
    obtain ⟨x, r1, h1, h2⟩ := next_inv h
    obtain ⟨s1, rfl⟩ := hd.suf _ _ _ h1
    obtain ⟨s2, rfl⟩ := (hk x).suf _ _ _ h2
    exact ⟨s1 ++ s2, by rw [List.append_assoc]⟩
  ext e bs y r he h := by
    obtain ⟨x, r1, h1, h2⟩ := next_inv h
    rw [next_some (hd.ext e _ _ _ he h1)]
    exact (hk x).ext e _ _ _ he h2
  cut e bs y r he h := by
    obtain ⟨x, r1, h1, h2⟩ := next_inv h
    obtain ⟨s2, rfl⟩ := (hk x).suf _ _ _ h2
    rw [← List.append_assoc] at h1 h2
    rw [next_some (hd.cut e _ _ _ he h1)]
    exact (hk x).cut e _ _ _ he h2
theorem Loc.ite {c : Prop} [Decidable c] {d e : Dec α} (hd : Loc d) (he : Loc e) : Loc (if c then d else e) := by
  split
  · exact hd
  · exact he
end
def num (n : Nat) : Dec Nat := fun bs => if n ≤ bs.length then some (val (bs.take n), bs.drop n) else none
def align : Dec Unit := fun bs => if (bs.take (bs.length % 8)).all (!·) then some ((), bs.drop (bs.length % 8)) else none
def bytes (n : Nat) : Dec (List Nat) := fun bs => if 8 * n ≤ bs.length then some (packN n bs, bs.drop (8 * n)) else none
theorem packN_take : ∀ (n : Nat) (a b : List Bool), 8 * n ≤ a.length → packN n (a ++ b) = packN n a
  | 0, _, _, _ => rfl
  | n + 1, a, b, h => by
    have e1 : (a ++ b).take 8 = a.take 8 := by rw [List.take_append, show 8 - a.length = 0 from by omega, List.take_zero, List.append_nil]
    have e2 : (a ++ b).drop 8 = a.drop 8 ++ b := by rw [List.drop_append, show 8 - a.length = 0 from by omega, List.drop_zero]
    rw [packN, packN, e1, e2, packN_take n _ b (by rw [List.length_drop]; omega)]
theorem Loc.take {α : Type} (m : Nat) (f : List Bool → α) (hf : ∀ a b : List Bool, m ≤ a.length → f (a ++ b) = f a) : Loc (fun bs => if m ≤ bs.length then some (f bs, bs.drop m) else none) where
  suf bs y r h := by
    by_cases hn : m ≤ bs.length
    · rw [if_pos hn] at h; cases h; exact ⟨bs.take m, (List.take_append_drop m bs).symm⟩
    · rw [if_neg hn] at h; cases h
  ext e bs y r _ h := by
    by_cases hn : m ≤ bs.length
    · rw [if_pos hn] at h; cases h
      rw [if_pos (by rw [List.length_append]; omega), hf _ _ hn, List.drop_append, show m - bs.length = 0 from by omega, List.drop_zero]
    · rw [if_neg hn] at h; cases h
  cut e bs y r _ h := by
    by_cases hn : m ≤ (bs ++ e).length
    · rw [if_pos hn] at h
      simp only [Option.some.injEq, Prod.mk.injEq] at h
      obtain ⟨h1, h2⟩ := h
      have hl := congrArg List.length h2
      rw [List.length_drop, List.length_append, List.length_append] at hl
      rw [List.length_append] at hn
      have hn' : m ≤ bs.length := by omega
      rw [if_pos hn', ← h1, hf _ _ hn']
      rw [List.drop_append, show m - bs.length = 0 from by omega, List.drop_zero] at h2
      rw [List.append_cancel_right h2]
    · rw [if_neg hn] at h; cases h
theorem Loc.num (n : Nat) : Loc (num n) := Loc.take n (fun bs => val (bs.take n)) (fun a b h => by rw [List.take_append, show n - a.length = 0 from by omega, List.take_zero, List.append_nil])
theorem Loc.bytes (n : Nat) : Loc (bytes n) := Loc.take (8 * n) (packN n) (packN_take n)
theorem Loc.align : Loc align where
  suf bs y r h := by
    unfold De.align at h
    split at h
    · cases h; exact ⟨_, (List.take_append_drop _ bs).symm⟩
    · cases h
  ext e bs y r he h := by
    unfold De.align at h ⊢
    have e1 : (bs ++ e).length % 8 = bs.length % 8 := by rw [List.length_append]; omega
    have h2 : bs.length % 8 - bs.length = 0 := by omega
    rw [e1, List.take_append, h2, List.take_zero, List.append_nil, List.drop_append, h2, List.drop_zero]
    split at h
    · cases h; rename_i hc; rw [if_pos hc]
    · cases h
  cut e bs y r he h := by
    unfold De.align at h ⊢
    have e1 : (bs ++ e).length % 8 = bs.length % 8 := by rw [List.length_append]; omega
    have h2 : bs.length % 8 - bs.length = 0 := by omega
    rw [e1, List.take_append, h2, List.take_zero, List.append_nil, List.drop_append, h2, List.drop_zero] at h
    split at h
    · rename_i hc
      simp only [Option.some.injEq, Prod.mk.injEq] at h
      rw [if_pos hc, List.append_cancel_right h.2]
    · cases h
theorem Loc.sym (lens : List Nat) : Loc (sym lens) where
  suf bs x r h := by obtain ⟨_, s, hs, _⟩ := symGo_lt _ _ _ _ _ _ h; exact ⟨s, hs⟩
  ext e bs x r _ h := symGo_ext e _ _ _ _ _ _ h
  cut e bs x r _ h := symGo_cut e _ _ _ _ _ _ h
/-- How many bits more each symbol of a length, of a distance has. -/
def longBits : List Nat := [0, 0, 0, 0, 0, 0, 0, 0, 1, 1, 1, 1, 2, 2, 2, 2, 3, 3, 3, 3, 4, 4, 4, 4, 5, 5, 5, 5]
def backBits : List Nat := [0, 0, 0, 0, 1, 1, 2, 2, 3, 3, 4, 4, 5, 5, 6, 6, 7, 7, 8, 8, 9, 9, 10, 10, 11, 11, 12, 12, 13, 13]
def base : Nat → List Nat → List Nat
  | _, [] => []
  | n, x :: t => n :: base (n + 2 ^ x) t
def longBase : List Nat := base 3 longBits
def backBase : List Nat := base 1 backBits
def fixLit : List Nat := List.replicate 144 8 ++ List.replicate 112 9 ++ List.replicate 24 7 ++ List.replicate 8 8
def fixDist : List Nat := List.replicate 32 5
def order : List Nat := [16, 17, 18, 0, 8, 7, 9, 6, 10, 5, 11, 4, 12, 3, 13, 2, 14, 1, 15]
def stored (out : List Nat) : Dec (List Nat) :=
  next align fun _ => next (num 16) fun n => next (num 16) fun m => if n + m = 65535 ∧ out.length + n ≤ 300 then next (bytes n) fun x => ret (out ++ x) else bad
def put (out : List Nat) (long back : Nat) : Dec (List Nat) := match add out ⟨0, long, back⟩ with
  | some o => if o.length ≤ 300 then ret o else bad
  | none => bad
def again (dist out : List Nat) (k : Nat) : Dec (List Nat) :=
  if 28 ≤ k then bad else next (num (longBits.getD k 0)) fun x => next (sym dist) fun j => if 30 ≤ j then bad else next (num (backBits.getD j 0)) fun y =>
    put out (longBase.getD k 0 + x) (backBase.getD j 0 + y)
def packed (lit dist : List Nat) : Nat → List Nat → Dec (List Nat)
  | 0, _ => bad
  | f + 1, out => next (sym lit) fun s => if s = 256 then ret out else if s < 256 then (if out.length < 300 then packed lit dist f (out ++ [s]) else bad) else next (again dist out (s - 257)) fun o => packed lit dist f o
def metas : Nat → Nat → List Nat → Dec (List Nat)
  | 0, _, m => ret m
  | n + 1, i, m => next (num 3) fun x => metas n (i + 1) (m.set (order.getD i 0) x)
def lenLoop (meta_ : List Nat) (want : Nat) : Nat → List Nat → Dec (List Nat)
  | 0, _ => bad
  | f + 1, all => if want ≤ all.length then (if all.length = want then ret all else bad) else
    next (sym meta_) fun s => if s < 16 then lenLoop meta_ want f (all ++ [s])
      else if s = 16 then next (num 2) fun x => (if all.length = 0 then bad else lenLoop meta_ want f (all ++ List.replicate (3 + x) (all.getD (all.length - 1) 0)))
      else if s = 17 then next (num 3) fun x => lenLoop meta_ want f (all ++ List.replicate (3 + x) 0)
      else next (num 7) fun x => lenLoop meta_ want f (all ++ List.replicate (11 + x) 0)
def own : Dec (List Nat × List Nat) :=
  next (num 5) fun a => next (num 5) fun b => next (num 4) fun c => next (metas (c + 4) 0 (List.replicate 19 0)) fun m =>
    if okLens m = true ∧ a + 257 ≤ 286 ∧ b + 1 ≤ 30 then next (lenLoop m (a + 257 + (b + 1)) 400 []) fun all =>
      (if okLens (all.take (a + 257)) = true ∧ okLens (all.drop (a + 257)) = true then ret (all.take (a + 257), all.drop (a + 257)) else bad) else bad
def body (t : Nat) (out : List Nat) : Dec (List Nat) :=
  if t = 0 then stored out else if t = 1 then packed fixLit fixDist 302 out else if t = 2 then next own fun p => packed p.1 p.2 302 out else bad
def part (out : List Nat) : Dec (List Nat × Nat) := next (num 1) fun last => next (num 2) fun t => next (body t out) fun o => ret (o, last)
def parts : Nat → List Nat → Dec (List Nat)
  | 0, _ => bad
  | f + 1, out => next (part out) fun p => if p.2 = 1 then ret p.1 else parts f p.1
def whole : Dec (List Nat) := next (parts 6000 []) fun o => next align fun _ => ret o
/-- A text unpacked, and how many bytes that took. -/
def flate (t : List Nat) : Option (List Nat × Nat) := if 700 < t.length then none else match whole (unpack t) with
  | none => none
  | some (o, r) => some (o, t.length - r.length / 8)
theorem Loc.stored (out : List Nat) : Loc (stored out) :=
  Loc.next Loc.align fun _ => Loc.next (Loc.num _) fun _ => Loc.next (Loc.num _) fun _ => Loc.ite (Loc.next (Loc.bytes _) fun _ => Loc.ret _) Loc.bad
theorem Loc.put (out : List Nat) (long back : Nat) : Loc (put out long back) := by
  unfold De.put
  split
  · exact Loc.ite (Loc.ret _) Loc.bad
  · exact Loc.bad
theorem Loc.again (dist out : List Nat) (k : Nat) : Loc (again dist out k) :=
  Loc.ite Loc.bad (Loc.next (Loc.num _) fun _ => Loc.next (Loc.sym _) fun _ => Loc.ite Loc.bad (Loc.next (Loc.num _) fun _ => Loc.put _ _ _))
theorem Loc.packed (lit dist : List Nat) : ∀ (f : Nat) (out : List Nat), Loc (packed lit dist f out)
  | 0, _ => Loc.bad
  | f + 1, out => Loc.next (Loc.sym _) fun _ => Loc.ite (Loc.ret _) (Loc.ite (Loc.ite (Loc.packed lit dist f _) Loc.bad) (Loc.next (Loc.again _ _ _) fun _ => Loc.packed lit dist f _))
theorem Loc.metas : ∀ (n i : Nat) (m : List Nat), Loc (metas n i m)
  | 0, _, _ => Loc.ret _
  | n + 1, i, m => Loc.next (Loc.num _) fun _ => Loc.metas n (i + 1) _
theorem Loc.lenLoop (m : List Nat) (want : Nat) : ∀ (f : Nat) (all : List Nat), Loc (lenLoop m want f all)
  | 0, _ => Loc.bad
  | f + 1, all => Loc.ite (Loc.ite (Loc.ret _) Loc.bad) (Loc.next (Loc.sym _) fun _ => Loc.ite (Loc.lenLoop m want f _) (Loc.ite (Loc.next (Loc.num _) fun _ => Loc.ite Loc.bad (Loc.lenLoop m want f _))
      (Loc.ite (Loc.next (Loc.num _) fun _ => Loc.lenLoop m want f _) (Loc.next (Loc.num _) fun _ => Loc.lenLoop m want f _))))
theorem Loc.own : Loc own :=
  Loc.next (Loc.num _) fun _ => Loc.next (Loc.num _) fun _ => Loc.next (Loc.num _) fun _ => Loc.next (Loc.metas _ _ _) fun _ => Loc.ite (Loc.next (Loc.lenLoop _ _ _ _) fun _ => Loc.ite (Loc.ret _) Loc.bad) Loc.bad
theorem Loc.body (t : Nat) (out : List Nat) : Loc (body t out) :=
  Loc.ite (Loc.stored _) (Loc.ite (Loc.packed _ _ _ _) (Loc.ite (Loc.next Loc.own fun _ => Loc.packed _ _ _ _) Loc.bad))
theorem Loc.part (out : List Nat) : Loc (part out) := Loc.next (Loc.num _) fun _ => Loc.next (Loc.num _) fun _ => Loc.next (Loc.body _ _) fun _ => Loc.ret _
theorem Loc.parts : ∀ (f : Nat) (out : List Nat), Loc (parts f out)
  | 0, _ => Loc.bad
  | f + 1, out => Loc.next (Loc.part _) fun _ => Loc.ite (Loc.ret _) (Loc.parts f _)
theorem Loc.whole : Loc whole := Loc.next (Loc.parts _ _) fun _ => Loc.next Loc.align fun _ => Loc.ret _
theorem whole_rest {bs r : List Bool} {o : List Nat} (h : whole bs = some (o, r)) : r.length % 8 = 0 := by
  obtain ⟨x, r1, h1, h2⟩ := next_inv h
  obtain ⟨y, r2, h3, h4⟩ := next_inv h2
  unfold ret at h4
  cases h4
  unfold align at h3
  split at h3
  · simp only [Option.some.injEq, Prod.mk.injEq] at h3
    rw [← h3.2, List.length_drop]; omega
  · cases h3
theorem unpack_take (t : List Nat) (n : Nat) : unpack t = unpack (t.take n) ++ unpack (t.drop n) := by
  rw [← unpack_append, List.take_append_drop]
theorem flate_inv {t o : List Nat} {n : Nat} (h : flate t = some (o, n)) : t.length ≤ 700 ∧ n ≤ t.length ∧ whole (unpack t) = some (o, unpack (t.drop n)) := by
  unfold flate at h
  by_cases h7 : 700 < t.length
  · rw [if_pos h7] at h; cases h
  rw [if_neg h7] at h
  cases hw : whole (unpack t) with
  | none => rw [hw] at h; cases h
  | some p =>
    obtain ⟨o', r⟩ := p
    rw [hw] at h
    simp only [Option.some.injEq, Prod.mk.injEq] at h
    obtain ⟨rfl, rfl⟩ := h
    obtain ⟨s, hs⟩ := Loc.whole.suf _ _ _ hw
    have hr := whole_rest hw
    have hl := congrArg List.length hs
    rw [unpack_length, List.length_append] at hl
    refine ⟨by omega, Nat.sub_le _ _, ?_⟩
    congr 2
    have e := unpack_take t (t.length - r.length / 8)
    rw [hs] at e
    have e2 : (unpack (t.take (t.length - r.length / 8))).length = s.length := by rw [unpack_length, List.length_take]; omega
    exact (List.append_inj e e2.symm).2
/-- What is unpacked ends where it ends: it takes no more, and no less. -/
theorem flate_take {t o : List Nat} {n : Nat} (h : flate t = some (o, n)) : flate (t.take n) = some (o, n) := by
  obtain ⟨h7, hn, hw⟩ := flate_inv h
  rw [unpack_take t n] at hw
  have hc := Loc.whole.cut (unpack (t.drop n)) (unpack (t.take n)) o [] (by rw [unpack_length]; omega) (by rw [List.nil_append]; exact hw)
  unfold flate
  rw [if_neg (by rw [List.length_take]; omega), hc]
  simp only [List.length_take, List.length_nil, Nat.zero_div, Nat.sub_zero]
  rw [Nat.min_eq_left hn]
theorem flate_more {t o e : List Nat} {n : Nat} (h : flate t = some (o, n)) (he : (t ++ e).length ≤ 700) : flate (t ++ e) = some (o, n) := by
  obtain ⟨h7, hn, hw⟩ := flate_inv h
  have hc := Loc.whole.ext (unpack e) _ _ _ (by rw [unpack_length]; omega) hw
  unfold flate
  rw [if_neg (by omega), unpack_append, hc]
  simp only [List.length_append, unpack_length, List.length_drop]
  congr 2
  omega
theorem flate_same {t o e : List Nat} {n : Nat} (h : flate t = some (o, n)) (he : (t.take n ++ e).length ≤ 700) : flate (t.take n ++ e) = some (o, n) := flate_more (flate_take h) he
theorem flate_less {t o : List Nat} {n m : Nat} (h : flate t = some (o, n)) (hm : m < n) : flate (t.take m) = none := by
  cases hf : flate (t.take m) with
  | none => rfl
  | some p =>
    exfalso
    obtain ⟨o', k⟩ := p
    obtain ⟨h7, hn, _⟩ := flate_inv h
    obtain ⟨_, hk, _⟩ := flate_inv hf
    have := flate_more (e := t.drop m) hf (by rw [List.take_append_drop]; exact h7)
    rw [List.take_append_drop, h] at this
    simp only [Option.some.injEq, Prod.mk.injEq] at this
    rw [List.length_take] at hk
    omega
theorem flate_nil : flate [] = none := by decide
end Go.Proofs.YtncidljdfipigaaDoor.De

/- What packs a text in three ways, as plain functions, and that what is packed is unpacked. Nothing of the program stands here. -/
namespace Go.Proofs.YtncidljdfipigaaDoor.En
open Go.Proofs.YtncidljdfipigaaDoor.Bt Go.Proofs.YtncidljdfipigaaDoor.Cd Go.Proofs.YtncidljdfipigaaDoor.Hf Go.Proofs.YtncidljdfipigaaDoor.Lz Go.Proofs.YtncidljdfipigaaDoor.De
set_option linter.unusedVariables false
/-- The last place whose number is not above n. -/
def lad (b : List Nat) (n : Nat) : Nat := (b.filter fun x => decide (x ≤ n)).length - 1
set_option maxRecDepth 100000 in
theorem lad_long : ∀ n, n < 61 → 3 ≤ n → lad longBase n < 28 ∧ longBase.getD (lad longBase n) 0 ≤ n ∧ n - longBase.getD (lad longBase n) 0 < 2 ^ longBits.getD (lad longBase n) 0 ∧ longBits.getD (lad longBase n) 0 ≤ 3 := by decide +kernel
set_option maxRecDepth 100000 in
theorem lad_back : ∀ n, n < 251 → 1 ≤ n → lad backBase n < 30 ∧ backBase.getD (lad backBase n) 0 ≤ n ∧ n - backBase.getD (lad backBase n) 0 < 2 ^ backBits.getD (lad backBase n) 0 ∧ backBits.getD (lad backBase n) 0 ≤ 6 := by decide +kernel
def encTok (lit dist : List Nat) (t : Tok) : List Bool :=
  if t.long = 0 then enc lit t.byte.toNat else
    enc lit (257 + lad longBase t.long.toNat) ++ (bitsOf (t.long.toNat - longBase.getD (lad longBase t.long.toNat) 0) (longBits.getD (lad longBase t.long.toNat) 0) ++
      (enc dist (lad backBase t.back.toNat) ++ bitsOf (t.back.toNat - backBase.getD (lad backBase t.back.toNat) 0) (backBits.getD (lad backBase t.back.toNat) 0)))
def encToks (lit dist : List Nat) (l : List Tok) : List Bool := l.flatMap (encTok lit dist) ++ enc lit 256
def storeBits (n : Nat) : List Bool := pad (bitsOf 1 3) ++ bitsOf n 16 ++ bitsOf (65535 - n) 16
def store (t : List Nat) : List Nat := pack (storeBits t.length) ++ t
def fixBits (t : List Nat) : List Bool := bitsOf 1 1 ++ bitsOf 1 2 ++ encToks fixLit fixDist (tokens t)
def fixed (t : List Nat) : List Nat := pack (fixBits t)
def symsL (l : List Tok) : List Nat := l.map fun t => if t.long = 0 then t.byte.toNat else 257 + lad longBase t.long.toNat
def symsB (l : List Tok) : List Nat := (l.filter fun t => decide (t.long ≠ 0)).map fun t => lad backBase t.back.toNat
def cntL (l : List Tok) : List Nat := bump ((List.replicate 286 0).set 256 1) (symsL l)
def cntB (l : List Tok) : List Nat := if symsB l = [] then (List.replicate 30 0).set 0 1 else bump (List.replicate 30 0) (symsB l)
def trimTo (lens : List Nat) (least : Nat) : Nat → Nat
  | 0 => 0
  | n + 1 => if least < n + 1 ∧ lens.getD n 0 = 0 then trimTo lens least n else n + 1
def trim (lens : List Nat) (least : Nat) : List Nat := lens.take (trimTo lens least lens.length)
def ownLit (l : List Tok) : List Nat := trim (fit 15 (cntL l)) 257
def ownDist (l : List Tok) : List Nat := trim (fit 15 (cntB l)) 1
def ownMeta (all : List Nat) : List Nat := fit 7 (bump (List.replicate 19 0) all)
def headBits (lit dist : List Nat) : List Bool :=
  bitsOf (lit.length - 257) 5 ++ bitsOf (dist.length - 1) 5 ++ bitsOf 15 4 ++ (order.flatMap fun k => bitsOf ((ownMeta (lit ++ dist)).getD k 0) 3) ++ (lit ++ dist).flatMap (enc (ownMeta (lit ++ dist)))
def ownBits (t : List Nat) : List Bool := bitsOf 1 1 ++ bitsOf 2 2 ++ headBits (ownLit (tokens t)) (ownDist (tokens t)) ++ encToks (ownLit (tokens t)) (ownDist (tokens t)) (tokens t)
def ownPut (t : List Nat) : List Nat := pack (ownBits t)
/-- The shortest, the first of as short ones. -/
def flatePut (t : List Nat) : List Nat :=
  let a := if (fixed t).length < (store t).length then fixed t else store t
  if (ownPut t).length < a.length then ownPut t else a
theorem num_bits (n x : Nat) (r : List Bool) : num n (bitsOf x n ++ r) = some (x % 2 ^ n, r) := by
  unfold num
  rw [if_pos (by rw [List.length_append, bits_length]; omega)]
  have e1 : (bitsOf x n ++ r).take n = bitsOf x n := by rw [List.take_append, bits_length, Nat.sub_self, List.take_zero, List.append_nil, List.take_of_length_le (by rw [bits_length]; exact Nat.le_refl _)]
  have e2 : (bitsOf x n ++ r).drop n = r := by rw [List.drop_append, bits_length, Nat.sub_self, List.drop_zero, List.drop_of_length_le (by rw [bits_length]; exact Nat.le_refl _), List.nil_append]
  rw [e1, e2, val_bits]
theorem num_small {n x : Nat} (h : x < 2 ^ n) (r : List Bool) : num n (bitsOf x n ++ r) = some (x, r) := by
  rw [num_bits, Nat.mod_eq_of_lt h]
/-- Two codes that hold all symbols of some tokens. -/
structure Has (lit dist : List Nat) (l : List Tok) : Prop where
  fl : Fits lit
  fd : Fits dist
  l15 : ∀ x ∈ lit, x ≤ 15
  d15 : ∀ x ∈ dist, x ≤ 15
  last : 1 ≤ lit.getD 256 0
  byte : ∀ t ∈ l, t.long = 0 → 1 ≤ lit.getD t.byte.toNat 0
  long : ∀ t ∈ l, t.long ≠ 0 → 1 ≤ lit.getD (257 + lad longBase t.long.toNat) 0
  back : ∀ t ∈ l, t.long ≠ 0 → 1 ≤ dist.getD (lad backBase t.back.toNat) 0
theorem lt_of_getD {l : List Nat} {k : Nat} (h : 1 ≤ l.getD k 0) : k < l.length := by
  rcases Nat.lt_or_ge k l.length with h' | h'
  · exact h'
  · rw [getD_over h'] at h; omega
theorem sym_enc' {lens : List Nat} (hf : Fits lens) (h15 : ∀ x ∈ lens, x ≤ 15) {k : Nat} (h : 1 ≤ lens.getD k 0) (rest : List Bool) : sym lens (enc lens k ++ rest) = some (k, rest) :=
  sym_enc hf (lt_of_getD h) h (getD_le h15 k) rest
theorem add_long {out o : List Nat} {t : Tok} (h : add out t = some o) (hl : t.long ≠ 0) : t.byte = 0 ∧ 3 ≤ t.long ∧ t.long ≤ 60 ∧ 1 ≤ t.back ∧ t.back ≤ 250 := by
  unfold add at h
  rw [if_neg hl] at h
  by_cases h1 : t.byte = 0 ∧ 3 ≤ t.long ∧ t.long ≤ 60 ∧ 1 ≤ t.back ∧ t.back ≤ 250 ∧ t.back ≤ (out.length : Int)
  · exact ⟨h1.1, h1.2.1, h1.2.2.1, h1.2.2.2.1, h1.2.2.2.2.1⟩
  · rw [if_neg h1] at h; cases h
theorem add_byte {out o : List Nat} {t : Tok} (h : add out t = some o) (hl : t.long = 0) : t.back = 0 ∧ 0 ≤ t.byte ∧ t.byte ≤ 255 ∧ o = out ++ [t.byte.toNat] := by
  unfold add at h
  rw [if_pos hl] at h
  by_cases h1 : t.back = 0 ∧ 0 ≤ t.byte ∧ t.byte ≤ 255
  · rw [if_pos h1] at h; cases h; exact ⟨h1.1, h1.2.1, h1.2.2, rfl⟩
  · rw [if_neg h1] at h; cases h
theorem Has.tail {lit dist : List Nat} {t : Tok} {l : List Tok} (h : Has lit dist (t :: l)) : Has lit dist l :=
  ⟨h.fl, h.fd, h.l15, h.d15, h.last, fun x hx => h.byte x (by simp [hx]), fun x hx => h.long x (by simp [hx]), fun x hx => h.back x (by simp [hx])⟩
theorem packed_toks {lit dist : List Nat} (rest : List Bool) : ∀ (l : List Tok) (out o : List Nat) (f : Nat), Has lit dist l → text out l = some o → out.length ≤ 300 → 302 ≤ f + out.length →
    packed lit dist f out (l.flatMap (encTok lit dist) ++ (enc lit 256 ++ rest)) = some (o, rest)
  | [], out, o, f, H, ht, ho, hf => by
    obtain ⟨g, rfl⟩ : ∃ g, f = g + 1 := ⟨f - 1, by omega⟩
    cases ht
    rw [packed, List.flatMap_nil, List.nil_append, next_some (sym_enc' H.fl H.l15 H.last rest), if_pos rfl]; rfl
  | t :: l, out, o, f, H, ht, ho, hf => by
    obtain ⟨g, rfl⟩ : ∃ g, f = g + 1 := ⟨f - 1, by omega⟩
    simp only [text] at ht
    cases ha : add out t with
    | none => rw [ha] at ht; cases ht
    | some o1 =>
      rw [ha] at ht
      simp only at ht
      by_cases h300 : o1.length > 300
      · rw [if_pos h300] at ht; cases ht
      rw [if_neg h300] at ht
      obtain ⟨e, hne, he⟩ := add_prefix ha
      have hlen : out.length < o1.length := by rw [he, List.length_append]; have := List.length_pos_iff.2 hne; omega
      have ih := packed_toks rest l o1 o g H.tail ht (by omega) (by omega)
      rw [packed, List.flatMap_cons, List.append_assoc]
      by_cases hl : t.long = 0
      · obtain ⟨_, b0, b1, rfl⟩ := add_byte ha hl
        have := H.byte t (by simp) hl
        rw [encTok, if_pos hl, next_some (sym_enc' H.fl H.l15 this _), if_neg (by omega), if_pos (by omega), if_pos (by rw [List.length_append, List.length_singleton] at hlen h300; omega)]
        exact ih
      · obtain ⟨hb, l3, l60, k1, k250⟩ := add_long ha hl
        have s1 := H.long t (by simp) hl
        have s2 := H.back t (by simp) hl
        obtain ⟨a1, a2, a3, a4⟩ := lad_long t.long.toNat (by omega) (by omega)
        obtain ⟨c1, c2, c3, c4⟩ := lad_back t.back.toNat (by omega) (by omega)
        have et : (⟨0, ((longBase.getD (lad longBase t.long.toNat) 0 + (t.long.toNat - longBase.getD (lad longBase t.long.toNat) 0) : Nat) : Int), ((backBase.getD (lad backBase t.back.toNat) 0 + (t.back.toNat - backBase.getD (lad backBase t.back.toNat) 0) : Nat) : Int)⟩ : Tok) = t := by
          cases t; simp only at *; simp only [Tok.mk.injEq]; omega
        rw [encTok, if_neg hl, List.append_assoc, next_some (sym_enc' H.fl H.l15 s1 _), if_neg (by omega), if_neg (by omega)]
        rw [next_some (x := o1) (r := l.flatMap (encTok lit dist) ++ (enc lit 256 ++ rest)) ?_]
        · exact ih
        · rw [show 257 + lad longBase t.long.toNat - 257 = lad longBase t.long.toNat from by omega, again, if_neg (by omega), List.append_assoc, next_some (num_small a3 _), List.append_assoc, next_some (sym_enc' H.fd H.d15 s2 _), if_neg (by omega), next_some (num_small c3 _)]
          unfold put
          rw [et, ha]
          simp only
          rw [if_pos (by omega)]; rfl
theorem packed_encToks {lit dist : List Nat} {l : List Tok} {o : List Nat} (H : Has lit dist l) (ht : text [] l = some o) (rest : List Bool) : packed lit dist 302 [] (encToks lit dist l ++ rest) = some (o, rest) := by
  unfold encToks
  rw [List.append_assoc]
  exact packed_toks rest l [] o 302 H ht (by simp) (by simp)
theorem packed_encToks_on {lit dist : List Nat} {l : List Tok} {out o : List Nat} (H : Has lit dist l) (ht : text out l = some o) (ho : out.length ≤ 300) (rest : List Bool) : packed lit dist 302 out (encToks lit dist l ++ rest) = some (o, rest) := by
  unfold encToks
  rw [List.append_assoc]
  exact packed_toks rest l out o 302 H ht ho (by omega)
theorem fixLit_ok : okLens fixLit = true := by decide +kernel
theorem fixDist_ok : okLens fixDist = true := by decide +kernel
theorem fixLit_pos : ∀ k, k < 288 → 1 ≤ fixLit.getD k 0 ∧ fixLit.getD k 0 ≤ 9 := by decide +kernel
theorem fixDist_pos : ∀ k, k < 32 → fixDist.getD k 0 = 5 := by decide +kernel
theorem text_adds : ∀ (l : List Tok) (out o : List Nat), text out l = some o → ∀ t ∈ l, ∃ o1 o2, add o1 t = some o2
  | [], _, _, _, t, h => by cases h
  | x :: l, out, o, ht, t, h => by
    simp only [text] at ht
    cases ha : add out x with
    | none => rw [ha] at ht; cases ht
    | some o1 =>
      rw [ha] at ht
      simp only at ht
      split at ht
      · cases ht
      · rcases List.mem_cons.1 h with rfl | h
        · exact ⟨_, _, ha⟩
        · exact text_adds l o1 o ht t h
theorem fixed_has {l : List Tok} {out o : List Nat} (ht : text out l = some o) : Has fixLit fixDist l := by
  refine ⟨ok_fits fixLit_ok, ok_fits fixDist_ok, ok_le fixLit_ok, ok_le fixDist_ok, (fixLit_pos 256 (by omega)).1, fun t h h0 => ?_, fun t h h0 => ?_, fun t h h0 => ?_⟩
  · obtain ⟨o1, o2, ha⟩ := text_adds l out o ht t h
    have := add_byte ha h0
    exact (fixLit_pos _ (by omega)).1
  · obtain ⟨o1, o2, ha⟩ := text_adds l out o ht t h
    have := add_long ha h0
    have := lad_long t.long.toNat (by omega) (by omega)
    exact (fixLit_pos _ (by omega)).1
  · obtain ⟨o1, o2, ha⟩ := text_adds l out o ht t h
    have := add_long ha h0
    have := lad_back t.back.toNat (by omega) (by omega)
    rw [fixDist_pos _ (by omega)]; omega
theorem align_zeros {z : Nat} (h : z < 8) : align (List.replicate z false) = some ((), []) := by
  unfold align
  rw [List.length_replicate, Nat.mod_eq_of_lt h, if_pos]
  · simp
  · simp
/-- A last part, and noughts behind it up to the next whole byte. -/
theorem whole_last {b : List Bool} {o : List Nat} {k z : Nat} (hk : k < 4) (hz : z < 8) (hb : body k [] (b ++ List.replicate z false) = some (o, List.replicate z false)) :
    whole (bitsOf 1 1 ++ (bitsOf k 2 ++ (b ++ List.replicate z false))) = some (o, []) := by
  have hp : part [] (bitsOf 1 1 ++ (bitsOf k 2 ++ (b ++ List.replicate z false))) = some ((o, 1), List.replicate z false) := by
    unfold De.part
    rw [next_some (num_small (by decide) _), next_some (num_small (by omega) _), next_some hb]; rfl
  unfold whole
  rw [next_some (x := o) (r := List.replicate z false)]
  · rw [next_some (align_zeros hz)]; rfl
  · rw [parts, next_some hp, if_pos rfl]; rfl
theorem flate_of {t o : List Nat} (h : whole (unpack t) = some (o, [])) (h7 : t.length ≤ 700) : flate t = some (o, t.length) := by
  unfold flate
  rw [if_neg (by omega), h]
  simp
theorem flate_pack {b : List Bool} {o : List Nat} {k : Nat} (hk : k < 4) (hb : ∀ r, body k [] (b ++ r) = some (o, r)) (h7 : (pack (bitsOf 1 1 ++ (bitsOf k 2 ++ b))).length ≤ 700) :
    flate (pack (bitsOf 1 1 ++ (bitsOf k 2 ++ b))) = some (o, (pack (bitsOf 1 1 ++ (bitsOf k 2 ++ b))).length) := by
  refine flate_of ?_ h7
  rw [unpack_pack']
  unfold pad
  rw [List.append_assoc, List.append_assoc]
  exact whole_last hk (by omega) (hb _)
theorem fixed_flate {t : List Nat} (hb : ∀ x ∈ t, x < 256) (h300 : t.length ≤ 300) (h7 : (fixed t).length ≤ 700) : flate (fixed t) = some (t, (fixed t).length) := by
  have ht := text_tokens hb h300
  unfold fixed fixBits at h7 ⊢
  rw [List.append_assoc] at h7 ⊢
  refine flate_pack (by omega) (fun r => ?_) h7
  unfold body
  rw [if_neg (by omega), if_pos rfl]
  exact packed_encToks (fixed_has ht) ht r
theorem encTok_length {out o : List Nat} {t : Tok} (ha : add out t = some o) : (encTok fixLit fixDist t).length + 9 * out.length ≤ 9 * o.length ∧ (encTok fixLit fixDist t).length ≤ 23 := by
  unfold encTok
  by_cases hl : t.long = 0
  · obtain ⟨_, b0, b1, rfl⟩ := add_byte ha hl
    have := (fixLit_pos t.byte.toNat (by omega)).2
    rw [if_pos hl, List.length_append, List.length_singleton]
    unfold enc
    rw [List.length_reverse, bits_length]; omega
  · obtain ⟨hb, l3, l60, k1, k250⟩ := add_long ha hl
    obtain ⟨a1, a2, a3, a4⟩ := lad_long t.long.toNat (by omega) (by omega)
    obtain ⟨c1, c2, c3, c4⟩ := lad_back t.back.toNat (by omega) (by omega)
    have f1 := (fixLit_pos (257 + lad longBase t.long.toNat) (by omega)).2
    have f2 := fixDist_pos (lad backBase t.back.toNat) (by omega)
    have hlen : o.length = out.length + t.long.toNat := by
      unfold add at ha
      rw [if_neg hl] at ha
      split at ha
      · cases ha; rw [copy_length]
      · cases ha
    rw [if_neg hl]
    simp only [List.length_append, enc, List.length_reverse, bits_length]
    omega
theorem toks_bits : ∀ (l : List Tok) (out o : List Nat), text out l = some o → (l.flatMap (encTok fixLit fixDist)).length + 9 * out.length ≤ 9 * o.length ∧ (l.flatMap (encTok fixLit fixDist)).length ≤ 23 * l.length
  | [], out, o, h => by cases h; simp
  | t :: l, out, o, h => by
    simp only [text] at h
    cases ha : add out t with
    | none => rw [ha] at h; cases h
    | some o1 =>
      rw [ha] at h
      simp only at h
      split at h
      · cases h
      · have ih := toks_bits l o1 o h
        have e := encTok_length ha
        rw [List.flatMap_cons, List.length_append, List.length_cons]
        omega
theorem enc256 : (enc fixLit 256).length = 7 := by
  have : fixLit.getD 256 0 = 7 := by decide +kernel
  unfold enc; rw [List.length_reverse, bits_length, this]
theorem fixBits_length {t : List Nat} (hb : ∀ x ∈ t, x < 256) (h300 : t.length ≤ 300) : 10 ≤ (fixBits t).length ∧ (fixBits t).length ≤ 10 + 9 * t.length ∧ (fixBits t).length ≤ 10 + 23 * (tokens t).length := by
  have := toks_bits _ _ _ (text_tokens hb h300)
  have e := enc256
  unfold fixBits encToks
  simp only [List.length_append, bits_length, List.length_nil] at this ⊢
  omega
theorem fixed_length {t : List Nat} (hb : ∀ x ∈ t, x < 256) (h300 : t.length ≤ 300) : 2 ≤ (fixed t).length ∧ (fixed t).length ≤ 339 ∧ (fixed t).length ≤ (17 + 23 * (tokens t).length) / 8 := by
  have := fixBits_length hb h300
  unfold fixed
  rw [pack_length]
  omega
theorem storeBits_length (n : Nat) : (storeBits n).length = 40 := by
  unfold storeBits
  rw [List.length_append, List.length_append, pad_length, bits_length, bits_length, bits_length]
theorem store_length (t : List Nat) : (store t).length = t.length + 5 := by
  unfold store
  rw [List.length_append, pack_length, storeBits_length]; omega
theorem pad3 (x : Nat) (r : List Bool) : pad (bitsOf x 3) ++ r = bitsOf x 3 ++ (List.replicate 5 false ++ r) := by
  unfold pad; rw [bits_length, List.append_assoc]
theorem align5 {r : List Bool} (h : r.length % 8 = 0) : align (List.replicate 5 false ++ r) = some ((), r) := by
  have hl : (List.replicate 5 false ++ r).length % 8 = 5 := by rw [List.length_append, List.length_replicate]; omega
  unfold align
  rw [hl]
  have e1 : (List.replicate 5 false ++ r).take 5 = List.replicate 5 false := by rw [List.take_append]; simp
  have e2 : (List.replicate 5 false ++ r).drop 5 = r := by rw [List.drop_append]; simp
  rw [e1, e2]; simp
/-- A text that is stored, ahead of more. -/
theorem stored_is {t out : List Nat} {r : List Bool} (hb : ∀ x ∈ t, x < 256) (h : out.length + t.length ≤ 300) (hr : r.length % 8 = 0) :
    stored out (List.replicate 5 false ++ (bitsOf t.length 16 ++ (bitsOf (65535 - t.length) 16 ++ (unpack t ++ r)))) = some (out ++ t, r) := by
  unfold stored
  rw [next_some (align5 (by simp only [List.length_append, bits_length, unpack_length]; omega)), next_some (num_small (by omega) _), next_some (num_small (by omega) _), if_pos ⟨by omega, h⟩]
  have hbytes : bytes t.length (unpack t ++ r) = some (t, r) := by
    unfold bytes
    have hl : (unpack t).length = 8 * t.length := unpack_length t
    rw [if_pos (by rw [List.length_append]; omega), packN_take _ _ _ (by omega), packN_unpack t hb, List.drop_append, hl, Nat.sub_self, List.drop_zero, List.drop_of_length_le (by omega), List.nil_append]
  rw [next_some hbytes]; rfl
theorem bits13 : bitsOf 1 3 = bitsOf 1 1 ++ bitsOf 0 2 := by decide
theorem unpack_store {t : List Nat} : unpack (store t) = bitsOf 1 1 ++ (bitsOf 0 2 ++ (List.replicate 5 false ++ (bitsOf t.length 16 ++ (bitsOf (65535 - t.length) 16 ++ (unpack t ++ []))))) := by
  unfold store
  rw [unpack_append, unpack_pack', pad_of _ (by rw [storeBits_length]), storeBits, List.append_assoc, pad3, bits13]
  simp only [List.append_assoc, List.append_nil]
theorem store_flate {t : List Nat} (hb : ∀ x ∈ t, x < 256) (h300 : t.length ≤ 300) : flate (store t) = some (t, (store t).length) := by
  refine flate_of ?_ (by rw [store_length]; omega)
  rw [unpack_store]
  have := whole_last (k := 0) (z := 0) (b := List.replicate 5 false ++ (bitsOf t.length 16 ++ (bitsOf (65535 - t.length) 16 ++ (unpack t ++ [])))) (o := t) (by omega) (by omega) (by
    unfold body
    rw [if_pos rfl]
    simp only [List.replicate_zero, List.append_nil]
    have := stored_is (t := t) (out := []) (r := []) hb (by simpa using h300) rfl
    simpa using this)
  simpa using this
end Go.Proofs.YtncidljdfipigaaDoor.En

