/- Own texts joined: Bt, Cd. -/
/- Numbers as bits, the lowest first; bits packed into bytes and unpacked. Nothing of the program stands here. -/
namespace Go.Proofs.YtnadjlejlohgiaaGreatDoor.Bt
def b1 (b : Bool) : Nat := if b then 1 else 0
theorem b1_le (b : Bool) : b1 b ≤ 1 := by cases b <;> decide
/-- The number that bits make, the lowest first. -/
def val : List Bool → Nat
  | [] => 0
  | b :: t => b1 b + 2 * val t
/-- The n lowest bits of a number. -/
def bitsOf (num : Nat) : Nat → List Bool
  | 0 => []
  | n + 1 => (num % 2 == 1) :: bitsOf (num / 2) n
theorem b1_mod (num : Nat) : b1 (num % 2 == 1) = num % 2 := by
  unfold b1
  by_cases h : num % 2 = 1
  · simp [h]
  · have : num % 2 = 0 := by omega
    simp [this]
theorem bits_length : ∀ (n num : Nat), (bitsOf num n).length = n
  | 0, _ => rfl
  | n + 1, num => by simp [bitsOf, bits_length n]
theorem val_bits : ∀ (n num : Nat), val (bitsOf num n) = num % 2 ^ n
  | 0, num => by simp [bitsOf, val, Nat.mod_one]
  | n + 1, num => by
    simp only [bitsOf, val, b1_mod, val_bits n]
    rw [Nat.pow_succ, Nat.mul_comm (2 ^ n) 2, Nat.mod_mul]
theorem val_lt : ∀ l : List Bool, val l < 2 ^ l.length
  | [] => by simp [val]
  | b :: t => by
    have := val_lt t
    have := b1_le b
    simp only [val, List.length_cons, Nat.pow_succ]
    omega
theorem bits_zero : ∀ n : Nat, bitsOf 0 n = List.replicate n false
  | 0 => rfl
  | n + 1 => by simp [bitsOf, bits_zero n, List.replicate_succ]
theorem bits_val_pad : ∀ (l : List Bool) (m : Nat), l.length ≤ m → bitsOf (val l) m = l ++ List.replicate (m - l.length) false
  | [], m, _ => by simp [val, bits_zero]
  | b :: t, 0, h => by simp at h
  | b :: t, m + 1, h => by
    have h1 : (b1 b + 2 * val t) % 2 = b1 b := by have := b1_le b; omega
    have h2 : (b1 b + 2 * val t) / 2 = val t := by have := b1_le b; omega
    have h3 : (b1 b == 1) = b := by cases b <;> decide
    simp only [val, bitsOf, h1, h2, h3, List.cons_append, List.length_cons, Nat.add_sub_add_right]
    rw [bits_val_pad t m (by simpa using h)]
theorem bits_val (l : List Bool) : bitsOf (val l) l.length = l := by
  have := bits_val_pad l l.length (Nat.le_refl _)
  simpa using this
theorem val_append : ∀ (a b : List Bool), val (a ++ b) = val a + 2 ^ a.length * val b
  | [], b => by simp [val]
  | x :: a, b => by
    simp only [List.cons_append, val, val_append a b, List.length_cons, Nat.pow_succ]
    rw [Nat.mul_add, Nat.mul_comm (2 ^ a.length) 2, Nat.mul_assoc]
    omega
theorem bits_snoc : ∀ (n num : Nat), bitsOf num (n + 1) = bitsOf num n ++ [num / 2 ^ n % 2 == 1]
  | 0, num => by simp [bitsOf]
  | n + 1, num => by
    have ih := bits_snoc n (num / 2)
    rw [bitsOf, ih, bitsOf, List.cons_append, Nat.div_div_eq_div_mul, Nat.pow_succ, Nat.mul_comm (2 ^ n) 2]
/-- Bits as so many bytes. -/
def packN : Nat → List Bool → List Nat
  | 0, _ => []
  | n + 1, bs => val (bs.take 8) :: packN n (bs.drop 8)
def pack (bs : List Bool) : List Nat := packN ((bs.length + 7) / 8) bs
def unpack (t : List Nat) : List Bool := t.flatMap (bitsOf · 8)
theorem packN_length : ∀ (n : Nat) (bs : List Bool), (packN n bs).length = n
  | 0, _ => rfl
  | n + 1, bs => by simp [packN, packN_length n]
theorem pack_length (bs : List Bool) : (pack bs).length = (bs.length + 7) / 8 := packN_length _ _
theorem packN_lt : ∀ (n : Nat) (bs : List Bool), ∀ x ∈ packN n bs, x < 256
  | 0, _, x, h => by simp [packN] at h
  | n + 1, bs, x, h => by
    simp only [packN, List.mem_cons] at h
    rcases h with rfl | h
    · have h1 := val_lt (bs.take 8)
      have h2 : (bs.take 8).length ≤ 8 := by rw [List.length_take]; omega
      have h3 : 2 ^ (bs.take 8).length ≤ 2 ^ 8 := Nat.pow_le_pow_right (by omega) h2
      omega
    · exact packN_lt n _ x h
theorem pack_lt (bs : List Bool) : ∀ x ∈ pack bs, x < 256 := packN_lt _ bs
theorem unpack_cons (x : Nat) (t : List Nat) : unpack (x :: t) = bitsOf x 8 ++ unpack t := by simp [unpack]
theorem unpack_append (a b : List Nat) : unpack (a ++ b) = unpack a ++ unpack b := by simp [unpack]
theorem unpack_length : ∀ t : List Nat, (unpack t).length = 8 * t.length
  | [] => rfl
  | x :: t => by rw [unpack_cons, List.length_append, bits_length, unpack_length t, List.length_cons]; omega
theorem unpack_packN : ∀ (n : Nat) (bs : List Bool), bs.length ≤ 8 * n → 8 * n < bs.length + 8 → unpack (packN n bs) = bs ++ List.replicate (8 * n - bs.length) false
  | 0, bs, h, _ => by
    have : bs = [] := List.length_eq_zero_iff.1 (by omega)
    subst this; rfl
  | n + 1, bs, h, h2 => by
    rw [packN, unpack_cons, bits_val_pad _ _ (by rw [List.length_take]; omega)]
    by_cases h8 : 8 ≤ bs.length
    · rw [unpack_packN n _ (by rw [List.length_drop]; omega) (by rw [List.length_drop]; omega), List.length_take, List.length_drop, show 8 - min 8 bs.length = 0 from by omega, List.replicate_zero, List.append_nil, ← List.append_assoc, List.take_append_drop,
        show 8 * n - (bs.length - 8) = 8 * (n + 1) - bs.length from by omega]
    · have : n = 0 := by omega
      subst this
      rw [List.take_of_length_le (by omega)]
      simp [packN, unpack]
theorem unpack_pack (bs : List Bool) : unpack (pack bs) = bs ++ List.replicate (8 * ((bs.length + 7) / 8) - bs.length) false := unpack_packN _ bs (by omega) (by omega)
theorem packN_unpack : ∀ t : List Nat, (∀ x ∈ t, x < 256) → packN t.length (unpack t) = t
  | [], _ => rfl
  | x :: t, h => by
    have hx := h x (by simp)
    have e1 : (bitsOf x 8 ++ unpack t).take 8 = bitsOf x 8 := by
      rw [List.take_append, bits_length]; simp [List.take_of_length_le, bits_length]
    have e2 : (bitsOf x 8 ++ unpack t).drop 8 = unpack t := by
      rw [List.drop_append, bits_length]; simp [List.drop_of_length_le, bits_length]
    rw [List.length_cons, packN, unpack_cons, e1, e2, val_bits, packN_unpack t (fun y hy => h y (by simp [hy])), Nat.mod_eq_of_lt (by omega)]
theorem pack_unpack (t : List Nat) (h : ∀ x ∈ t, x < 256) : pack (unpack t) = t := by
  unfold pack
  rw [unpack_length, show (8 * t.length + 7) / 8 = t.length from by omega]
  exact packN_unpack t h
/-- Noughts up to the next whole byte. -/
def pad (bs : List Bool) : List Bool := bs ++ List.replicate ((8 - bs.length % 8) % 8) false
theorem pad_length (bs : List Bool) : (pad bs).length = 8 * ((bs.length + 7) / 8) := by
  unfold pad; rw [List.length_append, List.length_replicate]; omega
theorem unpack_pack' (bs : List Bool) : unpack (pack bs) = pad bs := by
  rw [unpack_pack]; unfold pad; congr 2; omega
theorem pack_pad (bs : List Bool) : pack (pad bs) = pack bs := by
  rw [← unpack_pack', pack_unpack _ (pack_lt bs)]
theorem pad_of (bs : List Bool) (h : bs.length % 8 = 0) : pad bs = bs := by
  unfold pad; rw [h]; simp
theorem pack_append (a b : List Bool) (h : a.length % 8 = 0) : pack (a ++ b) = pack a ++ pack b := by
  have e1 : unpack (pack (a ++ b)) = unpack (pack a ++ pack b) := by
    rw [unpack_append, unpack_pack', unpack_pack', unpack_pack', pad_of a h]
    unfold pad
    rw [List.append_assoc, List.length_append]
    congr 3; omega
  have := congrArg pack e1
  rw [pack_unpack _ (pack_lt _), pack_unpack] at this
  · exact this
  · intro x hx
    rcases List.mem_append.1 hx with h | h
    · exact pack_lt _ x h
    · exact pack_lt _ x h
end Go.Proofs.YtnadjlejlohgiaaGreatDoor.Bt

/- Canonical codes by their lengths: what each symbol's code is, when codes fit, and that a symbol is found by its code. Nothing of the program stands here. -/
namespace Go.Proofs.YtnadjlejlohgiaaGreatDoor.Cd
open Go.Proofs.YtnadjlejlohgiaaGreatDoor.Bt
/-- The first code of a length. -/
def first (lens : List Nat) : Nat → Nat
  | 0 => 0
  | 1 => 0
  | l + 2 => 2 * (first lens (l + 1) + lens.count (l + 1))
theorem first_succ (lens : List Nat) {l : Nat} (h : 1 ≤ l) : first lens (l + 1) = 2 * (first lens l + lens.count l) := by
  obtain ⟨m, rfl⟩ : ∃ m, l = m + 1 := ⟨l - 1, by omega⟩
  rfl
/-- The code of a symbol of length l. -/
def codeAt (lens : List Nat) (l k : Nat) : Nat := first lens l + (lens.take k).count l
def code (lens : List Nat) (k : Nat) : Nat := if 1 ≤ lens.getD k 0 ∧ lens.getD k 0 ≤ 15 then codeAt lens (lens.getD k 0) k else 0
def codes (lens : List Nat) : List Nat := (List.range lens.length).map (code lens)
theorem codes_length (lens : List Nat) : (codes lens).length = lens.length := by simp [codes]
theorem codes_get (lens : List Nat) {k : Nat} (h : k < lens.length) : (codes lens)[k]? = some (code lens k) := by
  simp [codes, h]
theorem codes_getD (lens : List Nat) {k : Nat} (h : k < lens.length) : (codes lens).getD k 0 = code lens k := by
  rw [List.getD_eq_getElem?_getD, codes_get lens h]; rfl
def Fits (lens : List Nat) : Prop := ∀ l, 1 ≤ l → l ≤ 15 → first lens l + lens.count l ≤ 2 ^ l
theorem count_take_le (lens : List Nat) (k l : Nat) : (lens.take k).count l ≤ lens.count l := (List.take_sublist k lens).count_le l
theorem count_take_succ {lens : List Nat} {k : Nat} (h : k < lens.length) (l : Nat) : (lens.take (k + 1)).count l = (lens.take k).count l + if lens.getD k 0 = l then 1 else 0 := by
  rw [List.take_succ_eq_append_getElem h, List.count_append, List.getD_eq_getElem?_getD, List.getElem?_eq_getElem h]
  simp only [Option.getD_some, List.count_cons, List.count_nil, Nat.zero_add, beq_iff_eq]
theorem code_lt {lens : List Nat} (hf : Fits lens) {k : Nat} (h : k < lens.length) (h1 : 1 ≤ lens.getD k 0) (h2 : lens.getD k 0 ≤ 15) : code lens k < 2 ^ lens.getD k 0 := by
  have := hf _ h1 h2
  have a := count_take_succ h (lens.getD k 0)
  have b := count_take_le lens (k + 1) (lens.getD k 0)
  rw [if_pos rfl] at a
  unfold code codeAt
  rw [if_pos ⟨h1, h2⟩]
  omega
theorem code_range {lens : List Nat} {k l : Nat} (h : k < lens.length) (hl : lens.getD k 0 = l) (h1 : 1 ≤ l) (h2 : l ≤ 15) : first lens l ≤ code lens k ∧ code lens k < first lens l + lens.count l := by
  have a := count_take_succ h l
  have b := count_take_le lens (k + 1) l
  rw [if_pos hl] at a
  unfold code codeAt
  rw [hl, if_pos ⟨h1, h2⟩]
  omega
theorem count_mono (lens : List Nat) {i j : Nat} (h : i ≤ j) (l : Nat) : (lens.take i).count l ≤ (lens.take j).count l := by
  have : lens.take i = (lens.take j).take i := by rw [List.take_take]; congr 1; omega
  rw [this]
  exact count_take_le _ _ _
theorem code_inj {lens : List Nat} {i j l : Nat} (hi : i < lens.length) (hj : j < lens.length) (li : lens.getD i 0 = l) (lj : lens.getD j 0 = l) (h1 : 1 ≤ l) (h2 : l ≤ 15) (h : code lens i = code lens j) : i = j := by
  unfold code codeAt at h
  rw [li, lj, if_pos ⟨h1, h2⟩, if_pos ⟨h1, h2⟩] at h
  have a := count_take_succ hi l
  have b := count_take_succ hj l
  rw [if_pos li] at a
  rw [if_pos lj] at b
  rcases Nat.lt_trichotomy i j with g | g | g
  · have := count_mono lens (show i + 1 ≤ j from g) l
    omega
  · exact g
  · have := count_mono lens (show j + 1 ≤ i from g) l
    omega
theorem first_far (lens : List Nat) {l : Nat} (h : 1 ≤ l) : ∀ d, 2 ^ (d + 1) * (first lens l + lens.count l) ≤ first lens (l + d + 1)
  | 0 => by rw [Nat.add_zero, first_succ lens h]; omega
  | d + 1 => by
    have ih := first_far lens h d
    rw [show l + (d + 1) + 1 = (l + d + 1) + 1 from by omega, first_succ lens (by omega), Nat.pow_succ, Nat.mul_comm _ 2, Nat.mul_assoc]
    omega
/-- The symbol of a code of a length: the first. -/
def find (lens : List Nat) (l c : Nat) : Option Nat := (List.range lens.length).find? fun i => decide (lens.getD i 0 = l ∧ code lens i = c)
theorem find_some {lens : List Nat} {l c k : Nat} (h : find lens l c = some k) : k < lens.length ∧ lens.getD k 0 = l ∧ code lens k = c := by
  unfold find at h
  have h1 := List.find?_some h
  have h2 := List.mem_of_find?_eq_some h
  simp only [decide_eq_true_eq] at h1
  exact ⟨by simpa using h2, h1.1, h1.2⟩
theorem find_none {lens : List Nat} {l c : Nat} (h : find lens l c = none) {k : Nat} (hk : k < lens.length) : ¬ (lens.getD k 0 = l ∧ code lens k = c) := by
  unfold find at h
  have := List.find?_eq_none.1 h k (by simpa using hk)
  simpa using this
theorem find_is {lens : List Nat} {l c k : Nat} (hk : k < lens.length) (hl : lens.getD k 0 = l) (hc : code lens k = c) (h1 : 1 ≤ l) (h2 : l ≤ 15) : find lens l c = some k := by
  cases h : find lens l c with
  | none => exact absurd ⟨hl, hc⟩ (find_none h hk)
  | some j =>
    obtain ⟨hj, lj, cj⟩ := find_some h
    rw [code_inj hj hk lj hl h1 h2 (cj.trans hc.symm)]
/-- A symbol by its code: from length l on, when c is what was read. -/
def symGo (lens : List Nat) : Nat → Nat → Nat → List Bool → Option (Nat × List Bool)
  | 0, _, _, _ => none
  | _ + 1, _, _, [] => none
  | f + 1, l, c, b :: t => match find lens l (2 * c + b1 b) with
    | some k => some (k, t)
    | none => symGo lens f (l + 1) (2 * c + b1 b) t
def sym (lens : List Nat) (bs : List Bool) : Option (Nat × List Bool) := symGo lens 15 1 0 bs
/-- A symbol's code as it is written: the highest bit first. -/
def enc (lens : List Nat) (k : Nat) : List Bool := (bitsOf (code lens k) (lens.getD k 0)).reverse
theorem bits_reverse (x m : Nat) : (bitsOf x (m + 1)).reverse = (x / 2 ^ m % 2 == 1) :: (bitsOf x m).reverse := by
  rw [bits_snoc, List.reverse_append]; rfl
theorem half (x m : Nat) : 2 * (x / 2 ^ (m + 1)) + b1 (x / 2 ^ m % 2 == 1) = x / 2 ^ m := by
  rw [b1_mod, Nat.pow_succ, ← Nat.div_div_eq_div_mul]; omega
theorem symGo_enc {lens : List Nat} (hf : Fits lens) {k : Nat} (h : k < lens.length) (h2 : lens.getD k 0 ≤ 15) (rest : List Bool) :
    ∀ (m l f : Nat), 1 ≤ l → l + m = lens.getD k 0 → m < f → symGo lens f l (code lens k / 2 ^ (m + 1)) ((bitsOf (code lens k) (m + 1)).reverse ++ rest) = some (k, rest)
  | 0, l, f + 1, h1, hl, _ => by
    rw [bits_reverse, List.cons_append, symGo, half, Nat.pow_zero, Nat.div_one, find_is h (by omega) rfl h1 (by omega)]
    simp [bitsOf]
  | m + 1, l, f + 1, h1, hl, hm => by
    rw [bits_reverse, List.cons_append, symGo, half]
    have hn : find lens l (code lens k / 2 ^ (m + 1)) = none := by
      cases hs : find lens l (code lens k / 2 ^ (m + 1)) with
      | none => rfl
      | some j =>
        exfalso
        obtain ⟨hj, lj, cj⟩ := find_some hs
        have a := (code_range hj lj h1 (by omega)).2
        have b := (code_range h rfl (by omega) h2).1
        have c := first_far lens h1 m
        rw [show l + m + 1 = lens.getD k 0 from by omega] at c
        rw [cj] at a
        have d := Nat.div_lt_iff_lt_mul (x := code lens k) (y := first lens l + lens.count l) (Nat.two_pow_pos (m + 1)) |>.1 a
        rw [Nat.mul_comm] at d
        omega
    rw [hn]
    exact symGo_enc hf h h2 rest m (l + 1) f (by omega) (by omega) (by omega)
theorem sym_enc {lens : List Nat} (hf : Fits lens) {k : Nat} (h : k < lens.length) (h1 : 1 ≤ lens.getD k 0) (h2 : lens.getD k 0 ≤ 15) (rest : List Bool) : sym lens (enc lens k ++ rest) = some (k, rest) := by
  have hc := code_lt hf h h1 h2
  have := symGo_enc hf h h2 rest (lens.getD k 0 - 1) 1 15 (Nat.le_refl _) (by omega) (by omega)
  rw [show lens.getD k 0 - 1 + 1 = lens.getD k 0 from by omega, Nat.div_eq_of_lt hc] at this
  exact this
/-- How much of all codes lengths take, in 32768 parts. -/
def kraft (lens : List Nat) : Nat := (lens.map fun l => if l = 0 then 0 else 2 ^ (15 - l)).sum
def used (lens : List Nat) : Nat := (lens.filter fun l => decide (0 < l)).length
def okLens (lens : List Nat) : Bool := decide (lens.length ≤ 300) && lens.all (fun l => decide (l ≤ 15)) && (decide (kraft lens = 32768) || (decide (used lens = 1) && decide (kraft lens = 16384)))
def part (lens : List Nat) (l : Nat) : Nat := (lens.map fun x => if 1 ≤ x ∧ x ≤ l then 2 ^ (15 - x) else 0).sum
theorem part_succ (l : Nat) : ∀ lens : List Nat, part lens (l + 1) = part lens l + lens.count (l + 1) * 2 ^ (15 - (l + 1))
  | [] => by simp [part]
  | x :: t => by
    have ih := part_succ l t
    unfold part at ih ⊢
    simp only [List.map_cons, List.sum_cons, List.count_cons, ih]
    by_cases h : x = l + 1
    · subst h
      rw [if_pos (by omega), if_neg (by omega), if_pos (by simp), Nat.add_mul, Nat.one_mul]
      omega
    · have hb : (x == l + 1) = false := by simpa using h
      rw [hb]
      by_cases h2 : 1 ≤ x ∧ x ≤ l
      · rw [if_pos (show 1 ≤ x ∧ x ≤ l + 1 by omega), if_pos h2]; simp; omega
      · rw [if_neg (show ¬ (1 ≤ x ∧ x ≤ l + 1) by omega), if_neg h2]; simp
theorem part_zero (lens : List Nat) : part lens 0 = 0 := by
  unfold part
  induction lens with
  | nil => rfl
  | cons x t ih => rw [List.map_cons, List.sum_cons, ih, if_neg (by omega)]
theorem part_le (l : Nat) : ∀ lens : List Nat, part lens l ≤ kraft lens
  | [] => Nat.le_refl _
  | x :: t => by
    have ih := part_le l t
    unfold part kraft at ih ⊢
    simp only [List.map_cons, List.sum_cons]
    by_cases h2 : 1 ≤ x ∧ x ≤ l
    · rw [if_pos h2, if_neg (by omega)]; omega
    · rw [if_neg h2]; omega
theorem part_first (lens : List Nat) : ∀ l, 1 ≤ l → l ≤ 15 → (first lens l + lens.count l) * 2 ^ (15 - l) = part lens l
  | 0, h, _ => by omega
  | 1, _, _ => by
    have := part_succ 0 lens
    rw [part_zero] at this
    rw [this]; simp [first]
  | l + 2, _, h => by
    have ih := part_first lens (l + 1) (by omega) (by omega)
    rw [part_succ, ← ih, first, Nat.add_mul, show 15 - (l + 1) = 15 - (l + 2) + 1 from by omega, Nat.pow_succ]
    congr 1
    rw [Nat.mul_comm 2, Nat.mul_assoc, Nat.mul_comm 2]
theorem fits_of {lens : List Nat} (h : kraft lens ≤ 32768) : Fits lens := by
  intro l h1 h2
  have a := part_first lens l h1 h2
  have b := part_le l lens
  have c : 2 ^ l * 2 ^ (15 - l) = 32768 := by rw [← Nat.pow_add, show l + (15 - l) = 15 from by omega]
  have d : (first lens l + lens.count l) * 2 ^ (15 - l) ≤ 2 ^ l * 2 ^ (15 - l) := by omega
  exact Nat.le_of_mul_le_mul_right d (Nat.two_pow_pos _)
theorem ok_kraft {lens : List Nat} (h : okLens lens = true) : kraft lens ≤ 32768 := by
  simp only [okLens, Bool.and_eq_true, Bool.or_eq_true, decide_eq_true_eq] at h
  omega
theorem ok_fits {lens : List Nat} (h : okLens lens = true) : Fits lens := fits_of (ok_kraft h)
theorem ok_le {lens : List Nat} (h : okLens lens = true) : ∀ x ∈ lens, x ≤ 15 := by
  simp only [okLens, Bool.and_eq_true, Bool.or_eq_true, decide_eq_true_eq, List.all_eq_true] at h
  exact h.1.2
theorem getD_le {lens : List Nat} {m : Nat} (h : ∀ x ∈ lens, x ≤ m) (k : Nat) : lens.getD k 0 ≤ m := by
  rw [List.getD_eq_getElem?_getD]
  cases hk : lens[k]? with
  | none => exact Nat.zero_le _
  | some x => exact h x (List.mem_of_getElem? hk)
theorem symGo_lt {lens : List Nat} : ∀ (f l c : Nat) (bs : List Bool) (k : Nat) (r : List Bool), symGo lens f l c bs = some (k, r) → k < lens.length ∧ ∃ s, bs = s ++ r ∧ s ≠ []
  | 0, _, _, _, _, _, h => by simp [symGo] at h
  | f + 1, l, c, [], k, r, h => by simp [symGo] at h
  | f + 1, l, c, b :: t, k, r, h => by
    simp only [symGo] at h
    cases hs : find lens l (2 * c + b1 b) with
    | some j =>
      rw [hs] at h
      cases h
      exact ⟨(find_some hs).1, [b], rfl, by simp⟩
    | none =>
      rw [hs] at h
      obtain ⟨h1, s, rfl, _⟩ := symGo_lt f _ _ t k r h
      exact ⟨h1, b :: s, rfl, by simp⟩
theorem symGo_ext {lens : List Nat} (e : List Bool) : ∀ (f l c : Nat) (bs : List Bool) (k : Nat) (r : List Bool), symGo lens f l c bs = some (k, r) → symGo lens f l c (bs ++ e) = some (k, r ++ e)
  | 0, _, _, _, _, _, h => by simp [symGo] at h
  | f + 1, l, c, [], k, r, h => by simp [symGo] at h
  | f + 1, l, c, b :: t, k, r, h => by
    simp only [symGo, List.cons_append] at h ⊢
    cases hs : find lens l (2 * c + b1 b) with
    | some j => rw [hs] at h; cases h; rfl
    | none => rw [hs] at h; exact symGo_ext e f _ _ t k r h
theorem symGo_cut {lens : List Nat} (e : List Bool) : ∀ (f l c : Nat) (bs : List Bool) (k : Nat) (r : List Bool), symGo lens f l c (bs ++ e) = some (k, r ++ e) → symGo lens f l c bs = some (k, r)
  | 0, _, _, _, _, _, h => by simp [symGo] at h
  | f + 1, l, c, [], k, r, h => by
    obtain ⟨_, s, hs, hne⟩ := symGo_lt _ _ _ _ _ _ h
    have := congrArg List.length hs
    simp at this
    have : s.length = 0 := by omega
    exact absurd (List.length_eq_zero_iff.1 this) hne
  | f + 1, l, c, b :: t, k, r, h => by
    simp only [symGo, List.cons_append] at h ⊢
    cases hs : find lens l (2 * c + b1 b) with
    | some j =>
      rw [hs] at h
      simp only [Option.some.injEq, Prod.mk.injEq] at h
      obtain ⟨rfl, h⟩ := h
      rw [List.append_cancel_right h]
    | none => rw [hs] at h; exact symGo_cut e f _ _ t k r h
end Go.Proofs.YtnadjlejlohgiaaGreatDoor.Cd

