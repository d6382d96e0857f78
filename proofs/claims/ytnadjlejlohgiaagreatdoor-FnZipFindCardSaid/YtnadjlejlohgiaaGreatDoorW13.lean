/- Own texts joined: De, En. -/
import Derived.Test.YtnadjlejlohgiaaGreatDoorW3
import Derived.Test.YtnadjlejlohgiaaGreatDoorW7
/- What unpacks a text, as a plain function on bits: numbers, parts of three kinds; and that it looks at no more than it takes. Nothing of the program stands here. -/
namespace Go.Proofs.YtnadjlejlohgiaaGreatDoor.De
open Go.Proofs.YtnadjlejlohgiaaGreatDoor.Bt Go.Proofs.YtnadjlejlohgiaaGreatDoor.Cd Go.Proofs.YtnadjlejlohgiaaGreatDoor.Hf Go.Proofs.YtnadjlejlohgiaaGreatDoor.Lz
set_option linter.unusedVariables false
abbrev Dec (α : Type) := List Bool → Option (α × List Bool)
def ret {α : Type} (x : α) : Dec α := fun bs => some (x, bs)
def bad {α : Type} : Dec α := fun _ => none
def next {α β : Type} (d : Dec α) (k : α → Dec β) : Dec β := fun bs => match d bs with
  | none => none
  | some (x, r) => k x r
/-- It takes what stands ahead and looks at nothing behind. -/
structure Loc {α : Type} (d : Dec α) : Prop where
  suf : ∀ bs x r, d bs = some (x, r) → ∃ s, bs = s ++ r
  ext : ∀ e bs x r, e.length % 8 = 0 → d bs = some (x, r) → d (bs ++ e) = some (x, r ++ e)
  cut : ∀ e bs x r, e.length % 8 = 0 → d (bs ++ e) = some (x, r ++ e) → d bs = some (x, r)
section
variable {α β : Type}
theorem next_some {d : Dec α} {k : α → Dec β} {bs r : List Bool} {x : α} (h : d bs = some (x, r)) : next d k bs = k x r := by
  unfold next; rw [h]
theorem next_none {d : Dec α} {k : α → Dec β} {bs : List Bool} (h : d bs = none) : next d k bs = none := by
  unfold next; rw [h]
theorem next_inv {d : Dec α} {k : α → Dec β} {bs r : List Bool} {y : β} (h : next d k bs = some (y, r)) : ∃ x r1, d bs = some (x, r1) ∧ k x r1 = some (y, r) := by
  unfold next at h
  cases hd : d bs with
  | none => rw [hd] at h; cases h
  | some p => rw [hd] at h; exact ⟨p.1, p.2, rfl, h⟩
theorem Loc.ret (x : α) : Loc (ret x) where
  suf bs y r h := by cases h; exact ⟨[], rfl⟩
  ext e bs y r _ h := by cases h; rfl
  cut e bs y r _ h := by
    unfold De.ret at h ⊢
    simp only [Option.some.injEq, Prod.mk.injEq] at h
    obtain ⟨rfl, h⟩ := h
    rw [List.append_cancel_right h]
theorem Loc.bad : Loc (bad : Dec α) where
  suf bs y r h := by cases h
  ext e bs y r _ h := by cases h
  cut e bs y r _ h := by cases h
theorem Loc.next {d : Dec α} {k : α → Dec β} (hd : Loc d) (hk : ∀ x, Loc (k x)) : Loc (next d k) where
  suf bs y r h := by
    obtain ⟨x, r1, h1, h2⟩ := next_inv h
    obtain ⟨s1, rfl⟩ := hd.suf _ _ _ h1
    obtain ⟨s2, rfl⟩ := (hk x).suf _ _ _ h2
    exact ⟨s1 ++ s2, by rw [List.append_assoc]⟩
  ext e bs y r he h := by
    obtain ⟨x, r1, h1, h2⟩ := next_inv h
    rw [next_some (hd.ext e _ _ _ he h1)]
    exact (hk x).ext e _ _ _ he h2
  cut e bs y r he h := by
    obtain ⟨x, r1, h1, h2⟩ := next_inv h
    obtain ⟨s2, rfl⟩ := (hk x).suf _ _ _ h2
    rw [← List.append_assoc] at h1 h2
    rw [next_some (hd.cut e _ _ _ he h1)]
    exact (hk x).cut e _ _ _ he h2
theorem Loc.ite {c : Prop} [Decidable c] {d e : Dec α} (hd : Loc d) (he : Loc e) : Loc (if c then d else e) := by
  split
  · exact hd
  · exact he
end
def num (n : Nat) : Dec Nat := fun bs => if n ≤ bs.length then some (val (bs.take n), bs.drop n) else none
def align : Dec Unit := fun bs => if (bs.take (bs.length % 8)).all (!·) then some ((), bs.drop (bs.length % 8)) else none
def bytes (n : Nat) : Dec (List Nat) := fun bs => if 8 * n ≤ bs.length then some (packN n bs, bs.drop (8 * n)) else none
theorem packN_take : ∀ (n : Nat) (a b : List Bool), 8 * n ≤ a.length → packN n (a ++ b) = packN n a
  | 0, _, _, _ => rfl
  | n + 1, a, b, h => by
    have e1 : (a ++ b).take 8 = a.take 8 := by rw [List.take_append, show 8 - a.length = 0 from by omega, List.take_zero, List.append_nil]
    have e2 : (a ++ b).drop 8 = a.drop 8 ++ b := by rw [List.drop_append, show 8 - a.length = 0 from by omega, List.drop_zero]
    rw [packN, packN, e1, e2, packN_take n _ b (by rw [List.length_drop]; omega)]
theorem Loc.take {α : Type} (m : Nat) (f : List Bool → α) (hf : ∀ a b : List Bool, m ≤ a.length → f (a ++ b) = f a) : Loc (fun bs => if m ≤ bs.length then some (f bs, bs.drop m) else none) where
  suf bs y r h := by
    by_cases hn : m ≤ bs.length
    · rw [if_pos hn] at h; cases h; exact ⟨bs.take m, (List.take_append_drop m bs).symm⟩
    · rw [if_neg hn] at h; cases h
  ext e bs y r _ h := by
    by_cases hn : m ≤ bs.length
    · rw [if_pos hn] at h; cases h
      rw [if_pos (by rw [List.length_append]; omega), hf _ _ hn, List.drop_append, show m - bs.length = 0 from by omega, List.drop_zero]
    · rw [if_neg hn] at h; cases h
  cut e bs y r _ h := by
    by_cases hn : m ≤ (bs ++ e).length
    · rw [if_pos hn] at h
      simp only [Option.some.injEq, Prod.mk.injEq] at h
      obtain ⟨h1, h2⟩ := h
      have hl := congrArg List.length h2
      rw [List.length_drop, List.length_append, List.length_append] at hl
      rw [List.length_append] at hn
      have hn' : m ≤ bs.length := by omega
      rw [if_pos hn', ← h1, hf _ _ hn']
      rw [List.drop_append, show m - bs.length = 0 from by omega, List.drop_zero] at h2
      rw [List.append_cancel_right h2]
    · rw [if_neg hn] at h; cases h
theorem Loc.num (n : Nat) : Loc (num n) := Loc.take n (fun bs => val (bs.take n)) (fun a b h => by rw [List.take_append, show n - a.length = 0 from by omega, List.take_zero, List.append_nil])
theorem Loc.bytes (n : Nat) : Loc (bytes n) := Loc.take (8 * n) (packN n) (packN_take n)
theorem Loc.align : Loc align where
  suf bs y r h := by
    unfold De.align at h
    split at h
    · cases h; exact ⟨_, (List.take_append_drop _ bs).symm⟩
    · cases h
  ext e bs y r he h := by
    unfold De.align at h ⊢
    have e1 : (bs ++ e).length % 8 = bs.length % 8 := by rw [List.length_append]; omega
    have h2 : bs.length % 8 - bs.length = 0 := by omega
    rw [e1, List.take_append, h2, List.take_zero, List.append_nil, List.drop_append, h2, List.drop_zero]
    split at h
    · cases h; rename_i hc; rw [if_pos hc]
    · cases h
  cut e bs y r he h := by
    unfold De.align at h ⊢
    have e1 : (bs ++ e).length % 8 = bs.length % 8 := by rw [List.length_append]; omega
    have h2 : bs.length % 8 - bs.length = 0 := by omega
    rw [e1, List.take_append, h2, List.take_zero, List.append_nil, List.drop_append, h2, List.drop_zero] at h
    split at h
    · rename_i hc
      simp only [Option.some.injEq, Prod.mk.injEq] at h
      rw [if_pos hc, List.append_cancel_right h.2]
    · cases h
theorem Loc.sym (lens : List Nat) : Loc (sym lens) where
  suf bs x r h := by obtain ⟨_, s, hs, _⟩ := symGo_lt _ _ _ _ _ _ h; exact ⟨s, hs⟩
  ext e bs x r _ h := symGo_ext e _ _ _ _ _ _ h
  cut e bs x r _ h := symGo_cut e _ _ _ _ _ _ h
/-- How many bits more each symbol of a length, of a distance has. -/
def longBits : List Nat := [0, 0, 0, 0, 0, 0, 0, 0, 1, 1, 1, 1, 2, 2, 2, 2, 3, 3, 3, 3, 4, 4, 4, 4, 5, 5, 5, 5]
def backBits : List Nat := [0, 0, 0, 0, 1, 1, 2, 2, 3, 3, 4, 4, 5, 5, 6, 6, 7, 7, 8, 8, 9, 9, 10, 10, 11, 11, 12, 12, 13, 13]
def base : Nat → List Nat → List Nat
  | _, [] => []
  | n, x :: t => n :: base (n + 2 ^ x) t
def longBase : List Nat := base 3 longBits
def backBase : List Nat := base 1 backBits
def fixLit : List Nat := List.replicate 144 8 ++ List.replicate 112 9 ++ List.replicate 24 7 ++ List.replicate 8 8
def fixDist : List Nat := List.replicate 32 5
def order : List Nat := [16, 17, 18, 0, 8, 7, 9, 6, 10, 5, 11, 4, 12, 3, 13, 2, 14, 1, 15]
def stored (out : List Nat) : Dec (List Nat) :=
  next align fun _ => next (num 16) fun n => next (num 16) fun m => if n + m = 65535 ∧ out.length + n ≤ 300 then next (bytes n) fun x => ret (out ++ x) else bad
def put (out : List Nat) (long back : Nat) : Dec (List Nat) := match add out ⟨0, long, back⟩ with
  | some o => if o.length ≤ 300 then ret o else bad
  | none => bad
def again (dist out : List Nat) (k : Nat) : Dec (List Nat) :=
  if 28 ≤ k then bad else next (num (longBits.getD k 0)) fun x => next (sym dist) fun j => if 30 ≤ j then bad else next (num (backBits.getD j 0)) fun y =>
    put out (longBase.getD k 0 + x) (backBase.getD j 0 + y)
def packed (lit dist : List Nat) : Nat → List Nat → Dec (List Nat)
  | 0, _ => bad
  | f + 1, out => next (sym lit) fun s => if s = 256 then ret out else if s < 256 then (if out.length < 300 then packed lit dist f (out ++ [s]) else bad) else next (again dist out (s - 257)) fun o => packed lit dist f o
def metas : Nat → Nat → List Nat → Dec (List Nat)
  | 0, _, m => ret m
  | n + 1, i, m => next (num 3) fun x => metas n (i + 1) (m.set (order.getD i 0) x)
def lenLoop (meta_ : List Nat) (want : Nat) : Nat → List Nat → Dec (List Nat)
  | 0, _ => bad
  | f + 1, all => if want ≤ all.length then (if all.length = want then ret all else bad) else
    next (sym meta_) fun s => if s < 16 then lenLoop meta_ want f (all ++ [s])
      else if s = 16 then next (num 2) fun x => (if all.length = 0 then bad else lenLoop meta_ want f (all ++ List.replicate (3 + x) (all.getD (all.length - 1) 0)))
      else if s = 17 then next (num 3) fun x => lenLoop meta_ want f (all ++ List.replicate (3 + x) 0)
      else next (num 7) fun x => lenLoop meta_ want f (all ++ List.replicate (11 + x) 0)
def own : Dec (List Nat × List Nat) :=
  next (num 5) fun a => next (num 5) fun b => next (num 4) fun c => next (metas (c + 4) 0 (List.replicate 19 0)) fun m =>
    if okLens m = true ∧ a + 257 ≤ 286 ∧ b + 1 ≤ 30 then next (lenLoop m (a + 257 + (b + 1)) 400 []) fun all =>
      (if okLens (all.take (a + 257)) = true ∧ okLens (all.drop (a + 257)) = true then ret (all.take (a + 257), all.drop (a + 257)) else bad) else bad
def body (t : Nat) (out : List Nat) : Dec (List Nat) :=
  if t = 0 then stored out else if t = 1 then packed fixLit fixDist 302 out else if t = 2 then next own fun p => packed p.1 p.2 302 out else bad
def part (out : List Nat) : Dec (List Nat × Nat) := next (num 1) fun last => next (num 2) fun t => next (body t out) fun o => ret (o, last)
def parts : Nat → List Nat → Dec (List Nat)
  | 0, _ => bad
  | f + 1, out => next (part out) fun p => if p.2 = 1 then ret p.1 else parts f p.1
def whole : Dec (List Nat) := next (parts 6000 []) fun o => next align fun _ => ret o
/-- A text unpacked, and how many bytes that took. -/
def flate (t : List Nat) : Option (List Nat × Nat) := if 700 < t.length then none else match whole (unpack t) with
  | none => none
  | some (o, r) => some (o, t.length - r.length / 8)
theorem Loc.stored (out : List Nat) : Loc (stored out) :=
  Loc.next Loc.align fun _ => Loc.next (Loc.num _) fun _ => Loc.next (Loc.num _) fun _ => Loc.ite (Loc.next (Loc.bytes _) fun _ => Loc.ret _) Loc.bad
theorem Loc.put (out : List Nat) (long back : Nat) : Loc (put out long back) := by
  unfold De.put
  split
  · exact Loc.ite (Loc.ret _) Loc.bad
  · exact Loc.bad
theorem Loc.again (dist out : List Nat) (k : Nat) : Loc (again dist out k) :=
  Loc.ite Loc.bad (Loc.next (Loc.num _) fun _ => Loc.next (Loc.sym _) fun _ => Loc.ite Loc.bad (Loc.next (Loc.num _) fun _ => Loc.put _ _ _))
theorem Loc.packed (lit dist : List Nat) : ∀ (f : Nat) (out : List Nat), Loc (packed lit dist f out)
  | 0, _ => Loc.bad
  | f + 1, out => Loc.next (Loc.sym _) fun _ => Loc.ite (Loc.ret _) (Loc.ite (Loc.ite (Loc.packed lit dist f _) Loc.bad) (Loc.next (Loc.again _ _ _) fun _ => Loc.packed lit dist f _))
theorem Loc.metas : ∀ (n i : Nat) (m : List Nat), Loc (metas n i m)
  | 0, _, _ => Loc.ret _
  | n + 1, i, m => Loc.next (Loc.num _) fun _ => Loc.metas n (i + 1) _
theorem Loc.lenLoop (m : List Nat) (want : Nat) : ∀ (f : Nat) (all : List Nat), Loc (lenLoop m want f all)
  | 0, _ => Loc.bad
  | f + 1, all => Loc.ite (Loc.ite (Loc.ret _) Loc.bad) (Loc.next (Loc.sym _) fun _ => Loc.ite (Loc.lenLoop m want f _) (Loc.ite (Loc.next (Loc.num _) fun _ => Loc.ite Loc.bad (Loc.lenLoop m want f _))
      (Loc.ite (Loc.next (Loc.num _) fun _ => Loc.lenLoop m want f _) (Loc.next (Loc.num _) fun _ => Loc.lenLoop m want f _))))
theorem Loc.own : Loc own :=
  Loc.next (Loc.num _) fun _ => Loc.next (Loc.num _) fun _ => Loc.next (Loc.num _) fun _ => Loc.next (Loc.metas _ _ _) fun _ => Loc.ite (Loc.next (Loc.lenLoop _ _ _ _) fun _ => Loc.ite (Loc.ret _) Loc.bad) Loc.bad
theorem Loc.body (t : Nat) (out : List Nat) : Loc (body t out) :=
  Loc.ite (Loc.stored _) (Loc.ite (Loc.packed _ _ _ _) (Loc.ite (Loc.next Loc.own fun _ => Loc.packed _ _ _ _) Loc.bad))
theorem Loc.part (out : List Nat) : Loc (part out) := Loc.next (Loc.num _) fun _ => Loc.next (Loc.num _) fun _ => Loc.next (Loc.body _ _) fun _ => Loc.ret _
theorem Loc.parts : ∀ (f : Nat) (out : List Nat), Loc (parts f out)
  | 0, _ => Loc.bad
  | f + 1, out => Loc.next (Loc.part _) fun _ => Loc.ite (Loc.ret _) (Loc.parts f _)
theorem Loc.whole : Loc whole := Loc.next (Loc.parts _ _) fun _ => Loc.next Loc.align fun _ => Loc.ret _
theorem whole_rest {bs r : List Bool} {o : List Nat} (h : whole bs = some (o, r)) : r.length % 8 = 0 := by
  obtain ⟨x, r1, h1, h2⟩ := next_inv h
  obtain ⟨y, r2, h3, h4⟩ := next_inv h2
  unfold ret at h4
  cases h4
  unfold align at h3
  split at h3
  · simp only [Option.some.injEq, Prod.mk.injEq] at h3
    rw [← h3.2, List.length_drop]; omega
  · cases h3
theorem unpack_take (t : List Nat) (n : Nat) : unpack t = unpack (t.take n) ++ unpack (t.drop n) := by
  rw [← unpack_append, List.take_append_drop]
theorem flate_inv {t o : List Nat} {n : Nat} (h : flate t = some (o, n)) : t.length ≤ 700 ∧ n ≤ t.length ∧ whole (unpack t) = some (o, unpack (t.drop n)) := by
  unfold flate at h
  by_cases h7 : 700 < t.length
  · rw [if_pos h7] at h; cases h
  rw [if_neg h7] at h
  cases hw : whole (unpack t) with
  | none => rw [hw] at h; cases h
  | some p =>
    obtain ⟨o', r⟩ := p
    rw [hw] at h
    simp only [Option.some.injEq, Prod.mk.injEq] at h
    obtain ⟨rfl, rfl⟩ := h
    obtain ⟨s, hs⟩ := Loc.whole.suf _ _ _ hw
    have hr := whole_rest hw
    have hl := congrArg List.length hs
    rw [unpack_length, List.length_append] at hl
    refine ⟨by omega, Nat.sub_le _ _, ?_⟩
    congr 2
    have e := unpack_take t (t.length - r.length / 8)
    rw [hs] at e
    have e2 : (unpack (t.take (t.length - r.length / 8))).length = s.length := by rw [unpack_length, List.length_take]; omega
    exact (List.append_inj e e2.symm).2
end Go.Proofs.YtnadjlejlohgiaaGreatDoor.De

/- What packs a text in three ways, as plain functions, and that what is packed is unpacked. Nothing of the program stands here. -/
namespace Go.Proofs.YtnadjlejlohgiaaGreatDoor.En
open Go.Proofs.YtnadjlejlohgiaaGreatDoor.Bt Go.Proofs.YtnadjlejlohgiaaGreatDoor.Cd Go.Proofs.YtnadjlejlohgiaaGreatDoor.Hf Go.Proofs.YtnadjlejlohgiaaGreatDoor.Lz Go.Proofs.YtnadjlejlohgiaaGreatDoor.De
set_option linter.unusedVariables false
/-- The last place whose number is not above n. -/
def lad (b : List Nat) (n : Nat) : Nat := (b.filter fun x => decide (x ≤ n)).length - 1
set_option maxRecDepth 100000 in
theorem lad_long : ∀ n, n < 61 → 3 ≤ n → lad longBase n < 28 ∧ longBase.getD (lad longBase n) 0 ≤ n ∧ n - longBase.getD (lad longBase n) 0 < 2 ^ longBits.getD (lad longBase n) 0 ∧ longBits.getD (lad longBase n) 0 ≤ 3 := by decide +kernel
set_option maxRecDepth 100000 in
theorem lad_back : ∀ n, n < 251 → 1 ≤ n → lad backBase n < 30 ∧ backBase.getD (lad backBase n) 0 ≤ n ∧ n - backBase.getD (lad backBase n) 0 < 2 ^ backBits.getD (lad backBase n) 0 ∧ backBits.getD (lad backBase n) 0 ≤ 6 := by decide +kernel
def encTok (lit dist : List Nat) (t : Tok) : List Bool :=
  if t.long = 0 then enc lit t.byte.toNat else
    enc lit (257 + lad longBase t.long.toNat) ++ (bitsOf (t.long.toNat - longBase.getD (lad longBase t.long.toNat) 0) (longBits.getD (lad longBase t.long.toNat) 0) ++
      (enc dist (lad backBase t.back.toNat) ++ bitsOf (t.back.toNat - backBase.getD (lad backBase t.back.toNat) 0) (backBits.getD (lad backBase t.back.toNat) 0)))
def encToks (lit dist : List Nat) (l : List Tok) : List Bool := l.flatMap (encTok lit dist) ++ enc lit 256
def storeBits (n : Nat) : List Bool := pad (bitsOf 1 3) ++ bitsOf n 16 ++ bitsOf (65535 - n) 16
def store (t : List Nat) : List Nat := pack (storeBits t.length) ++ t
def fixBits (t : List Nat) : List Bool := bitsOf 1 1 ++ bitsOf 1 2 ++ encToks fixLit fixDist (tokens t)
def fixed (t : List Nat) : List Nat := pack (fixBits t)
def symsL (l : List Tok) : List Nat := l.map fun t => if t.long = 0 then t.byte.toNat else 257 + lad longBase t.long.toNat
def symsB (l : List Tok) : List Nat := (l.filter fun t => decide (t.long ≠ 0)).map fun t => lad backBase t.back.toNat
def cntL (l : List Tok) : List Nat := bump ((List.replicate 286 0).set 256 1) (symsL l)
def cntB (l : List Tok) : List Nat := if symsB l = [] then (List.replicate 30 0).set 0 1 else bump (List.replicate 30 0) (symsB l)
def trimTo (lens : List Nat) (least : Nat) : Nat → Nat
  | 0 => 0
  | n + 1 => if least < n + 1 ∧ lens.getD n 0 = 0 then trimTo lens least n else n + 1
def trim (lens : List Nat) (least : Nat) : List Nat := lens.take (trimTo lens least lens.length)
def ownLit (l : List Tok) : List Nat := trim (fit 15 (cntL l)) 257
def ownDist (l : List Tok) : List Nat := trim (fit 15 (cntB l)) 1
def ownMeta (all : List Nat) : List Nat := fit 7 (bump (List.replicate 19 0) all)
def headBits (lit dist : List Nat) : List Bool :=
  bitsOf (lit.length - 257) 5 ++ bitsOf (dist.length - 1) 5 ++ bitsOf 15 4 ++ (order.flatMap fun k => bitsOf ((ownMeta (lit ++ dist)).getD k 0) 3) ++ (lit ++ dist).flatMap (enc (ownMeta (lit ++ dist)))
def ownBits (t : List Nat) : List Bool := bitsOf 1 1 ++ bitsOf 2 2 ++ headBits (ownLit (tokens t)) (ownDist (tokens t)) ++ encToks (ownLit (tokens t)) (ownDist (tokens t)) (tokens t)
def ownPut (t : List Nat) : List Nat := pack (ownBits t)
/-- The shortest, the first of as short ones. -/
def flatePut (t : List Nat) : List Nat :=
  let a := if (fixed t).length < (store t).length then fixed t else store t
  if (ownPut t).length < a.length then ownPut t else a
theorem num_bits (n x : Nat) (r : List Bool) : num n (bitsOf x n ++ r) = some (x % 2 ^ n, r) := by
  unfold num
  rw [if_pos (by rw [List.length_append, bits_length]; omega)]
  have e1 : (bitsOf x n ++ r).take n = bitsOf x n := by rw [List.take_append, bits_length, Nat.sub_self, List.take_zero, List.append_nil, List.take_of_length_le (by rw [bits_length]; exact Nat.le_refl _)]
  have e2 : (bitsOf x n ++ r).drop n = r := by rw [List.drop_append, bits_length, Nat.sub_self, List.drop_zero, List.drop_of_length_le (by rw [bits_length]; exact Nat.le_refl _), List.nil_append]
  rw [e1, e2, val_bits]
theorem num_small {n x : Nat} (h : x < 2 ^ n) (r : List Bool) : num n (bitsOf x n ++ r) = some (x, r) := by
  rw [num_bits, Nat.mod_eq_of_lt h]
/-- Two codes that hold all symbols of some tokens. -/
structure Has (lit dist : List Nat) (l : List Tok) : Prop where
  fl : Fits lit
  fd : Fits dist
  l15 : ∀ x ∈ lit, x ≤ 15
  d15 : ∀ x ∈ dist, x ≤ 15
  last : 1 ≤ lit.getD 256 0
  byte : ∀ t ∈ l, t.long = 0 → 1 ≤ lit.getD t.byte.toNat 0
  long : ∀ t ∈ l, t.long ≠ 0 → 1 ≤ lit.getD (257 + lad longBase t.long.toNat) 0
  back : ∀ t ∈ l, t.long ≠ 0 → 1 ≤ dist.getD (lad backBase t.back.toNat) 0
theorem lt_of_getD {l : List Nat} {k : Nat} (h : 1 ≤ l.getD k 0) : k < l.length := by
  rcases Nat.lt_or_ge k l.length with h' | h'
  · exact h'
  · rw [getD_over h'] at h; omega
theorem sym_enc' {lens : List Nat} (hf : Fits lens) (h15 : ∀ x ∈ lens, x ≤ 15) {k : Nat} (h : 1 ≤ lens.getD k 0) (rest : List Bool) : sym lens (enc lens k ++ rest) = some (k, rest) :=
  sym_enc hf (lt_of_getD h) h (getD_le h15 k) rest
theorem add_long {out o : List Nat} {t : Tok} (h : add out t = some o) (hl : t.long ≠ 0) : t.byte = 0 ∧ 3 ≤ t.long ∧ t.long ≤ 60 ∧ 1 ≤ t.back ∧ t.back ≤ 250 := by
  unfold add at h
  rw [if_neg hl] at h
  by_cases h1 : t.byte = 0 ∧ 3 ≤ t.long ∧ t.long ≤ 60 ∧ 1 ≤ t.back ∧ t.back ≤ 250 ∧ t.back ≤ (out.length : Int)
  · exact ⟨h1.1, h1.2.1, h1.2.2.1, h1.2.2.2.1, h1.2.2.2.2.1⟩
  · rw [if_neg h1] at h; cases h
theorem add_byte {out o : List Nat} {t : Tok} (h : add out t = some o) (hl : t.long = 0) : t.back = 0 ∧ 0 ≤ t.byte ∧ t.byte ≤ 255 ∧ o = out ++ [t.byte.toNat] := by
  unfold add at h
  rw [if_pos hl] at h
  by_cases h1 : t.back = 0 ∧ 0 ≤ t.byte ∧ t.byte ≤ 255
  · rw [if_pos h1] at h; cases h; exact ⟨h1.1, h1.2.1, h1.2.2, rfl⟩
  · rw [if_neg h1] at h; cases h
theorem Has.tail {lit dist : List Nat} {t : Tok} {l : List Tok} (h : Has lit dist (t :: l)) : Has lit dist l :=
  ⟨h.fl, h.fd, h.l15, h.d15, h.last, fun x hx => h.byte x (by simp [hx]), fun x hx => h.long x (by simp [hx]), fun x hx => h.back x (by simp [hx])⟩
theorem packed_toks {lit dist : List Nat} (rest : List Bool) : ∀ (l : List Tok) (out o : List Nat) (f : Nat), Has lit dist l → text out l = some o → out.length ≤ 300 → 302 ≤ f + out.length →
    packed lit dist f out (l.flatMap (encTok lit dist) ++ (enc lit 256 ++ rest)) = some (o, rest)
  | [], out, o, f, H, ht, ho, hf => by
    obtain ⟨g, rfl⟩ : ∃ g, f = g + 1 := ⟨f - 1, by omega⟩
    cases ht
    rw [packed, List.flatMap_nil, List.nil_append, next_some (sym_enc' H.fl H.l15 H.last rest), if_pos rfl]; rfl
  | t :: l, out, o, f, H, ht, ho, hf => by
    obtain ⟨g, rfl⟩ : ∃ g, f = g + 1 := ⟨f - 1, by omega⟩
    simp only [text] at ht
    cases ha : add out t with
    | none => rw [ha] at ht; cases ht
    | some o1 =>
      rw [ha] at ht
      simp only at ht
      by_cases h300 : o1.length > 300
      · rw [if_pos h300] at ht; cases ht
      rw [if_neg h300] at ht
      obtain ⟨e, hne, he⟩ := add_prefix ha
      have hlen : out.length < o1.length := by rw [he, List.length_append]; have := List.length_pos_iff.2 hne; omega
      have ih := packed_toks rest l o1 o g H.tail ht (by omega) (by omega)
      rw [packed, List.flatMap_cons, List.append_assoc]
      by_cases hl : t.long = 0
      · obtain ⟨_, b0, b1, rfl⟩ := add_byte ha hl
        have := H.byte t (by simp) hl
        rw [encTok, if_pos hl, next_some (sym_enc' H.fl H.l15 this _), if_neg (by omega), if_pos (by omega), if_pos (by rw [List.length_append, List.length_singleton] at hlen h300; omega)]
        exact ih
      · obtain ⟨hb, l3, l60, k1, k250⟩ := add_long ha hl
        have s1 := H.long t (by simp) hl
        have s2 := H.back t (by simp) hl
        obtain ⟨a1, a2, a3, a4⟩ := lad_long t.long.toNat (by omega) (by omega)
        obtain ⟨c1, c2, c3, c4⟩ := lad_back t.back.toNat (by omega) (by omega)
        have et : (⟨0, ((longBase.getD (lad longBase t.long.toNat) 0 + (t.long.toNat - longBase.getD (lad longBase t.long.toNat) 0) : Nat) : Int), ((backBase.getD (lad backBase t.back.toNat) 0 + (t.back.toNat - backBase.getD (lad backBase t.back.toNat) 0) : Nat) : Int)⟩ : Tok) = t := by
          cases t; simp only at *; simp only [Tok.mk.injEq]; omega
        rw [encTok, if_neg hl, List.append_assoc, next_some (sym_enc' H.fl H.l15 s1 _), if_neg (by omega), if_neg (by omega)]
        rw [next_some (x := o1) (r := l.flatMap (encTok lit dist) ++ (enc lit 256 ++ rest)) ?_]
        · exact ih
        · rw [show 257 + lad longBase t.long.toNat - 257 = lad longBase t.long.toNat from by omega, again, if_neg (by omega), List.append_assoc, next_some (num_small a3 _), List.append_assoc, next_some (sym_enc' H.fd H.d15 s2 _), if_neg (by omega), next_some (num_small c3 _)]
          unfold put
          rw [et, ha]
          simp only
          rw [if_pos (by omega)]; rfl
theorem packed_encToks {lit dist : List Nat} {l : List Tok} {o : List Nat} (H : Has lit dist l) (ht : text [] l = some o) (rest : List Bool) : packed lit dist 302 [] (encToks lit dist l ++ rest) = some (o, rest) := by
  unfold encToks
  rw [List.append_assoc]
  exact packed_toks rest l [] o 302 H ht (by simp) (by simp)
theorem fixLit_ok : okLens fixLit = true := by decide +kernel
theorem fixDist_ok : okLens fixDist = true := by decide +kernel
theorem fixLit_pos : ∀ k, k < 288 → 1 ≤ fixLit.getD k 0 ∧ fixLit.getD k 0 ≤ 9 := by decide +kernel
theorem fixDist_pos : ∀ k, k < 32 → fixDist.getD k 0 = 5 := by decide +kernel
theorem text_adds : ∀ (l : List Tok) (out o : List Nat), text out l = some o → ∀ t ∈ l, ∃ o1 o2, add o1 t = some o2
  | [], _, _, _, t, h => by cases h
  | x :: l, out, o, ht, t, h => by
    simp only [text] at ht
    cases ha : add out x with
    | none => rw [ha] at ht; cases ht
    | some o1 =>
      rw [ha] at ht
      simp only at ht
      split at ht
      · cases ht
      · rcases List.mem_cons.1 h with rfl | h
        · exact ⟨_, _, ha⟩
        · exact text_adds l o1 o ht t h
theorem fixed_has {l : List Tok} {out o : List Nat} (ht : text out l = some o) : Has fixLit fixDist l := by
  refine ⟨ok_fits fixLit_ok, ok_fits fixDist_ok, ok_le fixLit_ok, ok_le fixDist_ok, (fixLit_pos 256 (by omega)).1, fun t h h0 => ?_, fun t h h0 => ?_, fun t h h0 => ?_⟩
  · obtain ⟨o1, o2, ha⟩ := text_adds l out o ht t h
    have := add_byte ha h0
    exact (fixLit_pos _ (by omega)).1
  · obtain ⟨o1, o2, ha⟩ := text_adds l out o ht t h
    have := add_long ha h0
    have := lad_long t.long.toNat (by omega) (by omega)
    exact (fixLit_pos _ (by omega)).1
  · obtain ⟨o1, o2, ha⟩ := text_adds l out o ht t h
    have := add_long ha h0
    have := lad_back t.back.toNat (by omega) (by omega)
    rw [fixDist_pos _ (by omega)]; omega
theorem align_zeros {z : Nat} (h : z < 8) : align (List.replicate z false) = some ((), []) := by
  unfold align
  rw [List.length_replicate, Nat.mod_eq_of_lt h, if_pos]
  · simp
  · simp
/-- A last part, and noughts behind it up to the next whole byte. -/
theorem whole_last {b : List Bool} {o : List Nat} {k z : Nat} (hk : k < 4) (hz : z < 8) (hb : body k [] (b ++ List.replicate z false) = some (o, List.replicate z false)) :
    whole (bitsOf 1 1 ++ (bitsOf k 2 ++ (b ++ List.replicate z false))) = some (o, []) := by
  have hp : part [] (bitsOf 1 1 ++ (bitsOf k 2 ++ (b ++ List.replicate z false))) = some ((o, 1), List.replicate z false) := by
    unfold De.part
    rw [next_some (num_small (by decide) _), next_some (num_small (by omega) _), next_some hb]; rfl
  unfold whole
  rw [next_some (x := o) (r := List.replicate z false)]
  · rw [next_some (align_zeros hz)]; rfl
  · rw [parts, next_some hp, if_pos rfl]; rfl
theorem flate_of {t o : List Nat} (h : whole (unpack t) = some (o, [])) (h7 : t.length ≤ 700) : flate t = some (o, t.length) := by
  unfold flate
  rw [if_neg (by omega), h]
  simp
theorem flate_pack {b : List Bool} {o : List Nat} {k : Nat} (hk : k < 4) (hb : ∀ r, body k [] (b ++ r) = some (o, r)) (h7 : (pack (bitsOf 1 1 ++ (bitsOf k 2 ++ b))).length ≤ 700) :
    flate (pack (bitsOf 1 1 ++ (bitsOf k 2 ++ b))) = some (o, (pack (bitsOf 1 1 ++ (bitsOf k 2 ++ b))).length) := by
  refine flate_of ?_ h7
  rw [unpack_pack']
  unfold pad
  rw [List.append_assoc, List.append_assoc]
  exact whole_last hk (by omega) (hb _)
theorem fixed_flate {t : List Nat} (hb : ∀ x ∈ t, x < 256) (h300 : t.length ≤ 300) (h7 : (fixed t).length ≤ 700) : flate (fixed t) = some (t, (fixed t).length) := by
  have ht := text_tokens hb h300
  unfold fixed fixBits at h7 ⊢
  rw [List.append_assoc] at h7 ⊢
  refine flate_pack (by omega) (fun r => ?_) h7
  unfold body
  rw [if_neg (by omega), if_pos rfl]
  exact packed_encToks (fixed_has ht) ht r
theorem encTok_length {out o : List Nat} {t : Tok} (ha : add out t = some o) : (encTok fixLit fixDist t).length + 9 * out.length ≤ 9 * o.length ∧ (encTok fixLit fixDist t).length ≤ 23 := by
  unfold encTok
  by_cases hl : t.long = 0
  · obtain ⟨_, b0, b1, rfl⟩ := add_byte ha hl
    have := (fixLit_pos t.byte.toNat (by omega)).2
    rw [if_pos hl, List.length_append, List.length_singleton]
    unfold enc
    rw [List.length_reverse, bits_length]; omega
  · obtain ⟨hb, l3, l60, k1, k250⟩ := add_long ha hl
    obtain ⟨a1, a2, a3, a4⟩ := lad_long t.long.toNat (by omega) (by omega)
    obtain ⟨c1, c2, c3, c4⟩ := lad_back t.back.toNat (by omega) (by omega)
    have f1 := (fixLit_pos (257 + lad longBase t.long.toNat) (by omega)).2
    have f2 := fixDist_pos (lad backBase t.back.toNat) (by omega)
    have hlen : o.length = out.length + t.long.toNat := by
      unfold add at ha
      rw [if_neg hl] at ha
      split at ha
      · cases ha; rw [copy_length]
      · cases ha
    rw [if_neg hl]
    simp only [List.length_append, enc, List.length_reverse, bits_length]
    omega
theorem toks_bits : ∀ (l : List Tok) (out o : List Nat), text out l = some o → (l.flatMap (encTok fixLit fixDist)).length + 9 * out.length ≤ 9 * o.length ∧ (l.flatMap (encTok fixLit fixDist)).length ≤ 23 * l.length
  | [], out, o, h => by cases h; simp
  | t :: l, out, o, h => by
    simp only [text] at h
    cases ha : add out t with
    | none => rw [ha] at h; cases h
    | some o1 =>
      rw [ha] at h
      simp only at h
      split at h
      · cases h
      · have ih := toks_bits l o1 o h
        have e := encTok_length ha
        rw [List.flatMap_cons, List.length_append, List.length_cons]
        omega
theorem enc256 : (enc fixLit 256).length = 7 := by
  have : fixLit.getD 256 0 = 7 := by decide +kernel
  unfold enc; rw [List.length_reverse, bits_length, this]
theorem fixBits_length {t : List Nat} (hb : ∀ x ∈ t, x < 256) (h300 : t.length ≤ 300) : 10 ≤ (fixBits t).length ∧ (fixBits t).length ≤ 10 + 9 * t.length ∧ (fixBits t).length ≤ 10 + 23 * (tokens t).length := by
  have := toks_bits _ _ _ (text_tokens hb h300)
  have e := enc256
  unfold fixBits encToks
  simp only [List.length_append, bits_length, List.length_nil] at this ⊢
  omega
theorem storeBits_length (n : Nat) : (storeBits n).length = 40 := by
  unfold storeBits
  rw [List.length_append, List.length_append, pad_length, bits_length, bits_length, bits_length]
theorem store_length (t : List Nat) : (store t).length = t.length + 5 := by
  unfold store
  rw [List.length_append, pack_length, storeBits_length]; omega
theorem pad3 (x : Nat) (r : List Bool) : pad (bitsOf x 3) ++ r = bitsOf x 3 ++ (List.replicate 5 false ++ r) := by
  unfold pad; rw [bits_length, List.append_assoc]
theorem align5 {r : List Bool} (h : r.length % 8 = 0) : align (List.replicate 5 false ++ r) = some ((), r) := by
  have hl : (List.replicate 5 false ++ r).length % 8 = 5 := by rw [List.length_append, List.length_replicate]; omega
  unfold align
  rw [hl]
  have e1 : (List.replicate 5 false ++ r).take 5 = List.replicate 5 false := by rw [List.take_append]; simp
  have e2 : (List.replicate 5 false ++ r).drop 5 = r := by rw [List.drop_append]; simp
  rw [e1, e2]; simp
/-- A text that is stored, ahead of more. -/
theorem stored_is {t out : List Nat} {r : List Bool} (hb : ∀ x ∈ t, x < 256) (h : out.length + t.length ≤ 300) (hr : r.length % 8 = 0) :
    stored out (List.replicate 5 false ++ (bitsOf t.length 16 ++ (bitsOf (65535 - t.length) 16 ++ (unpack t ++ r)))) = some (out ++ t, r) := by
  unfold stored
  rw [next_some (align5 (by simp only [List.length_append, bits_length, unpack_length]; omega)), next_some (num_small (by omega) _), next_some (num_small (by omega) _), if_pos ⟨by omega, h⟩]
  have hbytes : bytes t.length (unpack t ++ r) = some (t, r) := by
    unfold bytes
    have hl : (unpack t).length = 8 * t.length := unpack_length t
    rw [if_pos (by rw [List.length_append]; omega), packN_take _ _ _ (by omega), packN_unpack t hb, List.drop_append, hl, Nat.sub_self, List.drop_zero, List.drop_of_length_le (by omega), List.nil_append]
  rw [next_some hbytes]; rfl
theorem bits13 : bitsOf 1 3 = bitsOf 1 1 ++ bitsOf 0 2 := by decide
theorem unpack_store {t : List Nat} : unpack (store t) = bitsOf 1 1 ++ (bitsOf 0 2 ++ (List.replicate 5 false ++ (bitsOf t.length 16 ++ (bitsOf (65535 - t.length) 16 ++ (unpack t ++ []))))) := by
  unfold store
  rw [unpack_append, unpack_pack', pad_of _ (by rw [storeBits_length]), storeBits, List.append_assoc, pad3, bits13]
  simp only [List.append_assoc, List.append_nil]
theorem store_flate {t : List Nat} (hb : ∀ x ∈ t, x < 256) (h300 : t.length ≤ 300) : flate (store t) = some (t, (store t).length) := by
  refine flate_of ?_ (by rw [store_length]; omega)
  rw [unpack_store]
  have := whole_last (k := 0) (z := 0) (b := List.replicate 5 false ++ (bitsOf t.length 16 ++ (bitsOf (65535 - t.length) 16 ++ (unpack t ++ [])))) (o := t) (by omega) (by omega) (by
    unfold body
    rw [if_pos rfl]
    simp only [List.replicate_zero, List.append_nil]
    have := stored_is (t := t) (out := []) (r := []) hb (by simpa using h300) rfl
    simpa using this)
  simpa using this
end Go.Proofs.YtnadjlejlohgiaaGreatDoor.En

