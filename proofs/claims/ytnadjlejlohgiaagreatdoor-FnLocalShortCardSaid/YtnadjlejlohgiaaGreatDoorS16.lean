/- Own texts joined: De. -/
import Derived.Test.YtnadjlejlohgiaaGreatDoorS8
import Derived.Test.YtnadjlejlohgiaaGreatDoorS15
/- What unpacks a text, as a plain function on bits: numbers, parts of three kinds; and that it looks at no more than it takes. Nothing of the program stands here. -/
namespace Go.Proofs.YtnadjlejlohgiaaGreatDoor.De
open Go.Proofs.YtnadjlejlohgiaaGreatDoor.Bt Go.Proofs.YtnadjlejlohgiaaGreatDoor.Cd Go.Proofs.YtnadjlejlohgiaaGreatDoor.Hf Go.Proofs.YtnadjlejlohgiaaGreatDoor.Lz
set_option linter.unusedVariables false
abbrev Dec (α : Type) := List Bool → Option (α × List Bool)
def ret {α : Type} (x : α) : Dec α := fun bs => some (x, bs)
def bad {α : Type} : Dec α := fun _ => none
def next {α β : Type} (d : Dec α) (k : α → Dec β) : Dec β := fun bs => match d bs with
  | none => none
  | some (x, r) => k x r
/-- It takes what stands ahead and looks at nothing behind. -/
structure Loc {α : Type} (d : Dec α) : Prop where
  suf : ∀ bs x r, d bs = some (x, r) → ∃ s, bs = s ++ r
  ext : ∀ e bs x r, e.length % 8 = 0 → d bs = some (x, r) → d (bs ++ e) = some (x, r ++ e)
  cut : ∀ e bs x r, e.length % 8 = 0 → d (bs ++ e) = some (x, r ++ e) → d bs = some (x, r)
section
variable {α β : Type}
theorem next_some {d : Dec α} {k : α → Dec β} {bs r : List Bool} {x : α} (h : d bs = some (x, r)) : next d k bs = k x r := by
  unfold next; rw [h]
theorem next_none {d : Dec α} {k : α → Dec β} {bs : List Bool} (h : d bs = none) : next d k bs = none := by
  unfold next; rw [h]
theorem next_inv {d : Dec α} {k : α → Dec β} {bs r : List Bool} {y : β} (h : next d k bs = some (y, r)) : ∃ x r1, d bs = some (x, r1) ∧ k x r1 = some (y, r) := by
  unfold next at h
  cases hd : d bs with
  | none => rw [hd] at h; cases h
  | some p => rw [hd] at h; exact ⟨p.1, p.2, rfl, h⟩
theorem Loc.ret (x : α) : Loc (ret x) where
  suf bs y r h := by cases h; exact ⟨[], rfl⟩
  ext e bs y r _ h := by cases h; rfl
  cut e bs y r _ h := by
    unfold De.ret at h ⊢
    simp only [Option.some.injEq, Prod.mk.injEq] at h
    obtain ⟨rfl, h⟩ := h
    rw [List.append_cancel_right h]
theorem Loc.bad : Loc (bad : Dec α) where
  suf bs y r h := by cases h
  ext e bs y r _ h := by cases h
  cut e bs y r _ h := by cases h
theorem Loc.next {d : Dec α} {k : α → Dec β} (hd : Loc d) (hk : ∀ x, Loc (k x)) : Loc (next d k) where
  suf bs y r h := by
    obtain ⟨x, r1, h1, h2⟩ := next_inv h
    obtain ⟨s1, rfl⟩ := hd.suf _ _ _ h1
    obtain ⟨s2, rfl⟩ := (hk x).suf _ _ _ h2
    exact ⟨s1 ++ s2, by rw [List.append_assoc]⟩
  ext e bs y r he h := by
    obtain ⟨x, r1, h1, h2⟩ := next_inv h
    rw [next_some (hd.ext e _ _ _ he h1)]
    exact (hk x).ext e _ _ _ he h2
  cut e bs y r he h := by
    obtain ⟨x, r1, h1, h2⟩ := next_inv h
    obtain ⟨s2, rfl⟩ := (hk x).suf _ _ _ h2
    rw [← List.append_assoc] at h1 h2
    rw [next_some (hd.cut e _ _ _ he h1)]
    exact (hk x).cut e _ _ _ he h2
theorem Loc.ite {c : Prop} [Decidable c] {d e : Dec α} (hd : Loc d) (he : Loc e) : Loc (if c then d else e) := by
  split
  · exact hd
  · exact he
end
def num (n : Nat) : Dec Nat := fun bs => if n ≤ bs.length then some (val (bs.take n), bs.drop n) else none
def align : Dec Unit := fun bs => if (bs.take (bs.length % 8)).all (!·) then some ((), bs.drop (bs.length % 8)) else none
def bytes (n : Nat) : Dec (List Nat) := fun bs => if 8 * n ≤ bs.length then some (packN n bs, bs.drop (8 * n)) else none
theorem packN_take : ∀ (n : Nat) (a b : List Bool), 8 * n ≤ a.length → packN n (a ++ b) = packN n a
  | 0, _, _, _ => rfl
  | n + 1, a, b, h => by
    have e1 : (a ++ b).take 8 = a.take 8 := by rw [List.take_append, show 8 - a.length = 0 from by omega, List.take_zero, List.append_nil]
    have e2 : (a ++ b).drop 8 = a.drop 8 ++ b := by rw [List.drop_append, show 8 - a.length = 0 from by omega, List.drop_zero]
    rw [packN, packN, e1, e2, packN_take n _ b (by rw [List.length_drop]; omega)]
theorem Loc.take {α : Type} (m : Nat) (f : List Bool → α) (hf : ∀ a b : List Bool, m ≤ a.length → f (a ++ b) = f a) : Loc (fun bs => if m ≤ bs.length then some (f bs, bs.drop m) else none) where
  suf bs y r h := by
    by_cases hn : m ≤ bs.length
    · rw [if_pos hn] at h; cases h; exact ⟨bs.take m, (List.take_append_drop m bs).symm⟩
    · rw [if_neg hn] at h; cases h
  ext e bs y r _ h := by
    by_cases hn : m ≤ bs.length
    · rw [if_pos hn] at h; cases h
      rw [if_pos (by rw [List.length_append]; omega), hf _ _ hn, List.drop_append, show m - bs.length = 0 from by omega, List.drop_zero]
    · rw [if_neg hn] at h; cases h
  cut e bs y r _ h := by
    by_cases hn : m ≤ (bs ++ e).length
    · rw [if_pos hn] at h
      simp only [Option.some.injEq, Prod.mk.injEq] at h
      obtain ⟨h1, h2⟩ := h
      have hl := congrArg List.length h2
      rw [List.length_drop, List.length_append, List.length_append] at hl
      rw [List.length_append] at hn
      have hn' : m ≤ bs.length := by omega
      rw [if_pos hn', ← h1, hf _ _ hn']
      rw [List.drop_append, show m - bs.length = 0 from by omega, List.drop_zero] at h2
      rw [List.append_cancel_right h2]
    · rw [if_neg hn] at h; cases h
theorem Loc.num (n : Nat) : Loc (num n) := Loc.take n (fun bs => val (bs.take n)) (fun a b h => by rw [List.take_append, show n - a.length = 0 from by omega, List.take_zero, List.append_nil])
theorem Loc.bytes (n : Nat) : Loc (bytes n) := Loc.take (8 * n) (packN n) (packN_take n)
theorem Loc.align : Loc align where
  suf bs y r h := by
    unfold De.align at h
    split at h
    · cases h; exact ⟨_, (List.take_append_drop _ bs).symm⟩
    · cases h
  ext e bs y r he h := by
    unfold De.align at h ⊢
    have e1 : (bs ++ e).length % 8 = bs.length % 8 := by rw [List.length_append]; omega
    have h2 : bs.length % 8 - bs.length = 0 := by omega
    rw [e1, List.take_append, h2, List.take_zero, List.append_nil, List.drop_append, h2, List.drop_zero]
    split at h
    · cases h; rename_i hc; rw [if_pos hc]
    · cases h
  cut e bs y r he h := by
    unfold De.align at h ⊢
    have e1 : (bs ++ e).length % 8 = bs.length % 8 := by rw [List.length_append]; omega
    have h2 : bs.length % 8 - bs.length = 0 := by omega
    rw [e1, List.take_append, h2, List.take_zero, List.append_nil, List.drop_append, h2, List.drop_zero] at h
    split at h
    · rename_i hc
      simp only [Option.some.injEq, Prod.mk.injEq] at h
      rw [if_pos hc, List.append_cancel_right h.2]
    · cases h
theorem Loc.sym (lens : List Nat) : Loc (sym lens) where
  suf bs x r h := by obtain ⟨_, s, hs, _⟩ := symGo_lt _ _ _ _ _ _ h; exact ⟨s, hs⟩
  ext e bs x r _ h := symGo_ext e _ _ _ _ _ _ h
  cut e bs x r _ h := symGo_cut e _ _ _ _ _ _ h
/-- How many bits more each symbol of a length, of a distance has. -/
def longBits : List Nat := [0, 0, 0, 0, 0, 0, 0, 0, 1, 1, 1, 1, 2, 2, 2, 2, 3, 3, 3, 3, 4, 4, 4, 4, 5, 5, 5, 5]
def backBits : List Nat := [0, 0, 0, 0, 1, 1, 2, 2, 3, 3, 4, 4, 5, 5, 6, 6, 7, 7, 8, 8, 9, 9, 10, 10, 11, 11, 12, 12, 13, 13]
def base : Nat → List Nat → List Nat
  | _, [] => []
  | n, x :: t => n :: base (n + 2 ^ x) t
def longBase : List Nat := base 3 longBits
def backBase : List Nat := base 1 backBits
def fixLit : List Nat := List.replicate 144 8 ++ List.replicate 112 9 ++ List.replicate 24 7 ++ List.replicate 8 8
def fixDist : List Nat := List.replicate 32 5
def order : List Nat := [16, 17, 18, 0, 8, 7, 9, 6, 10, 5, 11, 4, 12, 3, 13, 2, 14, 1, 15]
def stored (out : List Nat) : Dec (List Nat) :=
  next align fun _ => next (num 16) fun n => next (num 16) fun m => if n + m = 65535 ∧ out.length + n ≤ 300 then next (bytes n) fun x => ret (out ++ x) else bad
def put (out : List Nat) (long back : Nat) : Dec (List Nat) := match add out ⟨0, long, back⟩ with
  | some o => if o.length ≤ 300 then ret o else bad
  | none => bad
def again (dist out : List Nat) (k : Nat) : Dec (List Nat) :=
  if 28 ≤ k then bad else next (num (longBits.getD k 0)) fun x => next (sym dist) fun j => if 30 ≤ j then bad else next (num (backBits.getD j 0)) fun y =>
    put out (longBase.getD k 0 + x) (backBase.getD j 0 + y)
def packed (lit dist : List Nat) : Nat → List Nat → Dec (List Nat)
  | 0, _ => bad
  | f + 1, out => next (sym lit) fun s => if s = 256 then ret out else if s < 256 then (if out.length < 300 then packed lit dist f (out ++ [s]) else bad) else next (again dist out (s - 257)) fun o => packed lit dist f o
def metas : Nat → Nat → List Nat → Dec (List Nat)
  | 0, _, m => ret m
  | n + 1, i, m => next (num 3) fun x => metas n (i + 1) (m.set (order.getD i 0) x)
def lenLoop (meta_ : List Nat) (want : Nat) : Nat → List Nat → Dec (List Nat)
  | 0, _ => bad
  | f + 1, all => if want ≤ all.length then (if all.length = want then ret all else bad) else
    next (sym meta_) fun s => if s < 16 then lenLoop meta_ want f (all ++ [s])
      else if s = 16 then next (num 2) fun x => (if all.length = 0 then bad else lenLoop meta_ want f (all ++ List.replicate (3 + x) (all.getD (all.length - 1) 0)))
      else if s = 17 then next (num 3) fun x => lenLoop meta_ want f (all ++ List.replicate (3 + x) 0)
      else next (num 7) fun x => lenLoop meta_ want f (all ++ List.replicate (11 + x) 0)
def own : Dec (List Nat × List Nat) :=
  next (num 5) fun a => next (num 5) fun b => next (num 4) fun c => next (metas (c + 4) 0 (List.replicate 19 0)) fun m =>
    if okLens m = true ∧ a + 257 ≤ 286 ∧ b + 1 ≤ 30 then next (lenLoop m (a + 257 + (b + 1)) 400 []) fun all =>
      (if okLens (all.take (a + 257)) = true ∧ okLens (all.drop (a + 257)) = true then ret (all.take (a + 257), all.drop (a + 257)) else bad) else bad
def body (t : Nat) (out : List Nat) : Dec (List Nat) :=
  if t = 0 then stored out else if t = 1 then packed fixLit fixDist 302 out else if t = 2 then next own fun p => packed p.1 p.2 302 out else bad
def part (out : List Nat) : Dec (List Nat × Nat) := next (num 1) fun last => next (num 2) fun t => next (body t out) fun o => ret (o, last)
def parts : Nat → List Nat → Dec (List Nat)
  | 0, _ => bad
  | f + 1, out => next (part out) fun p => if p.2 = 1 then ret p.1 else parts f p.1
def whole : Dec (List Nat) := next (parts 6000 []) fun o => next align fun _ => ret o
/-- A text unpacked, and how many bytes that took. -/
def flate (t : List Nat) : Option (List Nat × Nat) := if 700 < t.length then none else match whole (unpack t) with
  | none => none
  | some (o, r) => some (o, t.length - r.length / 8)
theorem Loc.stored (out : List Nat) : Loc (stored out) :=
  Loc.next Loc.align fun _ => Loc.next (Loc.num _) fun _ => Loc.next (Loc.num _) fun _ => Loc.ite (Loc.next (Loc.bytes _) fun _ => Loc.ret _) Loc.bad
theorem Loc.put (out : List Nat) (long back : Nat) : Loc (put out long back) := by
  unfold De.put
  split
  · exact Loc.ite (Loc.ret _) Loc.bad
  · exact Loc.bad
theorem Loc.again (dist out : List Nat) (k : Nat) : Loc (again dist out k) :=
  Loc.ite Loc.bad (Loc.next (Loc.num _) fun _ => Loc.next (Loc.sym _) fun _ => Loc.ite Loc.bad (Loc.next (Loc.num _) fun _ => Loc.put _ _ _))
theorem Loc.packed (lit dist : List Nat) : ∀ (f : Nat) (out : List Nat), Loc (packed lit dist f out)
  | 0, _ => Loc.bad
  | f + 1, out => Loc.next (Loc.sym _) fun _ => Loc.ite (Loc.ret _) (Loc.ite (Loc.ite (Loc.packed lit dist f _) Loc.bad) (Loc.next (Loc.again _ _ _) fun _ => Loc.packed lit dist f _))
theorem Loc.metas : ∀ (n i : Nat) (m : List Nat), Loc (metas n i m)
  | 0, _, _ => Loc.ret _
  | n + 1, i, m => Loc.next (Loc.num _) fun _ => Loc.metas n (i + 1) _
theorem Loc.lenLoop (m : List Nat) (want : Nat) : ∀ (f : Nat) (all : List Nat), Loc (lenLoop m want f all)
  | 0, _ => Loc.bad
  | f + 1, all => Loc.ite (Loc.ite (Loc.ret _) Loc.bad) (Loc.next (Loc.sym _) fun _ => Loc.ite (Loc.lenLoop m want f _) (Loc.ite (Loc.next (Loc.num _) fun _ => Loc.ite Loc.bad (Loc.lenLoop m want f _))
      (Loc.ite (Loc.next (Loc.num _) fun _ => Loc.lenLoop m want f _) (Loc.next (Loc.num _) fun _ => Loc.lenLoop m want f _))))
theorem Loc.own : Loc own :=
  Loc.next (Loc.num _) fun _ => Loc.next (Loc.num _) fun _ => Loc.next (Loc.num _) fun _ => Loc.next (Loc.metas _ _ _) fun _ => Loc.ite (Loc.next (Loc.lenLoop _ _ _ _) fun _ => Loc.ite (Loc.ret _) Loc.bad) Loc.bad
theorem Loc.body (t : Nat) (out : List Nat) : Loc (body t out) :=
  Loc.ite (Loc.stored _) (Loc.ite (Loc.packed _ _ _ _) (Loc.ite (Loc.next Loc.own fun _ => Loc.packed _ _ _ _) Loc.bad))
theorem Loc.part (out : List Nat) : Loc (part out) := Loc.next (Loc.num _) fun _ => Loc.next (Loc.num _) fun _ => Loc.next (Loc.body _ _) fun _ => Loc.ret _
theorem Loc.parts : ∀ (f : Nat) (out : List Nat), Loc (parts f out)
  | 0, _ => Loc.bad
  | f + 1, out => Loc.next (Loc.part _) fun _ => Loc.ite (Loc.ret _) (Loc.parts f _)
theorem Loc.whole : Loc whole := Loc.next (Loc.parts _ _) fun _ => Loc.next Loc.align fun _ => Loc.ret _
end Go.Proofs.YtnadjlejlohgiaaGreatDoor.De

