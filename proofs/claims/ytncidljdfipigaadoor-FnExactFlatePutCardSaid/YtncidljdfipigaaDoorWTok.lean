/- Tokens of a text, in both programs: the plain ones. Conditions: sizes. -/
import Derived.Test.YtncidljdfipigaaDoorNu
import Derived.Test.YtncidljdfipigaaDoorTx
import Derived.Test.YtncidljdfipigaaDoorLz
import Derived.WalkKit
import Derived.WalkSpells
import Derived.Deep.QuietTactic
import Derived.BigQuiet
namespace Go.Proofs.YtncidljdfipigaaDoor.Wi
open Go.RowKit Go.Proofs.YtncidljdfipigaaDoor.Mem Go.Proofs.YtncidljdfipigaaDoor.Lz
set_option linter.unusedVariables false
set_option linter.unusedSimpArgs false
def tokArr (t : Tok) : Array Value := #[.int .i64 t.byte, .int .i64 t.long, .int .i64 t.back]
def tokCells (l : List Tok) : List Value := l.flatMap fun t => (tokArr t).toList
theorem tokCells_snoc (l : List Tok) (t : Tok) : tokCells (l ++ [t]) = tokCells l ++ (tokArr t).toList := by simp [tokCells]
theorem tokCells_length (l : List Tok) : (tokCells l).length = l.length * 3 := by
  induction l with
  | nil => rfl
  | cons t l ih => unfold tokCells at ih ⊢; rw [List.flatMap_cons, List.length_append, ih, List.length_cons]; simp [tokArr]; omega
/-- What the program holds behind j distances. -/
def held (t : List Nat) (a j : Nat) : Tok := if 3 ≤ (best t a j).1 then ⟨0, ((best t a j).1 : Nat), ((best t a j).2 : Nat)⟩ else ⟨(t.getD a 0 : Nat), 0, 0⟩
theorem held_step (t : List Nat) (a j : Nat) : held t a (j + 1) = if 3 ≤ mlen t a (j + 1) ∧ (held t a j).long < (mlen t a (j + 1) : Nat) then ⟨0, ((mlen t a (j + 1) : Nat) : Int), ((j + 1 : Nat) : Int)⟩ else held t a j := by
  by_cases hn : mlen t a (j + 1) > (best t a j).1
  · have e : best t a (j + 1) = (mlen t a (j + 1), j + 1) := by simp only [best]; rw [if_pos hn]
    unfold held
    rw [e]
    dsimp only
    by_cases h3 : 3 ≤ (best t a j).1
    · rw [if_pos h3, if_pos (by omega)]
      dsimp only
      rw [if_pos (by omega)]
    · rw [if_neg h3]
      dsimp only
      by_cases h : 3 ≤ mlen t a (j + 1)
      · rw [if_pos h, if_pos (by omega)]
      · rw [if_neg h, if_neg (by omega)]
  · have e : best t a (j + 1) = best t a j := by simp only [best]; rw [if_neg hn]
    unfold held
    rw [e]
    by_cases h3 : 3 ≤ (best t a j).1
    · rw [if_pos h3]
      dsimp only
      rw [if_neg (by omega)]
    · rw [if_neg h3]
      dsimp only
      rw [if_neg (by omega)]
theorem held_long (t : List Nat) (a j : Nat) : ∃ L : Nat, (held t a j).long = (L : Int) ∧ L ≤ 60 := by
  have := best_le_60 t a j
  unfold held
  split
  · exact ⟨_, rfl, this⟩
  · exact ⟨0, rfl, by omega⟩
theorem held_form (t : List Nat) (a j : Nat) : ∃ (x : Int) (L : Nat) (z : Int), held t a j = ⟨x, L, z⟩ ∧ L ≤ 60 := by
  obtain ⟨L, h1, h2⟩ := held_long t a j
  exact ⟨(held t a j).byte, L, (held t a j).back, by rw [← h1], h2⟩
theorem toks_step (t : List Nat) (a : Nat) (ha : a < t.length) : toks t (t.length - a) a = held t a (min 250 a) :: toks t (t.length - (a + max ((held t a (min 250 a)).long).toNat 1)) (a + max ((held t a (min 250 a)).long).toNat 1) ∧ a + max ((held t a (min 250 a)).long).toNat 1 ≤ t.length := by
  obtain ⟨f, hf⟩ : ∃ f, t.length - a = f + 1 := ⟨t.length - a - 1, by omega⟩
  have hb := best_le t a (min 250 a)
  rw [hf]
  simp only [toks]
  rw [if_pos ha]
  unfold held
  by_cases h : (best t a (min 250 a)).1 < 3
  · rw [if_pos h, if_neg (by omega)]
    simp only
    rw [show (Int.toNat 0) = 0 from rfl, show max 0 1 = 1 from rfl, show t.length - (a + 1) = f from by omega]
    exact ⟨rfl, by omega⟩
  · rw [if_neg h, if_pos (by omega)]
    simp only [Int.toNat_natCast]
    rw [show max (best t a (min 250 a)).1 1 = (best t a (min 250 a)).1 from by omega]
    exact ⟨by rw [toks_more t f (t.length - (a + (best t a (min 250 a)).1)) _ (by omega) (by omega)], by omega⟩
theorem toks_end (t : List Nat) (a : Nat) (ha : t.length ≤ a) : toks t (t.length - a) a = [] := by
  rw [show t.length - a = 0 from by omega]; rfl
theorem run_step {t : List Nat} {a back n : Nat} (hn : n + run t (a + n) (a + n - back) (60 - n) = mlen t a back) (h1 : 1 ≤ back) (h2 : back ≤ a) (hc : n < 60 ∧ a + n < t.length ∧ t[a + n]? = t[a + n - back]?) :
    n + 1 + run t (a + (n + 1)) (a + (n + 1) - back) (60 - (n + 1)) = mlen t a back := by
  obtain ⟨f, hf⟩ : ∃ f, 60 - n = f + 1 := ⟨60 - n - 1, by omega⟩
  rw [hf] at hn
  simp only [run] at hn
  rw [if_pos hc.2] at hn
  rw [show 60 - (n + 1) = f from by omega, show a + (n + 1) = a + n + 1 from by omega, show a + n + 1 - back = a + n - back + 1 from by omega]
  omega
theorem run_stop {t : List Nat} {a back n : Nat} (hn : n + run t (a + n) (a + n - back) (60 - n) = mlen t a back) (hc : ¬ (n < 60 ∧ a + n < t.length ∧ t[a + n]? = t[a + n - back]?)) : n = mlen t a back := by
  by_cases h60 : n < 60
  · obtain ⟨f, hf⟩ : ∃ f, 60 - n = f + 1 := ⟨60 - n - 1, by omega⟩
    rw [hf] at hn
    simp only [run] at hn
    rw [if_neg (fun h => hc ⟨h60, h⟩)] at hn
    omega
  · rw [show 60 - n = 0 from by omega] at hn
    simp only [run] at hn
    omega
theorem tokinfo : (Tryd.prog.info? 67).map (fun i => (i.zero, i.size, i.bytes)) = some (some (.agg #[.int .i64 0, .int .i64 0, .int .i64 0]), 3, 24) := by kernel_rfl
/-- What a contract tells that makes tokens. -/
def GivesT (w : World) (l : List Tok) (e : Ending) (w' : World) : Prop := ∃ r cap, e = .returned (.slice (some ⟨r, 0, none⟩) l.length cap) ∧ Row w' r 67 (tokCells l) ∧ l.length ≤ cap ∧ cap ≤ maxLen ∧ w.heap.size ≤ r ∧ On w w'
def toksOf (s : ByteArray) : List Tok := if s.size ≤ 300 then tokens (chars s) else []
set_option maxRecDepth 100000 in
set_option maxHeartbeats 1000000 in
theorem itoks_calls (s : ByteArray) (w : World) : Calls Tryd.prog 59 #[.string s] w (GivesT w (toksOf s)) := by
  by_cases hs : s.size ≤ 300
  · have hs' : (s.size : Int) ≤ 300 := by omega
    have ht : toksOf s = tokens (chars s) := by unfold toksOf; rw [if_pos hs]
    have HT := Lib.hid ht
    have htl : (chars s).length = s.size := chars_length s
    have hat : ∀ i (h : i < s.size), (chars s)[i]? = some s[i].toNat := fun i h => by
      have := chars_at s h
      rw [List.getD_eq_getElem?_getD, List.getElem?_eq_getElem (by rw [htl]; exact h)] at this
      rw [List.getElem?_eq_getElem (by rw [htl]; exact h)]
      exact congrArg some this
    have h0 : tokens (chars s) = [] ++ toks (chars s) ((chars s).length - 0) 0 := rfl
    generalize chars s = t at *
    have HTL := Lib.hid htl
    have HAT := Lib.hid hat
    have H0 := Lib.hid h0
    clear ht htl hat h0
    go_enter Tryd.func59, Tryd.ntmps59
    go_wp2_with fail
    go_loopw [3, 4] (fun v x wr => ∃ (a : Nat) (done : List Tok), x = .int .i64 (a : Int) ∧ a ≤ s.size ∧ done.length ≤ a ∧ RowKit.Hid (tokens t = done ++ toks t (t.length - a) a) ∧ Own w.heap.size wr 67 3 v done.length (tokCells done) ∧ On w wr) (fun _ x _ => s.size - (intOf x).toNat)
    case atStart => exact ⟨0, [], rfl, by omega, by simp, H0, Own.new w 67 3 #[] 0 (Nat.zero_le _) rfl (Nat.le_refl _), (On.refl w).alloc _⟩
    case round =>
      obtain ⟨a, done, rfl, ha, hd, hT, hown, O⟩ := hrel
      by_cases hlt : a < s.size
      · obtain ⟨b, hbb⟩ : ∃ b, s[a] = b := ⟨_, rfl⟩
        have hbt : t.getD a 0 = b.toNat := by rw [List.getD_eq_getElem?_getD, HAT.out a hlt, hbb]; rfl
        have HBT := Lib.hid hbt
        obtain ⟨wo, hwo⟩ : ∃ wo : World, wo = wr := ⟨_, rfl⟩
        subst hwo
        have hb256 : (b.toNat : Int) < 256 := by have := b.toNat_lt; omega
        have hh0 : held t a 0 = ⟨(b.toNat : Int), 0, 0⟩ := by rw [← hbt]; rfl
        have HH0 := Lib.hid hh0
        clear hbt hh0
        go_wp2_with fail
        have BB := Blk.new wo 67 #[.int .i64 (b.toNat : Int), .int .i64 0, .int .i64 0]
        have OB := (On.refl wo).alloc (.cells #[.int .i64 (b.toNat : Int), .int .i64 0, .int .i64 0] 67)
        generalize hB : wo.heap.size = B at *
        generalize wo.alloc (.cells #[.int .i64 (b.toNat : Int), .int .i64 0, .int .i64 0] 67) = w1 at *
        have HB := Lib.hid hB
        clear hB
        have hmn : (if (a : Int) < 250 then (a : Int) else 250) = ((min 250 a : Nat) : Int) := by split <;> omega
        have hm1 : min 250 a ≤ 250 := by omega
        have hm2 : min 250 a ≤ a := by omega
        have hts := toks_step t a (by rw [HTL.out]; exact hlt)
        have HTS := Lib.hid hts
        clear hts
        generalize min 250 a = m at *
        go_loopw [6] (fun x wr => ∃ j : Nat, x = .int .i64 ((j : Int) + 1) ∧ j ≤ m ∧ Blk wr B 67 (tokArr (held t a j)) ∧ Kp [B] w1 wr) (fun x _ => 251 - (intOf x).toNat)
        case atStart => exact ⟨0, rfl, by omega, by rw [HH0.out]; exact BB, Kp.refl _ _⟩
        case round =>
          obtain ⟨j, rfl, hj, hblk, K⟩ := hrel
          have hst := held_step t a j
          by_cases hjl : j < m
          · have hj1 : (j : Int) + 1 ≤ m := by omega
            have hj2 : (j : Int) + 1 ≤ a := by omega
            obtain ⟨wp, hwp⟩ : ∃ wp : World, wp = wr := ⟨_, rfl⟩
            subst hwp
            obtain ⟨x0, L, z0, hd2, hL⟩ := held_form t a j
            rw [hd2] at hblk hst
            have HST := Lib.hid hst
            clear hst hd2
            go_wp2_with fail
            go_loopw [7] (fun x wr => ∃ n : Nat, x = .int .i64 (n : Int) ∧ n ≤ 60 ∧ RowKit.Hid (n + run t (a + n) (a + n - (j + 1)) (60 - n) = mlen t a (j + 1)) ∧ On wp wr) (fun x _ => 60 - (intOf x).toNat)
            case atStart => exact ⟨0, rfl, by omega, Lib.hid (by simp [mlen]), On.refl _⟩
            case round =>
              obtain ⟨n, rfl, hn, hrun, O3⟩ := hrel
              have q1 : IntKind.i64.wrap ((a : Int) + (n : Int)) = ((a + n : Nat) : Int) := by rw [IntKind.wrap_i64]; omega
              have q2 : IntKind.i64.wrap (((a + n : Nat) : Int) - ((j : Int) + 1)) = ((a + n - (j + 1) : Nat) : Int) := by rw [IntKind.wrap_i64]; omega
              have hq : a + n - (j + 1) < a + n := by omega
              have hq2 : a + n ≤ 400 := by omega
              have hcont : n < 60 ∧ a + n < t.length ∧ t[a + n]? = t[a + n - (j + 1)]? ∨ ¬ (n < 60 ∧ a + n < t.length ∧ t[a + n]? = t[a + n - (j + 1)]?) := Classical.em _
              have hgo := run_step hrun.out (by omega) (by omega)
              have hend := run_stop hrun.out
              generalize hp : a + n = p at hcont hend q1 q2 hq hq2
              generalize hpq : p - (j + 1) = q at hcont hend q2 hq
              rw [hp, hpq] at hgo
              have HP := Lib.hid hp
              have HPQ := Lib.hid hpq
              have HGO := Lib.hid hgo
              have HEND := Lib.hid hend
              clear hp hpq hgo hend hrun
              rcases hcont with hc | hc
              · have hx2 := Lib.hid (HGO.out hc)
                have hc1 : (n : Int) < 60 := by have := hc.1; omega
                have hps : p < s.size := by have := hc.2.1; rw [HTL.out] at this; exact this
                have hqs : q < s.size := by omega
                have hxy : s[p] = s[q] := by
                  have := hc.2.2
                  rw [HAT.out p hps, HAT.out q hqs] at this
                  exact UInt8.toNat_inj.1 (Option.some.inj this)
                have hps' : (p : Int) < s.size := by omega
                have hqs' : (q : Int) < s.size := by omega
                have hb : (((s[p]).toNat : Int) == ((s[q]).toNat : Int)) = true := by rw [hxy]; simp
                clear hc hxy
                generalize hx : s[p] = x at *
                generalize hy : s[q] = y at *
                go_wp2_with fail
                go_quiet (fail)
                go_wp2_with fail
                exact ⟨⟨n + 1, by go_num, by omega, hx2, O3.drewN _⟩, by simp [intOf]; omega⟩
              · have hx2 := HEND.out hc
                have hstop : decide ((n : Int) < 60) = false ∨ (decide ((n : Int) < 60) = true ∧ decide (p < s.size) = false) ∨
                    (decide ((n : Int) < 60) = true ∧ decide (p < s.size) = true ∧ decide (q < s.size) = true ∧ ∃ (hp : p < s.size) (hq : q < s.size), (((s[p]).toNat : Int) == ((s[q]).toNat : Int)) = false) := by
                  by_cases h1 : n < 60
                  · by_cases h2 : p < s.size
                    · refine .inr (.inr ⟨by simp; omega, by simp; omega, by simp; omega, h2, by omega, ?_⟩)
                      rw [beq_eq_false_iff_ne]
                      intro e
                      apply hc
                      refine ⟨h1, by rw [HTL.out]; exact h2, ?_⟩
                      rw [HAT.out p h2, HAT.out q (by omega)]
                      congr 1; omega
                    · exact .inr (.inl ⟨by simp; omega, by simp; omega⟩)
                  · exact .inl (by simp; omega)
                have b1 := O3.blk hblk
                have KK := K.then (Kp.of [B] O3)
                have c1 : wr.cell? ⟨B, 1, none⟩ = some (.int .i64 (L : Int)) := (b1.cell 1).trans rfl
                have cf : ∀ i, wr.frozen? ⟨B, i, none⟩ = false := b1.frozen
                have c0 : wr.cell? ⟨B, 0, none⟩ = some (.int .i64 x0) := (b1.cell 0).trans rfl
                have c2 : wr.cell? ⟨B, 2, none⟩ = some (.int .i64 z0) := (b1.cell 2).trans rfl
                have HX2 := Lib.hid hx2
                clear hc hx2
                rcases hstop with h | ⟨h1, h2⟩ | ⟨h1, h2, h3, hp, hq, h4⟩
                · go_wp2_with fail
                  go_quiet (fail)
                  by_cases h3 : 3 ≤ n
                  · have h3' : (3 : Int) ≤ n := by omega
                    by_cases hLn : L < n
                    · have hLn' : (L : Int) < n := by omega
                      go_wp2_with fail
                      refine ⟨⟨j + 1, by go_num, by omega, ?_, ?_⟩, by simp [intOf]; omega⟩
                      · rw [HST.out, ← HX2.out, if_pos ⟨h3, hLn'⟩]
                        exact (((b1.drewN nq).set 0 _).set 1 _).set 2 _
                      · exact (((KK.drewN nq).set (.inl (by simp)) _).set (.inl (by simp)) _).set (.inl (by simp)) _
                    · have hLn' : ¬ (L : Int) < n := by omega
                      go_wp2_with fail
                      refine ⟨⟨j + 1, by go_num, by omega, ?_, KK.drewN nq⟩, by simp [intOf]; omega⟩
                      rw [HST.out, ← HX2.out, if_neg (fun h => hLn' h.2)]
                      exact b1.drewN nq
                  · have h3' : ¬ (3 : Int) ≤ n := by omega
                    go_wp2_with fail
                    refine ⟨⟨j + 1, by go_num, by omega, ?_, KK.drewN nq⟩, by simp [intOf]; omega⟩
                    rw [HST.out, ← HX2.out, if_neg (fun h => h3 h.1)]
                    exact b1.drewN nq
                · go_wp2_with fail
                  go_quiet (fail)
                  by_cases h3 : 3 ≤ n
                  · have h3' : (3 : Int) ≤ n := by omega
                    by_cases hLn : L < n
                    · have hLn' : (L : Int) < n := by omega
                      go_wp2_with fail
                      refine ⟨⟨j + 1, by go_num, by omega, ?_, ?_⟩, by simp [intOf]; omega⟩
                      · rw [HST.out, ← HX2.out, if_pos ⟨h3, hLn'⟩]
                        exact (((b1.drewN nq).set 0 _).set 1 _).set 2 _
                      · exact (((KK.drewN nq).set (.inl (by simp)) _).set (.inl (by simp)) _).set (.inl (by simp)) _
                    · have hLn' : ¬ (L : Int) < n := by omega
                      go_wp2_with fail
                      refine ⟨⟨j + 1, by go_num, by omega, ?_, KK.drewN nq⟩, by simp [intOf]; omega⟩
                      rw [HST.out, ← HX2.out, if_neg (fun h => hLn' h.2)]
                      exact b1.drewN nq
                  · have h3' : ¬ (3 : Int) ≤ n := by omega
                    go_wp2_with fail
                    refine ⟨⟨j + 1, by go_num, by omega, ?_, KK.drewN nq⟩, by simp [intOf]; omega⟩
                    rw [HST.out, ← HX2.out, if_neg (fun h => h3 h.1)]
                    exact b1.drewN nq
                · generalize hx : s[p] = x at *
                  generalize hy : s[q] = y at *
                  go_wp2_with fail
                  go_quiet (fail)
                  by_cases h3 : 3 ≤ n
                  · have h3' : (3 : Int) ≤ n := by omega
                    by_cases hLn : L < n
                    · have hLn' : (L : Int) < n := by omega
                      go_wp2_with fail
                      refine ⟨⟨j + 1, by go_num, by omega, ?_, ?_⟩, by simp [intOf]; omega⟩
                      · rw [HST.out, ← HX2.out, if_pos ⟨h3, hLn'⟩]
                        exact (((b1.drewN nq).set 0 _).set 1 _).set 2 _
                      · exact (((KK.drewN nq).set (.inl (by simp)) _).set (.inl (by simp)) _).set (.inl (by simp)) _
                    · have hLn' : ¬ (L : Int) < n := by omega
                      go_wp2_with fail
                      refine ⟨⟨j + 1, by go_num, by omega, ?_, KK.drewN nq⟩, by simp [intOf]; omega⟩
                      rw [HST.out, ← HX2.out, if_neg (fun h => hLn' h.2)]
                      exact b1.drewN nq
                  · have h3' : ¬ (3 : Int) ≤ n := by omega
                    go_wp2_with fail
                    refine ⟨⟨j + 1, by go_num, by omega, ?_, KK.drewN nq⟩, by simp [intOf]; omega⟩
                    rw [HST.out, ← HX2.out, if_neg (fun h => h3 h.1)]
                    exact b1.drewN nq
          · obtain rfl : j = m := by omega
            obtain ⟨x0, L, z0, hd2, hL⟩ := held_form t a j
            have HD := Lib.hid hd2
            rw [hd2] at hblk
            have c0 : wr.cell? ⟨B, 0, none⟩ = some (.int .i64 x0) := (hblk.cell 0).trans rfl
            have c1 : wr.cell? ⟨B, 1, none⟩ = some (.int .i64 (L : Int)) := (hblk.cell 1).trans rfl
            have c2 : wr.cell? ⟨B, 2, none⟩ = some (.int .i64 z0) := (hblk.cell 2).trans rfl
            have hne : ∀ k, u3.ownBlock = some k → k ≠ B := fun k hk => by have := (hown.own.lt k hk).2; rw [← HB.out]; omega
            have hown2 : Own w.heap.size wr 67 3 u3 done.length (tokCells done) := ⟨K.owns (own_on hown.own OB) (fun k hk => by simpa using hne k hk), hown.nn⟩
            have O2 : On w wr := K.on (O.call OB) (fun x hx => by simp at hx; rw [hx, ← HB.out]; exact O.size)
            have hneB : u3.ownBlock ≠ some B := fun h => hne B h rfl
            have HNB := Lib.hid hneB
            obtain ⟨i0, hi, hz0, hz1, hz2⟩ := info_parts tokinfo
            have hmx : (if (L : Int) < 1 then (1 : Int) else L) = ((max L 1 : Nat) : Int) := by split <;> omega
            have hdl : done.length ≤ 300 := by omega
            clear hd2 hst hne hown hneB hjl
            go_wp2_with (at_builtin; go_must (refine wpList_app rfl _ _ 64 rfl w i0 (.agg #[.int .i64 0, .int .i64 0, .int .i64 0]) 24 3 Tryd.underlying64 hi hz0 hz1 hz2 rfl (by decide) rfl _ _ _ rfl hown2 O2 rfl (by simp [Value.oneCell']) (by unfold maxLen; omega) (by omega) ?_); intro v' w2 hown' O' hk; have b2 := hk B _ _ hblk HNB.out; have d1 : w2.cell? ⟨B, 1, none⟩ = some (.int .i64 (L : Int)) := (b2.cell 1).trans rfl)
            obtain ⟨ht1, ht2⟩ := HTS.out
            have hTl := hT.out
            rw [HD.out] at ht1 ht2
            simp only [Int.toNat_natCast] at ht1 ht2
            go_roundw
            case rel =>
              refine ⟨a + max L 1, done ++ [⟨x0, (L : Int), z0⟩], by go_num, by rw [HTL.out] at ht2; exact ht2, by rw [List.length_append, List.length_singleton]; omega, Lib.hid (by rw [hTl, ht1, List.append_assoc]; rfl), ?_, O'⟩
              rw [List.length_append, List.length_singleton, tokCells_snoc]
              exact hown'
            case measure => simp [intOf]; omega
      · obtain rfl : a = s.size := by omega
        have hT2 := hT.out
        rw [toks_end t _ (by rw [HTL.out]; exact Nat.le_refl _), List.append_nil] at hT2
        have HT2 := Lib.hid hT2
        obtain ⟨g, cap, rfl, hg, R, hn1, hcap, hlen⟩ := hown.parts
        clear hT2
        go_wp2_with fail
        go_ret
        refine ⟨g, cap, ?_, ?_, ?_, hcap, hg, O⟩
        · rw [HT.out, HT2.out]; rfl
        · rw [HT.out, HT2.out]; exact R
        · rw [HT.out, HT2.out]; exact hn1
  · have hs' : (300 : Int) < s.size := by omega
    have ht : toksOf s = [] := by unfold toksOf; rw [if_neg hs]
    have HT := Lib.hid ht
    clear ht
    go_enter Tryd.func59, Tryd.ntmps59
    go_wp2_with fail
    go_ret
    exact ⟨w.heap.size, 0, by rw [HT.out]; rfl, by rw [HT.out]; exact Row.of (Blk.new w 67 #[]), by rw [HT.out]; exact Nat.le_refl _, Nat.zero_le _, Nat.le_refl _, (On.refl w).alloc _⟩
end Go.Proofs.YtncidljdfipigaaDoor.Wi
