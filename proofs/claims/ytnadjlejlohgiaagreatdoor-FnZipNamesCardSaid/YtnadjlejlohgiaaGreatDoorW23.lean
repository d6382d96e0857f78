/- Own texts joined: Rq, Rg, WStore. -/
import Derived.Deep.QuietTactic
import Derived.BigQuiet
import Derived.Test.YtnadjlejlohgiaaGreatDoorW8
import Derived.Test.YtnadjlejlohgiaaGreatDoorW11
import Derived.Test.YtnadjlejlohgiaaGreatDoorW13
import Derived.Test.YtnadjlejlohgiaaGreatDoorW14
import Derived.Test.YtnadjlejlohgiaaGreatDoorW17
import Derived.Test.YtnadjlejlohgiaaGreatDoorW18
import Derived.Test.YtnadjlejlohgiaaGreatDoorW20
import Derived.Test.YtnadjlejlohgiaaGreatDoorW22
/- The program's reader at a part packed by both codes that is bad already, or whose lengths are not ok. -/
namespace Go.Proofs.YtnadjlejlohgiaaGreatDoor.Wi
open Go.RowKit Go.Proofs.YtnadjlejlohgiaaGreatDoor.Mem Go.Proofs.YtnadjlejlohgiaaGreatDoor.Bt Go.Proofs.YtnadjlejlohgiaaGreatDoor.Cd Go.Proofs.YtnadjlejlohgiaaGreatDoor.De
set_option linter.unusedVariables false
set_option linter.unusedSimpArgs false
theorem rpacked_bad (g : Nat) (s : ByteArray) (p : Nat) (v1 v2 v3 : Value) (w : World) (hw : IR w g s p true) :
    Calls Tryz.prog 90 #[.pointer (some ⟨g, 0, none⟩), v1, v2, v3] w fun e w' => e = .returned v1 ∧ IR w' g s p true ∧ Kp [g] w w' := by
  have c2 := (hw.out.cell 2).trans rfl
  have fr : ∀ i, w.frozen? ⟨g, i, none⟩ = false := hw.out.frozen
  go_enter Tryz.func90, Tryz.ntmps90
  go_wp2_with fail
  go_ret
  exact ⟨rfl, ⟨hw.out.set 2 (.bool true), hw.le, hw.sz⟩, (Kp.refl _ _).set (.inl (by simp)) _⟩
theorem rpacked_not (g gl ol nl cl gd od nd cd : Nat) (s : ByteArray) (p : Nat) (lit dist : List Nat) (v1 : Value) (w : World) (hw : IR w g s p false)
    (hl : RowO w gl ol 3 (i64s lit)) (hd : RowO w gd od 3 (i64s dist)) (hnl : lit.length = nl) (hnd : dist.length = nd) (hnlc : nl ≤ cl) (hndc : nd ≤ cd)
    (hl15 : ∀ x ∈ lit, x ≤ 100000) (hd15 : ∀ x ∈ dist, x ≤ 100000) (hlen : nl ≤ 1000) (hlen2 : nd ≤ 1000) (hok : ¬ (okLens lit = true ∧ okLens dist = true)) :
    Calls Tryz.prog 90 #[.pointer (some ⟨g, 0, none⟩), v1, .slice (some ⟨gl, ol, none⟩) nl cl, .slice (some ⟨gd, od, none⟩) nd cd] w fun e w' => e = .returned v1 ∧ IR w' g s p true ∧ Kp [g] w w' := by
  have HNL := Lib.hid hnl
  have HND := Lib.hid hnd
  have HXL := Lib.hid hl15
  have HXD := Lib.hid hd15
  have HOK := Lib.hid hok
  have c2 := (hw.out.cell 2).trans rfl
  clear hnl hnd hl15 hd15 hok
  have step : ∀ w2, On w w2 → w2.cell? ⟨g, 2, none⟩ = some (.bool false) ∧ (∀ i, w2.frozen? ⟨g, i, none⟩ = false) := fun w2 O => ⟨((hw.on O).out.cell 2).trans rfl, (hw.on O).out.frozen⟩
  have HST := Lib.hid step
  clear step
  by_cases hokl : okLens lit = true
  · have hokd : okLens dist = false := by
      cases h : okLens dist with
      | true => exact absurd ⟨hokl, h⟩ HOK.out
      | false => rfl
    have HOL := Lib.hid hokl
    have HOD := Lib.hid hokd
    clear hokl hokd
    go_enter Tryz.func90, Tryz.ntmps90
    go_wp2_with fail
    refine (lensok_calls lit gl ol nl cl w hl HNL.out (by omega) hnlc HXL.out).mono ?_
    rintro e w1 ⟨rfl, O1⟩
    rw [HOL.out]
    go_wp2_with fail
    refine (lensok_calls dist gd od nd cd w1 (hd.on O1) HND.out (by omega) hndc HXD.out).mono ?_
    rintro e w2 ⟨rfl, O2⟩
    rw [HOD.out]
    obtain ⟨d2, fr⟩ := HST.out w2 (O1.call O2)
    have hw2 := hw.on (O1.call O2)
    go_wp2_with fail
    go_ret
    exact ⟨rfl, ⟨hw2.out.set 2 (.bool true), hw.le, hw.sz⟩, ((Kp.of [g] (O1.call O2))).set (.inl (by simp)) _⟩
  · have hokl' : okLens lit = false := by simpa using hokl
    have HOL := Lib.hid hokl'
    clear hokl hokl'
    go_enter Tryz.func90, Tryz.ntmps90
    go_wp2_with fail
    refine (lensok_calls lit gl ol nl cl w hl HNL.out (by omega) hnlc HXL.out).mono ?_
    rintro e w1 ⟨rfl, O1⟩
    rw [HOL.out]
    obtain ⟨d2, fr⟩ := HST.out w1 O1
    have hw1 := hw.on O1
    go_wp2_with fail
    go_ret
    exact ⟨rfl, ⟨hw1.out.set 2 (.bool true), hw.le, hw.sz⟩, ((Kp.of [g] O1)).set (.inl (by simp)) _⟩
end Go.Proofs.YtnadjlejlohgiaaGreatDoor.Wi

/- The program unpacks a text: FlateGet. Conditions: the variable order as it is laid. -/
namespace Go.Proofs.YtnadjlejlohgiaaGreatDoor.Wi
open Go.RowKit Go.Proofs.YtnadjlejlohgiaaGreatDoor.Mem Go.Proofs.YtnadjlejlohgiaaGreatDoor.Bt Go.Proofs.YtnadjlejlohgiaaGreatDoor.Cd Go.Proofs.YtnadjlejlohgiaaGreatDoor.De
set_option linter.unusedVariables false
set_option linter.unusedSimpArgs false
/-- What FlateGet answers. -/
def gotOf (s : ByteArray) : Value := match flate (chars s) with
  | some (o, n) => .tuple #[.string (strB o), .int .i64 (n : Int), .bool true]
  | none => .tuple #[.string ⟨#[]⟩, .int .i64 0, .bool false]
/-- What remains behind the parts. -/
def tailOf (o : List Nat) : Dec (List Nat) := next align fun _ => ret o
/-- Where the loop over parts stands. -/
structure Goes (s : ByteArray) (l : List Nat) (q : Nat) (last : Bool) : Prop where mk ::
  more : last = false → ∃ f, 6000 ≤ f + q ∧ next (parts f l) tailOf (rest s q) = whole (rest s 0)
  done : last = true → tailOf l (rest s q) = whole (rest s 0)
theorem Goes.start (s : ByteArray) : Goes s [] 0 false := ⟨fun _ => ⟨6000, by omega, rfl⟩, fun e => by cases e⟩
/-- One part has been taken: how it goes on. -/
theorem Goes.part {s : ByteArray} {l : List Nat} {q q3 t lb : Nat} (h : Goes s l q false) (hq : q ≤ 5600) (h1 : num 1 (rest s q) = some (lb, rest s (q + 1))) (h2 : num 2 (rest s (q + 1)) = some (t, rest s (q + 3))) :
    (body t l (rest s (q + 3)) = none → whole (rest s 0) = none) ∧ ∀ o, body t l (rest s (q + 3)) = some (o, rest s q3) → q + 3 ≤ q3 → Goes s o q3 (lb == 1) := by
  obtain ⟨f, hf, he⟩ := h.more rfl
  obtain ⟨f, rfl⟩ : ∃ g, f = g + 1 := ⟨f - 1, by omega⟩
  refine ⟨fun hb => ?_, fun o hb hle => ?_⟩
  · rw [← he]
    refine next_none ?_
    unfold parts
    refine next_none ?_
    unfold De.part
    rw [next_some h1, next_some h2]
    exact next_none hb
  · have e : De.part l (rest s q) = some ((o, lb), rest s q3) := by
      unfold De.part
      rw [next_some h1, next_some h2, next_some hb]; rfl
    have e2 : next (parts (f + 1) l) tailOf (rest s q) = next (if lb = 1 then ret o else parts f o) tailOf (rest s q3) := by
      unfold next
      have : parts (f + 1) l (rest s q) = (if lb = 1 then ret o else parts f o) (rest s q3) := by
        show next (De.part l) (fun p => if p.2 = 1 then ret p.1 else parts f p.1) (rest s q) = _
        rw [next_some e]
      rw [this]
    rw [e2] at he
    by_cases hl : lb = 1
    · refine ⟨fun h => by simp [hl] at h, fun _ => ?_⟩
      rw [if_pos hl] at he
      rw [← he]; rfl
    · refine ⟨fun _ => ⟨f, by omega, ?_⟩, fun h => by simp [hl] at h⟩
      rw [if_neg hl] at he
      exact he
theorem suf_le {α : Type} {d : Dec α} (L : De.Loc d) {s : ByteArray} {q q3 : Nat} {x : α} (h : d (rest s q) = some (x, rest s q3)) (h1 : q ≤ 8 * s.size) (h3 : q3 ≤ 8 * s.size) : q ≤ q3 := by
  obtain ⟨e, he⟩ := L.suf _ _ _ h
  have := congrArg List.length he
  rw [List.length_append, rest_length, rest_length] at this
  omega
theorem flate_of {s : ByteArray} {o : List Nat} {q : Nat} (hs : s.size ≤ 700) (hq : q ≤ 8 * s.size) (h : whole (rest s 0) = some (o, rest s q)) : flate (chars s) = some (o, s.size - (8 * s.size - q) / 8) := by
  unfold flate
  rw [if_neg (by rw [chars_length]; omega)]
  have e : unpack (chars s) = rest s 0 := by unfold rest; rw [List.drop_zero]
  rw [e, h]
  simp only [chars_length, rest_length]
theorem flate_not {s : ByteArray} (h : whole (rest s 0) = none) : flate (chars s) = none := by
  unfold flate
  have e : unpack (chars s) = rest s 0 := by unfold rest; rw [List.drop_zero]
  rw [e, h]
  split <;> rfl
theorem Goes.none {s : ByteArray} {l : List Nat} {q : Nat} (h : Goes s l q false) (hq : q ≤ 5600) (hp : De.part l (rest s q) = Option.none) : whole (rest s 0) = Option.none := by
  obtain ⟨f, hf, he⟩ := h.more rfl
  obtain ⟨f, rfl⟩ : ∃ g, f = g + 1 := ⟨f - 1, by omega⟩
  rw [← he]
  refine next_none ?_
  unfold parts
  exact next_none hp
/-- One part, as the reader answers it. -/
theorem Goes.step {s : ByteArray} {l l' : List Nat} {q q1 q2 q3 lb t : Nat} {b1 b2 b3 : Bool} (h : Goes s l q false) (hq : q ≤ 5600) (A1 : Ans (num 1) s q false lb q1 b1) (A2 : Ans (num 2) s q1 b1 t q2 b2) (A3 : AnsO (body t l) s q2 b2 l' q3 b3)
    (e1 : b1 = false → q1 = q + 1) (e2 : b2 = false → q2 = q1 + 2) (hle : b3 = false → l'.length ≤ 300 → q2 ≤ q3) :
    (b3 = true → whole (rest s 0) = Option.none) ∧ (b3 = false → 300 < l'.length → whole (rest s 0) = Option.none) ∧ (b3 = false → l'.length ≤ 300 → Goes s l' q3 (lb == 1)) := by
  have hb2 : b2 = true → whole (rest s 0) = Option.none := fun e => by
    refine h.none hq ?_
    rcases (Ans.next A1 (k := fun _ => num 2) A2).bad e with c | c
    · cases c
    · unfold De.part
      cases hn : num 1 (rest s q) with
      | none => exact next_none hn
      | some y =>
        rw [next_some hn]
        rw [next_some hn] at c
        exact next_none c
  have hg : b2 = false → num 1 (rest s q) = some (lb, rest s (q + 1)) ∧ num 2 (rest s (q + 1)) = some (t, rest s (q + 3)) ∧ q2 = q + 3 := fun e => by
    obtain ⟨c1, c2⟩ := A2.good e
    obtain ⟨_, c3⟩ := A1.good c1
    have f1 := e1 c1
    have f2 := e2 e
    subst f1
    rw [show q2 = q + 3 from by omega] at c2
    exact ⟨c3, c2, by omega⟩
  have hgo : b2 = false → (body t l (rest s (q + 3)) = Option.none → whole (rest s 0) = Option.none) ∧ ∀ o, body t l (rest s (q + 3)) = some (o, rest s q3) → q + 3 ≤ q3 → Goes s o q3 (lb == 1) := fun e => by
    obtain ⟨n1, n2, _⟩ := hg e
    exact h.part hq n1 n2
  refine ⟨fun e => ?_, fun e hl => ?_, fun e hl => ?_⟩
  · rcases A3.bad e with c | c
    · exact hb2 c
    · cases hb : b2 with
      | true => exact hb2 hb
      | false => rw [(hg hb).2.2] at c; exact (hgo hb).1 c
  · obtain ⟨c1, _, c3⟩ := A3.good e
    have := c3 hl
    rw [(hg c1).2.2] at this
    exact (hgo c1).1 this
  · obtain ⟨c1, c2, _⟩ := A3.good e
    have h2 := c2 hl
    have h3 := hle e hl
    rw [(hg c1).2.2] at h2 h3
    exact (hgo c1).2 l' h2 h3
theorem By.new (w : World) : By (w.alloc (.cells #[] 5)) w.heap.size 0 [] := by
  refine ⟨⟨?_, fun g hg => by simp [Value.ownBlock] at hg; exact hg.symm⟩⟩
  have := World.ownsRow_lit w (base := 0) (e := 5) (size := 1) #[] 0 (Nat.zero_le _) (by unfold maxLen; omega) (by simp)
  exact this
/-- How far the loop still may go. -/
def farOf (s : ByteArray) (g : Nat) (w : World) (lb : Value) : Nat := (match w.cell? ⟨g, 1, none⟩ with | some y => 8 * s.size - (intOf y).toNat | none => 0) + (match lb with | .bool false => 1 | _ => 0)
theorem farOf_lt {w w' : World} {g q q' : Nat} {s : ByteArray} {b b' l' : Bool} (h : IR w g s q b) (h' : IR w' g s q' b') (hq : q + 3 ≤ q') : farOf s g w' (.bool l') < farOf s g w (.bool false) := by
  have h1 := h'.le
  unfold farOf
  rw [(h.out.cell 1).trans rfl, (h'.out.cell 1).trans rfl]
  have e : ∀ n : Nat, (intOf (.int .i64 (n : Int))).toNat = n := fun n => Int.toNat_natCast n
  show 8 * s.size - (intOf (.int .i64 (q' : Int))).toNat + _ < 8 * s.size - (intOf (.int .i64 (q : Int))).toNat + 1
  rw [e, e]
  cases l'
  · show 8 * s.size - q' + 1 < _
    omega
  · show 8 * s.size - q' + 0 < _
    omega
theorem far_of {s : ByteArray} {l l' : List Nat} {q q1 q2 q3 lb t : Nat} {b1 b2 : Bool} (A1 : Ans (num 1) s q false lb q1 b1) (A2 : Ans (num 2) s q1 b1 t q2 b2) (A3 : AnsO (body t l) s q2 b2 l' q3 false)
    (e1 : b1 = false → q1 = q + 1) (e2 : b2 = false → q2 = q1 + 2) (hle : l'.length ≤ 300 → q2 ≤ q3) : l'.length ≤ 300 → q + 3 ≤ q3 := fun h => by
  have c := (A3.good rfl).1
  have f2 := e2 c
  have f1 := e1 (A2.good c).1
  have := hle h
  omega
theorem ok_fix : okLens fixLit = true ∧ okLens fixDist = true := by decide +kernel
theorem fix_le : (∀ x ∈ fixLit, x ≤ 100000) ∧ ∀ x ∈ fixDist, x ≤ 100000 := by decide +kernel
/-- Lengths that may be bad, and what is packed by them. -/
def packed2 (l lit dist : List Nat) : Dec (List Nat) := if okLens lit = true ∧ okLens dist = true then packed lit dist 302 l else De.bad
theorem body_fix (l : List Nat) : body 1 l = packed2 l fixLit fixDist := by
  unfold packed2
  rw [if_pos ok_fix]; rfl
theorem body_own (l : List Nat) : body 2 l = next ownRaw (fun p => packed2 l p.1 p.2) := by
  funext bs
  exact own_raw (fun p => packed p.1 p.2 302 l) bs
theorem packed_any (g r cap n : Nat) (s : ByteArray) (p : Nat) (b : Bool) (l lit dist : List Nat) (v1 v2 : Value) (w : World) (hw : IR w g s p b) (hb : By w r cap l) (hn : l.length = n) (hn2 : n ≤ 300) (hgr : g ≠ r)
    (H : b = false → ∃ gl ol nl cl gd od nd cd : Nat, v1 = .slice (some ⟨gl, ol, none⟩) nl cl ∧ v2 = .slice (some ⟨gd, od, none⟩) nd cd ∧ RowO w gl ol 3 (i64s lit) ∧ RowO w gd od 3 (i64s dist) ∧ lit.length = nl ∧ dist.length = nd ∧ nl ≤ cl ∧ nd ≤ cd ∧
      (∀ x ∈ lit, x ≤ 100000) ∧ (∀ x ∈ dist, x ≤ 100000) ∧ nl ≤ 288 ∧ nd ≤ 300 ∧ (gl ≠ g ∧ gl ≠ r) ∧ (gd ≠ g ∧ gd ≠ r)) :
    Calls Tryz.prog 90 #[.pointer (some ⟨g, 0, none⟩), .slice (some ⟨r, 0, none⟩) n cap, v1, v2] w fun e w' => ∃ v, e = .returned v ∧ Out (packed2 l lit dist) s p b g r w v w' := by
  cases b with
  | true =>
    refine (rpacked_bad g s p _ _ _ w hw).mono ?_
    rintro e w' ⟨rfl, h1, K⟩
    exact ⟨_, rfl, ⟨p, true, r, cap, l, h1, K.mono (fun y hy => .inl (by simp at hy ⊢; exact .inl hy)), .inl rfl, ⟨fun _ => .inl rfl, fun e => by cases e⟩, fun e => by cases e⟩⟩
  | false =>
    obtain ⟨gl, ol, nl, cl, gd, od, nd, cd, rfl, rfl, h1, h2, h3, h4, h5, h6, h7, h8, h9, h10, h11, h12⟩ := H rfl
    unfold packed2
    by_cases hok : okLens lit = true ∧ okLens dist = true
    · rw [if_pos hok]
      exact rpacked_calls g r cap n gl ol nl cl gd od nd cd s p l lit dist w hw hb hn hn2 hgr h1 h2 h3 h4 h5 h6 h7 h8 h9 h10 h11 h12 hok.1 hok.2
    · rw [if_neg hok]
      refine (rpacked_not g gl ol nl cl gd od nd cd s p lit dist _ w hw h1 h2 h3 h4 h5 h6 h7 h8 (by omega) (by omega) hok).mono ?_
      rintro e w' ⟨rfl, k1, K⟩
      exact ⟨_, rfl, ⟨p, true, r, cap, l, k1, K.mono (fun y hy => .inl (by simp at hy ⊢; exact .inl hy)), .inl rfl, ⟨fun _ => .inr rfl, fun e => by cases e⟩, fun e => by cases e⟩⟩
set_option maxRecDepth 100000 in
set_option maxHeartbeats 2000000 in
theorem flateget_calls (x : Addr) (s : ByteArray) (w : World) (hO : Ord w x) :
    Calls Tryz.prog 62 #[.string s] w fun e w' => e = .returned (gotOf s) ∧ On w w' := by
  by_cases h7 : 700 < s.size
  · have h7' : (700 : Int) < s.size := by omega
    have HR : RowKit.Hid (gotOf s = .tuple #[.string ⟨#[]⟩, .int .i64 0, .bool false]) := Lib.hid (by unfold gotOf flate; rw [if_pos (by rw [chars_length]; exact h7)])
    go_enter Tryz.func62, Tryz.ntmps62
    go_wp2_with fail
    go_ret3
    exact ⟨by rw [HR.out]; rfl, On.refl _⟩
  have h7' : ¬ (700 : Int) < s.size := by omega
  go_enter Tryz.func62, Tryz.ntmps62
  have BR := Blk.new w 95 #[.string s, .int .i64 0, .bool false]
  have OR := (On.refl w).alloc (.cells #[.string s, .int .i64 0, .bool false] 95)
  go_wp2_with fail
  have hw1 : IR (w.alloc (.cells #[.string s, .int .i64 0, .bool false] 95)) w.heap.size s 0 false := ⟨BR, by omega, by omega⟩
  have hO1 := hO.kp (Kp.of [] OR) (by simp) (by simp)
  have hGlt := hO.glt
  have hXlt := hO.lt
  have hz1 := OR.size
  have hg1 := BR.lt
  have hsz1 : (w.alloc (.cells #[.string s, .int .i64 0, .bool false] 95)).heap.size = w.heap.size + 1 := Array.size_push _
  generalize hg : w.heap.size = g at *
  generalize w.alloc (.cells #[.string s, .int .i64 0, .bool false] 95) = w1 at *
  have B2 := By.new w1
  have O2 := (On.refl w1).alloc (.cells #[] 5)
  rw [hsz1] at B2
  have hw2 := hw1.on O2
  have hO2 := hO1.kp (Kp.of [] O2) (by simp) (by simp)
  generalize w1.alloc (.cells #[] 5) = w2 at *
  go_loopw [6, 7] (fun o lb wr => ∃ (q r cap : Nat) (l : List Nat) (last : Bool), o = .slice (some ⟨r, 0, none⟩) l.length cap ∧ lb = .bool last ∧ IR wr g s q false ∧ By wr r cap l ∧ Kp [g, g + 1] w2 wr ∧ (r = g + 1 ∨ w2.heap.size ≤ r) ∧ l.length ≤ 300 ∧ Goes s l q last) (fun _ lb wr => farOf s g wr lb)
  case atStart => exact ⟨0, g + 1, 0, [], false, rfl, rfl, hw2, B2, Kp.refl _ _, .inl rfl, by simp, Goes.start s⟩
  case round =>
    obtain ⟨q, r, cap, l, last, rfl, rfl, hr, hB, K, hra, hl3, G⟩ := hrel
    have hgr : g ≠ r := by have := O2.size; omega
    cases last with
    | true =>
      have HE := Lib.hid (reven_calls g s q false wr hr)
      have AE := Lib.hid (ans_align (b := false) hr.le)
      go_wp2_with fail
      refine HE.out.mono ?_
      rintro e w3 ⟨rfl, hr3, K3⟩
      have hB3 := hB.kp K3 (by simpa using Ne.symm hgr)
      have d1 := (hr3.out.cell 1).trans rfl
      have d2 := (hr3.out.cell 2).trans rfl
      have KW : Kp [g, g + 1] w2 w3 := K.then (K3.mono (fun y hy => .inl (by simp at hy ⊢; exact .inl hy)))
      have OW : On w w3 := KW.on (OR.call O2) (fun y hy => by simp at hy; omega)
      have hqe := hr3.le
      cases hp : padOk s q with
      | false =>
        rw [hp] at AE d2
        have hfl : flate (chars s) = none := flate_not (by
          rw [← G.done rfl]
          rcases AE.out.bad rfl with e | e
          · cases e
          · exact next_none e)
        have HR : RowKit.Hid (gotOf s = .tuple #[.string ⟨#[]⟩, .int .i64 0, .bool false]) := Lib.hid (by unfold gotOf; rw [hfl])
        clear hfl
        go_wp2_with fail
        go_ret3
        exact ⟨by rw [HR.out]; rfl, OW⟩
      | true =>
        rw [hp] at AE d2
        have hfl := flate_of (o := l) (q := evenAt q) (by omega) hqe (by rw [← G.done rfl]; exact next_some (AE.out.good rfl).2)
        have e8 : s.size - (8 * s.size - evenAt q) / 8 = evenAt q / 8 := by unfold evenAt at *; omega
        rw [e8] at hfl
        have HR : RowKit.Hid (gotOf s = .tuple #[.string (strB l), .int .i64 ((evenAt q / 8 : Nat) : Int), .bool true]) := Lib.hid (by unfold gotOf; rw [hfl])
        clear hfl e8
        have cv := bytes_conv hB3.out
        have cvd := fun n => bytes_conv (hB3.on ((On.refl w3).drewN n)).out
        have cvr := bytes_conv (hB3.on ((On.refl w3).drew)).out
        have e1 : Int.tdiv ((evenAt q : Nat) : Int) 8 = ((evenAt q / 8 : Nat) : Int) := tdiv_nat (evenAt q) 8
        have e2 : IntKind.i64.wrap (((evenAt q : Nat) : Int) / 8) = ((evenAt q / 8 : Nat) : Int) := by rw [IntKind.wrap_i64]; omega
        have hn8 : evenAt q / 8 ≤ 1000000 := by omega
        generalize evenAt q / 8 = n8 at *
        generalize evenAt q = qe at *
        go_wp2_with fail
        go_quiet (fail)
        go_wp2_with fail
        go_ret3
        exact ⟨by rw [HR.out]; rfl, OW.drewN _⟩
    | false =>
      have HE := Lib.hid (bit_calls g s q false wr hr)
      have A1 := Lib.hid (ans_num (n := 1) (b := false) hr.le)
      have hv1 := numAt_lt s q 1
      have hqle := hr.le
      obtain ⟨q1, hq1⟩ : ∃ q1, min (q + 1) (8 * s.size) = q1 := ⟨_, rfl⟩
      obtain ⟨b1, hb1⟩ : ∃ b1, (false || decide (8 * s.size < q + 1)) = b1 := ⟨_, rfl⟩
      have E1 : RowKit.Hid (b1 = false → q1 = q + 1) := Lib.hid (fun e => by rw [e] at hb1; simp at hb1; omega)
      rw [hq1, hb1] at A1 HE
      clear hq1 hb1
      generalize numAt s q 1 = lb at *
      go_wp2_with fail
      refine HE.out.mono ?_
      rintro e w3 ⟨rfl, hr3, K3⟩
      have HE2 := Lib.hid (get_calls g 2 s q1 b1 w3 hr3 (by omega))
      have A2 := Lib.hid (ans_num (n := 2) (b := b1) hr3.le)
      have hv2 := numAt_lt s q1 2
      obtain ⟨q2, hq2⟩ : ∃ q2, min (q1 + 2) (8 * s.size) = q2 := ⟨_, rfl⟩
      obtain ⟨b2, hb2⟩ : ∃ b2, (b1 || decide (8 * s.size < q1 + 2)) = b2 := ⟨_, rfl⟩
      have E2 : RowKit.Hid (b2 = false → q2 = q1 + 2) := Lib.hid (fun e => by rw [e] at hb2; simp at hb2; omega)
      rw [hq2, hb2] at A2 HE2
      clear hq2 hb2
      generalize numAt s q1 2 = t at *
      go_wp2_with fail
      refine HE2.out.mono ?_
      rintro e w4 ⟨rfl, hr4, K4⟩
      have K34 := K3.then K4
      have hB4 := hB.kp K34 (by simpa using Ne.symm hgr)
      have HGS := Lib.hid (fun l' q3 b3 A3 h3 => G.step (l' := l') (q3 := q3) (b3 := b3) (by omega) A1.out A2.out A3 E1.out E2.out h3)
      have KA := K.then (K34.mono (fun y hy => .inl (by simp at hy ⊢; exact .inl hy)))
      have hz4 := KA.size
      have hz34 := K34.size
      by_cases ht0 : t = 0
      · subst ht0
        go_wp2_with fail
        refine (rstored_calls g r cap l.length s q2 b2 l w4 hr4 hB4 rfl hl3 hgr).mono ?_
        rintro e w5 ⟨v, rfl, ⟨q3, b3, r3, cap3, l3, hr5, K5, hr3', A3, hgood⟩⟩
        have KW : Kp [g, g + 1] w2 w5 := KA.trans K5 (fun y hy => by simp at hy ⊢; omega)
        obtain ⟨s1, s2, s3⟩ := HGS.out l3 q3 b3 A3 (fun e h => suf_le (Loc.stored l) ((A3.good e).2.1 h) hr4.le hr5.le)
        have S1 := Lib.hid s1
        have S2 := Lib.hid s2
        have S3 := Lib.hid s3
        clear s1 s2 s3
        have S4 := Lib.hid (fun (e : b3 = false) => far_of A1.out A2.out (e ▸ A3) E1.out E2.out (fun h => suf_le (Loc.stored l) ((A3.good e).2.1 h) hr4.le hr5.le))
        have d5 := (hr5.out.cell 2).trans rfl
        have OW : On w w5 := KW.on (OR.call O2) (fun y hy => by simp at hy; omega)
        cases b3 with
        | true =>
          go_wp2_with fail
          go_ret3
          exact ⟨by unfold gotOf; rw [flate_not (by first | exact S1.out rfl | exact S1.out trivial)]; rfl, OW⟩
        | false =>
          obtain ⟨rfl, hB5, hl5⟩ := hgood rfl
          by_cases hl6 : 300 < l3.length
          · have hl6' : (300 : Int) < (l3.length : Int) := by omega
            go_wp2_with fail
            go_ret3
            exact ⟨by unfold gotOf; rw [flate_not (by first | exact S2.out rfl hl6 | exact S2.out trivial hl6)]; rfl, OW⟩
          · have hl6' : decide ((300 : Int) < (l3.length : Int)) = false := by simp; omega
            have G5 : RowKit.Hid (Goes s l3 q3 (lb == 1)) := Lib.hid (by first | exact S3.out rfl (by omega) | exact S3.out trivial (by omega))
            have FR : RowKit.Hid (farOf s g w5 (.bool (lb == 1)) < farOf s g wr (.bool false)) := Lib.hid (farOf_lt hr hr5 (by first | exact S4.out rfl (by omega) | exact S4.out trivial (by omega)))
            have RA3 : RowKit.Hid (r3 = g + 1 ∨ w2.heap.size ≤ r3) := Lib.hid (by omega)
            go_wp2_with fail
            have hlb : Value.bool ((lb : Int) == 1) = Value.bool (lb == 1) := by congr 1; rw [Bool.eq_iff_iff]; simp; omega
            rw [hlb]
            exact ⟨⟨q3, r3, cap3, l3, lb == 1, rfl, rfl, hr5, hB5, KW, RA3.out, by omega, G5.out⟩, FR.out⟩
      by_cases ht1 : t = 1
      · subst ht1
        go_wp2_with fail
        refine (ifixed_calls w4).mono ?_
        rintro e wf ⟨ra, rb, rfl, RA, RB, ra1, rb1, Of⟩
        have hzf := Of.size
        have hg4 := hr4.out.lt
        have hr4l := hB4.lt
        go_wp2_with fail
        refine (packed_any g r cap l.length s q2 b2 l fixLit fixDist _ _ wf (hr4.on Of) (hB4.on Of) rfl hl3 hgr (fun _ => ⟨ra, 0, 288, 288, rb, 0, 32, 32, rfl, rfl, RA, RB, fixLit_length, fixDist_length, by omega, by omega, fix_le.1, fix_le.2, by omega, by omega, ⟨by omega, by omega⟩, ⟨by omega, by omega⟩⟩)).mono ?_
        rintro e w5 ⟨v, rfl, ⟨q3, b3, r3, cap3, l3, hr5, K5, hr3', A3, hgood⟩⟩
        rw [← body_fix] at A3
        have KW : Kp [g, g + 1] w2 w5 := (KA.then (Kp.of _ Of)).trans K5 (fun y hy => by simp at hy ⊢; omega)
        obtain ⟨s1, s2, s3⟩ := HGS.out l3 q3 b3 A3 (fun e h => suf_le (Loc.body 1 l) ((A3.good e).2.1 h) hr4.le hr5.le)
        have S1 := Lib.hid s1
        have S2 := Lib.hid s2
        have S3 := Lib.hid s3
        clear s1 s2 s3
        have S4 := Lib.hid (fun (e : b3 = false) => far_of A1.out A2.out (e ▸ A3) E1.out E2.out (fun h => suf_le (Loc.body 1 l) ((A3.good e).2.1 h) hr4.le hr5.le))
        have d5 := (hr5.out.cell 2).trans rfl
        have OW : On w w5 := KW.on (OR.call O2) (fun y hy => by simp at hy; omega)
        cases b3 with
        | true =>
          go_wp2_with fail
          go_ret3
          exact ⟨by unfold gotOf; rw [flate_not (by first | exact S1.out rfl | exact S1.out trivial)]; rfl, OW⟩
        | false =>
          obtain ⟨rfl, hB5, hl5⟩ := hgood rfl
          by_cases hl6 : 300 < l3.length
          · have hl6' : (300 : Int) < (l3.length : Int) := by omega
            go_wp2_with fail
            go_ret3
            exact ⟨by unfold gotOf; rw [flate_not (by first | exact S2.out rfl hl6 | exact S2.out trivial hl6)]; rfl, OW⟩
          · have hl6' : decide ((300 : Int) < (l3.length : Int)) = false := by simp; omega
            have G5 : RowKit.Hid (Goes s l3 q3 (lb == 1)) := Lib.hid (by first | exact S3.out rfl (by omega) | exact S3.out trivial (by omega))
            have FR : RowKit.Hid (farOf s g w5 (.bool (lb == 1)) < farOf s g wr (.bool false)) := Lib.hid (farOf_lt hr hr5 (by first | exact S4.out rfl (by omega) | exact S4.out trivial (by omega)))
            have RA3 : RowKit.Hid (r3 = g + 1 ∨ w2.heap.size ≤ r3) := Lib.hid (by omega)
            go_wp2_with fail
            have hlb : Value.bool ((lb : Int) == 1) = Value.bool (lb == 1) := by congr 1; rw [Bool.eq_iff_iff]; simp; omega
            rw [hlb]
            exact ⟨⟨q3, r3, cap3, l3, lb == 1, rfl, rfl, hr5, hB5, KW, RA3.out, by omega, G5.out⟩, FR.out⟩
      by_cases ht2 : t = 2
      · subst ht2
        go_wp2_with fail
        have hO4 := hO2.kp KA (by simp; omega) (by simp; omega)
        refine (rlens_calls g x s q2 b2 w4 hr4 hO4 (by omega) (by omega)).mono ?_
        rintro e wf ⟨v1, v2, qf, bf, lit, dist, rfl, hrf, Af, Kf, hlens⟩
        have hzf := Kf.size
        have hg4 := hr4.out.lt
        have hr4l := hB4.lt
        have hBf := hB4.kp Kf (by simpa using Ne.symm hgr)
        go_wp2_with fail
        refine (packed_any g r cap l.length s qf bf l lit dist _ _ wf hrf hBf rfl hl3 hgr (fun e => by
          obtain ⟨rr, n, c, rfl, rfl, h1, h2, h3, h4, R1, R2, m1, m2, h5⟩ := hlens e
          exact ⟨rr, 0, lit.length, n, rr, lit.length, dist.length, c, rfl, rfl, R1, R2, rfl, rfl, h3, h4, fun y hy => by have := m1 y hy; omega, fun y hy => by have := m2 y hy; omega, by omega, by omega, ⟨by omega, by omega⟩, ⟨by omega, by omega⟩⟩)).mono ?_
        rintro e w5 ⟨v, rfl, ⟨q3, b3, r3, cap3, l3, hr5, K5, hr3', A3', hgood⟩⟩
        have A3 : AnsO (body 2 l) s q2 b2 l3 q3 b3 := by rw [body_own]; exact AnsO.next Af A3'
        have KW : Kp [g, g + 1] w2 w5 := (KA.then (Kf.mono (fun y hy => .inl (by simp at hy ⊢; exact .inl hy)))).trans K5 (fun y hy => by simp at hy ⊢; omega)
        obtain ⟨s1, s2, s3⟩ := HGS.out l3 q3 b3 A3 (fun e h => suf_le (Loc.body 2 l) ((A3.good e).2.1 h) hr4.le hr5.le)
        have S1 := Lib.hid s1
        have S2 := Lib.hid s2
        have S3 := Lib.hid s3
        clear s1 s2 s3
        have S4 := Lib.hid (fun (e : b3 = false) => far_of A1.out A2.out (e ▸ A3) E1.out E2.out (fun h => suf_le (Loc.body 2 l) ((A3.good e).2.1 h) hr4.le hr5.le))
        have d5 := (hr5.out.cell 2).trans rfl
        have OW : On w w5 := KW.on (OR.call O2) (fun y hy => by simp at hy; omega)
        cases b3 with
        | true =>
          go_wp2_with fail
          go_ret3
          exact ⟨by unfold gotOf; rw [flate_not (by first | exact S1.out rfl | exact S1.out trivial)]; rfl, OW⟩
        | false =>
          obtain ⟨rfl, hB5, hl5⟩ := hgood rfl
          by_cases hl6 : 300 < l3.length
          · have hl6' : (300 : Int) < (l3.length : Int) := by omega
            go_wp2_with fail
            go_ret3
            exact ⟨by unfold gotOf; rw [flate_not (by first | exact S2.out rfl hl6 | exact S2.out trivial hl6)]; rfl, OW⟩
          · have hl6' : decide ((300 : Int) < (l3.length : Int)) = false := by simp; omega
            have G5 : RowKit.Hid (Goes s l3 q3 (lb == 1)) := Lib.hid (by first | exact S3.out rfl (by omega) | exact S3.out trivial (by omega))
            have FR : RowKit.Hid (farOf s g w5 (.bool (lb == 1)) < farOf s g wr (.bool false)) := Lib.hid (farOf_lt hr hr5 (by first | exact S4.out rfl (by omega) | exact S4.out trivial (by omega)))
            have RA3 : RowKit.Hid (r3 = g + 1 ∨ w2.heap.size ≤ r3) := Lib.hid (by omega)
            go_wp2_with fail
            have hlb : Value.bool ((lb : Int) == 1) = Value.bool (lb == 1) := by congr 1; rw [Bool.eq_iff_iff]; simp; omega
            rw [hlb]
            exact ⟨⟨q3, r3, cap3, l3, lb == 1, rfl, rfl, hr5, hB5, KW, RA3.out, by omega, G5.out⟩, FR.out⟩
      · have hb0 : body t l = De.bad := by unfold body; rw [if_neg ht0, if_neg ht1, if_neg ht2]
        have FN : RowKit.Hid (flate (chars s) = none) := Lib.hid (flate_not ((HGS.out l q2 true ⟨fun _ => .inr (by rw [hb0]; rfl), fun e => by cases e⟩ (fun e => by cases e)).1 rfl))
        have KW : Kp [g, g + 1] w2 (w4.setCell ⟨g, 2, none⟩ (.bool true)) := KA.set (.inl (by simp)) _
        have OW : On w (w4.setCell ⟨g, 2, none⟩ (.bool true)) := KW.on (OR.call O2) (fun y hy => by simp at hy; omega)
        have fr : ∀ i, w4.frozen? ⟨g, i, none⟩ = false := hr4.out.frozen
        have d2 := (hr4.out.cell 2).trans rfl
        go_wp2_with fail
        go_ret3
        exact ⟨by unfold gotOf; rw [FN.out]; rfl, OW⟩
end Go.Proofs.YtnadjlejlohgiaaGreatDoor.Wi

/- What StorePut does, in both programs: the plain packing of a text as it is. Conditions: sizes. -/
namespace Go.Proofs.YtnadjlejlohgiaaGreatDoor.Wi
open Go.RowKit Go.Proofs.YtnadjlejlohgiaaGreatDoor.Mem Go.Proofs.YtnadjlejlohgiaaGreatDoor.Bt
set_option linter.unusedVariables false
set_option linter.unusedSimpArgs false
theorem sw_new (w : World) : SW (w.alloc (.cells #[.slice none 0 0, .int .i64 0, .int .i64 0] 153)) w.heap.size w.heap.size [] :=
  ⟨.slice none 0 0, Blk.new w _ _, ⟨World.ownsRow_nil _ _ _ _, fun k hk => by simp [Value.ownBlock] at hk⟩, .inr rfl⟩
/-- What a writer that a call made itself leaves. -/
theorem Mv.on {g r r' : Nat} {a w w' : World} (h : Mv g r w r' w') (O : On a w) (hg : a.heap.size ≤ g) (hr : a.heap.size ≤ r) : On a w' ∧ a.heap.size ≤ r' := by
  refine ⟨h.kp.on O (fun x hx => ?_), ?_⟩
  · simp only [List.mem_cons, List.not_mem_nil, or_false] at hx
    rcases hx with rfl | rfl <;> assumption
  · have := O.size
    rcases h.at_ with e | e <;> omega
theorem IW.text {w : World} {g r : Nat} {bs : List Bool} (h : IW w g r bs) : ∃ v, w.cell? ⟨g, 0, none⟩ = some v ∧ (convert 28 9 v).run Tryz.prog w = .ok (.string (strB (pack bs))) w := by
  obtain ⟨v, hb, hy, _⟩ := h.out
  exact ⟨v, (hb.cell 0).trans rfl, bytes_conv hy⟩
theorem SW.text {w : World} {g r : Nat} {bs : List Bool} (h : SW w g r bs) (h8 : bs.length % 8 = 0) : ∃ v, w.cell? ⟨g, 0, none⟩ = some v ∧ (convert 28 9 v).run Tryz.prog w = .ok (.string (strB (pack bs))) w := by
  obtain ⟨v, hb, hy, _⟩ := h.out
  rw [show 8 * (bs.length / 8) = bs.length from by omega, List.take_length] at hy
  exact ⟨v, (hb.cell 0).trans rfl, bytes_conv hy⟩
theorem store_text (s : ByteArray) : strB (pack (En.storeBits s.size)) ++ s = strB (En.store (chars s)) := by
  rw [strB_app]; unfold En.store; rw [chars_length]
theorem store_bits8 (n : Nat) : (En.storeBits n).length % 8 = 0 := by rw [En.storeBits_length]
set_option maxRecDepth 100000 in
theorem sstore_calls (s : ByteArray) (w : World) (h : s.size ≤ 300) :
    Calls Tryz.prog 132 #[.string s] w (Tells w (.string (strB (En.store (chars s))))) := by
  have h' : (s.size : Int) ≤ 300 := by omega
  have HR : RowKit.Hid (strB (En.store (chars s)) = strB (pack (En.storeBits s.size)) ++ s) := Lib.hid (by rw [store_text])
  go_enter Tryz.func132, Tryz.ntmps132
  go_wp2_with fail
  refine (sput_calls _ _ [] 1 1 _ (sw_new w) (by omega) (by simp) (by omega)).mono ?_
  rintro e w1 ⟨r1, rfl, hw1, M1⟩
  obtain ⟨O1, hr1⟩ := M1.on ((On.refl w).alloc _) (Nat.le_refl _) (Nat.le_refl _)
  go_wp2_with fail
  refine (sput_calls _ _ _ 0 2 w1 hw1 (by omega) (by simp [bitsOf]) (by omega)).mono ?_
  rintro e w2 ⟨r2, rfl, hw2, M2⟩
  obtain ⟨O2, hr2⟩ := M2.on O1 (Nat.le_refl _) hr1
  have hw2' : SW w2 w.heap.size r2 (bitsOf 1 3) := hw2
  go_wp2_with fail
  refine (whole_calls _ _ _ w2 hw2' (by simp [bitsOf])).mono ?_
  rintro e w3 ⟨r3, rfl, hw3, M3⟩
  obtain ⟨O3, hr3⟩ := M3.on O2 (Nat.le_refl _) hr2
  go_wp2_with fail
  refine (sput_calls _ _ _ s.size 16 w3 hw3 (by omega) (by rw [pad_length]; simp [bitsOf]) (by omega)).mono ?_
  rintro e w4 ⟨r4, rfl, hw4, M4⟩
  obtain ⟨O4, hr4⟩ := M4.on O3 (Nat.le_refl _) hr3
  go_wp2_with fail
  rw [show (65535 : Int) - (s.size : Int) = ((65535 - s.size : Nat) : Int) from by omega]
  refine (sput_calls _ _ _ (65535 - s.size) 16 w4 hw4 (by omega) (by rw [List.length_append, pad_length, bits_length]; simp [bitsOf]) (by omega)).mono ?_
  rintro e w5 ⟨r5, rfl, hw5, M5⟩
  obtain ⟨O5, hr5⟩ := M5.on O4 (Nat.le_refl _) hr4
  have hw6 : SW w5 w.heap.size r5 (En.storeBits s.size) := hw5
  obtain ⟨v, c0, hconv⟩ := hw6.text (store_bits8 _)
  have hcat : ¬ (9223372036854775807 < (strB (pack (En.storeBits s.size))).size + s.size) := by rw [strB_size, pack_length, En.storeBits_length]; omega
  clear hw1 hw2 hw3 hw4 hw5 hw6 hw2'
  go_wp2_with fail
  go_ret
  exact ⟨by rw [HR.out]; rfl, O5⟩
end Go.Proofs.YtnadjlejlohgiaaGreatDoor.Wi

