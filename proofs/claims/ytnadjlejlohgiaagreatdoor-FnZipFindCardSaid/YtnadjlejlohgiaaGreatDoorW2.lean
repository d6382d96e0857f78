/- Own texts joined: Wr, Wi, Nu. -/
import Derived.Test.YtnadjlejlohgiaaGreatDoorChecked
import Derived.Lib.Hide
import Derived.WalkKit
import Derived.WalkSpells
import Derived.Laws.BitsLemmas
import Derived.StillTailTactics
import Derived.BigRegion
import Derived.OwnWalk
import Derived.Test.YtnadjlejlohgiaaGreatDoorW0
import Derived.Test.YtnadjlejlohgiaaGreatDoorW1
/- Small words on memory for what is written behind a pointer: what stays but for some blocks, where an append puts a row, a writer of bits. -/
namespace Go.Proofs.YtnadjlejlohgiaaGreatDoor.Mem
open Go.RowKit Go.Proofs.YtnadjlejlohgiaaGreatDoor.Bt
set_option linter.unusedVariables false
/-- Everything that was stays, but for blocks of S. -/
structure Kp (S : List Nat) (w w' : World) : Prop where mk :: (os : w'.os = w.os) (tape : w'.tape = w.tape) (output : w'.output = w.output) (size : w.heap.size ≤ w'.heap.size) (block : ∀ k, k < w.heap.size → k ∉ S → w'.heap[k]? = w.heap[k]?)
section
variable {S T : List Nat} {w w' w'' : World}
theorem Kp.refl (S : List Nat) (w : World) : Kp S w w := ⟨rfl, rfl, rfl, Nat.le_refl _, fun _ _ _ => rfl⟩
theorem Kp.trans (h : Kp S w w') (k : Kp T w' w'') (hT : ∀ x ∈ T, x ∈ S ∨ w.heap.size ≤ x) : Kp S w w'' :=
  ⟨k.os.trans h.os, k.tape.trans h.tape, k.output.trans h.output, Nat.le_trans h.size k.size, fun i hi hs => (k.block i (Nat.lt_of_lt_of_le hi h.size) (fun hh => by
    rcases hT i hh with a | a
    · exact hs a
    · omega)).trans (h.block i hi hs)⟩
theorem Kp.then (h : Kp S w w') (k : Kp S w' w'') : Kp S w w'' := h.trans k fun _ hx => .inl hx
theorem Kp.mono (h : Kp S w w') (hs : ∀ x ∈ S, x ∈ T ∨ w.heap.size ≤ x) : Kp T w w' := (Kp.refl T w).trans h hs
theorem Kp.of (S : List Nat) (h : On w w') : Kp S w w' := ⟨h.out.os, h.out.tape, h.out.output, h.out.size, fun i hi _ => h.out.block i hi⟩
theorem Kp.alloc (h : Kp S w w') (o : Obj) : Kp S w (w'.alloc o) := h.then (Kp.of S ((On.refl w').alloc o))
theorem Kp.drew (h : Kp S w w') : Kp S w w'.drew := h.then (Kp.of S ((On.refl w').drew))
theorem Kp.drewN (h : Kp S w w') (n : Nat) : Kp S w (w'.drewN n) := h.then (Kp.of S ((On.refl w').drewN n))
theorem Kp.on (h : Kp S w w') {a : World} (O : On a w) (hs : ∀ x ∈ S, a.heap.size ≤ x) : On a w' :=
  ⟨⟨h.os.trans O.out.os, h.tape.trans O.out.tape, h.output.trans O.out.output, Nat.le_trans O.size h.size, fun i hi => (h.block i (Nat.lt_of_lt_of_le hi O.size) (fun hh => by have := hs i hh; omega)).trans (O.out.block i hi)⟩⟩
theorem Kp.toOn (h : Kp [] w w') : On w w' := h.on (On.refl w) (fun x hx => by cases hx)
theorem Kp.set (h : Kp S w w') {p : Addr} (hp : p.block ∈ S ∨ w.heap.size ≤ p.block) (u : Value) : Kp S w (w'.setCell p u) := by
  refine ⟨h.os, h.tape, h.output, Nat.le_trans h.size ?_, fun i hi hs => (Below.heap_setCell w' p u i (fun e => ?_)).trans (h.block i hi hs)⟩
  · simp [World.setCell]
  · rcases hp with a | a
    · exact hs (e ▸ a)
    · omega
theorem Kp.blk {g t : Nat} {cs : Array Value} (h : Kp S w w') (b : Blk w g t cs) (hg : g ∉ S) : Blk w' g t cs := ⟨(h.block g b.lt hg).trans b.out⟩
theorem Kp.row {g t : Nat} {xs : List Value} (h : Kp S w w') (b : Row w g t xs) (hg : g ∉ S) : Row w' g t xs := by
  obtain ⟨cs, hb, ht⟩ := b.out
  exact ⟨cs, h.blk hb hg, ht⟩
theorem Kp.cell (h : Kp S w w') {p : Addr} (hp : p.block < w.heap.size) (hs : p.block ∉ S) : w'.cell? p = w.cell? p := World.cell?_of_block (h.block _ hp hs)
theorem Kp.owns {base : Nat} {e : TypeId} {size n : Nat} {v : Value} {xs : List Value} (h : Kp S w w') (b : w.ownsRow base e size v n xs) (hg : ∀ g, v.ownBlock = some g → g ∉ S) : w'.ownsRow base e size v n xs := by
  refine ⟨b.1, ?_⟩
  rcases b.2 with h0 | ⟨g, cap, cur, hv, hb, hh, rest⟩
  · exact .inl h0
  · have hlt : g < w.heap.size := by
      rcases Nat.lt_or_ge g w.heap.size with hlt | hge
      · exact hlt
      · rw [Array.getElem?_eq_none hge] at hh; cases hh
    exact .inr ⟨g, cap, cur, hv, hb, (h.block g hlt (hg g (by rw [hv]; rfl))).trans hh, rest⟩
theorem Kp.grown {row : Option Nat} (h : w.grownBy w' row) (hr : ∀ g, row = some g → g ∈ S) : Kp S w w' :=
  ⟨h.os, h.tape, h.output, h.size, fun k hk hs => h.block k hk (fun e => hs (hr k e.symm))⟩
end
section
variable {P : Program}
/-- Where an append puts the row: where it was, or in new memory. -/
theorem run_app_at (w : World) (base : Nat) (t ty e : TypeId) (i : TypeInfo) (z : Value) (size bytes : Nat) (ht : P.underlying t = some (.slice e)) (hi : P.info? e = some i) (hz : i.zero = some z)
    (hsize : i.size = size) (hby : i.bytes = bytes) (hzs : z.cells.size = size) (hsz : 0 < size)
    (v : Value) (n : Nat) (xs : List Value) (hown : w.ownsRow base e size v n xs)
    (a : Addr) (m c : Nat) (news : List Value) (hl : news.length = m * size) (hnews : ∀ j u, news[j]? = some u → w.cell? (a.add j) = some u) (h1 : ∀ u ∈ news, u.oneCell' = true)
    (h63 : n + m ≤ maxLen) (hbytes : (n + m) * bytes ≤ 140737488355328) (hbase : base ≤ w.heap.size) :
    ∃ v' w', (Builtin.append_ #[t, t] ty #[v, .slice (some a) m c]).run P w = .ok v' w' ∧ w'.ownsRow base e size v' (n + m) (xs ++ news) ∧ w.grownBy w' v.ownBlock ∧
      (v' = .slice none 0 0 ↔ v = .slice none 0 0 ∧ m = 0) ∧ ∀ g, v'.ownBlock = some g → v.ownBlock = some g ∨ w.heap.size ≤ g := by
  obtain ⟨v', w', hr, h2, h3, h4⟩ := run_append_own (P := P) w base t ty e i z size bytes ht hi hz hsize hby hzs hsz v n xs hown a m c news hl hnews h1 h63 hbytes hbase
  refine ⟨v', w', hr, h2, h3, h4, fun g' hg' => ?_⟩
  subst hsize
  subst hby
  rcases hown.2 with ⟨rfl, rfl⟩ | ⟨g, cap, cur, rfl, hbg, hg, hnc, hcm, hcs, htake⟩
  · have hx : xs = [] := List.eq_nil_of_length_eq_zero (by simpa using hown.1)
    subst hx
    obtain ⟨v2, w2, hr2, k2, _⟩ := run_append_own (P := P) w w.heap.size t ty e i z i.size i.bytes ht hi hz rfl rfl hzs hsz (.slice none 0 0) 0 [] (World.ownsRow_nil _ _ _ _) a m c news hl hnews h1 h63 hbytes (Nat.le_refl _)
    rw [hr] at hr2
    cases hr2
    exact .inr (own_base k2 g' hg')
  · by_cases hroom : n + m ≤ cap
    · have hfit : n * i.size + news.length ≤ cur.size := by rw [hl, hcs, ← Nat.add_mul]; exact Nat.mul_le_mul_right _ hroom
      have hr2 := run_append_room (P := P) w t ty e i ht hi g n cap cur hg a m c news hl hnews h1 hroom hfit
      rw [hr] at hr2
      cases hr2
      exact .inl hg'
    · have hr2 := run_append_grow (P := P) w t ty e i z ht hi hz ⟨g, 0, none⟩ n cap xs hown.1 (hown.cells (g := g) rfl) a m c news hl hnews (by omega) (by simp only [maxLen] at h63; omega) (growslice_fits (by omega) hbytes)
      rw [hr] at hr2
      cases hr2
      simp only [Value.ownBlock, Option.some.injEq] at hg'
      right; omega
theorem wpList_app_at {ops : Array Oper} {rest : List Oper} {o : Oper} {act : Act} {Q : Exit → Act → World → Prop} {wr : World} {e : TypeId} {us : Array Value} (hgd : o.guard = none) (s x : Operand) (t : TypeId)
    (ho : o.op = .call { callee := .builtin .append, args := #[s, x], argTypes := #[t, t] })
    (i : TypeInfo) (z : Value) (bytes size : Nat) (ht : P.underlying t = some (.slice e)) (hi : P.info? e = some i) (hz : i.zero = some z)
    (hsize : i.size = size) (hby : i.bytes = bytes) (hzs : z.cells.size = size) (hsz : 0 < size) (hus : us.size = size)
    (v : Value) (n : Nat) (xs : List Value) (hs : act.eval s = v) (hown : wr.ownsRow 0 e size v n xs)
    (hx : act.eval x = .slice (some ⟨wr.heap.size, 0, none⟩) 1 1) (h1 : ∀ u ∈ us.toList, u.oneCell' = true) (h63 : n + 1 ≤ maxLen) (hbytes : (n + 1) * bytes ≤ 140737488355328)
    (h : ∀ v' w', w'.ownsRow 0 e size v' (n + 1) (xs ++ us.toList) → wr.grownBy w' v.ownBlock → v' ≠ .slice none 0 0 → (∀ g, v'.ownBlock = some g → v.ownBlock = some g ∨ wr.heap.size ≤ g) → wpList P ops Q rest (act.put o.dst v') w') :
    wpList P ops Q (o :: rest) act (wr.alloc (.cells us e)) := by
  refine wpList_plain hgd fun _ hK => ?_
  have hnews : ∀ j u, us.toList[j]? = some u → (wr.alloc (.cells us e)).cell? ((⟨wr.heap.size, 0, none⟩ : Addr).add j) = some u := by
    intro j u hu
    have e0 : (⟨wr.heap.size, 0, none⟩ : Addr).add j = ⟨wr.heap.size, j, none⟩ := by unfold Addr.add; simp; omega
    rw [e0, (Blk.new wr e us).cell j]
    simpa using hu
  obtain ⟨v', w', hr, h2, h3, h4, h5⟩ := run_app_at (P := P) (wr.alloc (.cells us e)) 0 t o.type e i z size bytes ht hi hz hsize hby hzs hsz v n xs (hown.alloc _) ⟨wr.heap.size, 0, none⟩ 1 1 us.toList (by simp [hus]) hnews h1 h63 hbytes (Nat.zero_le _)
  unfold Oper.wp execOp
  simp only [ho, resolve, invoke, builtin, Sem.run_bind, Sem.run_pure, Result.andThen_ok, List.map_toArray, List.map_cons, List.map_nil, hs, hx, hr]
  have hg0 := World.grownBy_alloc wr (.cells us e) v.ownBlock
  refine hK _ _ (h v' w' h2 ⟨h3.os.trans hg0.os, h3.tape.trans hg0.tape, h3.output.trans hg0.output, Nat.le_trans hg0.size h3.size, fun k hk hn => (h3.block k (Nat.lt_of_lt_of_le hk hg0.size) hn).trans (hg0.block k hk hn)⟩ (fun e0 => by have := (h4.1 e0).2; omega) (fun g hg => ?_))
  rcases h5 g hg with a | a
  · exact .inl a
  · right; have := hg0.size; omega
end
/-- Bytes as cells. -/
def u8s (l : List Nat) : List Value := l.map fun n : Nat => Value.int .u8 (n : Int)
theorem u8s_get {l : List Nat} {i : Nat} (h : i < l.length) : (u8s l)[i]? = some (.int .u8 (l.getD i 0 : Nat)) := by
  unfold u8s; rw [List.getElem?_map, List.getElem?_eq_getElem h, List.getD_eq_getElem?_getD, List.getElem?_eq_getElem h]; rfl
/-- A row of bytes at block r (or nil, then r is no matter) of a writer. -/
structure Bytes (w : World) (r : Nat) (v : Value) (l : List Nat) : Prop where
  own : w.ownsRow 0 5 1 v l.length (u8s l)
  at_ : ∀ g, v.ownBlock = some g → g = r
section
variable {w w' : World} {r : Nat} {v : Value} {l : List Nat}
theorem Bytes.parts (h : Bytes w r v l) (hne : l ≠ []) : ∃ cap, v = .slice (some ⟨r, 0, none⟩) l.length cap ∧ l.length ≤ cap ∧ cap ≤ maxLen ∧ Row w r 5 (u8s l) := by
  rcases h.own.2 with ⟨_, h0⟩ | ⟨g, cap, cur, hv, _, hh, h1, h2, h3, h4⟩
  · exact absurd (List.length_eq_zero_iff.1 h0) hne
  · have : g = r := h.at_ g (by rw [hv]; rfl)
    subst this
    exact ⟨cap, hv, h1, h2, ⟨cur, ⟨hh⟩, by rw [h.own.1]; exact h4⟩⟩
theorem Bytes.slice (h : Bytes w r v l) : (v = .slice none 0 0 ∧ l = []) ∨ ∃ cap, v = .slice (some ⟨r, 0, none⟩) l.length cap ∧ l.length ≤ cap ∧ cap ≤ maxLen := by
  rcases h.own.2 with ⟨h1, h0⟩ | ⟨g, cap, cur, hv, _, hh, h1, h2, h3, h4⟩
  · exact .inl ⟨h1, List.length_eq_zero_iff.1 h0⟩
  · have : g = r := h.at_ g (by rw [hv]; rfl)
    subst this
    exact .inr ⟨cap, hv, h1, h2⟩
theorem Bytes.kp {S : List Nat} (h : Bytes w r v l) (k : Kp S w w') (hr : r ∉ S) : Bytes w' r v l := ⟨k.owns h.own (fun g hg => by rw [h.at_ g hg]; exact hr), h.at_⟩
theorem Bytes.set (h : Bytes w r v l) (hne : l ≠ []) (i x : Nat) : Bytes (w.setCell ⟨r, i, none⟩ (.int .u8 (x : Int))) r v (l.set i x) := by
  obtain ⟨cap, hv, _⟩ := h.parts hne
  have ho := h.own
  rw [hv] at ho
  have := ho.stored i (.int .u8 (x : Int))
  refine ⟨?_, h.at_⟩
  rw [hv]
  have e : (u8s l).set i (.int .u8 (x : Int)) = u8s (l.set i x) := by unfold u8s; rw [List.map_set]
  rw [List.length_set, ← e]
  exact this.1
end
/-- A row of bytes after an append. -/
theorem bytes_app {wr w1 : World} {r : Nat} {v v' : Value} {l : List Nat} {x : Nat} (h : Bytes wr r v l)
    (hown : w1.ownsRow 0 5 1 v' (l.length + 1) (u8s l ++ (#[.int .u8 (x : Int)] : Array Value).toList)) (hg : wr.grownBy w1 v.ownBlock) (hne : v' ≠ .slice none 0 0) (hat : ∀ k, v'.ownBlock = some k → v.ownBlock = some k ∨ wr.heap.size ≤ k) :
    ∃ r2 cap, v' = .slice (some ⟨r2, 0, none⟩) (l.length + 1) cap ∧ Bytes w1 r2 v' (l ++ [x]) ∧ (r2 = r ∨ wr.heap.size ≤ r2) ∧ r2 < w1.heap.size ∧ Kp [r] wr w1 ∧ l.length + 1 ≤ cap ∧ cap ≤ maxLen := by
  have e : u8s l ++ (#[.int .u8 (x : Int)] : Array Value).toList = u8s (l ++ [x]) := by unfold u8s; rw [List.map_append]; rfl
  rw [e] at hown
  rcases hown.2 with ⟨h0, _⟩ | ⟨k, cap, cur, hv, _, hh, h1, h2, h3, h4⟩
  · exact absurd h0 hne
  · have hb : v'.ownBlock = some k := by rw [hv]; rfl
    have hk : k = r ∨ wr.heap.size ≤ k := by
      rcases hat k hb with a | a
      · exact .inl (h.at_ k a)
      · exact .inr a
    refine ⟨k, cap, hv, ⟨by simpa using hown, fun j hj => by rw [hb] at hj; cases hj; rfl⟩, hk, ?_, ?_, h1, h2⟩
    · rcases Nat.lt_or_ge k w1.heap.size with hl | hl
      · exact hl
      · rw [Array.getElem?_eq_none hl] at hh; cases hh
    · exact Kp.grown hg (fun j hj => by rw [h.at_ j hj]; simp)
theorem u8info : (Tryz.prog.info? 5).map (fun i => (i.zero, i.size, i.bytes)) = some (some (.int .u8 0), 1, 1) := by kernel_rfl
/-- b = append(b, x): one byte more. -/
theorem wpList_byte {ops : Array Oper} {rest : List Oper} {o : Oper} {act : Act} {Q : Exit → Act → World → Prop} {wr : World} (hgd : o.guard = none) (s y : Operand)
    (ho : o.op = .call { callee := .builtin .append, args := #[s, y], argTypes := #[28, 28] })
    {r : Nat} {v : Value} {l : List Nat} {x : Nat} (hs : act.eval s = v) (hby : Bytes wr r v l) (hx : act.eval y = .slice (some ⟨wr.heap.size, 0, none⟩) 1 1) (hl : l.length ≤ 100000000)
    (h : ∀ r2 cap w1, Bytes w1 r2 (.slice (some ⟨r2, 0, none⟩) (l.length + 1) cap) (l ++ [x]) → (r2 = r ∨ wr.heap.size ≤ r2) → r2 < w1.heap.size → Kp [r] wr w1 → l.length + 1 ≤ cap → cap ≤ maxLen →
      wpList Tryz.prog ops Q rest (act.put o.dst (.slice (some ⟨r2, 0, none⟩) (l.length + 1) cap)) w1) :
    wpList Tryz.prog ops Q (o :: rest) act (wr.alloc (.cells #[.int .u8 (x : Int)] 5)) := by
  obtain ⟨i0, hi, hz0, hz1, hz2⟩ := info_parts u8info
  refine wpList_app_at hgd s y 28 ho i0 (.int .u8 0) 1 1 Tryz.underlying28 hi hz0 hz1 hz2 rfl (by decide) rfl v _ _ hs hby.own hx (by simp [Value.oneCell']) (by unfold maxLen; omega) (by omega) ?_
  intro v' w1 hown' hg' hne' hat'
  obtain ⟨r2, cap2, rfl, hby2, hr2, hrl2, K2, hc1, hc2⟩ := bytes_app hby hown' hg' hne' hat'
  exact h r2 cap2 w1 hby2 hr2 hrl2 K2 hc1 hc2
/-- b = append(b, x) as a step of a region that draws its order. -/
theorem step_byte {ops : Array Oper} {o : Oper} {act : Act} {K : Act → World → Prop} {Q : Exit → Act → World → Prop} {E : Prop} {W : World} (hgd : o.guard = none) (s y : Operand)
    (ho : o.op = .call { callee := .builtin .append, args := #[s, y], argTypes := #[28, 28] })
    {r : Nat} {v : Value} {l : List Nat} {x B : Nat} (hs : act.eval s = v) (hby : Bytes W r v l) (hx : act.eval y = .slice (some ⟨B, 0, none⟩) 1 1) (hB : W.heap[B]? = some (.cells #[.int .u8 (x : Int)] 5 (0, 0))) (hl : l.length ≤ 100000000)
    (h : ∀ r2 cap w1, Bytes w1 r2 (.slice (some ⟨r2, 0, none⟩) (l.length + 1) cap) (l ++ [x]) → (r2 = r ∨ W.heap.size ≤ r2) → r2 < w1.heap.size → Kp [r] W w1 → l.length + 1 ≤ cap → cap ≤ maxLen →
      K (act.put o.dst (.slice (some ⟨r2, 0, none⟩) (l.length + 1) cap)) w1) :
    if Region.wanted o (yielded ops act.tmps) = true then Oper.wp Tryz.prog o act W K Q else E := by
  obtain ⟨i0, hi, hz0, hz1, hz2⟩ := info_parts u8info
  have hw : Region.wanted o (yielded ops act.tmps) = true := by simp [Region.wanted, hgd]
  rw [if_pos hw]
  have hnews : ∀ j u, (#[.int .u8 (x : Int)] : Array Value).toList[j]? = some u → W.cell? ((⟨B, 0, none⟩ : Addr).add j) = some u := by
    intro j u hu
    have e0 : (⟨B, 0, none⟩ : Addr).add j = ⟨B, j, none⟩ := by unfold Addr.add; simp; omega
    rw [e0, (Blk.mk hB).cell j]
    simpa using hu
  obtain ⟨v', w', hr, h2, h3, h4, h5⟩ := run_app_at (P := Tryz.prog) W 0 28 o.type 5 i0 (.int .u8 0) 1 1 Tryz.underlying28 hi hz0 hz1 hz2 rfl (by decide) v _ _ hby.own ⟨B, 0, none⟩ 1 1 (#[.int .u8 (x : Int)] : Array Value).toList rfl hnews (by simp [Value.oneCell']) (by unfold maxLen; omega) (by omega) (Nat.zero_le _)
  obtain ⟨r2, cap2, rfl, hby2, hr2, hrl2, K2, hc1, hc2⟩ := bytes_app hby h2 h3 (fun e0 => by have := (h4.1 e0).2; omega) h5
  unfold Oper.wp execOp
  simp only [ho, resolve, invoke, builtin, Sem.run_bind, Sem.run_pure, Result.andThen_ok, List.map_toArray, List.map_cons, List.map_nil, hs, hx, hr]
  exact h r2 cap2 w' hby2 hr2 hrl2 K2 hc1 hc2
end Go.Proofs.YtnadjlejlohgiaaGreatDoor.Mem

/- The program's writer of bits: what put and even do. Conditions: a writer, sizes. -/
namespace Go.Proofs.YtnadjlejlohgiaaGreatDoor.Wi
open Go.RowKit Go.Proofs.YtnadjlejlohgiaaGreatDoor.Mem Go.Proofs.YtnadjlejlohgiaaGreatDoor.Bt
set_option linter.unusedVariables false
set_option linter.unusedSimpArgs false
/-- The program's writer at block g, its bytes at block r: what bits it holds. -/
structure IW (w : World) (g r : Nat) (bs : List Bool) : Prop where mk :: (out : ∃ v, Blk w g 111 #[v, .int .i64 bs.length] ∧ Bytes w r v (pack bs) ∧ (r ≠ g ∨ v = .slice none 0 0))
/-- What a call on a writer leaves: all but the writer's two blocks. -/
structure Mv (g r : Nat) (w : World) (r' : Nat) (w' : World) : Prop where
  kp : Kp [g, r] w w'
  at_ : r' = r ∨ w.heap.size ≤ r'
  lt : r < w.heap.size → r' < w'.heap.size
theorem mv_kp {g r : Nat} {w w' : World} (k : Kp [g, r] w w') : Mv g r w r w' := ⟨k, .inl rfl, fun h => Nat.lt_of_lt_of_le h k.size⟩
theorem Bytes.kp2 {w w' : World} {g r : Nat} {v : Value} {l : List Nat} (h : Bytes w r v l) (hor : r ≠ g ∨ v = .slice none 0 0) (k : Kp [g] w w') : Bytes w' r v l :=
  ⟨k.owns h.own (fun j hj => by
    rcases hor with e | e
    · rw [h.at_ j hj]; simpa using e
    · rw [e] at hj; simp [Value.ownBlock] at hj), h.at_⟩
/-- A block for the bytes: theirs, or (there are none) none at all. -/
theorem pick {w : World} {g r : Nat} {v : Value} {l : List Nat} (hg : g < w.heap.size) (hb : Bytes w r v l) (h : r ≠ g ∨ v = .slice none 0 0) : ∃ r0, Bytes w r0 v l ∧ r0 ≠ g ∧ (r0 = r ∨ r0 = w.heap.size) := by
  by_cases e : v = .slice none 0 0
  · exact ⟨w.heap.size, ⟨hb.own, fun k hk => by rw [e] at hk; simp [Value.ownBlock] at hk⟩, by omega, .inr rfl⟩
  · rcases h with h | h
    · exact ⟨r, hb, h, .inl rfl⟩
    · exact absurd h e
theorem mv_of {g r r0 r2 : Nat} {w w2 : World} (h : r0 = r ∨ r0 = w.heap.size) (k : Kp [g, r0] w w2) (h2 : r2 = r0 ∨ w.heap.size ≤ r2) (h3 : r2 < w2.heap.size) : Mv g r w r2 w2 := by
  refine ⟨k.mono (fun x hx => ?_), ?_, fun _ => h3⟩
  · simp only [List.mem_cons, List.not_mem_nil, or_false] at hx ⊢
    rcases hx with rfl | rfl
    · exact .inl (.inl rfl)
    · rcases h with rfl | rfl
      · exact .inl (.inr rfl)
      · exact .inr (Nat.le_refl _)
  · rcases h with rfl | rfl <;> rcases h2 with e | e <;> omega
theorem Mv.refl (g r : Nat) (w : World) : Mv g r w r w := mv_kp (Kp.refl _ _)
theorem Mv.trans {g r r1 r2 : Nat} {w w1 w2 : World} (h : Mv g r w r1 w1) (k : Mv g r1 w1 r2 w2) : Mv g r w r2 w2 := by
  refine ⟨h.kp.trans k.kp (fun x hx => ?_), ?_, fun hh => k.lt (h.lt hh)⟩
  · simp only [List.mem_cons, List.not_mem_nil, or_false] at hx ⊢
    rcases hx with rfl | rfl
    · exact .inl (.inl rfl)
    · rcases h.at_ with e | e
      · exact .inl (.inr e)
      · exact .inr e
  · have := h.kp.size
    rcases k.at_ with e | e
    · rw [e]; exact h.at_
    · right; omega
theorem tmod_nat (a b : Nat) : Int.tmod (a : Int) (b : Int) = ((a % b : Nat) : Int) := by rw [Int.tmod_eq_emod_of_nonneg (by omega)]; simp
theorem tdiv_nat (a b : Nat) : Int.tdiv (a : Int) (b : Int) = ((a / b : Nat) : Int) := by rw [Int.tdiv_eq_ediv_of_nonneg (by omega)]; simp
theorem wr_i64 (n : Int) (h₀ : 0 ≤ n) (h₁ : n < 2 ^ 63) : IntKind.i64.wrap n = n := by rw [IntKind.wrap_i64]; omega
theorem wr_u8 (n : Int) (h₀ : 0 ≤ n) (h₁ : n < 2 ^ 8) : IntKind.u8.wrap n = n := by
  have e : IntKind.u8.wrap n = n % 256 := rfl
  rw [e]; omega
theorem and_mask (i : Nat) (hi : i ≤ 63) {x m : Int} (hm : m = 2 ^ i - 1) (h0 : 0 ≤ x) (h1 : x < 9223372036854775808) : Go.bits .and .i64 x m = x % 2 ^ i := by
  subst hm
  exact bits_mask .i64 63 (by decide) wr_i64 i hi x h0 (by omega)
theorem bit_and (num k : Nat) (h : num < 9223372036854775808) : Go.bits .and .i64 ((num : Int) / 2 ^ k) 1 = ((num / 2 ^ k % 2 : Nat) : Int) := by
  have e : ((num : Int) / 2 ^ k) = ((num / 2 ^ k : Nat) : Int) := by simp
  have h2 : num / 2 ^ k ≤ num := Nat.div_le_self _ _
  generalize num / 2 ^ k = y at *
  rw [e, and_mask 1 (by omega) (by decide) (by omega) (by omega)]
  omega
end Go.Proofs.YtnadjlejlohgiaaGreatDoor.Wi

/- Small words on rows of whole numbers: one that a call made, one that is only read, making one. -/
namespace Go.Proofs.YtnadjlejlohgiaaGreatDoor.Mem
open Go.RowKit
set_option linter.unusedVariables false
/-- Numbers as cells. -/
def i64s (l : List Nat) : List Value := l.map fun n : Nat => Value.int .i64 (n : Int)
theorem i64s_length (l : List Nat) : (i64s l).length = l.length := by simp [i64s]
theorem i64s_get {l : List Nat} {i : Nat} (h : i < l.length) : (i64s l)[i]? = some (.int .i64 (l.getD i 0 : Nat)) := by
  unfold i64s; rw [List.getElem?_map, List.getElem?_eq_getElem h, List.getD_eq_getElem?_getD, List.getElem?_eq_getElem h]; rfl
/-- A row that is only read, from a place of its block on. -/
structure RowO (w : World) (g o t : Nat) (xs : List Value) : Prop where mk :: (out : ∃ cs, Blk w g t cs ∧ (cs.toList.drop o).take xs.length = xs)
section
variable {w w' : World} {g o t : Nat} {xs : List Value}
theorem RowO.lt (h : RowO w g o t xs) : g < w.heap.size := by obtain ⟨cs, hb, _⟩ := h.out; exact hb.lt
theorem RowO.cell (h : RowO w g o t xs) {i : Nat} {x : Value} (hx : xs[i]? = some x) : w.cell? ⟨g, o + i, none⟩ = some x := by
  obtain ⟨cs, hb, ht⟩ := h.out
  rw [hb.cell, ← hx, ← Array.getElem?_toList, ← ht, List.getElem?_take, List.getElem?_drop]
  have : i < xs.length := by
    rcases Nat.lt_or_ge i xs.length with hl | hl
    · exact hl
    · rw [List.getElem?_eq_none hl] at hx; cases hx
  rw [if_pos (by simpa [ht] using this)]
theorem RowO.kp {S : List Nat} (h : RowO w g o t xs) (k : Kp S w w') (hg : g ∉ S) : RowO w' g o t xs := by
  obtain ⟨cs, hb, ht⟩ := h.out
  exact ⟨cs, k.blk hb hg, ht⟩
theorem RowO.on (h : RowO w g o t xs) (O : On w w') : RowO w' g o t xs := h.kp (Kp.of [] O) (by simp)
theorem Row.toO (h : Row w g t xs) : RowO w g 0 t xs := by obtain ⟨cs, hb, ht⟩ := h.out; exact ⟨cs, hb, ht⟩
theorem Row.sub (h : Row w g t xs) (a n : Nat) : RowO w g a t ((xs.drop a).take n) := by
  obtain ⟨cs, hb, ht⟩ := h.out
  refine ⟨cs, hb, ?_⟩
  have e : (xs.drop a).take n = (cs.toList.drop a).take (min n (xs.length - a)) := by
    conv => lhs; rw [← ht]
    rw [List.drop_take, List.take_take]
  rw [List.length_take, List.length_drop]
  exact e.symm
end
/-- A row of numbers at block r that a call made. -/
structure Nums (w : World) (r : Nat) (v : Value) (l : List Nat) : Prop where
  own : w.ownsRow 0 3 1 v l.length (i64s l)
  at_ : ∀ g, v.ownBlock = some g → g = r
section
variable {w w' : World} {r : Nat} {l : List Nat} {n cap : Nat} {v : Value}
theorem Nums.kp {S : List Nat} (h : Nums w r v l) (k : Kp S w w') (hr : r ∉ S) : Nums w' r v l := ⟨k.owns h.own (fun g hg => by rw [h.at_ g hg]; exact hr), h.at_⟩
theorem Nums.on (h : Nums w r v l) (O : On w w') : Nums w' r v l := h.kp (Kp.of [] O) (by simp)
theorem Nums.row (h : Nums w r (.slice (some ⟨r, 0, none⟩) n cap) l) : Row w r 3 (i64s l) ∧ n = l.length ∧ n ≤ cap ∧ cap ≤ maxLen := by
  rcases h.own.2 with ⟨h0, _⟩ | ⟨g, c, cur, hv, _, hh, h1, h2, h3, h4⟩
  · cases h0
  · cases hv
    exact ⟨⟨cur, ⟨hh⟩, by rw [h.own.1]; exact h4⟩, rfl, h1, h2⟩
theorem Nums.slice (h : Nums w r v l) (hn : v ≠ .slice none 0 0) : ∃ cap, v = .slice (some ⟨r, 0, none⟩) l.length cap ∧ l.length ≤ cap ∧ cap ≤ maxLen ∧ Row w r 3 (i64s l) := by
  rcases h.own.2 with ⟨h0, _⟩ | ⟨g, c, cur, hv, _, hh, h1, h2, h3, h4⟩
  · exact absurd h0 hn
  · have : g = r := h.at_ g (by rw [hv]; rfl)
    subst this
    exact ⟨c, hv, h1, h2, ⟨cur, ⟨hh⟩, by rw [h.own.1]; exact h4⟩⟩
theorem Nums.set (h : Nums w r (.slice (some ⟨r, 0, none⟩) n cap) l) (i x : Nat) : Nums (w.setCell ⟨r, i, none⟩ (.int .i64 (x : Int))) r (.slice (some ⟨r, 0, none⟩) n cap) (l.set i x) := by
  have hn := h.row.2.1
  have ho := h.own
  subst hn
  have := ho.stored i (.int .i64 (x : Int))
  refine ⟨?_, h.at_⟩
  have e : (i64s l).set i (.int .i64 (x : Int)) = i64s (l.set i x) := by unfold i64s; rw [List.map_set]
  rw [List.length_set, ← e]
  exact this.1
end
theorem i64info : (Tryz.prog.info? 3).map (fun i => (i.zero, i.size, i.bytes)) = some (some (.int .i64 0), 1, 8) := by kernel_rfl
/-- make([]int, n). -/
theorem wpList_ints {ops : Array Oper} {rest : List Oper} {o : Oper} {a : Act} {Q : Exit → Act → World → Prop} (W : World) (hg : o.guard = none) (l c : Operand) (hop : o.op = Op.makeSlice 98 l c)
    (L C : Int) (n : Nat) (hl : a.eval l = .int .i64 L) (hc : a.eval c = .int .i64 C) (hL : L = (n : Int)) (hC : C = (n : Int)) (hn : n ≤ 1000000)
    (hK : ∀ w1, Nums w1 W.heap.size (.slice (some ⟨W.heap.size, 0, none⟩) n n) (List.replicate n 0) → On W w1 → W.heap.size < w1.heap.size → wpList Tryz.prog ops Q rest (a.put o.dst (.slice (some ⟨W.heap.size, 0, none⟩) n n)) w1) :
    wpList Tryz.prog ops Q (o :: rest) a W := by
  obtain ⟨i0, hi, hz0, hz1, hz2⟩ := info_parts i64info
  refine wpList_make_full W hg l c 98 hop 0 3 i0 (.int .i64 0) 1 Tryz.underlying98 hi hz0 hz1 .i64 .i64 L C n hl hc hL hC (by rw [hz2]; omega) (by unfold maxLen; omega) (Nat.zero_le _) ?_
  intro w1 hown hgr
  have e : (madeCells (Value.int .i64 0).cells (n * 1)).toList = i64s (List.replicate n 0) := by
    rw [show (Value.int .i64 0).cells = #[.int .i64 0] from rfl, toList_madeCells_one, Nat.mul_one]
    unfold i64s; rw [List.map_replicate]; rfl
  rw [e] at hown
  have hlt : W.heap.size < w1.heap.size := by
    rcases hown.2 with ⟨h0, _⟩ | ⟨g, c, cur, hv, _, hh, _⟩
    · cases h0
    · cases hv
      rcases Nat.lt_or_ge W.heap.size w1.heap.size with hl | hl
      · exact hl
      · rw [Array.getElem?_eq_none hl] at hh; cases hh
  exact hK w1 ⟨by rw [List.length_replicate]; exact hown, fun g hg => by simp [Value.ownBlock] at hg; exact hg.symm⟩ ((Kp.grown hgr (S := []) (fun g h => by cases h)).toOn) hlt
/-- What a contract tells that makes numbers: a row of its own, and what was stays. -/
def GivesI (w : World) (l : List Nat) (e : Ending) (w' : World) : Prop := ∃ r cap, e = .returned (.slice (some ⟨r, 0, none⟩) l.length cap) ∧ Nums w' r (.slice (some ⟨r, 0, none⟩) l.length cap) l ∧ w.heap.size ≤ r ∧ r < w'.heap.size ∧ On w w'
end Go.Proofs.YtnadjlejlohgiaaGreatDoor.Mem

