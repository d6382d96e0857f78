/- Own texts joined: Db, Sq, Lr, Lx, Ly, Eq. -/
import Derived.Deep.DeepCutAuto
import Derived.Deep.CutRange
import Derived.Lib.Hide
import Derived.WalkKit
import Derived.Deep.RegionHeld3
import Derived.Test.YtncidljdfipigaaDoorZ0
import Derived.Test.YtncidljdfipigaaDoorZ2
import Derived.Test.YtncidljdfipigaaDoorZ10
import Derived.Test.YtncidljdfipigaaDoorZ11
/- What is unpacked is no longer than three hundred bytes. Nothing of the program stands here. -/
namespace Go.Proofs.YtncidljdfipigaaDoor.De
open Go.Proofs.YtncidljdfipigaaDoor.Bt Go.Proofs.YtncidljdfipigaaDoor.Cd
set_option linter.unusedVariables false
/-- Whatever it reads is as told. -/
def Yields {α : Type} (d : Dec α) (P : α → Prop) : Prop := ∀ s a r, d s = some (a, r) → P a
theorem Yields.bad {α : Type} {P : α → Prop} : Yields (bad : Dec α) P := fun s a r h => by cases h
theorem Yields.ret {α : Type} {P : α → Prop} {a : α} (h : P a) : Yields (ret a) P := fun s b r hb => by cases hb; exact h
theorem Yields.next {α β : Type} {P : α → Prop} {Q : β → Prop} {d : Dec α} {f : α → Dec β} (h : Yields d P) (k : ∀ a, P a → Yields (f a) Q) : Yields (next d f) Q := fun s b r hb => by
  unfold De.next at hb
  cases hd : d s with
  | none => rw [hd] at hb; cases hb
  | some x =>
    obtain ⟨a, t⟩ := x
    rw [hd] at hb
    exact k a (h s a t hd) t b r hb
theorem Yields.any {α : Type} (d : Dec α) : Yields d (fun _ => True) := fun _ _ _ _ => trivial
theorem Yields.then {α β : Type} {Q : β → Prop} {d : Dec α} {f : α → Dec β} (k : ∀ a, Yields (f a) Q) : Yields (De.next d f) Q := Yields.next (Yields.any d) fun a _ => k a
theorem Yields.ite {α : Type} {P : α → Prop} {c : Prop} [Decidable c] {a b : Dec α} (ha : c → Yields a P) (hb : ¬ c → Yields b P) : Yields (if c then a else b) P := by
  by_cases h : c
  · rw [if_pos h]; exact ha h
  · rw [if_neg h]; exact hb h
theorem packN_length : ∀ (n : Nat) (l : List Bool), (packN n l).length = n
  | 0, _ => rfl
  | n + 1, l => by rw [packN, List.length_cons, packN_length n]
theorem bytes_len (n : Nat) : Yields (bytes n) (fun x => x.length = n) := fun s a r h => by
  unfold bytes at h
  split at h
  · cases h; exact packN_length n _
  · cases h
abbrev Small (o : List Nat) : Prop := o.length ≤ 300
theorem stored_small (out : List Nat) : Yields (stored out) Small :=
  Yields.then fun _ => Yields.then fun n => Yields.then fun m => Yields.ite (fun h => Yields.next (bytes_len n) fun x hx => Yields.ret (by show (out ++ x).length ≤ 300; rw [List.length_append]; omega)) fun _ => Yields.bad
theorem put_small (out : List Nat) (long back : Nat) : Yields (put out long back) Small := by
  unfold De.put
  split
  · exact Yields.ite (fun h => Yields.ret h) fun _ => Yields.bad
  · exact Yields.bad
theorem again_small (dist out : List Nat) (k : Nat) : Yields (again dist out k) Small :=
  Yields.ite (fun _ => Yields.bad) fun _ => Yields.then fun _ => Yields.then fun _ => Yields.ite (fun _ => Yields.bad) fun _ => Yields.then fun _ => put_small _ _ _
theorem packed_small (lit dist : List Nat) : ∀ (f : Nat) (out : List Nat), Small out → Yields (packed lit dist f out) Small
  | 0, _, _ => Yields.bad
  | f + 1, out, h => Yields.then fun s => Yields.ite (fun _ => Yields.ret h) fun _ => Yields.ite (fun _ => Yields.ite (fun hl => packed_small lit dist f _ (by show (out ++ [s]).length ≤ 300; rw [List.length_append]; exact hl)) fun _ => Yields.bad)
      fun _ => Yields.next (again_small _ _ _) fun o ho => packed_small lit dist f o ho
theorem body_small (t : Nat) (out : List Nat) (h : Small out) : Yields (body t out) Small :=
  Yields.ite (fun _ => stored_small out) fun _ => Yields.ite (fun _ => packed_small _ _ _ _ h) fun _ => Yields.ite (fun _ => Yields.then fun p => packed_small _ _ _ _ h) fun _ => Yields.bad
theorem part_small (out : List Nat) (h : Small out) : Yields (part out) (fun p => Small p.1) :=
  Yields.then fun _ => Yields.then fun t => Yields.next (body_small t out h) fun o ho => Yields.ret ho
theorem parts_small : ∀ (f : Nat) (out : List Nat), Small out → Yields (parts f out) Small
  | 0, _, _ => Yields.bad
  | f + 1, out, h => Yields.next (part_small out h) fun p hp => Yields.ite (fun _ => Yields.ret hp) fun _ => parts_small f _ hp
theorem flate_small {t o : List Nat} {n : Nat} (h : flate t = some (o, n)) : o.length ≤ 300 := by
  unfold flate at h
  split at h
  · cases h
  · cases hw : whole (unpack t) with
    | none => rw [hw] at h; cases h
    | some x =>
      obtain ⟨a, r⟩ := x
      rw [hw] at h
      cases h
      exact (Yields.next (parts_small 6000 [] (Nat.zero_le _)) fun o ho => Yields.then fun _ => Yields.ret ho : Yields whole Small) _ _ _ hw
end Go.Proofs.YtncidljdfipigaaDoor.De

/- A stamp out of its number, the program's. -/
namespace Go.Proofs.YtncidljdfipigaaDoor.Lc
open Go.RowKit Go.Proofs.YtncidljdfipigaaDoor.Mem Go.Proofs.YtncidljdfipigaaDoor.Nm Go.Proofs.YtncidljdfipigaaDoor.Nb Go.Proofs.YtncidljdfipigaaDoor.Cr Go.Proofs.YtncidljdfipigaaDoor.Wi
set_option linter.unusedVariables false
set_option linter.unusedSimpArgs false
theorem and_mask (i : Nat) (hi : i ≤ 63) {x m : Int} (hm : m = 2 ^ i - 1) (h0 : 0 ≤ x) (h1 : x < 9223372036854775808) : Go.bits .and .i64 x m = x % 2 ^ i := by
  subst hm
  exact bits_mask .i64 63 (by decide) swr_i64 i hi x h0 (by omega)
theorem masks (n : Nat) (h1 : n < 4294967296) : Go.bits .and .i64 ((n : Int) / 33554432) 127 = (n : Int) / 33554432 ∧ Go.bits .and .i64 ((n : Int) / 2097152) 15 = gm n ∧ Go.bits .and .i64 ((n : Int) / 65536) 31 = gd n ∧ Go.bits .and .i64 ((n : Int) / 2048) 31 = gh n ∧ Go.bits .and .i64 ((n : Int) / 32) 63 = gi n ∧ Go.bits .and .i64 (n : Int) 31 = (n : Int) % 32 := by
  unfold gm gd gh gi
  rw [and_mask 7 (by decide) (by decide) (by omega) (by omega), and_mask 4 (by decide) (by decide) (by omega) (by omega), and_mask (x := (n : Int) / 65536) 5 (by decide) (by decide) (by omega) (by omega), and_mask (x := (n : Int) / 2048) 5 (by decide) (by decide) (by omega) (by omega), and_mask 6 (by decide) (by decide) (by omega) (by omega), and_mask (x := (n : Int)) 5 (by decide) (by decide) (by omega) (by omega)]
  simp only [show ((2:Int) ^ 7) = 128 from rfl, show ((2:Int) ^ 4) = 16 from rfl, show ((2:Int) ^ 5) = 32 from rfl, show ((2:Int) ^ 6) = 64 from rfl]
  refine ⟨?_, trivial, trivial, trivial, trivial, trivial⟩
  omega
set_option maxRecDepth 100000 in
set_option maxHeartbeats 1000000 in
theorem iputno_calls (y m d h mi s : Int) (ok : ¬ okp y m d h mi s) (w : World) :
    Calls Tryd.prog 109 #[.agg #[.int .i64 y, .int .i64 m, .int .i64 d, .int .i64 h, .int .i64 mi, .int .i64 s]] w (Tells w (.int .i64 (-1))) := by
  have HK := Lib.hid (fun w => iok_calls y m d h mi s w)
  rw [decide_eq_false ok] at HK
  clear ok
  have OA := (On.refl w).alloc (.cells #[.int .i64 y, .int .i64 m, .int .i64 d, .int .i64 h, .int .i64 mi, .int .i64 s] 32)
  go_enter Tryd.func109, Tryd.ntmps109
  go_wp2_with fail
  generalize w.alloc (.cells #[.int .i64 y, .int .i64 m, .int .i64 d, .int .i64 h, .int .i64 mi, .int .i64 s] 32) = wa at *
  refine (HK.out wa).mono ?_
  rintro e w1 ⟨rfl, O1⟩
  go_wp2_with fail
  go_ret
  exact ⟨rfl, OA.call O1⟩
abbrev zero6 : Array Value := #[.int .i64 0, .int .i64 0, .int .i64 0, .int .i64 0, .int .i64 0, .int .i64 0]
theorem set6 {w : World} {g t : Nat} {x0 x1 x2 x3 x4 x5 : Value} (B : Blk w g t #[x0, x1, x2, x3, x4, x5]) (a b c d e f : Value) :
    Blk ((((((w.setCell ⟨g, 0, none⟩ a).setCell ⟨g, 1, none⟩ b).setCell ⟨g, 2, none⟩ c).setCell ⟨g, 3, none⟩ d).setCell ⟨g, 4, none⟩ e).setCell ⟨g, 5, none⟩ f) g t #[a, b, c, d, e, f] := by
  have h := (((((B.set 0 a).set 1 b).set 2 c).set 3 d).set 4 e).set 5 f
  simpa using h
set_option maxRecDepth 100000 in
set_option maxHeartbeats 800000 in
theorem iget_no (n : Nat) (h1 : n < 4294967296) (ok : ¬ okp (gy n) (gm n) (gd n) (gh n) (gi n) (gs n)) (w : World) : Calls Tryd.prog 74 #[.int .i64 n] w (Tells w (.tuple #[.agg zero6, .bool false])) := by
  obtain ⟨m1, m2, m3, m4, m5, m6⟩ := masks n h1
  have m7 : IntKind.i64.wrap ((n : Int) % 32 * 2) = gs n := by unfold gs; rw [IntKind.wrap_i64]; omega
  have m8 : IntKind.i64.wrap (1980 + (n : Int) / 33554432) = gy n := by unfold gy; rw [IntKind.wrap_i64]; omega
  have HH := Lib.hid (fun w => iputno_calls (gy n) (gm n) (gd n) (gh n) (gi n) (gs n) ok w)
  clear ok
  generalize gy n = y at *
  generalize gm n = mo at *
  generalize gd n = d at *
  generalize gh n = h at *
  generalize gi n = mi at *
  generalize gs n = s at *
  go_enter Tryd.func74, Tryd.ntmps74
  have B := Blk.new w 32 zero6
  go_wp2_with fail
  replace B := B.alloc (.cells #[.int .i64 y, .int .i64 mo, .int .i64 d, .int .i64 h, .int .i64 mi, .int .i64 s] 32)
  have O := ((On.refl w).alloc (.cells zero6 32)).alloc (.cells #[.int .i64 y, .int .i64 mo, .int .i64 d, .int .i64 h, .int .i64 mi, .int .i64 s] 32)
  refine (HH.out _).mono ?_
  rintro e w3 ⟨rfl, O3⟩
  replace B := B.call O3.out
  replace O := O.call O3
  have hr' : ((-1 : Int) != (n : Int)) = true := by simp
  have c0 : w3.cell? ⟨w.heap.size, 0, none⟩ = some (.int .i64 0) := (B.cell 0).trans rfl
  have c1 : w3.cell? ⟨w.heap.size, 1, none⟩ = some (.int .i64 0) := (B.cell 1).trans rfl
  have c2 : w3.cell? ⟨w.heap.size, 2, none⟩ = some (.int .i64 0) := (B.cell 2).trans rfl
  have c3 : w3.cell? ⟨w.heap.size, 3, none⟩ = some (.int .i64 0) := (B.cell 3).trans rfl
  have c4 : w3.cell? ⟨w.heap.size, 4, none⟩ = some (.int .i64 0) := (B.cell 4).trans rfl
  have c5 : w3.cell? ⟨w.heap.size, 5, none⟩ = some (.int .i64 0) := (B.cell 5).trans rfl
  have fr : ∀ i, w3.frozen? ⟨w.heap.size, i, none⟩ = false := B.frozen
  go_wp2_with fail
  have B' := set6 B (.int .i64 0) (.int .i64 0) (.int .i64 0) (.int .i64 0) (.int .i64 0) (.int .i64 0)
  refine bodyPost_ret (v := .tuple #[.agg zero6, .bool false]) (by exact res_ct (fn := Tryd.f74) (p := 2) (u := 3) rfl B' rfl Tryd.underlying32 rfl (by kernel_rfl)) rfl ⟨rfl, ?_⟩
  repeat (first | with_reducible exact O | refine On.set ?_ (Nat.le_refl _) _)
set_option maxRecDepth 100000 in
set_option maxHeartbeats 800000 in
theorem iget_yes (n : Nat) (h1 : n < 4294967296) (ok : okp (gy n) (gm n) (gd n) (gh n) (gi n) (gs n)) (w : World) : Calls Tryd.prog 74 #[.int .i64 n] w (Tells w (.tuple #[.agg #[.int .i64 (gy n), .int .i64 (gm n), .int .i64 (gd n), .int .i64 (gh n), .int .i64 (gi n), .int .i64 (gs n)], .bool true])) := by
  obtain ⟨m1, m2, m3, m4, m5, m6⟩ := masks n h1
  have m7 : IntKind.i64.wrap ((n : Int) % 32 * 2) = gs n := by unfold gs; rw [IntKind.wrap_i64]; omega
  have m8 : IntKind.i64.wrap (1980 + (n : Int) / 33554432) = gy n := by unfold gy; rw [IntKind.wrap_i64]; omega
  have HH := Lib.hid (fun w => iput_calls (gy n) (gm n) (gd n) (gh n) (gi n) (gs n) ok w)
  rw [stampN_get] at HH
  clear ok
  generalize gy n = y at *
  generalize gm n = mo at *
  generalize gd n = d at *
  generalize gh n = h at *
  generalize gi n = mi at *
  generalize gs n = s at *
  go_enter Tryd.func74, Tryd.ntmps74
  have B := Blk.new w 32 zero6
  go_wp2_with fail
  replace B := B.alloc (.cells #[.int .i64 y, .int .i64 mo, .int .i64 d, .int .i64 h, .int .i64 mi, .int .i64 s] 32)
  have D := Blk.new (w.alloc (.cells zero6 32)) 32 #[.int .i64 y, .int .i64 mo, .int .i64 d, .int .i64 h, .int .i64 mi, .int .i64 s]
  have O := ((On.refl w).alloc (.cells zero6 32)).alloc (.cells #[.int .i64 y, .int .i64 mo, .int .i64 d, .int .i64 h, .int .i64 mi, .int .i64 s] 32)
  rw [show (w.alloc (.cells zero6 32)).heap.size = w.heap.size + 1 from by simp] at D
  refine (HH.out _).mono ?_
  rintro e w3 ⟨rfl, O3⟩
  replace B := B.call O3.out
  replace D := D.call O3.out
  replace O := O.call O3
  have c0 : w3.cell? ⟨w.heap.size, 0, none⟩ = some (.int .i64 0) := (B.cell 0).trans rfl
  have c1 : w3.cell? ⟨w.heap.size, 1, none⟩ = some (.int .i64 0) := (B.cell 1).trans rfl
  have c2 : w3.cell? ⟨w.heap.size, 2, none⟩ = some (.int .i64 0) := (B.cell 2).trans rfl
  have c3 : w3.cell? ⟨w.heap.size, 3, none⟩ = some (.int .i64 0) := (B.cell 3).trans rfl
  have c4 : w3.cell? ⟨w.heap.size, 4, none⟩ = some (.int .i64 0) := (B.cell 4).trans rfl
  have c5 : w3.cell? ⟨w.heap.size, 5, none⟩ = some (.int .i64 0) := (B.cell 5).trans rfl
  have fr : ∀ i, w3.frozen? ⟨w.heap.size, i, none⟩ = false := B.frozen
  have d0 : w3.cell? ⟨w.heap.size + 1, 0, none⟩ = some (.int .i64 y) := (D.cell 0).trans rfl
  have d1 : w3.cell? ⟨w.heap.size + 1, 1, none⟩ = some (.int .i64 mo) := (D.cell 1).trans rfl
  have d2 : w3.cell? ⟨w.heap.size + 1, 2, none⟩ = some (.int .i64 d) := (D.cell 2).trans rfl
  have d3 : w3.cell? ⟨w.heap.size + 1, 3, none⟩ = some (.int .i64 h) := (D.cell 3).trans rfl
  have d4 : w3.cell? ⟨w.heap.size + 1, 4, none⟩ = some (.int .i64 mi) := (D.cell 4).trans rfl
  have d5 : w3.cell? ⟨w.heap.size + 1, 5, none⟩ = some (.int .i64 s) := (D.cell 5).trans rfl
  go_wp2_with fail
  have B' := set6 B (.int .i64 y) (.int .i64 mo) (.int .i64 d) (.int .i64 h) (.int .i64 mi) (.int .i64 s)
  refine bodyPost_ret (v := .tuple #[.agg #[.int .i64 y, .int .i64 mo, .int .i64 d, .int .i64 h, .int .i64 mi, .int .i64 s], .bool true]) (by exact res_ct (fn := Tryd.f74) (p := 2) (u := 3) rfl B' rfl Tryd.underlying32 rfl (by kernel_rfl)) rfl ⟨rfl, ?_⟩
  repeat (first | with_reducible exact O | refine On.set ?_ (Nat.le_refl _) _)
end Go.Proofs.YtncidljdfipigaaDoor.Lc

/- A file of an archive read back: the specification's. (Printed by tools/gen_lr.py.) -/
namespace Go.Proofs.YtncidljdfipigaaDoor.Lc
open Go.RowKit Go.Proofs.YtncidljdfipigaaDoor.Mem Go.Proofs.YtncidljdfipigaaDoor.Nm Go.Proofs.YtncidljdfipigaaDoor.Nb Go.Proofs.YtncidljdfipigaaDoor.Cr Go.Proofs.YtncidljdfipigaaDoor.Wi
set_option linter.unusedVariables false
set_option linter.unusedSimpArgs false
section
variable {P : Program} {fn : Func} {tmps : Array Value} {w : World} {g t : Nat} {cs : Array Value} {d : TypeDesc}
theorem res_ctt {p u v : Tmp} {ty : TypeId} (h : fn.results = #[.cell p ty, .tmp u, .tmp v]) (b : Blk w g t cs) (hp : tmps.getD p undef = .pointer (some ⟨g, 0, none⟩))
    (hu : P.underlying ty = some d) (hd : (match d with | .struct _ | .array _ _ => true | _ => false) = true) (hi : (P.info? ty).map (·.size) = some cs.size) :
    (results fn tmps).run P w = .ok (.tuple #[.agg cs, tmps.getD u undef, tmps.getD v undef]) w := by
  have e : tmps[p]?.getD undef = .pointer (some ⟨g, 0, none⟩) := by simpa using hp
  simp [results, h, e, asAddr, run_loadVar_row w g t ty cs (0, 0) d b.out hu hd hi]
end
abbrev zero8 : Array Value := #[.string ⟨#[]⟩, .int .i64 0, .int .i64 0, .int .i64 0, .int .i64 0, .int .i64 0, .int .i64 0, .string ⟨#[]⟩]
theorem set8 {w : World} {g t : Nat} {x0 x1 x2 x3 x4 x5 x6 x7 : Value} (B : Blk w g t #[x0, x1, x2, x3, x4, x5, x6, x7]) (a b c d e f h i : Value) :
    Blk ((((((((w.setCell ⟨g, 0, none⟩ a).setCell ⟨g, 1, none⟩ b).setCell ⟨g, 2, none⟩ c).setCell ⟨g, 3, none⟩ d).setCell ⟨g, 4, none⟩ e).setCell ⟨g, 5, none⟩ f).setCell ⟨g, 6, none⟩ h).setCell ⟨g, 7, none⟩ i) g t #[a, b, c, d, e, f, h, i] := by
  have q := (((((((B.set 0 a).set 1 b).set 2 c).set 3 d).set 4 e).set 5 f).set 6 h).set 7 i
  simpa using q
theorem cells8 {w : World} {g t : Nat} {x0 x1 x2 x3 x4 x5 x6 x7 : Value} (b : Blk w g t #[x0, x1, x2, x3, x4, x5, x6, x7]) :
    w.cell? ⟨g, 0, none⟩ = some x0 ∧ w.cell? ⟨g, 1, none⟩ = some x1 ∧ w.cell? ⟨g, 2, none⟩ = some x2 ∧ w.cell? ⟨g, 3, none⟩ = some x3 ∧ w.cell? ⟨g, 4, none⟩ = some x4 ∧ w.cell? ⟨g, 5, none⟩ = some x5 ∧ w.cell? ⟨g, 6, none⟩ = some x6 ∧ w.cell? ⟨g, 7, none⟩ = some x7 :=
  ⟨(b.cell 0).trans rfl, (b.cell 1).trans rfl, (b.cell 2).trans rfl, (b.cell 3).trans rfl, (b.cell 4).trans rfl, (b.cell 5).trans rfl, (b.cell 6).trans rfl, (b.cell 7).trans rfl⟩
theorem sget6 (n : Nat) : (n : Int) / 32 / 64 / 32 / 32 / 16 + 1980 = gy n ∧ (n : Int) / 32 / 64 / 32 / 32 % 16 = gm n ∧ (n : Int) / 32 / 64 / 32 % 32 = gd n ∧ (n : Int) / 32 / 64 % 32 = gh n ∧ (n : Int) / 32 % 64 = gi n ∧ 2 * ((n : Int) % 32) = gs n := by
  unfold gy gm gd gh gi gs; omega
set_option maxRecDepth 100000 in
set_option maxHeartbeats 1000000 in
theorem sget_calls (n : Nat) (h1 : n < 4294967296) (w : World) :
    Calls Tryd.prog 106 #[.int .i64 n] w (Tells w (.agg #[.int .i64 (gy n), .int .i64 (gm n), .int .i64 (gd n), .int .i64 (gh n), .int .i64 (gi n), .int .i64 (gs n)])) := by
  obtain ⟨f1, f2, f3, f4, f5, f6⟩ := sget6 n
  rw [← f1, ← f2, ← f3, ← f4, ← f5, ← f6]
  clear f1 f2 f3 f4 f5 f6
  have h0 : (0 : Int) ≤ n := by omega
  have h2 : (n : Int) ≤ 4294967295 := by omega
  generalize (n : Int) = n at *
  go_enter Tryd.func106, Tryd.ntmps106
  go_wp2
  refine bodyPost_ret (v := .agg #[.int .i64 (n / 32 / 64 / 32 / 32 / 16 + 1980), .int .i64 (n / 32 / 64 / 32 / 32 % 16), .int .i64 (n / 32 / 64 / 32 % 32), .int .i64 (n / 32 / 64 % 32), .int .i64 (n / 32 % 64), .int .i64 (2 * (n % 32))]) (by simp [results, Tryd.results106, go_sem]) rfl ⟨rfl, ?_⟩
  repeat (first | with_reducible exact On.refl _ | refine On.set ?_ (by simp) _ | refine On.alloc ?_ _)
/-- The number of so many bytes at a place; -1 if they are not there. -/
def numZ (s : ByteArray) (a n : Nat) : Int := if a + n ≤ s.size then (numAtB s a n : Nat) else -1
theorem snumz_calls (s : ByteArray) (a n : Nat) (hs : s.size ≤ 4294967296) (ha : a ≤ 4294967296) (hn : n ≤ 4) (w : World) :
    Calls Tryd.prog 105 #[.string s, .int .i64 a, .int .i64 n] w (fun e w' => e = .returned (.int .i64 (numZ s a n)) ∧ w' = w) := by
  unfold numZ
  by_cases h : a + n ≤ s.size
  · rw [if_pos h]; exact snum_calls s a n hs h hn w
  · rw [if_neg h]; exact snum_none s a n hs h ha hn w
theorem z0_calls (s : ByteArray) (hs : s.size ≤ 4294967296) (w : World) : Calls Tryd.prog 105 #[.string s, .int .i64 0, .int .i64 4] w (fun e w' => e = .returned (.int .i64 (numZ s 0 4)) ∧ w' = w) := by
  have h := snumz_calls s 0 4 hs (by decide) (by decide) w
  rw [show ((0 : Nat) : Int) = 0 from rfl, show ((4 : Nat) : Int) = 4 from rfl] at h
  exact h
theorem z4_calls (s : ByteArray) (hs : s.size ≤ 4294967296) (w : World) : Calls Tryd.prog 105 #[.string s, .int .i64 4, .int .i64 2] w (fun e w' => e = .returned (.int .i64 (numZ s 4 2)) ∧ w' = w) := by
  have h := snumz_calls s 4 2 hs (by decide) (by decide) w
  rw [show ((4 : Nat) : Int) = 4 from rfl, show ((2 : Nat) : Int) = 2 from rfl] at h
  exact h
theorem z6_calls (s : ByteArray) (hs : s.size ≤ 4294967296) (w : World) : Calls Tryd.prog 105 #[.string s, .int .i64 6, .int .i64 2] w (fun e w' => e = .returned (.int .i64 (numZ s 6 2)) ∧ w' = w) := by
  have h := snumz_calls s 6 2 hs (by decide) (by decide) w
  rw [show ((6 : Nat) : Int) = 6 from rfl, show ((2 : Nat) : Int) = 2 from rfl] at h
  exact h
theorem z8_calls (s : ByteArray) (hs : s.size ≤ 4294967296) (w : World) : Calls Tryd.prog 105 #[.string s, .int .i64 8, .int .i64 2] w (fun e w' => e = .returned (.int .i64 (numZ s 8 2)) ∧ w' = w) := by
  have h := snumz_calls s 8 2 hs (by decide) (by decide) w
  rw [show ((8 : Nat) : Int) = 8 from rfl, show ((2 : Nat) : Int) = 2 from rfl] at h
  exact h
theorem z10_calls (s : ByteArray) (hs : s.size ≤ 4294967296) (w : World) : Calls Tryd.prog 105 #[.string s, .int .i64 10, .int .i64 4] w (fun e w' => e = .returned (.int .i64 (numZ s 10 4)) ∧ w' = w) := by
  have h := snumz_calls s 10 4 hs (by decide) (by decide) w
  rw [show ((10 : Nat) : Int) = 10 from rfl, show ((4 : Nat) : Int) = 4 from rfl] at h
  exact h
theorem z14_calls (s : ByteArray) (hs : s.size ≤ 4294967296) (w : World) : Calls Tryd.prog 105 #[.string s, .int .i64 14, .int .i64 4] w (fun e w' => e = .returned (.int .i64 (numZ s 14 4)) ∧ w' = w) := by
  have h := snumz_calls s 14 4 hs (by decide) (by decide) w
  rw [show ((14 : Nat) : Int) = 14 from rfl, show ((4 : Nat) : Int) = 4 from rfl] at h
  exact h
theorem z18_calls (s : ByteArray) (hs : s.size ≤ 4294967296) (w : World) : Calls Tryd.prog 105 #[.string s, .int .i64 18, .int .i64 4] w (fun e w' => e = .returned (.int .i64 (numZ s 18 4)) ∧ w' = w) := by
  have h := snumz_calls s 18 4 hs (by decide) (by decide) w
  rw [show ((18 : Nat) : Int) = 18 from rfl, show ((4 : Nat) : Int) = 4 from rfl] at h
  exact h
theorem z22_calls (s : ByteArray) (hs : s.size ≤ 4294967296) (w : World) : Calls Tryd.prog 105 #[.string s, .int .i64 22, .int .i64 4] w (fun e w' => e = .returned (.int .i64 (numZ s 22 4)) ∧ w' = w) := by
  have h := snumz_calls s 22 4 hs (by decide) (by decide) w
  rw [show ((22 : Nat) : Int) = 22 from rfl, show ((4 : Nat) : Int) = 4 from rfl] at h
  exact h
theorem z26_calls (s : ByteArray) (hs : s.size ≤ 4294967296) (w : World) : Calls Tryd.prog 105 #[.string s, .int .i64 26, .int .i64 2] w (fun e w' => e = .returned (.int .i64 (numZ s 26 2)) ∧ w' = w) := by
  have h := snumz_calls s 26 2 hs (by decide) (by decide) w
  rw [show ((26 : Nat) : Int) = 26 from rfl, show ((2 : Nat) : Int) = 2 from rfl] at h
  exact h
theorem z28_calls (s : ByteArray) (hs : s.size ≤ 4294967296) (w : World) : Calls Tryd.prog 105 #[.string s, .int .i64 28, .int .i64 2] w (fun e w' => e = .returned (.int .i64 (numZ s 28 2)) ∧ w' = w) := by
  have h := snumz_calls s 28 2 hs (by decide) (by decide) w
  rw [show ((28 : Nat) : Int) = 28 from rfl, show ((2 : Nat) : Int) = 2 from rfl] at h
  exact h
/-- What is told of a file that was read, or of none. -/
structure RdIs (s : ByteArray) (f : Fi) (n : Int) (b : Bool) : Prop where
  ok : b = (locText s).isSome
  got : ∀ o, locText s = some o → f = fiOf s o ∧ n = (rdLong s : Nat)
theorem no_head {s : ByteArray} (h : ¬ headOk s) : locText s = none := by unfold locText; rw [if_neg h]
theorem numZ_bd (s : ByteArray) (a n : Nat) (hn : n ≤ 4) : -1 ≤ numZ s a n ∧ numZ s a n ≤ 4294967295 := by
  unfold numZ
  have h1 := numAtB_lt s a n
  have h2 : 256 ^ n ≤ 256 ^ 4 := Nat.pow_le_pow_right (by decide) hn
  split <;> omega
theorem numZ_in {s : ByteArray} {a n : Nat} (h : a + n ≤ s.size) : numZ s a n = (numAtB s a n : Nat) := by unfold numZ; rw [if_pos h]
theorem head_arms {s : ByteArray} (h : ¬ headOk s) : numZ s 0 4 ≠ 67324752 ∨ (numZ s 0 4 = 67324752 ∧ numZ s 4 2 ≠ 20) ∨ (numZ s 0 4 = 67324752 ∧ numZ s 4 2 = 20 ∧ numZ s 6 2 ≠ 0) ∨ (numZ s 0 4 = 67324752 ∧ numZ s 4 2 = 20 ∧ numZ s 6 2 = 0 ∧ numZ s 28 2 ≠ 0) ∨
    (numZ s 0 4 = 67324752 ∧ numZ s 4 2 = 20 ∧ numZ s 6 2 = 0 ∧ numZ s 28 2 = 0 ∧ ¬ numZ s 26 2 < 0 ∧ ¬ numZ s 18 4 < 0 ∧ (s.size : Int) < 30 + numZ s 26 2 + numZ s 18 4) := by
  by_cases h30 : 30 ≤ s.size
  · rw [numZ_in (s := s) (a := 0) (n := 4) (by omega), numZ_in (s := s) (a := 4) (n := 2) (by omega), numZ_in (s := s) (a := 6) (n := 2) (by omega), numZ_in (s := s) (a := 28) (n := 2) (by omega), numZ_in (s := s) (a := 26) (n := 2) (by omega), numZ_in (s := s) (a := 18) (n := 4) (by omega)]
    by_cases h0 : numAtB s 0 4 = 67324752
    · by_cases h4 : numAtB s 4 2 = 20
      · by_cases h6 : numAtB s 6 2 = 0
        · by_cases h28 : numAtB s 28 2 = 0
          · have : ¬ 30 + numAtB s 26 2 + numAtB s 18 4 ≤ s.size := fun hf => h ⟨h30, h0, h4, h6, h28, hf⟩
            omega
          · omega
        · omega
      · omega
    · omega
  · have e : numZ s 28 2 = -1 := by unfold numZ; rw [if_neg (by omega)]
    omega
set_option maxRecDepth 100000 in
set_option maxHeartbeats 4000000 in
theorem sread_no (s : ByteArray) (hs : s.size ≤ 1048576) (hh : ¬ headOk s) (w : World) :
    Calls Tryd.prog 72 #[.string s] w (Tells w (.tuple #[.agg zero8, .int .i64 0, .bool false])) := by
  have Z26 := Lib.hid (fun w => z26_calls s (by omega) w)
  have Z18 := Lib.hid (fun w => z18_calls s (by omega) w)
  have Z0 := Lib.hid (fun w => z0_calls s (by omega) w)
  have Z4 := Lib.hid (fun w => z4_calls s (by omega) w)
  have Z6 := Lib.hid (fun w => z6_calls s (by omega) w)
  have Z28 := Lib.hid (fun w => z28_calls s (by omega) w)
  have b26 := numZ_bd s 26 2 (by decide)
  have b18 := numZ_bd s 18 4 (by decide)
  have arms := head_arms hh
  clear hh
  generalize numZ s 26 2 = v26 at *
  generalize numZ s 18 4 = v18 at *
  generalize numZ s 0 4 = v0 at *
  generalize numZ s 4 2 = v4 at *
  generalize numZ s 6 2 = v6 at *
  generalize numZ s 28 2 = v28 at *
  obtain ⟨b26a, b26b⟩ := b26
  obtain ⟨b18a, b18b⟩ := b18
  rcases arms with a | ⟨rfl, a⟩ | ⟨rfl, rfl, a⟩ | ⟨rfl, rfl, rfl, a⟩ | ⟨rfl, rfl, rfl, rfl, n26, n18, a⟩
  · have a2 : (v0 == 67324752) = false := by simpa using a
    go_enter Tryd.func72, Tryd.ntmps72
    have BR := Blk.new w 34 zero8
    have OA := (On.refl w).alloc (.cells zero8 34)
    go_upto_region 1 with fail
    generalize hP : w.heap.size = p at *
    generalize w.alloc (.cells zero8 34) = wa at *
    obtain ⟨r0, r1, r2, r3, r4, r5, r6, r7⟩ := cells8 BR
    have fr : ∀ i, wa.frozen? ⟨p, i, none⟩ = false := BR.frozen
    go_wp2_with fail
    refine (Z26.out _).mono ?_
    rintro e w' ⟨rfl, hw⟩
    rw [hw]
    clear hw
    go_wp2_with fail
    refine (Z18.out _).mono ?_
    rintro e w' ⟨rfl, hw⟩
    rw [hw]
    clear hw
    go_wp2_with fail
    refine (Z0.out _).mono ?_
    rintro e w' ⟨rfl, hw⟩
    rw [hw]
    clear hw
    go_wp2_with fail
    have BF := set8 BR (.string ⟨#[]⟩) (.int .i64 0) (.int .i64 0) (.int .i64 0) (.int .i64 0) (.int .i64 0) (.int .i64 0) (.string ⟨#[]⟩)
    refine bodyPost_ret (v := .tuple #[.agg zero8, .int .i64 0, .bool false]) (by exact res_ctt (fn := Tryd.f72) (p := 2) (u := 3) (v := 4) rfl BF rfl Tryd.underlying34 rfl (by kernel_rfl)) rfl ⟨rfl, ?_⟩
    repeat (first | with_reducible exact OA | refine On.set ?_ (show w.heap.size ≤ p by omega) _)
  · have a2 : (v4 == 20) = false := by simpa using a
    go_enter Tryd.func72, Tryd.ntmps72
    have BR := Blk.new w 34 zero8
    have OA := (On.refl w).alloc (.cells zero8 34)
    go_upto_region 1 with fail
    generalize hP : w.heap.size = p at *
    generalize w.alloc (.cells zero8 34) = wa at *
    obtain ⟨r0, r1, r2, r3, r4, r5, r6, r7⟩ := cells8 BR
    have fr : ∀ i, wa.frozen? ⟨p, i, none⟩ = false := BR.frozen
    go_wp2_with fail
    refine (Z26.out _).mono ?_
    rintro e w' ⟨rfl, hw⟩
    rw [hw]
    clear hw
    go_wp2_with fail
    refine (Z18.out _).mono ?_
    rintro e w' ⟨rfl, hw⟩
    rw [hw]
    clear hw
    go_wp2_with fail
    refine (Z0.out _).mono ?_
    rintro e w' ⟨rfl, hw⟩
    rw [hw]
    clear hw
    go_wp2_with fail
    refine (Z4.out _).mono ?_
    rintro e w' ⟨rfl, hw⟩
    rw [hw]
    clear hw
    go_wp2_with fail
    have BF := set8 BR (.string ⟨#[]⟩) (.int .i64 0) (.int .i64 0) (.int .i64 0) (.int .i64 0) (.int .i64 0) (.int .i64 0) (.string ⟨#[]⟩)
    refine bodyPost_ret (v := .tuple #[.agg zero8, .int .i64 0, .bool false]) (by exact res_ctt (fn := Tryd.f72) (p := 2) (u := 3) (v := 4) rfl BF rfl Tryd.underlying34 rfl (by kernel_rfl)) rfl ⟨rfl, ?_⟩
    repeat (first | with_reducible exact OA | refine On.set ?_ (show w.heap.size ≤ p by omega) _)
  · have a2 : (v6 == 0) = false := by simpa using a
    go_enter Tryd.func72, Tryd.ntmps72
    have BR := Blk.new w 34 zero8
    have OA := (On.refl w).alloc (.cells zero8 34)
    go_upto_region 1 with fail
    generalize hP : w.heap.size = p at *
    generalize w.alloc (.cells zero8 34) = wa at *
    obtain ⟨r0, r1, r2, r3, r4, r5, r6, r7⟩ := cells8 BR
    have fr : ∀ i, wa.frozen? ⟨p, i, none⟩ = false := BR.frozen
    go_wp2_with fail
    refine (Z26.out _).mono ?_
    rintro e w' ⟨rfl, hw⟩
    rw [hw]
    clear hw
    go_wp2_with fail
    refine (Z18.out _).mono ?_
    rintro e w' ⟨rfl, hw⟩
    rw [hw]
    clear hw
    go_wp2_with fail
    refine (Z0.out _).mono ?_
    rintro e w' ⟨rfl, hw⟩
    rw [hw]
    clear hw
    go_wp2_with fail
    refine (Z4.out _).mono ?_
    rintro e w' ⟨rfl, hw⟩
    rw [hw]
    clear hw
    go_wp2_with fail
    refine (Z6.out _).mono ?_
    rintro e w' ⟨rfl, hw⟩
    rw [hw]
    clear hw
    go_wp2_with fail
    have BF := set8 BR (.string ⟨#[]⟩) (.int .i64 0) (.int .i64 0) (.int .i64 0) (.int .i64 0) (.int .i64 0) (.int .i64 0) (.string ⟨#[]⟩)
    refine bodyPost_ret (v := .tuple #[.agg zero8, .int .i64 0, .bool false]) (by exact res_ctt (fn := Tryd.f72) (p := 2) (u := 3) (v := 4) rfl BF rfl Tryd.underlying34 rfl (by kernel_rfl)) rfl ⟨rfl, ?_⟩
    repeat (first | with_reducible exact OA | refine On.set ?_ (show w.heap.size ≤ p by omega) _)
  · have a2 : (v28 == 0) = false := by simpa using a
    go_enter Tryd.func72, Tryd.ntmps72
    have BR := Blk.new w 34 zero8
    have OA := (On.refl w).alloc (.cells zero8 34)
    go_upto_region 1 with fail
    generalize hP : w.heap.size = p at *
    generalize w.alloc (.cells zero8 34) = wa at *
    obtain ⟨r0, r1, r2, r3, r4, r5, r6, r7⟩ := cells8 BR
    have fr : ∀ i, wa.frozen? ⟨p, i, none⟩ = false := BR.frozen
    go_wp2_with fail
    refine (Z26.out _).mono ?_
    rintro e w' ⟨rfl, hw⟩
    rw [hw]
    clear hw
    go_wp2_with fail
    refine (Z18.out _).mono ?_
    rintro e w' ⟨rfl, hw⟩
    rw [hw]
    clear hw
    go_wp2_with fail
    refine (Z0.out _).mono ?_
    rintro e w' ⟨rfl, hw⟩
    rw [hw]
    clear hw
    go_wp2_with fail
    refine (Z4.out _).mono ?_
    rintro e w' ⟨rfl, hw⟩
    rw [hw]
    clear hw
    go_wp2_with fail
    refine (Z6.out _).mono ?_
    rintro e w' ⟨rfl, hw⟩
    rw [hw]
    clear hw
    go_wp2_with fail
    refine (Z28.out _).mono ?_
    rintro e w' ⟨rfl, hw⟩
    rw [hw]
    clear hw
    go_wp2_with fail
    have BF := set8 BR (.string ⟨#[]⟩) (.int .i64 0) (.int .i64 0) (.int .i64 0) (.int .i64 0) (.int .i64 0) (.int .i64 0) (.string ⟨#[]⟩)
    refine bodyPost_ret (v := .tuple #[.agg zero8, .int .i64 0, .bool false]) (by exact res_ctt (fn := Tryd.f72) (p := 2) (u := 3) (v := 4) rfl BF rfl Tryd.underlying34 rfl (by kernel_rfl)) rfl ⟨rfl, ?_⟩
    repeat (first | with_reducible exact OA | refine On.set ?_ (show w.heap.size ≤ p by omega) _)
  · have e1 : IntKind.i64.wrap (30 + v26) = 30 + v26 := by rw [IntKind.wrap_i64]; omega
    have e2 : IntKind.i64.wrap (30 + v26 + v18) = 30 + v26 + v18 := by rw [IntKind.wrap_i64]; omega
    go_enter Tryd.func72, Tryd.ntmps72
    have BR := Blk.new w 34 zero8
    have OA := (On.refl w).alloc (.cells zero8 34)
    go_upto_region 1 with fail
    generalize hP : w.heap.size = p at *
    generalize w.alloc (.cells zero8 34) = wa at *
    obtain ⟨r0, r1, r2, r3, r4, r5, r6, r7⟩ := cells8 BR
    have fr : ∀ i, wa.frozen? ⟨p, i, none⟩ = false := BR.frozen
    go_wp2_with fail
    refine (Z26.out _).mono ?_
    rintro e w' ⟨rfl, hw⟩
    rw [hw]
    clear hw
    go_wp2_with fail
    refine (Z18.out _).mono ?_
    rintro e w' ⟨rfl, hw⟩
    rw [hw]
    clear hw
    go_wp2_with fail
    refine (Z0.out _).mono ?_
    rintro e w' ⟨rfl, hw⟩
    rw [hw]
    clear hw
    go_wp2_with fail
    refine (Z4.out _).mono ?_
    rintro e w' ⟨rfl, hw⟩
    rw [hw]
    clear hw
    go_wp2_with fail
    refine (Z6.out _).mono ?_
    rintro e w' ⟨rfl, hw⟩
    rw [hw]
    clear hw
    go_wp2_with fail
    refine (Z28.out _).mono ?_
    rintro e w' ⟨rfl, hw⟩
    rw [hw]
    clear hw
    go_wp2_with fail
    have BF := set8 BR (.string ⟨#[]⟩) (.int .i64 0) (.int .i64 0) (.int .i64 0) (.int .i64 0) (.int .i64 0) (.int .i64 0) (.string ⟨#[]⟩)
    refine bodyPost_ret (v := .tuple #[.agg zero8, .int .i64 0, .bool false]) (by exact res_ctt (fn := Tryd.f72) (p := 2) (u := 3) (v := 4) rfl BF rfl Tryd.underlying34 rfl (by kernel_rfl)) rfl ⟨rfl, ?_⟩
    repeat (first | with_reducible exact OA | refine On.set ?_ (show w.heap.size ≤ p by omega) _)
end Go.Proofs.YtncidljdfipigaaDoor.Lc

/- A file of an archive read back: the specification's, of a head; LocalGet. (Printed by tools/gen_lx.py.) -/
namespace Go.Proofs.YtncidljdfipigaaDoor.Lc
open Go.RowKit Go.Proofs.YtncidljdfipigaaDoor.Mem Go.Proofs.YtncidljdfipigaaDoor.Nm Go.Proofs.YtncidljdfipigaaDoor.Nb Go.Proofs.YtncidljdfipigaaDoor.Cr Go.Proofs.YtncidljdfipigaaDoor.Wi
set_option linter.unusedVariables false
set_option linter.unusedSimpArgs false
theorem TextIs.small {m : Nat} {s tx : ByteArray} {b : Bool} (h : TextIs m s tx b) (hb : b = true) (hs : s.size ≤ 1048576) : tx.size ≤ 1048576 := by
  have h1 := h.ok
  rw [hb] at h1
  obtain ⟨o, ho⟩ := Option.isSome_iff_exists.1 h1.symm
  rw [h.tx o ho, strB_size]
  unfold textOf at ho
  split at ho
  · cases ho; rw [chars_length]; exact hs
  · split at ho
    · cases hf : De.flate (chars s) with
      | none => rw [hf] at ho; cases ho
      | some r =>
        obtain ⟨o', n⟩ := r
        rw [hf] at ho
        have ho2 : (if n = (chars s).length then Option.some o' else Option.none) = Option.some o := ho
        split at ho2
        · cases ho2
          have := De.flate_small hf
          omega
        · cases ho2
    · cases ho
theorem RdIs.of {s tx : ByteArray} {b : Bool} (hh : headOk s) (ht : TextIs (numAtB s 8 2) (rdPk s) tx b) {ok : Bool} (hok : ok = (b && (decide (numAtB s 14 4 = crcOf tx) && (decide (numAtB s 22 4 = tx.size) && entryOk (rdName s) (gy (rdNum s)) (gm (rdNum s)) (gd (rdNum s)) (gh (rdNum s)) (gi (rdNum s)) (gs (rdNum s)) tx)))) :
    RdIs s ⟨rdName s, gy (rdNum s), gm (rdNum s), gd (rdNum s), gh (rdNum s), gi (rdNum s), gs (rdNum s), tx⟩ (rdLong s : Nat) ok := by
  have hl : locText s = (match textOf (numAtB s 8 2) (chars (rdPk s)) with | some o => if textOk s (strB o) then some (strB o) else none | none => none) := by
    unfold locText
    rw [if_pos hh]
    rfl
  cases hx : textOf (numAtB s 8 2) (chars (rdPk s)) with
  | none =>
    rw [hx] at hl
    have hb := ht.ok
    rw [hx] at hb
    have hb' : b = false := hb
    have hl2 : locText s = none := hl
    exact ⟨by rw [hok, hb', hl2]; rfl, fun o ho => by rw [hl2] at ho; cases ho⟩
  | some o =>
    rw [hx] at hl
    have hb := ht.ok
    rw [hx] at hb
    obtain rfl := ht.tx o hx
    have hb' : b = true := hb
    rw [hb', Bool.true_and] at hok
    have e : ok = decide (textOk s (strB o)) := by
      rw [hok]
      by_cases hT : textOk s (strB o)
      · rw [decide_eq_true hT]
        obtain ⟨q1, q2, q3⟩ := hT
        rw [decide_eq_true q1, decide_eq_true q2, q3]; rfl
      · rw [decide_eq_false hT, Bool.eq_false_iff]
        intro q
        apply hT
        simp only [Bool.and_eq_true, decide_eq_true_eq] at q
        exact q
    by_cases hT : textOk s (strB o)
    · have hl2 : locText s = some (strB o) := hl.trans (if_pos hT)
      refine ⟨by rw [e, hl2, decide_eq_true hT]; rfl, fun o' ho' => ?_⟩
      rw [hl2] at ho'
      cases ho'
      exact ⟨rfl, rfl⟩
    · have hl2 : locText s = none := hl.trans (if_neg hT)
      exact ⟨by rw [e, hl2, decide_eq_false hT]; rfl, fun o' ho' => by rw [hl2] at ho'; cases ho'⟩
set_option maxRecDepth 100000 in
set_option maxHeartbeats 8000000 in
theorem sread_yes (s : ByteArray) (hs : s.size ≤ 1048576) (hh : headOk s) (w : World) :
    Calls Tryd.prog 72 #[.string s] w (fun e w' => ∃ f n b, e = .returned (.tuple #[fiV f, .int .i64 n, .bool b]) ∧ On w w' ∧ RdIs s f n b) := by
  have HRD := Lib.hid (fun tx b ok h1 h2 => RdIs.of (s := s) (tx := tx) (b := b) hh h1 (ok := ok) h2)
  have hfz : 30 + numAtB s 26 2 ≤ s.size := by have := hh.2.2.2.2.2; omega
  have hns := rdName_size hfz
  have hps := rdPk_size hh.2.2.2.2.2
  have hN := numAtB_lt s 10 4
  have hpk : (rdPk s).size ≤ 1048576 := by have := hh.2.2.2.2.2; omega
  have b26 := numAtB_lt s 26 2
  have b18 := numAtB_lt s 18 4
  have b8 := numAtB_lt s 8 2
  have b22 := numAtB_lt s 22 4
  have HG := Lib.hid (fun w => sget_calls (rdNum s) (by unfold rdNum; omega) w)
  have HTX := Lib.hid (fun w => stext_calls (numAtB s 8 2) (rdPk s) (by omega) w)
  have hen := (fun tx w ht => sentry_calls (rdName s) (gy (rdNum s)) (gm (rdNum s)) (gd (rdNum s)) (gh (rdNum s)) (gi (rdNum s)) (gs (rdNum s)) tx w (by omega) ht)
  unfold ent at hen
  have HEN := Lib.hid hen
  clear hen
  have HCR : RowKit.Hid (∀ (tx : ByteArray) (w : World), tx.size ≤ 4294967296 → Calls Tryd.prog 108 #[.string tx] w (fun e w' => e = .returned (.int .i64 (crcOf tx : Nat)) ∧ w' = w)) := Lib.hid (fun tx w ht => scrc_calls tx ht w)
  have HSM := Lib.hid (fun tx b (h : TextIs (numAtB s 8 2) (rdPk s) tx b) (hb : b = true) => h.small hb hpk)
  have HTS := Lib.hid (fun tx b (h : TextIs (numAtB s 8 2) (rdPk s) tx b) => h.ok)
  obtain ⟨h30, m0, m4, m6, m28, hfit⟩ := hh
  have hlong : rdLong s = 30 + numAtB s 26 2 + numAtB s 18 4 := rfl
  have sl1 : s.extract 30 (30 + numAtB s 26 2) = rdName s := rfl
  have sl2 : s.extract (30 + numAtB s 26 2) (30 + numAtB s 26 2 + numAtB s 18 4) = rdPk s := rfl
  have Z8 := Lib.hid (fun w => z8_calls s (by omega) w)
  rw [numZ_in (s := s) (a := 8) (n := 2) (by omega)] at Z8
  have Z10 := Lib.hid (fun w => z10_calls s (by omega) w)
  rw [numZ_in (s := s) (a := 10) (n := 4) (by omega)] at Z10
  have Z14 := Lib.hid (fun w => z14_calls s (by omega) w)
  rw [numZ_in (s := s) (a := 14) (n := 4) (by omega)] at Z14
  have Z22 := Lib.hid (fun w => z22_calls s (by omega) w)
  rw [numZ_in (s := s) (a := 22) (n := 4) (by omega)] at Z22
  have Z26 := Lib.hid (fun w => z26_calls s (by omega) w)
  rw [numZ_in (s := s) (a := 26) (n := 2) (by omega)] at Z26
  have Z28 := Lib.hid (fun w => z28_calls s (by omega) w)
  rw [numZ_in (s := s) (a := 28) (n := 2) (by omega)] at Z28
  have Z0 := Lib.hid (fun w => z0_calls s (by omega) w)
  rw [numZ_in (s := s) (a := 0) (n := 4) (by omega)] at Z0
  have Z4 := Lib.hid (fun w => z4_calls s (by omega) w)
  rw [numZ_in (s := s) (a := 4) (n := 2) (by omega)] at Z4
  have Z6 := Lib.hid (fun w => z6_calls s (by omega) w)
  rw [numZ_in (s := s) (a := 6) (n := 2) (by omega)] at Z6
  have Z18 := Lib.hid (fun w => z18_calls s (by omega) w)
  rw [numZ_in (s := s) (a := 18) (n := 4) (by omega)] at Z18
  rw [m0] at Z0
  rw [m4] at Z4
  rw [m6] at Z6
  rw [m28] at Z28
  have hc := numAtB_lt s 14 4
  unfold rdNum at *
  clear m0 m4 m6 m28
  generalize numAtB s 10 4 = N at *
  generalize numAtB s 8 2 = M at *
  generalize numAtB s 14 4 = C at *
  generalize numAtB s 22 4 = T at *
  generalize numAtB s 26 2 = a26 at *
  generalize numAtB s 18 4 = a18 at *
  generalize rdName s = nm at *
  generalize rdPk s = pk at *
  generalize rdLong s = lg at *
  subst hlong
  have f1 : ¬ (a26 : Int) < 0 := by omega
  have f2 : ¬ (a18 : Int) < 0 := by omega
  have e1 : IntKind.i64.wrap (30 + (a26 : Int)) = 30 + (a26 : Int) := by rw [IntKind.wrap_i64]; omega
  have e2 : IntKind.i64.wrap (30 + (a26 : Int) + (a18 : Int)) = 30 + (a26 : Int) + (a18 : Int) := by rw [IntKind.wrap_i64]; omega
  have f3 : ¬ (s.size : Int) < 30 + (a26 : Int) + (a18 : Int) := by omega
  have g1 : (0 : Int) ≤ 30 + (a26 : Int) := by omega
  have g2 : 30 + (a26 : Int) ≤ (s.size : Int) := by omega
  have g3 : (30 : Int) ≤ 30 + (a26 : Int) := by omega
  have g4 : (30 + (a26 : Int)).toNat = 30 + a26 := by omega
  have g5 : (0 : Int) ≤ 30 + (a26 : Int) + (a18 : Int) := by omega
  have g6 : 30 + (a26 : Int) + (a18 : Int) ≤ (s.size : Int) := by omega
  have g7 : 30 + (a26 : Int) ≤ 30 + (a26 : Int) + (a18 : Int) := by omega
  have g8 : (30 + (a26 : Int) + (a18 : Int)).toNat = 30 + a26 + a18 := by omega
  go_enter Tryd.func72, Tryd.ntmps72
  have BR := Blk.new w 34 zero8
  have OA := (On.refl w).alloc (.cells zero8 34)
  go_upto_region 1 with fail
  generalize hP : w.heap.size = p at *
  generalize w.alloc (.cells zero8 34) = wa at *
  go_wp2_with fail
  refine (Z26.out _).mono ?_
  rintro e w' ⟨rfl, hw⟩
  rw [hw]
  clear hw
  go_wp2_with fail
  refine (Z18.out _).mono ?_
  rintro e w' ⟨rfl, hw⟩
  rw [hw]
  clear hw
  go_wp2_with fail
  refine (Z0.out _).mono ?_
  rintro e w' ⟨rfl, hw⟩
  rw [hw]
  clear hw
  go_wp2_with fail
  refine (Z4.out _).mono ?_
  rintro e w' ⟨rfl, hw⟩
  rw [hw]
  clear hw
  go_wp2_with fail
  refine (Z6.out _).mono ?_
  rintro e w' ⟨rfl, hw⟩
  rw [hw]
  clear hw
  go_wp2_with fail
  refine (Z28.out _).mono ?_
  rintro e w' ⟨rfl, hw⟩
  rw [hw]
  clear hw
  go_upto_region 6 with fail
  go_cut [8] (fun v wx => ∃ g, v = .pointer (some ⟨g, 0, none⟩) ∧ wa.heap.size ≤ g ∧ Blk wx g 34 #[.string nm, .int .i64 (gy N), .int .i64 (gm N), .int .i64 (gd N), .int .i64 (gh N), .int .i64 (gi N), .int .i64 (gs N), .string ⟨#[]⟩] ∧ On wa wx)
  case first =>
    refine wp_region_held_drew (S := fun W => On wa W) (by kernel_rfl) (On.refl _).drew (fun hHeld => ?_)
    refine wpAnyH_take (i := 0) (oi := _) (v := ?_) rfl (by kernel_rfl) (by kernel_rfl) (by kernel_rfl) (fun _ _ _ h => h) (Or.inl ⟨by rfl, ?_⟩) (by assumption) ?_
    rotate_left
    · intro w hSw
      go_simp
      first | done | with_reducible rfl
    try simp (maxSteps := 2000000) only [Act.put, List.setIfInBounds_toArray, List.set_cons_zero, List.set_cons_succ]
    refine wpAnyH_take (i := 1) (oi := _) (v := ?_) rfl (by kernel_rfl) (by kernel_rfl) (by kernel_rfl) (fun _ _ _ h => h) (Or.inl ⟨by rfl, ?_⟩) (by assumption) ?_
    rotate_left
    · intro w hSw
      go_simp
      first | done | with_reducible rfl
    try simp (maxSteps := 2000000) only [Act.put, List.setIfInBounds_toArray, List.set_cons_zero, List.set_cons_succ]
    refine wpAnyH_take (i := 2) (oi := _) (v := ?_) rfl (by kernel_rfl) (by kernel_rfl) (by kernel_rfl) (fun _ _ _ h => h) (Or.inl ⟨by rfl, ?_⟩) (by assumption) ?_
    rotate_left
    · intro w hSw
      go_simp
      first | done | with_reducible rfl
    try simp (maxSteps := 2000000) only [Act.put, List.setIfInBounds_toArray, List.set_cons_zero, List.set_cons_succ]
    refine wpAnyH_take (i := 3) (oi := _) (v := ?_) rfl (by kernel_rfl) (by kernel_rfl) (by kernel_rfl) (fun _ _ _ h => h) (Or.inl ⟨by rfl, ?_⟩) (by assumption) ?_
    rotate_left
    · intro w hSw
      go_simp
      first | done | with_reducible rfl
    try simp (maxSteps := 2000000) only [Act.put, List.setIfInBounds_toArray, List.set_cons_zero, List.set_cons_succ]
    refine wpAnyH_take (i := 4) (oi := _) (v := ?_) rfl (by kernel_rfl) (by kernel_rfl) (by kernel_rfl) (fun _ _ _ h => h) (Or.inl ⟨by rfl, ?_⟩) (by assumption) ?_
    rotate_left
    · intro w hSw
      go_simp
      first | done | with_reducible rfl
    try simp (maxSteps := 2000000) only [Act.put, List.setIfInBounds_toArray, List.set_cons_zero, List.set_cons_succ]
    have O0 := (On.refl wa).drew
    generalize wa.drew = wd at *
    refine wpAnyH_ready (rs := [5, 8]) (by kernel_rfl) (by simp) ?_
    refine AllReadyH.cons (o := _) rfl (fun K hK => ?_) (AllReadyH.cons (o := _) rfl (fun K hK => ?_) AllReadyH.nil)
    · skip
      go_simp
      refine (Z10.out _).mono ?_
      rintro e w' ⟨rfl, hw⟩
      rw [hw]
      clear hw
      refine hK.out _ _ O0 (fun hHeld => ?_)
      clear hK K
      try simp (maxSteps := 2000000) only [Act.put, List.setIfInBounds_toArray, List.set_cons_zero, List.set_cons_succ]
      refine wpAnyH_ready (rs := [6, 8]) (by kernel_rfl) (by simp) ?_
      refine AllReadyH.cons (o := _) rfl (fun K hK => ?_) (AllReadyH.cons (o := _) rfl (fun K hK => ?_) AllReadyH.nil)
      · skip
        go_simp
        refine (HG.out _).mono ?_
        rintro e wg ⟨rfl, Og⟩
        have O1 := O0.call Og
        refine hK.out _ _ O1 (fun hHeld => ?_)
        clear hK K
        try simp (maxSteps := 2000000) only [Act.put, List.setIfInBounds_toArray, List.set_cons_zero, List.set_cons_succ]
        refine wpAnyH_take (i := 7) (oi := _) (v := ?_) rfl (by kernel_rfl) (by kernel_rfl) (by kernel_rfl) (fun _ _ _ h => h) (Or.inl ⟨by rfl, ?_⟩) (by assumption) ?_
        rotate_left
        · intro w hSw
          go_simp
          first | done | with_reducible rfl
        try simp (maxSteps := 2000000) only [Act.put, List.setIfInBounds_toArray, List.set_cons_zero, List.set_cons_succ]
        refine wpAnyH_ready (rs := [8]) (by kernel_rfl) (by simp) ?_
        refine AllReadyH.cons (o := _) rfl (fun K hK => ?_) AllReadyH.nil
        go_simp
        have O2 := O1.alloc (.cells zero8 34)
        have BT := Blk.new wg 34 zero8
        obtain ⟨tb, htb⟩ : ∃ tb, tb = wg.heap.size := ⟨_, rfl⟩
        have hTw : wa.heap.size ≤ tb := by have := O1.size; omega
        rw [← htb] at BT ⊢
        generalize wg.alloc (.cells zero8 34) = wT at *
        clear htb
        refine hK.out _ _ O2 (fun hHeld => ?_)
        clear hK K
        try simp (maxSteps := 2000000) only [Act.put, List.setIfInBounds_toArray, List.set_cons_zero, List.set_cons_succ]
        obtain ⟨t0, t1, t2, t3, t4, t5, t6, t7⟩ := cells8 BT
        have ft : ∀ i, wT.frozen? ⟨tb, i, none⟩ = false := BT.frozen
        refine wpAnyH_ready (rs := [9]) (by kernel_rfl) (by simp) ?_
        refine AllReadyH.cons (o := _) rfl (fun K hK => ?_) AllReadyH.nil
        go_simp
        have BS := set8 BT (.string nm) (.int .i64 (gy N)) (.int .i64 (gm N)) (.int .i64 (gd N)) (.int .i64 (gh N)) (.int .i64 (gi N)) (.int .i64 (gs N)) (.string ⟨#[]⟩)
        have OS : On wa _ := ((((((((O2.set (p := ⟨tb, 0, none⟩) hTw (.string nm)).set (p := ⟨tb, 1, none⟩) hTw (.int .i64 (gy N))).set (p := ⟨tb, 2, none⟩) hTw (.int .i64 (gm N))).set (p := ⟨tb, 3, none⟩) hTw (.int .i64 (gd N))).set (p := ⟨tb, 4, none⟩) hTw (.int .i64 (gh N))).set (p := ⟨tb, 5, none⟩) hTw (.int .i64 (gi N))).set (p := ⟨tb, 6, none⟩) hTw (.int .i64 (gs N))).set (p := ⟨tb, 7, none⟩) hTw (.string ⟨#[]⟩))
        refine hK.out _ _ OS (fun hHeld => ?_)
        clear hK K
        try simp (maxSteps := 2000000) only [Act.put, List.setIfInBounds_toArray, List.set_cons_zero, List.set_cons_succ]
        refine wpAnyH_done (by kernel_rfl) ?_ _
        go_wp2_with fail
        go_meet
        exact ⟨tb, rfl, hTw, BS, OS⟩
      · skip
        go_simp
        have O1 := O0.alloc (.cells zero8 34)
        have BT := Blk.new wd 34 zero8
        obtain ⟨tb, htb⟩ : ∃ tb, tb = wd.heap.size := ⟨_, rfl⟩
        have hTw : wa.heap.size ≤ tb := by have := O0.size; omega
        rw [← htb] at BT ⊢
        generalize wd.alloc (.cells zero8 34) = wT at *
        clear htb
        refine hK.out _ _ O1 (fun hHeld => ?_)
        clear hK K
        try simp (maxSteps := 2000000) only [Act.put, List.setIfInBounds_toArray, List.set_cons_zero, List.set_cons_succ]
        refine wpAnyH_ready (rs := [6]) (by kernel_rfl) (by simp) ?_
        refine AllReadyH.cons (o := _) rfl (fun K hK => ?_) AllReadyH.nil
        go_simp
        refine (HG.out _).mono ?_
        rintro e wg ⟨rfl, Og⟩
        have O2 := O1.call Og
        replace BT := BT.call Og.out
        refine hK.out _ _ O2 (fun hHeld => ?_)
        clear hK K
        try simp (maxSteps := 2000000) only [Act.put, List.setIfInBounds_toArray, List.set_cons_zero, List.set_cons_succ]
        refine wpAnyH_take (i := 7) (oi := _) (v := ?_) rfl (by kernel_rfl) (by kernel_rfl) (by kernel_rfl) (fun _ _ _ h => h) (Or.inl ⟨by rfl, ?_⟩) (by assumption) ?_
        rotate_left
        · intro w hSw
          go_simp
          first | done | with_reducible rfl
        try simp (maxSteps := 2000000) only [Act.put, List.setIfInBounds_toArray, List.set_cons_zero, List.set_cons_succ]
        obtain ⟨t0, t1, t2, t3, t4, t5, t6, t7⟩ := cells8 BT
        have ft : ∀ i, wg.frozen? ⟨tb, i, none⟩ = false := BT.frozen
        refine wpAnyH_ready (rs := [9]) (by kernel_rfl) (by simp) ?_
        refine AllReadyH.cons (o := _) rfl (fun K hK => ?_) AllReadyH.nil
        go_simp
        have BS := set8 BT (.string nm) (.int .i64 (gy N)) (.int .i64 (gm N)) (.int .i64 (gd N)) (.int .i64 (gh N)) (.int .i64 (gi N)) (.int .i64 (gs N)) (.string ⟨#[]⟩)
        have OS : On wa _ := ((((((((O2.set (p := ⟨tb, 0, none⟩) hTw (.string nm)).set (p := ⟨tb, 1, none⟩) hTw (.int .i64 (gy N))).set (p := ⟨tb, 2, none⟩) hTw (.int .i64 (gm N))).set (p := ⟨tb, 3, none⟩) hTw (.int .i64 (gd N))).set (p := ⟨tb, 4, none⟩) hTw (.int .i64 (gh N))).set (p := ⟨tb, 5, none⟩) hTw (.int .i64 (gi N))).set (p := ⟨tb, 6, none⟩) hTw (.int .i64 (gs N))).set (p := ⟨tb, 7, none⟩) hTw (.string ⟨#[]⟩))
        refine hK.out _ _ OS (fun hHeld => ?_)
        clear hK K
        try simp (maxSteps := 2000000) only [Act.put, List.setIfInBounds_toArray, List.set_cons_zero, List.set_cons_succ]
        refine wpAnyH_done (by kernel_rfl) ?_ _
        go_wp2_with fail
        go_meet
        exact ⟨tb, rfl, hTw, BS, OS⟩
    · skip
      go_simp
      have O1 := O0.alloc (.cells zero8 34)
      have BT := Blk.new wd 34 zero8
      obtain ⟨tb, htb⟩ : ∃ tb, tb = wd.heap.size := ⟨_, rfl⟩
      have hTw : wa.heap.size ≤ tb := by have := O0.size; omega
      rw [← htb] at BT ⊢
      generalize wd.alloc (.cells zero8 34) = wT at *
      clear htb
      refine hK.out _ _ O1 (fun hHeld => ?_)
      clear hK K
      try simp (maxSteps := 2000000) only [Act.put, List.setIfInBounds_toArray, List.set_cons_zero, List.set_cons_succ]
      refine wpAnyH_ready (rs := [5]) (by kernel_rfl) (by simp) ?_
      refine AllReadyH.cons (o := _) rfl (fun K hK => ?_) AllReadyH.nil
      go_simp
      refine (Z10.out _).mono ?_
      rintro e w' ⟨rfl, hw⟩
      rw [hw]
      clear hw
      refine hK.out _ _ O1 (fun hHeld => ?_)
      clear hK K
      try simp (maxSteps := 2000000) only [Act.put, List.setIfInBounds_toArray, List.set_cons_zero, List.set_cons_succ]
      refine wpAnyH_ready (rs := [6]) (by kernel_rfl) (by simp) ?_
      refine AllReadyH.cons (o := _) rfl (fun K hK => ?_) AllReadyH.nil
      go_simp
      refine (HG.out _).mono ?_
      rintro e wg ⟨rfl, Og⟩
      have O2 := O1.call Og
      replace BT := BT.call Og.out
      refine hK.out _ _ O2 (fun hHeld => ?_)
      clear hK K
      try simp (maxSteps := 2000000) only [Act.put, List.setIfInBounds_toArray, List.set_cons_zero, List.set_cons_succ]
      refine wpAnyH_take (i := 7) (oi := _) (v := ?_) rfl (by kernel_rfl) (by kernel_rfl) (by kernel_rfl) (fun _ _ _ h => h) (Or.inl ⟨by rfl, ?_⟩) (by assumption) ?_
      rotate_left
      · intro w hSw
        go_simp
        first | done | with_reducible rfl
      try simp (maxSteps := 2000000) only [Act.put, List.setIfInBounds_toArray, List.set_cons_zero, List.set_cons_succ]
      obtain ⟨t0, t1, t2, t3, t4, t5, t6, t7⟩ := cells8 BT
      have ft : ∀ i, wg.frozen? ⟨tb, i, none⟩ = false := BT.frozen
      refine wpAnyH_ready (rs := [9]) (by kernel_rfl) (by simp) ?_
      refine AllReadyH.cons (o := _) rfl (fun K hK => ?_) AllReadyH.nil
      go_simp
      have BS := set8 BT (.string nm) (.int .i64 (gy N)) (.int .i64 (gm N)) (.int .i64 (gd N)) (.int .i64 (gh N)) (.int .i64 (gi N)) (.int .i64 (gs N)) (.string ⟨#[]⟩)
      have OS : On wa _ := ((((((((O2.set (p := ⟨tb, 0, none⟩) hTw (.string nm)).set (p := ⟨tb, 1, none⟩) hTw (.int .i64 (gy N))).set (p := ⟨tb, 2, none⟩) hTw (.int .i64 (gm N))).set (p := ⟨tb, 3, none⟩) hTw (.int .i64 (gd N))).set (p := ⟨tb, 4, none⟩) hTw (.int .i64 (gh N))).set (p := ⟨tb, 5, none⟩) hTw (.int .i64 (gi N))).set (p := ⟨tb, 6, none⟩) hTw (.int .i64 (gs N))).set (p := ⟨tb, 7, none⟩) hTw (.string ⟨#[]⟩))
      refine hK.out _ _ OS (fun hHeld => ?_)
      clear hK K
      try simp (maxSteps := 2000000) only [Act.put, List.setIfInBounds_toArray, List.set_cons_zero, List.set_cons_succ]
      refine wpAnyH_done (by kernel_rfl) ?_ _
      go_wp2_with fail
      go_meet
      exact ⟨tb, rfl, hTw, BS, OS⟩
  case rest =>
    obtain ⟨g, rfl, hg, B6, O6⟩ := hcut
    obtain ⟨w6, rfl⟩ : ∃ w6, w6 = wc := ⟨_, rfl⟩
    go_upto_region 7 with fail
    go_cut [9, 10] (fun a b wx => ∃ tx ok, a = .string tx ∧ b = .bool ok ∧ On w6 wx ∧ TextIs M pk tx ok)
    case first =>
      refine wp_region_held_drew (S := fun W => On w6 W) (by kernel_rfl) (On.refl _).drew (fun hHeld => ?_)
      refine wpAnyH_take (i := 0) (oi := _) (v := ?_) rfl (by kernel_rfl) (by kernel_rfl) (by kernel_rfl) (fun _ _ _ h => h) (Or.inl ⟨by rfl, ?_⟩) (by assumption) ?_
      rotate_left
      · intro w hSw
        go_simp
        first | done | with_reducible rfl
      try simp (maxSteps := 2000000) only [Act.put, List.setIfInBounds_toArray, List.set_cons_zero, List.set_cons_succ]
      refine wpAnyH_take (i := 2) (oi := _) (v := ?_) rfl (by kernel_rfl) (by kernel_rfl) (by kernel_rfl) (fun _ _ _ h => h) (Or.inl ⟨by rfl, ?_⟩) (by assumption) ?_
      rotate_left
      · intro w hSw
        go_simp
        first | done | with_reducible rfl
      try simp (maxSteps := 2000000) only [Act.put, List.setIfInBounds_toArray, List.set_cons_zero, List.set_cons_succ]
      refine wpAnyH_take (i := 3) (oi := _) (v := ?_) rfl (by kernel_rfl) (by kernel_rfl) (by kernel_rfl) (fun _ _ _ h => h) (Or.inl ⟨by rfl, ?_⟩) (by assumption) ?_
      rotate_left
      · intro w hSw
        go_simp
        first | done | with_reducible rfl
      try simp (maxSteps := 2000000) only [Act.put, List.setIfInBounds_toArray, List.set_cons_zero, List.set_cons_succ]
      refine wpAnyH_take (i := 4) (oi := _) (v := ?_) rfl (by kernel_rfl) (by kernel_rfl) (by kernel_rfl) (fun _ _ _ h => h) (Or.inl ⟨by rfl, ?_⟩) (by assumption) ?_
      rotate_left
      · intro w hSw
        go_simp
        first | done | with_reducible rfl
      try simp (maxSteps := 2000000) only [Act.put, List.setIfInBounds_toArray, List.set_cons_zero, List.set_cons_succ]
      refine wpAnyH_take (i := 5) (oi := _) (v := ?_) rfl (by kernel_rfl) (by kernel_rfl) (by kernel_rfl) (fun _ _ _ h => h) (Or.inl ⟨by rfl, ?_⟩) (by assumption) ?_
      rotate_left
      · intro w hSw
        go_simp
        first | done | with_reducible rfl
      try simp (maxSteps := 2000000) only [Act.put, List.setIfInBounds_toArray, List.set_cons_zero, List.set_cons_succ]
      refine wpAnyH_take (i := 6) (oi := _) (v := ?_) rfl (by kernel_rfl) (by kernel_rfl) (by kernel_rfl) (fun _ _ _ h => h) (Or.inl ⟨by rfl, ?_⟩) (by assumption) ?_
      rotate_left
      · intro w hSw
        go_simp
        first | done | with_reducible rfl
      try simp (maxSteps := 2000000) only [Act.put, List.setIfInBounds_toArray, List.set_cons_zero, List.set_cons_succ]
      refine wpAnyH_take (i := 7) (oi := _) (v := ?_) rfl (by kernel_rfl) (by kernel_rfl) (by kernel_rfl) (fun _ _ _ h => h) (Or.inl ⟨by rfl, ?_⟩) (by assumption) ?_
      rotate_left
      · intro w hSw
        go_simp
        first | done | with_reducible rfl
      try simp (maxSteps := 2000000) only [Act.put, List.setIfInBounds_toArray, List.set_cons_zero, List.set_cons_succ]
      refine wpAnyH_take (i := 8) (oi := _) (v := ?_) rfl (by kernel_rfl) (by kernel_rfl) (by kernel_rfl) (fun _ _ _ h => h) (Or.inl ⟨by rfl, ?_⟩) (by assumption) ?_
      rotate_left
      · intro w hSw
        go_simp
        first | done | with_reducible rfl
      try simp (maxSteps := 2000000) only [Act.put, List.setIfInBounds_toArray, List.set_cons_zero, List.set_cons_succ]
      refine wpAnyH_take (i := 9) (oi := _) (v := ?_) rfl (by kernel_rfl) (by kernel_rfl) (by kernel_rfl) (fun _ _ _ h => h) (Or.inl ⟨by rfl, ?_⟩) (by assumption) ?_
      rotate_left
      · intro w hSw
        go_simp
        first | done | with_reducible rfl
      try simp (maxSteps := 2000000) only [Act.put, List.setIfInBounds_toArray, List.set_cons_zero, List.set_cons_succ]
      have O0 := (On.refl w6).drew
      generalize w6.drew = wd at *
      refine wpAnyH_ready (rs := [1]) (by kernel_rfl) (by simp) ?_
      refine AllReadyH.cons (o := _) rfl (fun K hK => ?_) AllReadyH.nil
      go_simp
      refine (Z8.out _).mono ?_
      rintro e w' ⟨rfl, hw⟩
      rw [hw]
      clear hw
      refine hK.out _ _ O0 (fun hHeld => ?_)
      clear hK K
      try simp (maxSteps := 2000000) only [Act.put, List.setIfInBounds_toArray, List.set_cons_zero, List.set_cons_succ]
      refine wpAnyH_ready (rs := [10]) (by kernel_rfl) (by simp) ?_
      refine AllReadyH.cons (o := _) rfl (fun K hK => ?_) AllReadyH.nil
      go_simp
      refine (HTX.out _).mono ?_
      rintro e wt ⟨tx, b, rfl, Ot, ht⟩
      have O1 := O0.call Ot
      refine hK.out _ _ O1 (fun hHeld => ?_)
      clear hK K
      try simp (maxSteps := 2000000) only [Act.put, List.setIfInBounds_toArray, List.set_cons_zero, List.set_cons_succ]
      refine wpAnyH_take (i := 11) (oi := _) (v := ?_) rfl (by kernel_rfl) (by kernel_rfl) (by kernel_rfl) (fun _ _ _ h => h) (Or.inl ⟨by rfl, ?_⟩) (by assumption) ?_
      rotate_left
      · intro w hSw
        go_simp
        first | done | with_reducible rfl
      try simp (maxSteps := 2000000) only [Act.put, List.setIfInBounds_toArray, List.set_cons_zero, List.set_cons_succ]
      refine wpAnyH_take (i := 12) (oi := _) (v := ?_) rfl (by kernel_rfl) (by kernel_rfl) (by kernel_rfl) (fun _ _ _ h => h) (Or.inl ⟨by rfl, ?_⟩) (by assumption) ?_
      rotate_left
      · intro w hSw
        go_simp
        first | done | with_reducible rfl
      try simp (maxSteps := 2000000) only [Act.put, List.setIfInBounds_toArray, List.set_cons_zero, List.set_cons_succ]
      refine wpAnyH_take (i := 13) (oi := _) (v := ?_) rfl (by kernel_rfl) (by kernel_rfl) (by kernel_rfl) (fun _ _ _ h => h) (Or.inl ⟨by rfl, ?_⟩) (by assumption) ?_
      rotate_left
      · intro w hSw
        go_simp
        first | done | with_reducible rfl
      try simp (maxSteps := 2000000) only [Act.put, List.setIfInBounds_toArray, List.set_cons_zero, List.set_cons_succ]
      refine wpAnyH_ready (rs := [14]) (by kernel_rfl) (by simp) ?_
      refine AllReadyH.cons (o := _) rfl (fun K hK => ?_) AllReadyH.nil
      go_simp
      refine hK.out _ _ O1 (fun hHeld => ?_)
      clear hK K
      try simp (maxSteps := 2000000) only [Act.put, List.setIfInBounds_toArray, List.set_cons_zero, List.set_cons_succ]
      refine wpAnyH_ready (rs := [15]) (by kernel_rfl) (by simp) ?_
      refine AllReadyH.cons (o := _) rfl (fun K hK => ?_) AllReadyH.nil
      go_simp
      refine hK.out _ _ O1 (fun hHeld => ?_)
      clear hK K
      try simp (maxSteps := 2000000) only [Act.put, List.setIfInBounds_toArray, List.set_cons_zero, List.set_cons_succ]
      refine wpAnyH_done (by kernel_rfl) ?_ _
      go_wp2_with fail
      go_meet
      exact ⟨tx, b, rfl, rfl, O1, ht⟩
    case rest =>
      obtain ⟨tx, b, rfl, rfl, O7, ht⟩ := hcut
      obtain ⟨w7, rfl⟩ : ∃ w7, w7 = wc := ⟨_, rfl⟩
      have B7 := O7.blk B6
      have O17 := O6.call O7
      obtain ⟨t0, t1, t2, t3, t4, t5, t6, t7⟩ := cells8 B7
      have fg : ∀ i, w7.frozen? ⟨g, i, none⟩ = false := B7.frozen
      go_upto_region 9 with fail
      have B8 := B7.set 7 (.string tx)
      simp only [List.setIfInBounds_toArray, List.set_cons_zero, List.set_cons_succ] at B8
      have O8 : On wa _ := O17.set (p := ⟨g, 7, none⟩) hg (.string tx)
      clear t0 t1 t2 t3 t4 t5 t6 t7 fg
      generalize w7.setCell ⟨g, 7, none⟩ (.string tx) = w8 at *
      have HSMb := HSM.out tx b ht
      go_cut [10] (fun v wx => v = .bool (b && (decide (C = crcOf tx) && decide (T = tx.size))) ∧ wx = w8)
      case first =>
        cases b with
        | false =>
          go_wp2_with fail
          go_meet
          exact ⟨rfl, rfl⟩
        | true =>
          have htz := HSMb rfl
          have hcr := crcC_lt tx
          have hcr2 : crcOf tx = crcC (tx.data.toList.map UInt8.toNat) := rfl
          rw [← hcr2] at hcr
          clear hcr2
          have HC1 := Lib.hid (HCR.out tx w8 (by omega))
          generalize crcOf tx = cr at *
          by_cases hC : C = cr
          · have hC2 : ((C : Int) == (cr : Int)) = true := by rw [beq_iff_eq]; omega
            have hC3 : (C == cr) = true := by rw [beq_iff_eq]; omega
            by_cases hT : T = tx.size
            · have hT2 : ((T : Int) == (tx.size : Int)) = true := by rw [beq_iff_eq]; omega
              have hT3 : (T == tx.size) = true := by rw [beq_iff_eq]; omega
              go_wp2_with fail
              refine (Z14.out _).mono ?_
              rintro e w' ⟨rfl, hw⟩
              rw [hw]
              clear hw
              go_wp2_with fail
              refine HC1.out.mono ?_
              rintro e w' ⟨rfl, hw⟩
              rw [hw]
              clear hw
              go_wp2_with fail
              refine (Z22.out _).mono ?_
              rintro e w' ⟨rfl, hw⟩
              rw [hw]
              clear hw
              go_wp2_with fail
              go_meet
              exact ⟨by simp [hC, hT], rfl⟩
            · have hT2 : ((T : Int) == (tx.size : Int)) = false := by rw [beq_eq_false_iff_ne]; omega
              have hT3 : (T == tx.size) = false := by rw [beq_eq_false_iff_ne]; omega
              go_wp2_with fail
              refine (Z14.out _).mono ?_
              rintro e w' ⟨rfl, hw⟩
              rw [hw]
              clear hw
              go_wp2_with fail
              refine HC1.out.mono ?_
              rintro e w' ⟨rfl, hw⟩
              rw [hw]
              clear hw
              go_wp2_with fail
              refine (Z22.out _).mono ?_
              rintro e w' ⟨rfl, hw⟩
              rw [hw]
              clear hw
              go_wp2_with fail
              go_meet
              exact ⟨by simp [hC, hT], rfl⟩
          · have hC2 : ((C : Int) == (cr : Int)) = false := by rw [beq_eq_false_iff_ne]; omega
            have hC3 : (C == cr) = false := by rw [beq_eq_false_iff_ne]; omega
            go_wp2_with fail
            refine (Z14.out _).mono ?_
            rintro e w' ⟨rfl, hw⟩
            rw [hw]
            clear hw
            go_wp2_with fail
            refine HC1.out.mono ?_
            rintro e w' ⟨rfl, hw⟩
            rw [hw]
            clear hw
            go_wp2_with fail
            go_meet
            exact ⟨by simp [hC], rfl⟩
      case rest =>
        obtain ⟨rfl, rfl⟩ := hcut
        have HRB := Lib.hid (fun ok h => HRD.out tx b ok ht h)
        have BR8 := O8.blk BR
        have hpg : p ≠ g := by have := BR.lt; omega
        have HB := Lib.hid (fun W (k : Kp [p] wc W) => cells8 (k.blk B8 (by simp; exact Ne.symm hpg)))
        have Ow8 := OA.call O8
        have hpw : w.heap.size ≤ p := by omega
        clear O7 O17 B6 B7 O6 OA BR HSM HTX HG HCR
        cases hk : (b && (decide (C = crcOf tx) && decide (T = tx.size))) with
        | false =>
          have HF : RowKit.Hid (RdIs s ⟨nm, gy N, gm N, gd N, gh N, gi N, gs N, tx⟩ ((30 + a26 + a18 : Nat) : Int) false) := Lib.hid (HRB.out false (by rw [← Bool.and_assoc, ← Bool.and_assoc, Bool.and_assoc b, hk]; rfl))
          clear hk HRB HEN
          go_upto_region 10 with fail
          refine wp_region_held_drew (S := fun W => Kp [p] wc W) (by kernel_rfl) (Kp.refl _ _).drew (fun hHeld => ?_)
          refine wpAnyH_take (i := 0) (oi := _) (v := ?_) rfl (by kernel_rfl) (by kernel_rfl) (by kernel_rfl) (fun _ _ _ h => h) (Or.inl ⟨by rfl, ?_⟩) (by assumption) ?_
          rotate_left
          · intro w hSw
            obtain ⟨q0, q1, q2, q3, q4, q5, q6, q7⟩ := HB.out w hSw
            go_simp
            first | done | with_reducible rfl
          try simp (maxSteps := 2000000) only [Act.put, List.setIfInBounds_toArray, List.set_cons_zero, List.set_cons_succ]
          refine wpAnyH_take (i := 1) (oi := _) (v := ?_) rfl (by kernel_rfl) (by kernel_rfl) (by kernel_rfl) (fun _ _ _ h => h) (Or.inl ⟨by rfl, ?_⟩) (by assumption) ?_
          rotate_left
          · intro w hSw
            go_simp
            first | done | with_reducible rfl
          try simp (maxSteps := 2000000) only [Act.put, List.setIfInBounds_toArray, List.set_cons_zero, List.set_cons_succ]
          refine wpAnyH_take (i := 2) (oi := _) (v := ?_) rfl (by kernel_rfl) (by kernel_rfl) (by kernel_rfl) (fun _ _ _ h => h) (Or.inl ⟨by rfl, ?_⟩) (by assumption) ?_
          rotate_left
          · intro w hSw
            go_simp
            first | done | with_reducible rfl
          try simp (maxSteps := 2000000) only [Act.put, List.setIfInBounds_toArray, List.set_cons_zero, List.set_cons_succ]
          refine wpAnyH_take (i := 3) (oi := _) (v := ?_) rfl (by kernel_rfl) (by kernel_rfl) (by kernel_rfl) (fun _ _ _ h => h) (Or.inl ⟨by rfl, ?_⟩) (by assumption) ?_
          rotate_left
          · intro w hSw
            go_simp
            first | done | with_reducible rfl
          try simp (maxSteps := 2000000) only [Act.put, List.setIfInBounds_toArray, List.set_cons_zero, List.set_cons_succ]
          refine wpAnyH_take (i := 4) (oi := _) (v := ?_) rfl (by kernel_rfl) (by kernel_rfl) (by kernel_rfl) (fun _ _ _ h => h) (Or.inl ⟨by rfl, ?_⟩) (by assumption) ?_
          rotate_left
          · intro w hSw
            go_simp
            first | done | with_reducible rfl
          try simp (maxSteps := 2000000) only [Act.put, List.setIfInBounds_toArray, List.set_cons_zero, List.set_cons_succ]
          refine wpAnyH_take (i := 5) (oi := _) (v := ?_) rfl (by kernel_rfl) (by kernel_rfl) (by kernel_rfl) (fun _ _ _ h => h) (Or.inl ⟨by rfl, ?_⟩) (by assumption) ?_
          rotate_left
          · intro w hSw
            go_simp
            first | done | with_reducible rfl
          try simp (maxSteps := 2000000) only [Act.put, List.setIfInBounds_toArray, List.set_cons_zero, List.set_cons_succ]
          refine wpAnyH_take (i := 6) (oi := _) (v := ?_) rfl (by kernel_rfl) (by kernel_rfl) (by kernel_rfl) (fun _ _ _ h => h) (Or.inl ⟨by rfl, ?_⟩) (by assumption) ?_
          rotate_left
          · intro w hSw
            go_simp
            first | done | with_reducible rfl
          try simp (maxSteps := 2000000) only [Act.put, List.setIfInBounds_toArray, List.set_cons_zero, List.set_cons_succ]
          refine wpAnyH_take (i := 7) (oi := _) (v := undef) rfl (by kernel_rfl) (by kernel_rfl) (by kernel_rfl) (fun _ _ _ h => h) (Or.inr ⟨by kernel_rfl, rfl⟩) (by assumption) ?_
          try simp (maxSteps := 2000000) only [Act.put, List.setIfInBounds_toArray, List.set_cons_zero, List.set_cons_succ]
          refine wpAnyH_take (i := 8) (oi := _) (v := undef) rfl (by kernel_rfl) (by kernel_rfl) (by kernel_rfl) (fun _ _ _ h => h) (Or.inr ⟨by kernel_rfl, rfl⟩) (by assumption) ?_
          try simp (maxSteps := 2000000) only [Act.put, List.setIfInBounds_toArray, List.set_cons_zero, List.set_cons_succ]
          refine wpAnyH_take (i := 9) (oi := _) (v := ?_) rfl (by kernel_rfl) (by kernel_rfl) (by kernel_rfl) (fun _ _ _ h => h) (Or.inl ⟨by rfl, ?_⟩) (by assumption) ?_
          rotate_left
          · intro w hSw
            go_simp
            first | done | with_reducible rfl
          try simp (maxSteps := 2000000) only [Act.put, List.setIfInBounds_toArray, List.set_cons_zero, List.set_cons_succ]
          have K0 : Kp [p] wc _ := (Kp.refl _ wc).drew
          have B0 := BR8.drew
          have P0 := Ow8.drew
          generalize wc.drew = wd at *
          obtain ⟨r0, r1, r2, r3, r4, r5, r6, r7⟩ := cells8 B0
          have fr : ∀ i, wd.frozen? ⟨p, i, none⟩ = false := B0.frozen
          refine wpAnyH_ready (rs := [10]) (by kernel_rfl) (by simp) ?_
          refine AllReadyH.cons (o := _) rfl (fun K hK => ?_) AllReadyH.nil
          go_simp
          have BF := set8 B0 (.string nm) (.int .i64 (gy N)) (.int .i64 (gm N)) (.int .i64 (gd N)) (.int .i64 (gh N)) (.int .i64 (gi N)) (.int .i64 (gs N)) (.string tx)
          have KF : Kp [p] wc _ := ((((((((K0.set (p := ⟨p, 0, none⟩) (.inl (by simp)) (.string nm)).set (p := ⟨p, 1, none⟩) (.inl (by simp)) (.int .i64 (gy N))).set (p := ⟨p, 2, none⟩) (.inl (by simp)) (.int .i64 (gm N))).set (p := ⟨p, 3, none⟩) (.inl (by simp)) (.int .i64 (gd N))).set (p := ⟨p, 4, none⟩) (.inl (by simp)) (.int .i64 (gh N))).set (p := ⟨p, 5, none⟩) (.inl (by simp)) (.int .i64 (gi N))).set (p := ⟨p, 6, none⟩) (.inl (by simp)) (.int .i64 (gs N))).set (p := ⟨p, 7, none⟩) (.inl (by simp)) (.string tx))
          have OF : On w _ := ((((((((P0.set (p := ⟨p, 0, none⟩) hpw (.string nm)).set (p := ⟨p, 1, none⟩) hpw (.int .i64 (gy N))).set (p := ⟨p, 2, none⟩) hpw (.int .i64 (gm N))).set (p := ⟨p, 3, none⟩) hpw (.int .i64 (gd N))).set (p := ⟨p, 4, none⟩) hpw (.int .i64 (gh N))).set (p := ⟨p, 5, none⟩) hpw (.int .i64 (gi N))).set (p := ⟨p, 6, none⟩) hpw (.int .i64 (gs N))).set (p := ⟨p, 7, none⟩) hpw (.string tx))
          refine hK.out _ _ KF (fun hHeld => ?_)
          clear hK K
          try simp (maxSteps := 2000000) only [Act.put, List.setIfInBounds_toArray, List.set_cons_zero, List.set_cons_succ]
          refine wpAnyH_ready (rs := [11]) (by kernel_rfl) (by simp) ?_
          refine AllReadyH.cons (o := _) rfl (fun K hK => ?_) AllReadyH.nil
          go_simp
          refine hK.out _ _ KF (fun hHeld => ?_)
          clear hK K
          try simp (maxSteps := 2000000) only [Act.put, List.setIfInBounds_toArray, List.set_cons_zero, List.set_cons_succ]
          refine wpAnyH_ready (rs := [12]) (by kernel_rfl) (by simp) ?_
          refine AllReadyH.cons (o := _) rfl (fun K hK => ?_) AllReadyH.nil
          go_simp
          refine hK.out _ _ KF (fun hHeld => ?_)
          clear hK K
          try simp (maxSteps := 2000000) only [Act.put, List.setIfInBounds_toArray, List.set_cons_zero, List.set_cons_succ]
          refine wpAnyH_done (by kernel_rfl) ?_ _
          go_wp2_with fail
          refine bodyPost_ret (v := .tuple #[.agg #[.string nm, .int .i64 (gy N), .int .i64 (gm N), .int .i64 (gd N), .int .i64 (gh N), .int .i64 (gi N), .int .i64 (gs N), .string tx], .int .i64 ((30 + a26 + a18 : Nat) : Int), .bool false]) (by exact res_ctt (fn := Tryd.f72) (p := 2) (u := 3) (v := 4) rfl BF rfl Tryd.underlying34 rfl (by kernel_rfl)) rfl ⟨_, _, _, rfl, OF, HF.out⟩
        | true =>
          have htz : tx.size ≤ maxLen := by
            have hb : b = true := by cases b with
              | true => rfl
              | false => cases hk
            have := HSMb hb
            unfold maxLen
            omega
          have HE := Lib.hid (fun w => HEN.out tx w htz)
          have HF := Lib.hid (HRB.out (entryOk nm (gy N) (gm N) (gd N) (gh N) (gi N) (gs N) tx) (by rw [← Bool.and_assoc, ← Bool.and_assoc, Bool.and_assoc b, hk]; rfl))
          clear hk HRB HEN htz HSMb
          generalize entryOk nm (gy N) (gm N) (gd N) (gh N) (gi N) (gs N) tx = eo at *
          go_upto_region 10 with fail
          refine wp_region_held_drew (S := fun W => Kp [p] wc W) (by kernel_rfl) (Kp.refl _ _).drew (fun hHeld => ?_)
          refine wpAnyH_take (i := 0) (oi := _) (v := ?_) rfl (by kernel_rfl) (by kernel_rfl) (by kernel_rfl) (fun _ _ _ h => h) (Or.inl ⟨by rfl, ?_⟩) (by assumption) ?_
          rotate_left
          · intro w hSw
            obtain ⟨q0, q1, q2, q3, q4, q5, q6, q7⟩ := HB.out w hSw
            go_simp
            first | done | with_reducible rfl
          try simp (maxSteps := 2000000) only [Act.put, List.setIfInBounds_toArray, List.set_cons_zero, List.set_cons_succ]
          refine wpAnyH_take (i := 1) (oi := _) (v := ?_) rfl (by kernel_rfl) (by kernel_rfl) (by kernel_rfl) (fun _ _ _ h => h) (Or.inl ⟨by rfl, ?_⟩) (by assumption) ?_
          rotate_left
          · intro w hSw
            go_simp
            first | done | with_reducible rfl
          try simp (maxSteps := 2000000) only [Act.put, List.setIfInBounds_toArray, List.set_cons_zero, List.set_cons_succ]
          refine wpAnyH_take (i := 2) (oi := _) (v := ?_) rfl (by kernel_rfl) (by kernel_rfl) (by kernel_rfl) (fun _ _ _ h => h) (Or.inl ⟨by rfl, ?_⟩) (by assumption) ?_
          rotate_left
          · intro w hSw
            go_simp
            first | done | with_reducible rfl
          try simp (maxSteps := 2000000) only [Act.put, List.setIfInBounds_toArray, List.set_cons_zero, List.set_cons_succ]
          refine wpAnyH_take (i := 3) (oi := _) (v := ?_) rfl (by kernel_rfl) (by kernel_rfl) (by kernel_rfl) (fun _ _ _ h => h) (Or.inl ⟨by rfl, ?_⟩) (by assumption) ?_
          rotate_left
          · intro w hSw
            go_simp
            first | done | with_reducible rfl
          try simp (maxSteps := 2000000) only [Act.put, List.setIfInBounds_toArray, List.set_cons_zero, List.set_cons_succ]
          refine wpAnyH_take (i := 4) (oi := _) (v := ?_) rfl (by kernel_rfl) (by kernel_rfl) (by kernel_rfl) (fun _ _ _ h => h) (Or.inl ⟨by rfl, ?_⟩) (by assumption) ?_
          rotate_left
          · intro w hSw
            go_simp
            first | done | with_reducible rfl
          try simp (maxSteps := 2000000) only [Act.put, List.setIfInBounds_toArray, List.set_cons_zero, List.set_cons_succ]
          refine wpAnyH_take (i := 5) (oi := _) (v := ?_) rfl (by kernel_rfl) (by kernel_rfl) (by kernel_rfl) (fun _ _ _ h => h) (Or.inl ⟨by rfl, ?_⟩) (by assumption) ?_
          rotate_left
          · intro w hSw
            go_simp
            first | done | with_reducible rfl
          try simp (maxSteps := 2000000) only [Act.put, List.setIfInBounds_toArray, List.set_cons_zero, List.set_cons_succ]
          refine wpAnyH_take (i := 6) (oi := _) (v := ?_) rfl (by kernel_rfl) (by kernel_rfl) (by kernel_rfl) (fun _ _ _ h => h) (Or.inl ⟨by rfl, ?_⟩) (by assumption) ?_
          rotate_left
          · intro w hSw
            go_simp
            first | done | with_reducible rfl
          try simp (maxSteps := 2000000) only [Act.put, List.setIfInBounds_toArray, List.set_cons_zero, List.set_cons_succ]
          refine wpAnyH_take (i := 7) (oi := _) (v := ?_) rfl (by kernel_rfl) (by kernel_rfl) (by kernel_rfl) (fun _ _ _ h => h) (Or.inl ⟨by kernel_rfl, ?_⟩) (by assumption) ?_
          rotate_left
          · intro w hSw
            obtain ⟨q0, q1, q2, q3, q4, q5, q6, q7⟩ := HB.out w hSw
            go_simp
            first | done | with_reducible rfl
          try simp (maxSteps := 2000000) only [Act.put, List.setIfInBounds_toArray, List.set_cons_zero, List.set_cons_succ]
          have K0 : Kp [p] wc _ := (Kp.refl _ wc).drew
          have B0 := BR8.drew
          have P0 := Ow8.drew
          generalize wc.drew = wd at *
          obtain ⟨r0, r1, r2, r3, r4, r5, r6, r7⟩ := cells8 B0
          have fr : ∀ i, wd.frozen? ⟨p, i, none⟩ = false := B0.frozen
          refine wpAnyH_ready (rs := [8]) (by kernel_rfl) (by simp) ?_
          refine AllReadyH.cons (o := _) rfl (fun K hK => ?_) AllReadyH.nil
          go_simp
          refine (HE.out _).mono ?_
          rintro e we ⟨rfl, Oe⟩
          have K1 := K0.then (Kp.of [p] Oe)
          have B1 := B0.call Oe.out
          have P1 := P0.call Oe
          refine hK.out _ _ K1 (fun hHeld => ?_)
          clear hK K
          try simp (maxSteps := 2000000) only [Act.put, List.setIfInBounds_toArray, List.set_cons_zero, List.set_cons_succ]
          clear r0 r1 r2 r3 r4 r5 r6 r7 fr
          refine wpAnyH_take (i := 9) (oi := _) (v := ?_) rfl (by kernel_rfl) (by kernel_rfl) (by kernel_rfl) (fun _ _ _ h => h) (Or.inl ⟨by rfl, ?_⟩) (by assumption) ?_
          rotate_left
          · intro w hSw
            go_simp
            first | done | with_reducible rfl
          try simp (maxSteps := 2000000) only [Act.put, List.setIfInBounds_toArray, List.set_cons_zero, List.set_cons_succ]
          obtain ⟨r0, r1, r2, r3, r4, r5, r6, r7⟩ := cells8 B1
          have fr : ∀ i, we.frozen? ⟨p, i, none⟩ = false := B1.frozen
          refine wpAnyH_ready (rs := [10]) (by kernel_rfl) (by simp) ?_
          refine AllReadyH.cons (o := _) rfl (fun K hK => ?_) AllReadyH.nil
          go_simp
          have BF := set8 B1 (.string nm) (.int .i64 (gy N)) (.int .i64 (gm N)) (.int .i64 (gd N)) (.int .i64 (gh N)) (.int .i64 (gi N)) (.int .i64 (gs N)) (.string tx)
          have KF : Kp [p] wc _ := ((((((((K1.set (p := ⟨p, 0, none⟩) (.inl (by simp)) (.string nm)).set (p := ⟨p, 1, none⟩) (.inl (by simp)) (.int .i64 (gy N))).set (p := ⟨p, 2, none⟩) (.inl (by simp)) (.int .i64 (gm N))).set (p := ⟨p, 3, none⟩) (.inl (by simp)) (.int .i64 (gd N))).set (p := ⟨p, 4, none⟩) (.inl (by simp)) (.int .i64 (gh N))).set (p := ⟨p, 5, none⟩) (.inl (by simp)) (.int .i64 (gi N))).set (p := ⟨p, 6, none⟩) (.inl (by simp)) (.int .i64 (gs N))).set (p := ⟨p, 7, none⟩) (.inl (by simp)) (.string tx))
          have OF : On w _ := ((((((((P1.set (p := ⟨p, 0, none⟩) hpw (.string nm)).set (p := ⟨p, 1, none⟩) hpw (.int .i64 (gy N))).set (p := ⟨p, 2, none⟩) hpw (.int .i64 (gm N))).set (p := ⟨p, 3, none⟩) hpw (.int .i64 (gd N))).set (p := ⟨p, 4, none⟩) hpw (.int .i64 (gh N))).set (p := ⟨p, 5, none⟩) hpw (.int .i64 (gi N))).set (p := ⟨p, 6, none⟩) hpw (.int .i64 (gs N))).set (p := ⟨p, 7, none⟩) hpw (.string tx))
          refine hK.out _ _ KF (fun hHeld => ?_)
          clear hK K
          try simp (maxSteps := 2000000) only [Act.put, List.setIfInBounds_toArray, List.set_cons_zero, List.set_cons_succ]
          refine wpAnyH_ready (rs := [11]) (by kernel_rfl) (by simp) ?_
          refine AllReadyH.cons (o := _) rfl (fun K hK => ?_) AllReadyH.nil
          go_simp
          refine hK.out _ _ KF (fun hHeld => ?_)
          clear hK K
          try simp (maxSteps := 2000000) only [Act.put, List.setIfInBounds_toArray, List.set_cons_zero, List.set_cons_succ]
          refine wpAnyH_ready (rs := [12]) (by kernel_rfl) (by simp) ?_
          refine AllReadyH.cons (o := _) rfl (fun K hK => ?_) AllReadyH.nil
          go_simp
          refine hK.out _ _ KF (fun hHeld => ?_)
          clear hK K
          try simp (maxSteps := 2000000) only [Act.put, List.setIfInBounds_toArray, List.set_cons_zero, List.set_cons_succ]
          refine wpAnyH_done (by kernel_rfl) ?_ _
          go_wp2_with fail
          refine bodyPost_ret (v := .tuple #[.agg #[.string nm, .int .i64 (gy N), .int .i64 (gm N), .int .i64 (gd N), .int .i64 (gh N), .int .i64 (gi N), .int .i64 (gs N), .string tx], .int .i64 ((30 + a26 + a18 : Nat) : Int), .bool eo]) (by exact res_ctt (fn := Tryd.f72) (p := 2) (u := 3) (v := 4) rfl BF rfl Tryd.underlying34 rfl (by kernel_rfl)) rfl ⟨_, _, _, rfl, OF, HF.out⟩
end Go.Proofs.YtncidljdfipigaaDoor.Lc

/- A file of an archive read back: the specification's LocalGet. -/
namespace Go.Proofs.YtncidljdfipigaaDoor.Lc
open Go.RowKit Go.Proofs.YtncidljdfipigaaDoor.Mem Go.Proofs.YtncidljdfipigaaDoor.Nm Go.Proofs.YtncidljdfipigaaDoor.Nb Go.Proofs.YtncidljdfipigaaDoor.Cr Go.Proofs.YtncidljdfipigaaDoor.Wi
set_option linter.unusedVariables false
set_option linter.unusedSimpArgs false
theorem sread_calls (s : ByteArray) (hs : s.size ≤ 1048576) (w : World) :
    Calls Tryd.prog 72 #[.string s] w (fun e w' => ∃ nm y m d h mi se tx n b, e = .returned (.tuple #[.agg #[.string nm, .int .i64 y, .int .i64 m, .int .i64 d, .int .i64 h, .int .i64 mi, .int .i64 se, .string tx], .int .i64 n, .bool b]) ∧ On w w' ∧ RdIs s ⟨nm, y, m, d, h, mi, se, tx⟩ n b) := by
  by_cases hh : headOk s
  · exact (sread_yes s hs hh w).mono fun e w' ⟨f, n, b, h1, h2, h3⟩ => ⟨f.nm, f.y, f.m, f.d, f.h, f.mi, f.s, f.tx, n, b, h1, h2, h3⟩
  · refine (sread_no s hs hh w).mono ?_
    rintro e w' ⟨rfl, O⟩
    exact ⟨_, _, _, _, _, _, _, _, 0, false, rfl, O, ⟨by rw [no_head hh]; rfl, fun o ho => by rw [no_head hh] at ho; cases ho⟩⟩
set_option maxRecDepth 100000 in
set_option maxHeartbeats 2000000 in
theorem slget_calls (s : ByteArray) (hs : s.size ≤ 1048576) (w : World) : Calls Tryd.prog 39 #[.string s] w (Tells w (lgetV s)) := by
  have HC := Lib.hid (fun w => sread_calls s hs w)
  go_enter Tryd.func39, Tryd.ntmps39
  have BR := Blk.new w 34 zero8
  have OA := (On.refl w).alloc (.cells zero8 34)
  go_upto_region 1 with fail
  generalize hP : w.heap.size = p at *
  generalize w.alloc (.cells zero8 34) = wa at *
  go_wp2_with fail
  refine (HC.out _).mono ?_
  rintro e w1 ⟨nm, y, m, d, h, mi, se, tx, n, b, rfl, O1, hr⟩
  have BR1 := O1.blk BR
  have OA1 := OA.call O1
  have hpw : w.heap.size ≤ p := by omega
  have hp1 : p < w1.heap.size := BR1.lt
  cases b with
  | false =>
    have hl : locText s = none := by
      cases hx : locText s with
      | none => rfl
      | some o => have := hr.ok; rw [hx] at this; cases this
    have HV : RowKit.Hid (lgetV s = .tuple #[.agg zero8, .int .i64 0, .bool false]) := Lib.hid (by unfold lgetV; rw [lget_none hl]; rfl)
    clear hr hl
    go_upto_region 2 with fail
    have BR2 := BR1.alloc (.cells #[.string nm, .int .i64 y, .int .i64 m, .int .i64 d, .int .i64 h, .int .i64 mi, .int .i64 se, .string tx] 34)
    have B5 := Blk.new w1 34 #[.string nm, .int .i64 y, .int .i64 m, .int .i64 d, .int .i64 h, .int .i64 mi, .int .i64 se, .string tx]
    have O2 := OA1.alloc (.cells #[.string nm, .int .i64 y, .int .i64 m, .int .i64 d, .int .i64 h, .int .i64 mi, .int .i64 se, .string tx] 34)
    obtain ⟨q, hq⟩ : ∃ q, q = w1.heap.size := ⟨_, rfl⟩
    rw [← hq] at B5 ⊢
    generalize w1.alloc (.cells #[.string nm, .int .i64 y, .int .i64 m, .int .i64 d, .int .i64 h, .int .i64 mi, .int .i64 se, .string tx] 34) = w2 at *
    clear hq
    obtain ⟨r0, r1, r2, r3, r4, r5, r6, r7⟩ := cells8 BR2
    obtain ⟨t0, t1, t2, t3, t4, t5, t6, t7⟩ := cells8 B5
    have fr : ∀ i, w2.frozen? ⟨p, i, none⟩ = false := BR2.frozen
    go_wp2_with fail
    have BF := set8 BR2 (.string ⟨#[]⟩) (.int .i64 0) (.int .i64 0) (.int .i64 0) (.int .i64 0) (.int .i64 0) (.int .i64 0) (.string ⟨#[]⟩)
    refine bodyPost_ret (v := .tuple #[.agg zero8, .int .i64 0, .bool false]) (by exact res_ctt (fn := Tryd.f39) (p := 2) (u := 3) (v := 4) rfl BF rfl Tryd.underlying34 rfl (by kernel_rfl)) rfl ⟨by rw [HV.out], ?_⟩
    repeat (first | with_reducible exact O2 | refine On.set ?_ hpw _)
  | true =>
    obtain ⟨o, ho⟩ : ∃ o, locText s = some o := by
      cases hx : locText s with
      | none => have := hr.ok; rw [hx] at this; cases this
      | some o => exact ⟨o, rfl⟩
    obtain ⟨hf1, hf2⟩ := hr.got o ho
    have HV : RowKit.Hid (lgetV s = .tuple #[.agg #[.string nm, .int .i64 y, .int .i64 m, .int .i64 d, .int .i64 h, .int .i64 mi, .int .i64 se, .string tx], .int .i64 n, .bool true]) := Lib.hid (by unfold lgetV; rw [lget_some ho, ← hf1, hf2]; rfl)
    clear hr ho hf1 hf2
    go_upto_region 2 with fail
    have BR2 := BR1.alloc (.cells #[.string nm, .int .i64 y, .int .i64 m, .int .i64 d, .int .i64 h, .int .i64 mi, .int .i64 se, .string tx] 34)
    have B5 := Blk.new w1 34 #[.string nm, .int .i64 y, .int .i64 m, .int .i64 d, .int .i64 h, .int .i64 mi, .int .i64 se, .string tx]
    have O2 := OA1.alloc (.cells #[.string nm, .int .i64 y, .int .i64 m, .int .i64 d, .int .i64 h, .int .i64 mi, .int .i64 se, .string tx] 34)
    obtain ⟨q, hq⟩ : ∃ q, q = w1.heap.size := ⟨_, rfl⟩
    rw [← hq] at B5 ⊢
    generalize w1.alloc (.cells #[.string nm, .int .i64 y, .int .i64 m, .int .i64 d, .int .i64 h, .int .i64 mi, .int .i64 se, .string tx] 34) = w2 at *
    clear hq
    obtain ⟨r0, r1, r2, r3, r4, r5, r6, r7⟩ := cells8 BR2
    obtain ⟨t0, t1, t2, t3, t4, t5, t6, t7⟩ := cells8 B5
    have fr : ∀ i, w2.frozen? ⟨p, i, none⟩ = false := BR2.frozen
    go_wp2_with fail
    have BF := set8 BR2 (.string nm) (.int .i64 y) (.int .i64 m) (.int .i64 d) (.int .i64 h) (.int .i64 mi) (.int .i64 se) (.string tx)
    refine bodyPost_ret (v := .tuple #[.agg #[.string nm, .int .i64 y, .int .i64 m, .int .i64 d, .int .i64 h, .int .i64 mi, .int .i64 se, .string tx], .int .i64 n, .bool true]) (by exact res_ctt (fn := Tryd.f39) (p := 2) (u := 3) (v := 4) rfl BF rfl Tryd.underlying34 rfl (by kernel_rfl)) rfl ⟨by rw [HV.out], ?_⟩
    repeat (first | with_reducible exact O2 | refine On.set ?_ hpw _)
end Go.Proofs.YtncidljdfipigaaDoor.Lc

/- A file compared with itself. -/
namespace Go.Proofs.YtncidljdfipigaaDoor.Nm
open Go.RowKit Go.Proofs.YtncidljdfipigaaDoor.Mem
set_option linter.unusedVariables false
set_option linter.unusedSimpArgs false
set_option maxRecDepth 100000 in
set_option maxHeartbeats 1000000 in
theorem eqstamp_calls (y m d h mi s : Int) (w : World) :
    Calls Tryd.prog 77 #[.agg #[.int .i64 y, .int .i64 m, .int .i64 d, .int .i64 h, .int .i64 mi, .int .i64 s], .agg #[.int .i64 y, .int .i64 m, .int .i64 d, .int .i64 h, .int .i64 mi, .int .i64 s]] w (Tells w (.bool true)) := by
  have OA := ((On.refl w).alloc (.cells #[.int .i64 y, .int .i64 m, .int .i64 d, .int .i64 h, .int .i64 mi, .int .i64 s] 32)).alloc (.cells #[.int .i64 y, .int .i64 m, .int .i64 d, .int .i64 h, .int .i64 mi, .int .i64 s] 32)
  go_enter Tryd.func77, Tryd.ntmps77
  go_wp2_with fail
  go_ret
  exact ⟨rfl, OA⟩
set_option maxRecDepth 100000 in
set_option maxHeartbeats 1000000 in
theorem eqentry_calls (nm : ByteArray) (y m d h mi s : Int) (tx : ByteArray) (w : World) :
    Calls Tryd.prog 41 #[.agg #[.string nm, .int .i64 y, .int .i64 m, .int .i64 d, .int .i64 h, .int .i64 mi, .int .i64 s, .string tx], .agg #[.string nm, .int .i64 y, .int .i64 m, .int .i64 d, .int .i64 h, .int .i64 mi, .int .i64 s, .string tx]] w (Tells w (.bool true)) := by
  have OA := ((On.refl w).alloc (.cells #[.string nm, .int .i64 y, .int .i64 m, .int .i64 d, .int .i64 h, .int .i64 mi, .int .i64 s, .string tx] 34)).alloc (.cells #[.string nm, .int .i64 y, .int .i64 m, .int .i64 d, .int .i64 h, .int .i64 mi, .int .i64 s, .string tx] 34)
  have BA := (Blk.new w 34 #[.string nm, .int .i64 y, .int .i64 m, .int .i64 d, .int .i64 h, .int .i64 mi, .int .i64 s, .string tx]).alloc (.cells #[.string nm, .int .i64 y, .int .i64 m, .int .i64 d, .int .i64 h, .int .i64 mi, .int .i64 s, .string tx] 34)
  have BB := Blk.new (w.alloc (.cells #[.string nm, .int .i64 y, .int .i64 m, .int .i64 d, .int .i64 h, .int .i64 mi, .int .i64 s, .string tx] 34)) 34 #[.string nm, .int .i64 y, .int .i64 m, .int .i64 d, .int .i64 h, .int .i64 mi, .int .i64 s, .string tx]
  have Z1 : (w.alloc (.cells #[.string nm, .int .i64 y, .int .i64 m, .int .i64 d, .int .i64 h, .int .i64 mi, .int .i64 s, .string tx] 34)).heap.size = w.heap.size + 1 := Array.size_push _
  rw [Z1] at BB
  have HE := Lib.hid (fun w => eqstamp_calls y m d h mi s w)
  go_enter Tryd.func41, Tryd.ntmps41
  go_wp2_with fail
  clear Z1
  generalize hP : w.heap.size = p at *
  generalize (w.alloc (.cells #[.string nm, .int .i64 y, .int .i64 m, .int .i64 d, .int .i64 h, .int .i64 mi, .int .i64 s, .string tx] 34)).alloc (.cells #[.string nm, .int .i64 y, .int .i64 m, .int .i64 d, .int .i64 h, .int .i64 mi, .int .i64 s, .string tx] 34) = wb at *
  refine (HE.out wb).mono ?_
  rintro e w1 ⟨rfl, O1⟩
  have B1 := BA.call O1.out
  have B2 := BB.call O1.out
  have c1 : w1.cell? ⟨p, 7, none⟩ = some (.string tx) := (B1.cell 7).trans rfl
  have c2 : w1.cell? ⟨p + 1, 7, none⟩ = some (.string tx) := (B2.cell 7).trans rfl
  go_wp2_with fail
  go_ret
  exact ⟨rfl, OA.call O1⟩
end Go.Proofs.YtncidljdfipigaaDoor.Nm

