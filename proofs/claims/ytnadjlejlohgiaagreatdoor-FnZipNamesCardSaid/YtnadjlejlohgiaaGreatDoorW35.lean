/- Own texts joined: Shelf, Nm2, NmF, Eu, StS, Ez. -/
import Derived.Shelf.Utf8.RuneCount
import Derived.Shelf.Strings.Search1
import Derived.Shelf.Strings.Search2
import Derived.Shelf.Strings.Search3
import Derived.Shelf.Strings.Count
import Derived.Shelf.LaysM
import Derived.Shelf.Strings.Shaped
import Derived.Shelf.Strings.Prefix
import Derived.Shelf.Strings.Split
import Derived.Shelf.Strings.SplitShaped
import Derived.Shelf.Unicode.Decode
import Derived.Shelf.Strings.RuneCount
import Derived.Shelf.Strings.Explode
import Derived.Shelf.Unicode.DecodeSlow
import Derived.Shelf.Unicode.DecodeAny
import Derived.Test.YtnadjlejlohgiaaGreatDoorProg
import Derived.Lib.Hide
import Derived.Deep.DeepCutAuto
import Derived.Lib.Strings
import Derived.Test.YtnadjlejlohgiaaGreatDoorW0
import Derived.Test.YtnadjlejlohgiaaGreatDoorW5
/-
  DERIVED: THE SHELF's CONTRACTS AT THIS DUMP, IN PLAIN WORDS (tools/lay-plain.mjs out of 'TryzShelf.lean', which tools/lay-shelf.mjs wrote): THE SAME DECLARATIONS UNDER THE SAME NAMES: 'import', 'namespace', 'open', 'def', 'theorem' AND NOTHING ELSE: no command of the shelf's: FOR A HAND-IN. Each laying: the table of numbers ('.._ren') and one theorem, a field a fact of the dump's own or the kernel's comparison; each contract: ONE APPLICATION.
-/
namespace Go.Proofs
open Go.Shelf
def Tryz.lays99_ren : Go.Shelf.Ren := ⟨fun | 99 => 93 | 206 => 126 | n => n, fun | 9 => 9 | 4 => 4 | 3 => 3 | n => n, fun | n => n⟩
theorem Tryz.lays99 : Go.Proofs.Lays.n99 Tryz.prog Tryz.lays99_ren := {
  mixed := by kernel_rfl
  f99 := Tryz.func93.trans (congrArg some (by kernel_rfl))
  f206 := Tryz.func126.trans (congrArg some (by kernel_rfl))
  t3 := Tryz.underlying3
  a3 := Tryz.isAgg3
  z3 := Tryz.sizeOf3
  v3 := Tryz.zeroValue3
  t4 := Tryz.underlying4
  a4 := Tryz.isAgg4
  z4 := Tryz.sizeOf4
  v4 := Tryz.zeroValue4
  t9 := Tryz.underlying9
  a9 := Tryz.isAgg9
  z9 := Tryz.sizeOf9
  v9 := Tryz.zeroValue9 }
open Go.RowKit Go.Lib in
/-- strings.HasPrefix: "HasPrefix reports whether the string s begins with prefix.": IT RETURNS 'Lib.hasPrefix s prefix'; the world is as it was. (LAID: no walk: one application.) -/
theorem Tryz.strings_HasPrefix (s p : ByteArray) (w : World) :
    Calls Tryz.prog 93 #[.string s, .string p] w fun e w' => e = .returned (.bool (Lib.hasPrefix s.data.toList p.data.toList)) ∧ w' = w := Any.strings_HasPrefix Tryz.lays99 s p w
def Tryz.lays146_ren : Go.Shelf.Ren := ⟨fun | 146 => 101 | 221 => 128 | 268 => 137 | 138 => 138 | 143 => 139 | 195 => 157 | 197 => 158 | 218 => 159 | 219 => 160 | 260 => 177 | 217 => 178 | 225 => 179 | 224 => 180 | 267 => 181 | 266 => 186 | 314 => 187 | n => n, fun | 9 => 9 | 31 => 34 | 3 => 3 | 4 => 4 | 0 => 0 | 105 => 157 | 21 => 21 | 5 => 5 | 46 => 92 | 119 => 169 | 139 => 172 | 138 => 171 | 146 => 173 | 51 => 71 | n => n, fun | 1 => 1 | 3 => 2 | 4 => 3 | n => n⟩
theorem Tryz.lays146 : Go.Proofs.Lays.n146 Tryz.prog Tryz.lays146_ren := {
  mixed := by kernel_rfl
  f138 := Tryz.func138.trans (congrArg some (by kernel_rfl))
  f143 := Tryz.func139.trans (congrArg some (by kernel_rfl))
  f146 := Tryz.func101.trans (congrArg some (by kernel_rfl))
  f195 := Tryz.func157.trans (congrArg some (by kernel_rfl))
  f197 := Tryz.func158.trans (congrArg some (by kernel_rfl))
  f217 := Tryz.func178.trans (congrArg some (by kernel_rfl))
  f218 := Tryz.func159.trans (congrArg some (by kernel_rfl))
  f219 := Tryz.func160.trans (congrArg some (by kernel_rfl))
  f221 := Tryz.func128.trans (congrArg some (by kernel_rfl))
  f224 := Tryz.func180.trans (congrArg some (by kernel_rfl))
  f225 := Tryz.func179.trans (congrArg some (by kernel_rfl))
  f260 := Tryz.func177.trans (congrArg some (by kernel_rfl))
  f266 := Tryz.func186.trans (congrArg some (by kernel_rfl))
  f267 := Tryz.func181.trans (congrArg some (by kernel_rfl))
  f268 := Tryz.func137.trans (congrArg some (by kernel_rfl))
  f314 := Tryz.func187.trans (congrArg some (by kernel_rfl))
  t0 := Tryz.underlying0
  a0 := Tryz.isAgg0
  z0 := Tryz.sizeOf0
  v0 := Tryz.zeroValue0
  t3 := Tryz.underlying3
  a3 := Tryz.isAgg3
  z3 := Tryz.sizeOf3
  v3 := Tryz.zeroValue3
  t4 := Tryz.underlying4
  a4 := Tryz.isAgg4
  z4 := Tryz.sizeOf4
  v4 := Tryz.zeroValue4
  t5 := Tryz.underlying5
  a5 := Tryz.isAgg5
  z5 := Tryz.sizeOf5
  v5 := Tryz.zeroValue5
  t9 := Tryz.underlying9
  a9 := Tryz.isAgg9
  z9 := Tryz.sizeOf9
  v9 := Tryz.zeroValue9
  t21 := Tryz.underlying21
  a21 := Tryz.isAgg21
  z21 := Tryz.sizeOf21
  v21 := Tryz.zeroValue21
  t31 := Tryz.underlying34
  a31 := Tryz.isAgg34
  z31 := Tryz.sizeOf34
  v31 := Tryz.zeroValue34
  t46 := Tryz.underlying92
  a46 := Tryz.isAgg92
  z46 := Tryz.sizeOf92
  v46 := Tryz.zeroValue92
  t51 := Tryz.underlying71
  a51 := Tryz.isAgg71
  z51 := Tryz.sizeOf71
  v51 := Tryz.zeroValue71
  t105 := Tryz.underlying157
  a105 := Tryz.isAgg157
  z105 := Tryz.sizeOf157
  v105 := Tryz.zeroValue157
  t119 := Tryz.underlying169
  a119 := Tryz.isAgg169
  z119 := Tryz.sizeOf169
  t138 := Tryz.underlying171
  a138 := Tryz.isAgg171
  z138 := Tryz.sizeOf171
  v138 := Tryz.zeroValue171
  t139 := Tryz.underlying172
  a139 := Tryz.isAgg172
  z139 := Tryz.sizeOf172
  v139 := Tryz.zeroValue172
  t146 := Tryz.underlying173
  a146 := Tryz.isAgg173
  z146 := Tryz.sizeOf173
  v146 := Tryz.zeroValue173
  g1 := by kernel_rfl
  g3 := by kernel_rfl
  g4 := by kernel_rfl }
open Go.RowKit Go.Lib in
/-- strings.Split. (LAID: no walk: one application.) -/
theorem Tryz.strings_Split (s sep : ByteArray) (m : Int) (w : World) (hs : s.size < 4294967281) (hm : w.cell? ⟨1, 0, none⟩ = some (.int .i64 m)) (h1 : 1 ≤ sep.size) :
    Calls Tryz.prog 101 #[.string s, .string sep] w fun e w' =>
      e = .returned (.slice (some ⟨w.heap.size, 0, none⟩) (Lib.countB s sep + 1) (Lib.countB s sep + 1)) ∧ w' = w.alloc (.cells ((Lib.splitB sep 0 (Lib.countB s sep) s).map Value.string).toArray 9) := Any.strings_Split Tryz.lays146 (by kernel_rfl) s sep m w hs hm h1
def Tryz.laysM146_ren : Go.Shelf.Ren := ⟨fun | 146 => 101 | 221 => 128 | 268 => 137 | 138 => 138 | 143 => 139 | 195 => 157 | 197 => 158 | 218 => 159 | 219 => 160 | 260 => 177 | 217 => 178 | 225 => 179 | 224 => 180 | 267 => 181 | 266 => 186 | 314 => 187 | n => n, fun | 9 => 9 | 31 => 34 | 3 => 3 | 4 => 4 | 0 => 0 | 105 => 157 | 21 => 21 | 5 => 5 | 46 => 92 | 119 => 169 | 139 => 172 | 138 => 171 | 146 => 173 | 51 => 71 | n => n, fun | 1 => 1 | 3 => 2 | 4 => 3 | n => n⟩
theorem Tryz.laysM146 : Go.Proofs.LaysM.n146 Tryz.prog Tryz.laysM146_ren := {
  mixed := by kernel_rfl
  f138 := Tryz.func138.trans (congrArg some (by kernel_rfl))
  f143 := Tryz.func139.trans (congrArg some (by kernel_rfl))
  f146 := Tryz.func101.trans (congrArg some (by kernel_rfl))
  f195 := Tryz.func157.trans (congrArg some (by kernel_rfl))
  f197 := Tryz.func158.trans (congrArg some (by kernel_rfl))
  f217 := Tryz.func178.trans (congrArg some (by kernel_rfl))
  f218 := Tryz.func159.trans (congrArg some (by kernel_rfl))
  f219 := Tryz.func160.trans (congrArg some (by kernel_rfl))
  f221 := Tryz.func128.trans (congrArg some (by kernel_rfl))
  f224 := Tryz.func180.trans (congrArg some (by kernel_rfl))
  f225 := Tryz.func179.trans (congrArg some (by kernel_rfl))
  f260 := Tryz.func177.trans (congrArg some (by kernel_rfl))
  f266 := Tryz.func186.trans (congrArg some (by kernel_rfl))
  f267 := Tryz.func181.trans (congrArg some (by kernel_rfl))
  f268 := Tryz.func137.trans (congrArg some (by kernel_rfl))
  f314 := Tryz.func187.trans (congrArg some (by kernel_rfl))
  t0 := Tryz.underlying0
  a0 := Tryz.isAgg0
  z0 := Tryz.sizeOf0
  v0 := Tryz.zeroValue0
  t3 := Tryz.underlying3
  a3 := Tryz.isAgg3
  z3 := Tryz.sizeOf3
  v3 := Tryz.zeroValue3
  t4 := Tryz.underlying4
  a4 := Tryz.isAgg4
  z4 := Tryz.sizeOf4
  v4 := Tryz.zeroValue4
  t5 := Tryz.underlying5
  a5 := Tryz.isAgg5
  z5 := Tryz.sizeOf5
  v5 := Tryz.zeroValue5
  t9 := Tryz.underlying9
  a9 := Tryz.isAgg9
  z9 := Tryz.sizeOf9
  v9 := Tryz.zeroValue9
  t21 := Tryz.underlying21
  a21 := Tryz.isAgg21
  z21 := Tryz.sizeOf21
  v21 := Tryz.zeroValue21
  t31 := Tryz.underlying34
  a31 := Tryz.isAgg34
  z31 := Tryz.sizeOf34
  v31 := Tryz.zeroValue34
  t46 := Tryz.underlying92
  a46 := Tryz.isAgg92
  z46 := Tryz.sizeOf92
  v46 := Tryz.zeroValue92
  t51 := Tryz.underlying71
  a51 := Tryz.isAgg71
  z51 := Tryz.sizeOf71
  v51 := Tryz.zeroValue71
  t105 := Tryz.underlying157
  a105 := Tryz.isAgg157
  z105 := Tryz.sizeOf157
  v105 := Tryz.zeroValue157
  t119 := Tryz.underlying169
  a119 := Tryz.isAgg169
  z119 := Tryz.sizeOf169
  t138 := Tryz.underlying171
  a138 := Tryz.isAgg171
  z138 := Tryz.sizeOf171
  v138 := Tryz.zeroValue171
  t139 := Tryz.underlying172
  a139 := Tryz.isAgg172
  z139 := Tryz.sizeOf172
  v139 := Tryz.zeroValue172
  t146 := Tryz.underlying173
  a146 := Tryz.isAgg173
  z146 := Tryz.sizeOf173
  v146 := Tryz.zeroValue173
  g1 := by kernel_rfl
  g3 := by kernel_rfl
  g4 := by kernel_rfl
  i0 := by kernel_rfl
  i3 := by kernel_rfl
  i4 := by kernel_rfl
  i5 := by kernel_rfl
  i9 := by kernel_rfl
  i21 := by kernel_rfl
  i31 := by kernel_rfl
  i46 := by kernel_rfl
  i51 := by kernel_rfl
  i105 := by kernel_rfl
  i138 := by kernel_rfl
  i139 := by kernel_rfl
  i146 := by kernel_rfl
  m1 := by kernel_rfl
  s1_3 := fun w h => Go.Proofs.cell_of_shapedOpen_int (zero := #[.int .i64 0]) (t := 3) h (of_decide_eq_true (by kernel_rfl)) (by kernel_rfl) rfl (by kernel_rfl) (by kernel_rfl) Tryz.underlying3
  m3 := by kernel_rfl
  m4 := by kernel_rfl }
end Go.Proofs

/- Names cut at slashes: both programs' NameOk answer the plain one. Conditions: the size of the text; the cell that holds the library's length (any number). -/
namespace Go.Proofs.YtnadjlejlohgiaaGreatDoor.Nm
open Go.RowKit Go.Proofs.YtnadjlejlohgiaaGreatDoor.Mem
set_option linter.unusedVariables false
set_option linter.unusedSimpArgs false
/-- A text cut at slashes. -/
def parts : List UInt8 → List (List UInt8)
  | [] => [[]]
  | b :: t => if b = 47 then [] :: parts t else match parts t with
    | [] => [[b]]
    | p :: r => (b :: p) :: r
theorem parts_ne (l : List UInt8) : parts l ≠ [] := by
  cases l with
  | nil => simp [parts]
  | cons b t => unfold parts; split; · simp
                split <;> simp
theorem parts_slash : ∀ (a b : List UInt8), (47 : UInt8) ∉ a → parts (a ++ 47 :: b) = a :: parts b
  | [], b, _ => by simp [parts]
  | x :: a, b, h => by
    have hx : x ≠ 47 := fun e => h (by simp [e])
    have ih := parts_slash a b (fun e => h (List.mem_cons_of_mem _ e))
    simp only [List.cons_append, parts, if_neg hx, ih]
theorem parts_one : ∀ (a : List UInt8), (47 : UInt8) ∉ a → parts a = [a]
  | [], _ => rfl
  | x :: a, h => by
    have hx : x ≠ 47 := fun e => h (by simp [e])
    have ih := parts_one a (fun e => h (List.mem_cons_of_mem _ e))
    simp only [parts, if_neg hx, ih]
def nameOk (l : List UInt8) : Bool := (parts l).all partOk && decide ((parts l).length ≤ 4)
theorem parts_len (l : List UInt8) : (parts l).length ≤ l.length + 1 := by
  induction l with
  | nil => simp [parts]
  | cons b t ih =>
    unfold parts; split
    · simp; omega
    · split <;> simp_all <;> omega
theorem cut_step {l done : List (List UInt8)} {s : List UInt8} {from_ k : Nat} (hp : l = done ++ parts (s.drop from_)) (hf : from_ ≤ k) (hk : k < s.length) (hno : (47 : UInt8) ∉ (s.take k).drop from_) (hb : s[k] = 47) :
    l = (done ++ [(s.take k).drop from_]) ++ parts (s.drop (k + 1)) := by
  have e : s.drop from_ = (s.take k).drop from_ ++ 47 :: s.drop (k + 1) := by
    have h1 : s.drop k = s[k] :: s.drop (k + 1) := List.drop_eq_getElem_cons hk
    rw [← hb, ← h1]
    conv => lhs; rw [← List.take_append_drop k s, List.drop_append]
    congr 1
    have : from_ - (s.take k).length = 0 := by rw [List.length_take]; omega
    rw [this, List.drop_zero]
  rw [hp, e, parts_slash _ _ hno, List.append_assoc]; rfl
theorem no_step {s : List UInt8} {from_ k : Nat} (hf : from_ ≤ k) (hk : k < s.length) (hno : (47 : UInt8) ∉ (s.take k).drop from_) (hb : s[k] ≠ 47) : (47 : UInt8) ∉ (s.take (k + 1)).drop from_ := by
  rw [List.take_succ_eq_append_getElem hk, List.drop_append]
  intro h
  rcases List.mem_append.1 h with h | h
  · exact hno h
  · have : from_ - (s.take k).length = 0 := by rw [List.length_take]; omega
    rw [this, List.drop_zero] at h
    simp at h
    exact hb h.symm
theorem byte_at {s : ByteArray} {k : Nat} (hk : k < s.size) : ∃ b, s[k] = b ∧ k < s.data.toList.length ∧ ∀ h : k < s.data.toList.length, s.data.toList[k] = b := ⟨_, rfl, by rw [Array.length_toList]; exact hk, fun _ => rfl⟩
theorem toNat_47 {b : UInt8} : b.toNat = 47 ↔ b = 47 := ⟨fun h => UInt8.toNat_inj.1 (by simpa using h), fun h => by subst h; rfl⟩
theorem splitK_one : ∀ s : List UInt8, Lib.splitK [47] 0 (Lib.count s [47]) s = parts s
  | [] => by
    have h : Lib.count [] [(47 : UInt8)] = 0 := by rw [Lib.count_miss (by simp [Lib.index])]
    rw [h]; rfl
  | b :: l => by
    have ih := splitK_one l
    by_cases hb : b = 47
    · subst hb
      have hix : Lib.index (47 :: l) [(47 : UInt8)] = ((0 : Nat) : Int) := by rw [Lib.index]; simp [List.isPrefixOf]
      rw [Lib.count_cons_eq, Nat.add_comm, Lib.splitK, if_neg (by rw [hix]; decide), hix]
      simp only [Int.toNat_natCast, List.length_cons, List.length_nil, Nat.zero_add, List.take_zero, List.drop_succ_cons, List.drop_zero, ih, parts, if_true, Nat.add_zero]
    · have hp : ([(47 : UInt8)] : List UInt8).isPrefixOf (b :: l) = false := by simp [List.isPrefixOf, Ne.symm hb]
      have hix : Lib.index (b :: l) [47] = if Lib.index l [47] == -1 then -1 else Lib.index l [47] + 1 := by rw [Lib.index, hp]; simp
      rw [Lib.count_cons_ne b 47 l hb]
      by_cases hm : Lib.index l [(47 : UInt8)] = -1
      · rw [Lib.count_miss hm] at ih ⊢
        have ih' : [l] = parts l := ih
        simp only [parts, if_neg hb, ← ih']
        rfl
      · have hge := Lib.index_ge l [(47 : UInt8)]
        obtain ⟨j, hj⟩ : ∃ j : Nat, Lib.index l [(47 : UInt8)] = j := ⟨(Lib.index l [(47 : UInt8)]).toNat, by omega⟩
        have hix' : Lib.index (b :: l) [47] = ((j + 1 : Nat) : Int) := by rw [hix, if_neg (fun e => hm (beq_iff_eq.1 e)), hj]; omega
        have hc := Lib.count_hit (by simp) hj
        obtain ⟨k, hk⟩ : ∃ k, Lib.count l [(47 : UInt8)] = k + 1 := ⟨_, by rw [hc, Nat.add_comm]⟩
        rw [hk] at ih ⊢
        rw [Lib.splitK, if_neg (by rw [hj]; simp), hj] at ih
        rw [Lib.splitK, if_neg (by rw [hix']; simp; omega), hix']
        simp only [Int.toNat_natCast, List.length_cons, List.length_nil, Nat.zero_add, Nat.add_zero] at ih ⊢
        simp only [parts, if_neg hb, ← ih, List.take_succ_cons, List.drop_succ_cons]
theorem slash_data : (⟨#[47]⟩ : ByteArray).data.toList = [47] := rfl
theorem split_is (s : ByteArray) : (Lib.splitB ⟨#[47]⟩ 0 (Lib.countB s ⟨#[47]⟩) s).map Value.string = (parts s.data.toList).map str := by
  have h := Lib.splitB_data ⟨#[47]⟩ 0 (Lib.countB s ⟨#[47]⟩) s
  have hc : Lib.countB s ⟨#[47]⟩ = Lib.count s.data.toList [47] := rfl
  rw [hc, slash_data, splitK_one] at h
  rw [hc, ← h, List.map_map]
  refine List.map_congr_left fun x _ => ?_
  exact str_of x
theorem split_len (s : ByteArray) : Lib.countB s ⟨#[47]⟩ + 1 = (parts s.data.toList).length := by
  have h := congrArg List.length (split_is s)
  rw [List.length_map, List.length_map, Lib.splitB_all _ (by decide) 0 _ s rfl] at h
  exact h
theorem strinfo : (Tryz.prog.info? 9).map (fun i => (i.zero, i.size, i.bytes)) = some (some (.string ByteArray.empty), 1, 16) := by kernel_rfl
set_option maxRecDepth 100000 in
theorem cut_calls (s : ByteArray) (hs : s.size < 4294967281) (w : World) :
    Calls Tryz.prog 116 #[.string s, .int .u8 47, .int .i64 (s.size + 1)] w fun e w' => ∃ v, e = .returned v ∧ Own w.heap.size w' 9 1 v (parts s.data.toList).length ((parts s.data.toList).map str) ∧ On w w' := by
  go_enter Tryz.func116, Tryz.ntmps116
  go_wp2_with fail
  obtain ⟨i0, hi, hz0, hz1, hz2⟩ := info_parts strinfo
  have HS := Lib.hid hs
  clear hs
  go_loopw [7, 8, 9] (fun v f x wr => ∃ (k fr : Nat) (done : List (List UInt8)), x = .int .i64 k ∧ f = .int .i64 fr ∧ fr ≤ k ∧ k ≤ s.size ∧ parts s.data.toList = done ++ parts (s.data.toList.drop fr) ∧ (47 : UInt8) ∉ (s.data.toList.take k).drop fr ∧ done.length ≤ k ∧ Own w.heap.size wr 9 1 v done.length (done.map str) ∧ On w wr) (fun _ _ x _ => s.size - (intOf x).toNat)
  case atStart => exact ⟨0, 0, [], rfl, rfl, Nat.le_refl _, Nat.zero_le _, rfl, by simp, Nat.le_refl _, Own.new w 9 1 #[] 0 (Nat.zero_le _) rfl (Nat.le_refl _), (On.refl w).alloc _⟩
  case round =>
    obtain ⟨k, fr, done, rfl, rfl, hfk, hk, hp, hno, hdk, hown, O⟩ := hrel
    obtain ⟨g, cap, rfl, hg, hrow, hn, hcap, hlen⟩ := hown.parts
    by_cases hlt : k < s.size
    · obtain ⟨b, hbb, hk', hat⟩ := byte_at hlt
      have hd : done.length < 4294967281 := by have := HS.out; omega
      have hks : k < 4294967281 := by have := HS.out; omega
      have hd2 : (done.length : Int) < s.size + 1 := by omega
      by_cases hb : b = 47
      · have hx := cut_step hp hfk hk' hno (by rw [hat]; exact hb)
        have ex : Value.string (s.extract fr k) = str ((s.data.toList.take k).drop fr) := by
          rw [str_of, Lib.extract_data, List.drop_take]
        have EX := Lib.hid ex
        have HX := Lib.hid hx
        have HP := Lib.hid hp
        have HN := Lib.hid hno
        have hb1 : ((b.toNat : Int) == 47) = true := by rw [hb]; rfl
        clear hb hat hk' ex hx hp hno
        go_wp2_with (at_builtin; go_must (refine wpList_app rfl _ _ 34 rfl w i0 (.string ByteArray.empty) 16 1 Tryz.underlying34 hi hz0 hz1 hz2 rfl (by decide) rfl _ _ _ rfl hown O rfl (by simp [Value.oneCell']) (by unfold maxLen; omega) (by omega) ?_); intro v' w1 hown' O' _)
        go_roundw
        case rel =>
          refine ⟨k + 1, k + 1, done ++ [(s.data.toList.take k).drop fr], by go_num, by go_num, Nat.le_refl _, hlt, HX.out, by simp, by simp; omega, ?_, O'⟩
          simpa [EX.out] using hown'
        case measure => simp [intOf]; omega
      · have hx := no_step hfk hk' hno (by rw [hat]; exact hb)
        have hb1 : ((b.toNat : Int) == 47) = false := by
          rw [beq_eq_false_iff_ne]; intro h; exact hb (toNat_47.1 (by omega))
        have HX := Lib.hid hx
        have HP := Lib.hid hp
        have HN := Lib.hid hno
        clear hb hat hk' hx hp hno
        go_wp2_with fail
        go_roundw
        case rel =>
          exact ⟨k + 1, fr, done, by go_num, rfl, by omega, by omega, HP.out, HX.out, by omega, hown, O⟩
        case measure => simp [intOf]; omega
    · obtain rfl : k = s.size := by omega
      have hL : s.data.toList.length = s.size := Array.length_toList
      rw [List.take_of_length_le (by omega)] at hno
      rw [parts_one _ hno] at hp
      have hd : done.length < 4294967281 := by have := HS.out; omega
      have ex : Value.string (s.extract fr s.size) = str (s.data.toList.drop fr) := by
        rw [str_of, Lib.extract_to_end]
      have EX := Lib.hid ex
      have HP := Lib.hid hp
      clear ex hp hno
      go_wp2_with (at_builtin; go_must (refine wpList_app rfl _ _ 34 rfl w i0 (.string ByteArray.empty) 16 1 Tryz.underlying34 hi hz0 hz1 hz2 rfl (by decide) rfl _ _ _ rfl hown O rfl (by simp [Value.oneCell']) (by unfold maxLen; omega) (by omega) ?_); intro v' w1 hown' O' _)
      go_ret
      refine ⟨_, rfl, ?_, O'⟩
      rw [HP.out]
      simpa [EX.out] using hown'
theorem part_small {s : List UInt8} {p : List UInt8} (h : p ∈ parts s) : p.length ≤ s.length := by
  induction s generalizing p with
  | nil => simp [parts] at h; simp [h]
  | cons b t ih =>
    unfold parts at h
    split at h
    · rcases List.mem_cons.1 h with rfl | h
      · simp
      · have := ih h; simp; omega
    · split at h
      · simp at h; simp [h]
      · rename_i q r hq
        rcases List.mem_cons.1 h with rfl | h
        · have := ih (p := q) (by rw [hq]; simp); simp; omega
        · have := ih (p := p) (by rw [hq]; simp [h]); simp; omega
set_option maxRecDepth 100000 in
theorem iname_calls (s : ByteArray) (hs : s.size < 4294967281) (m : Int) (w : World) (hm : w.cell? ⟨1, 0, none⟩ = some (.int .i64 m)) :
    Calls Tryz.prog 74 #[.string s] w (Tells w (.bool (nameOk s.data.toList))) := by
  go_enter Tryz.func74, Tryz.ntmps74
  go_wp2_with fail
  refine (Tryz.strings_Split s _ m w hs hm (by decide)).mono ?_
  rintro e w1 ⟨rfl, rfl⟩
  rw [split_is, split_len]
  have hlen := parts_len s.data.toList
  have hall := fun p => part_small (s := s.data.toList) (p := p)
  have hL : s.data.toList.length = s.size := Array.length_toList
  have hnm : nameOk s.data.toList = ((parts s.data.toList).all partOk && decide ((parts s.data.toList).length ≤ 4)) := rfl
  generalize hps : parts s.data.toList = ps at *
  have O := (On.refl w).alloc (.cells (ps.map str).toArray 9)
  have R := Row.of (Blk.new w 9 (ps.map str).toArray)
  have HL := Lib.hid hall
  have HS := Lib.hid hs
  have HM := Lib.hid hnm
  clear hall hs hnm hps
  have hp1 : ps.length < 4294967299 := by have := HS.out; omega
  go_wp2_with fail
  go_loopw [10] (fun x wr => ∃ k : Nat, k ≤ ps.length ∧ x = .int .i64 k ∧ (ps.take k).all partOk = true ∧ Row wr w.heap.size 9 (ps.map str) ∧ On w wr) (fun x _ => ps.length - (intOf x).toNat)
  case atStart => exact ⟨0, by omega, rfl, rfl, R, O⟩
  case round =>
    obtain ⟨k, hk, rfl, hall, R, O⟩ := hrel
    by_cases hlt : k < ps.length
    · have c0 : wr.cell? ⟨w.heap.size, k, none⟩ = some (.string ⟨ps[k].toArray⟩) := R.cell (by simp [hlt, str])
      have hmem : ps[k] ∈ ps := List.getElem_mem hlt
      have hpl := HL.out _ hmem
      have hstep : partOk ps[k] = true → (ps.take (k + 1)).all partOk = true := fun hb => by
        rw [List.take_succ_eq_append_getElem hlt, List.all_append, hall]; simpa using hb
      generalize ps[k] = p at *
      have HT := Lib.hid hstep
      clear hstep
      have hpz : (⟨p.toArray⟩ : ByteArray).size < 4294967296 := by have := HS.out; simp [ByteArray.size]; omega
      have hL2 := Lib.hid hL
      clear hL
      go_wp2_with fail
      refine (part_calls _ hpz wr).mono ?_
      rintro e w1 ⟨rfl, O1⟩
      replace O := O.call O1
      replace R := R.on O1
      have hp2 : partOk (⟨p.toArray⟩ : ByteArray).data.toList = partOk p := by simp
      rw [hp2]
      by_cases hb : partOk p = true
      · rw [hb]
        have hs' := HT.out hb
        have HT' := Lib.hid hs'
        clear hs'
        go_wp2_with fail
        go_roundw
        case rel => exact ⟨k + 1, by omega, by go_num, HT'.out, R, O⟩
        case measure => simp [intOf]; omega
      · have hb' : partOk p = false := by simpa using hb
        rw [hb']
        go_wp2_with fail
        go_ret
        refine ⟨?_, O⟩
        rw [HM.out]
        have : ps.all partOk = false := by
          rw [Bool.eq_false_iff]; intro h; exact hb (List.all_eq_true.1 h _ hmem)
        rw [this]; rfl
    · obtain rfl : k = ps.length := by omega
      have hall2 : ps.all partOk = true := by
        rw [List.take_of_length_le (Nat.le_refl _)] at hall; exact hall
      go_wp2_with fail
      go_ret
      refine ⟨?_, O⟩
      rw [HM.out, hall2]
      simp; omega
theorem ok_cases {b : UInt8} (h : okByte b = true) :
    (97 ≤ (b.toNat : Int) ∧ (b.toNat : Int) ≤ 122) ∨ ((b.toNat : Int) < 97 ∧ 48 ≤ (b.toNat : Int) ∧ (b.toNat : Int) ≤ 57) ∨ ((b.toNat : Int) < 97 ∧ (b.toNat : Int) < 48 ∧ ((b.toNat : Int) == 46) = true) ∨
    ((b.toNat : Int) < 97 ∧ (b.toNat : Int) < 48 ∧ ((b.toNat : Int) == 46) = false ∧ ((b.toNat : Int) == 45) = true) ∨ ((b.toNat : Int) < 97 ∧ 48 ≤ (b.toNat : Int) ∧ 57 < (b.toNat : Int) ∧ ((b.toNat : Int) == 46) = false ∧ ((b.toNat : Int) == 45) = false ∧ ((b.toNat : Int) == 95) = true) := by
  simp only [okByte, Bool.or_eq_true, decide_eq_true_eq] at h
  simp only [beq_iff_eq, beq_eq_false_iff_ne, ne_eq]
  omega
theorem part_eq (q : ByteArray) (h : q.data.toList.all okByte = true) : partOk q.data.toList = (decide (1 ≤ (q.size : Int) ∧ (q.size : Int) ≤ 10) && !(q.toList == [46]) && !(q.toList == [46, 46])) := by
  unfold partOk
  rw [h, ByteArray.toList_eq]
  have hL : q.data.toList.length = q.size := Array.length_toList
  have h1 : decide (1 ≤ q.data.toList.length ∧ q.data.toList.length ≤ 10) = decide (1 ≤ (q.size : Int) ∧ (q.size : Int) ≤ 10) := by
    rw [hL]; exact decide_eq_decide.2 (by omega)
  rw [h1]
  have h2 : ∀ a b : List UInt8, decide (a ≠ b) = !(a == b) := fun a b => by
    by_cases h : a = b <;> simp [h]
  rw [h2, h2]; simp
theorem bad_cases {b : UInt8} (h : ¬ okByte b = true) :
    (decide (97 ≤ (b.toNat : Int)) = true ∧ decide ((b.toNat : Int) ≤ 122) = false ∧ decide (48 ≤ (b.toNat : Int)) = true ∧ decide ((b.toNat : Int) ≤ 57) = false ∧ ((b.toNat : Int) == 46) = false ∧ ((b.toNat : Int) == 45) = false ∧ ((b.toNat : Int) == 95) = false) ∨
    (decide (97 ≤ (b.toNat : Int)) = false ∧ decide (48 ≤ (b.toNat : Int)) = true ∧ decide ((b.toNat : Int) ≤ 57) = false ∧ ((b.toNat : Int) == 46) = false ∧ ((b.toNat : Int) == 45) = false ∧ ((b.toNat : Int) == 95) = false) ∨
    (decide (97 ≤ (b.toNat : Int)) = false ∧ decide (48 ≤ (b.toNat : Int)) = false ∧ ((b.toNat : Int) == 46) = false ∧ ((b.toNat : Int) == 45) = false ∧ ((b.toNat : Int) == 95) = false) := by
  simp only [okByte, Bool.or_eq_true, decide_eq_true_eq] at h
  simp only [beq_iff_eq, beq_eq_false_iff_ne, ne_eq, decide_eq_true_eq, decide_eq_false_iff_not]
  omega
set_option maxRecDepth 100000 in
set_option maxHeartbeats 1000000 in
theorem sname_calls (s : ByteArray) (hs : s.size < 4294967281) (w : World) :
    Calls Tryz.prog 80 #[.string s] w (Tells w (.bool (nameOk s.data.toList))) := by
  go_enter Tryz.func80, Tryz.ntmps80
  go_wp2_with fail
  refine (cut_calls s hs w).mono ?_
  rintro e w1 ⟨v1, rfl, hown, O⟩
  obtain ⟨g, cap, rfl, hg, R, hn, hcap, _⟩ := hown.parts
  have hlen := parts_len s.data.toList
  have hall := fun p => part_small (s := s.data.toList) (p := p)
  have hL : s.data.toList.length = s.size := Array.length_toList
  have hnm : nameOk s.data.toList = ((parts s.data.toList).all partOk && decide ((parts s.data.toList).length ≤ 4)) := rfl
  generalize hps : parts s.data.toList = ps at *
  have HL := Lib.hid hall
  have HS := Lib.hid hs
  have HM := Lib.hid hnm
  clear hall hs hnm hps hown
  have hp1 : ps.length < 4294967299 := by have := HS.out; omega
  go_wp2_with fail
  go_loopw [4] (fun x wr => ∃ k : Nat, k ≤ ps.length ∧ x = .int .i64 k ∧ (ps.take k).all partOk = true ∧ Row wr g 9 (ps.map str) ∧ On w wr) (fun x _ => ps.length - (intOf x).toNat)
  case atStart => exact ⟨0, by omega, rfl, rfl, R, O⟩
  case round =>
    obtain ⟨k, hk, rfl, hall, R, O⟩ := hrel
    by_cases hlt : k < ps.length
    · obtain ⟨q, hq⟩ : ∃ q : ByteArray, ps[k] = q.data.toList := ⟨⟨ps[k].toArray⟩, by simp⟩
      have c0 : wr.cell? ⟨g, k, none⟩ = some (.string q) := R.cell (by rw [str_of, ← hq]; simp [hlt])
      have hmem : ps[k] ∈ ps := List.getElem_mem hlt
      rw [hq] at hmem
      have hpl := HL.out _ hmem
      have hstep : partOk q.data.toList = true → (ps.take (k + 1)).all partOk = true := fun hb => by
        rw [List.take_succ_eq_append_getElem hlt, List.all_append, hall, hq]; simpa using hb
      have HQ := Lib.hid hq
      have HT := Lib.hid hstep
      have HA := Lib.hid hall
      have hqz : q.size < 4294967281 := by have := HS.out; rw [hL] at hpl; rw [show q.size = q.data.toList.length from Array.length_toList.symm]; omega
      have hL2 := Lib.hid hL
      have hPL := Lib.hid hpl
      have hMM := Lib.hid hmem
      clear hstep hq hL hall hpl hmem
      go_wp2_with fail
      go_loopw [6] (fun x w2 => ∃ j : Nat, j ≤ q.size ∧ x = .int .i64 j ∧ (q.data.toList.take j).all okByte = true ∧ w2 = wr) (fun x _ => q.size - (intOf x).toNat)
      case atStart => exact ⟨0, by omega, rfl, rfl, rfl⟩
      case round =>
        obtain ⟨j, hj, rfl, hall, rfl⟩ := hrel
        by_cases hjt : j < q.size
        · have hstep := all_step hall hjt
          have hmem := mem_at hjt
          generalize hbb : q[j] = b at *
          have HA2 := Lib.hid hall
          have HST := Lib.hid hstep
          have HME := Lib.hid hmem
          clear hall hstep hmem
          by_cases hb : okByte b = true
          · rcases ok_cases hb with ⟨h1, h2⟩ | ⟨h1, h2, h3⟩ | ⟨h1, h2, h3⟩ | ⟨h1, h2, h3, h4⟩ | ⟨h1, h2, h3, h4, h5, h6⟩
            all_goals
              have hs1 := Lib.hid (HST.out hb)
              clear hb
              go_wp2_with fail
              go_roundw
              case rel => exact ⟨j + 1, by omega, by go_num, hs1.out, by simp⟩
              case measure => simp [intOf]; omega
          · have hp : nameOk s.data.toList = false := by
              have h1 : q.data.toList.all okByte = false := by
                rw [Bool.eq_false_iff]; intro h; exact hb (List.all_eq_true.1 h _ HME.out)
              have h2 : ps.all partOk = false := by
                rw [Bool.eq_false_iff]; intro h
                have := List.all_eq_true.1 h _ hMM.out
                unfold partOk at this
                rw [h1] at this; exact absurd this (by simp)
              rw [HM.out, h2]; rfl
            have HP := Lib.hid hp
            clear hp
            rcases bad_cases hb with ⟨h1, h2, h3, h4, h5, h6, h7⟩ | ⟨h1, h2, h3, h4, h5, h6⟩ | ⟨h1, h2, h3, h4, h5⟩
            all_goals
              clear hb
              go_wp2_with fail
              go_ret
              exact ⟨by rw [HP.out]; rfl, O⟩
        · obtain rfl : j = q.size := by omega
          have hall2 : q.data.toList.all okByte = true := by
            rw [List.take_of_length_le (by rw [Array.length_toList]; exact Nat.le_refl _)] at hall; exact hall
          have hpo := part_eq q hall2
          have HPO := Lib.hid hpo
          have hfalse : partOk q.data.toList = false → nameOk s.data.toList = false := fun h => by
            have h2 : ps.all partOk = false := by
              rw [Bool.eq_false_iff]; intro h'
              have := List.all_eq_true.1 h' _ hMM.out
              rw [h] at this; exact absurd this (by simp)
            rw [HM.out, h2]; rfl
          have HF := Lib.hid hfalse
          clear hall hall2 hpo hfalse
          go_wp2_with fail
          refine (in_calls _ _ _ _).mono ?_
          rintro e w3 ⟨rfl, O1⟩
          replace O := O.call O1
          replace R := R.on O1
          clear O1
          by_cases hin : 1 ≤ (q.size : Int) ∧ (q.size : Int) ≤ 10
          · rw [decide_eq_true hin]
            have HI := Lib.hid hin
            clear hin
            cases h46 : (q.toList == [46])
            · cases h47 : (q.toList == [46, 46])
              · have hs1 := HT.out (by rw [HPO.out, decide_eq_true HI.out, h46, h47]; rfl)
                have HS1 := Lib.hid hs1
                clear hs1
                go_wp2_with fail
                go_roundw
                case rel => exact ⟨k + 1, by omega, by go_num, HS1.out, R, O⟩
                case measure => simp [intOf]; omega
              · have hf := HF.out (by rw [HPO.out, h47]; simp)
                have HF2 := Lib.hid hf
                clear hf
                go_wp2_with fail
                go_ret
                exact ⟨by rw [HF2.out]; rfl, O⟩
            · have hf := HF.out (by rw [HPO.out, h46]; simp)
              have HF2 := Lib.hid hf
              clear hf
              go_wp2_with fail
              go_ret
              exact ⟨by rw [HF2.out]; rfl, O⟩
          · rw [decide_eq_false hin]
            have hf := HF.out (by rw [HPO.out, decide_eq_false hin]; rfl)
            have HF2 := Lib.hid hf
            clear hf hin
            go_wp2_with fail
            go_ret
            exact ⟨by rw [HF2.out]; rfl, O⟩
    · obtain rfl : k = ps.length := by omega
      have hall2 : ps.all partOk = true := by
        rw [List.take_of_length_le (Nat.le_refl _)] at hall; exact hall
      go_wp2_with fail
      go_ret
      refine ⟨?_, O⟩
      rw [HM.out, hall2]
      simp; omega
end Go.Proofs.YtnadjlejlohgiaaGreatDoor.Nm

/- The walk of FnExactNameOk: at every text it returns true and keeps what was. The one fact that it takes: the library's cell of a length holds some number. -/
namespace Go.Proofs.YtnadjlejlohgiaaGreatDoor.Nm
open Go.RowKit Go.Proofs.YtnadjlejlohgiaaGreatDoor.Mem
set_option linter.unusedVariables false
set_option linter.unusedSimpArgs false
/-- The library's cell of a length holds some number. -/
def Fact (W : World) : Prop := ∃ m, W.cell? ⟨1, 0, none⟩ = some (.int .i64 m)
theorem facts {W : World} {l : List (String × DataW Unit)} (hl : laidMetH Tryz.prog l W) (h : W.ShapedOpen Tryz.prog) : Fact W := Tryz.laysM146.s1_3 W h
theorem Fact.on {w w' : World} (h : Fact w) (hz : 1 < w.heap.size) (O : On w w') : Fact w' := by
  obtain ⟨m, hm⟩ := h
  exact ⟨m, (O.cell hz).trans hm⟩
theorem Fact.lt {w : World} (h : Fact w) : 1 < w.heap.size := by
  obtain ⟨m, hm⟩ := h
  rcases Nat.lt_or_ge 1 w.heap.size with hl | hl
  · exact hl
  · have h2 : w.heap[1]? = none := Array.getElem?_eq_none hl
    simp [World.cell?, h2] at hm
theorem iname_f (s : ByteArray) (hs : s.size < 4294967281) (w : World) (hf : Fact w) : Calls Tryz.prog 74 #[.string s] w (Tells w (.bool (nameOk s.data.toList))) := by
  obtain ⟨m, hm⟩ := hf
  exact iname_calls s hs m w hm
end Go.Proofs.YtnadjlejlohgiaaGreatDoor.Nm

/- A law's file: how many bytes are left, and as the program's own. Conditions: texts that a machine can hold. -/
namespace Go.Proofs.YtnadjlejlohgiaaGreatDoor.Nm
open Go.RowKit Go.Proofs.YtnadjlejlohgiaaGreatDoor.Mem
set_option linter.unusedVariables false
set_option linter.unusedSimpArgs false
/-- A file as one value: its name, its stamp's six numbers, its text. -/
def ent (nm : ByteArray) (y m d h mi s : Int) (tx : ByteArray) : Value := .agg #[.string nm, .int .i64 y, .int .i64 m, .int .i64 d, .int .i64 h, .int .i64 mi, .int .i64 s, .string tx]
end Go.Proofs.YtnadjlejlohgiaaGreatDoor.Nm

/- Stamps: StampOk of spec answers the plain one, at every six numbers. No condition. -/
namespace Go.Proofs.YtnadjlejlohgiaaGreatDoor.Nm
open Go.RowKit Go.Proofs.YtnadjlejlohgiaaGreatDoor.Mem
set_option linter.unusedVariables false
set_option linter.unusedSimpArgs false
set_option maxRecDepth 100000 in
set_option maxHeartbeats 4000000 in
theorem sok_calls_0 (y m d h mi s : Int) (w : World)  (e1 : decide (1980 ≤ y ∧ y ≤ 2107) = false) : Calls Tryz.prog 81 #[.agg #[.int .i64 y, .int .i64 m, .int .i64 d, .int .i64 h, .int .i64 mi, .int .i64 s]] w (Tells w (.bool false)) := by
  go_enter Tryz.func81, Tryz.ntmps81
  go_wp2_with fail
  go_quiet (first
    | (go_at_call 30; exact Calls.quiet_of_same (in_same _ _ _ _))
    | (go_at_call 117; exact Calls.quiet_of_same (sdays_calls _ _ _)))
  go_wp2_with fail
  go_ret
  exact ⟨by simp, ((On.refl w).alloc _).drewN _⟩
set_option maxRecDepth 100000 in
set_option maxHeartbeats 4000000 in
theorem sok_calls_1 (y m d h mi s : Int) (w : World) (e1 : decide (1980 ≤ y ∧ y ≤ 2107) = true) (e2 : decide (1 ≤ m ∧ m ≤ 12) = false) : Calls Tryz.prog 81 #[.agg #[.int .i64 y, .int .i64 m, .int .i64 d, .int .i64 h, .int .i64 mi, .int .i64 s]] w (Tells w (.bool false)) := by
  go_enter Tryz.func81, Tryz.ntmps81
  go_wp2_with fail
  go_quiet (first
    | (go_at_call 30; exact Calls.quiet_of_same (in_same _ _ _ _))
    | (go_at_call 117; exact Calls.quiet_of_same (sdays_calls _ _ _)))
  go_wp2_with fail
  go_ret
  exact ⟨by simp, ((On.refl w).alloc _).drewN _⟩
set_option maxRecDepth 100000 in
set_option maxHeartbeats 4000000 in
theorem sok_calls_2 (y m d h mi s : Int) (w : World) (e1 : decide (1980 ≤ y ∧ y ≤ 2107) = true) (e2 : decide (1 ≤ m ∧ m ≤ 12) = true) (e3 : decide (1 ≤ d ∧ d ≤ dd y m) = false) : Calls Tryz.prog 81 #[.agg #[.int .i64 y, .int .i64 m, .int .i64 d, .int .i64 h, .int .i64 mi, .int .i64 s]] w (Tells w (.bool false)) := by
  go_enter Tryz.func81, Tryz.ntmps81
  go_wp2_with fail
  go_quiet (first
    | (go_at_call 30; exact Calls.quiet_of_same (in_same _ _ _ _))
    | (go_at_call 117; exact Calls.quiet_of_same (sdays_calls _ _ _)))
  go_wp2_with fail
  go_ret
  exact ⟨by simp, ((On.refl w).alloc _).drewN _⟩
set_option maxRecDepth 100000 in
set_option maxHeartbeats 4000000 in
theorem sok_calls_3 (y m d h mi s : Int) (w : World) (e1 : decide (1980 ≤ y ∧ y ≤ 2107) = true) (e2 : decide (1 ≤ m ∧ m ≤ 12) = true) (e3 : decide (1 ≤ d ∧ d ≤ dd y m) = true) (e4 : decide (0 ≤ h ∧ h ≤ 23) = false) : Calls Tryz.prog 81 #[.agg #[.int .i64 y, .int .i64 m, .int .i64 d, .int .i64 h, .int .i64 mi, .int .i64 s]] w (Tells w (.bool false)) := by
  go_enter Tryz.func81, Tryz.ntmps81
  go_wp2_with fail
  go_quiet (first
    | (go_at_call 30; exact Calls.quiet_of_same (in_same _ _ _ _))
    | (go_at_call 117; exact Calls.quiet_of_same (sdays_calls _ _ _)))
  go_wp2_with (go_at_call 30; refine (in_same _ _ _ _).mono ?_; rintro e w1 ⟨rfl, rfl⟩)
  go_ret
  exact ⟨by simp, ((On.refl w).alloc _).drewN _⟩
set_option maxRecDepth 100000 in
set_option maxHeartbeats 4000000 in
theorem sok_calls_4 (y m d h mi s : Int) (w : World) (e1 : decide (1980 ≤ y ∧ y ≤ 2107) = true) (e2 : decide (1 ≤ m ∧ m ≤ 12) = true) (e3 : decide (1 ≤ d ∧ d ≤ dd y m) = true) (e4 : decide (0 ≤ h ∧ h ≤ 23) = true) (e5 : decide (0 ≤ mi ∧ mi ≤ 59) = false) : Calls Tryz.prog 81 #[.agg #[.int .i64 y, .int .i64 m, .int .i64 d, .int .i64 h, .int .i64 mi, .int .i64 s]] w (Tells w (.bool false)) := by
  go_enter Tryz.func81, Tryz.ntmps81
  go_wp2_with fail
  go_quiet (first
    | (go_at_call 30; exact Calls.quiet_of_same (in_same _ _ _ _))
    | (go_at_call 117; exact Calls.quiet_of_same (sdays_calls _ _ _)))
  go_wp2_with (go_at_call 30; refine (in_same _ _ _ _).mono ?_; rintro e w1 ⟨rfl, rfl⟩)
  go_ret
  exact ⟨by simp, ((On.refl w).alloc _).drewN _⟩
set_option maxRecDepth 100000 in
set_option maxHeartbeats 4000000 in
theorem sok_calls_5 (y m d h mi s : Int) (w : World) (e1 : decide (1980 ≤ y ∧ y ≤ 2107) = true) (e2 : decide (1 ≤ m ∧ m ≤ 12) = true) (e3 : decide (1 ≤ d ∧ d ≤ dd y m) = true) (e4 : decide (0 ≤ h ∧ h ≤ 23) = true) (e5 : decide (0 ≤ mi ∧ mi ≤ 59) = true) (e6 : decide (0 ≤ s ∧ s ≤ 58) = false) : Calls Tryz.prog 81 #[.agg #[.int .i64 y, .int .i64 m, .int .i64 d, .int .i64 h, .int .i64 mi, .int .i64 s]] w (Tells w (.bool false)) := by
  go_enter Tryz.func81, Tryz.ntmps81
  go_wp2_with fail
  go_quiet (first
    | (go_at_call 30; exact Calls.quiet_of_same (in_same _ _ _ _))
    | (go_at_call 117; exact Calls.quiet_of_same (sdays_calls _ _ _)))
  go_wp2_with (go_at_call 30; refine (in_same _ _ _ _).mono ?_; rintro e w1 ⟨rfl, rfl⟩)
  go_ret
  exact ⟨by simp, ((On.refl w).alloc _).drewN _⟩
set_option maxRecDepth 100000 in
set_option maxHeartbeats 4000000 in
theorem sok_calls_6 (y m d h mi s : Int) (w : World) (e1 : decide (1980 ≤ y ∧ y ≤ 2107) = true) (e2 : decide (1 ≤ m ∧ m ≤ 12) = true) (e3 : decide (1 ≤ d ∧ d ≤ dd y m) = true) (e4 : decide (0 ≤ h ∧ h ≤ 23) = true) (e5 : decide (0 ≤ mi ∧ mi ≤ 59) = true) (e6 : decide (0 ≤ s ∧ s ≤ 58) = true) : Calls Tryz.prog 81 #[.agg #[.int .i64 y, .int .i64 m, .int .i64 d, .int .i64 h, .int .i64 mi, .int .i64 s]] w (Tells w (.bool (Int.tmod s 2 == 0))) := by
  go_enter Tryz.func81, Tryz.ntmps81
  go_wp2_with fail
  go_quiet (first
    | (go_at_call 30; exact Calls.quiet_of_same (in_same _ _ _ _))
    | (go_at_call 117; exact Calls.quiet_of_same (sdays_calls _ _ _)))
  go_wp2_with (go_at_call 30; refine (in_same _ _ _ _).mono ?_; rintro e w1 ⟨rfl, rfl⟩)
  go_ret
  exact ⟨by simp, ((On.refl w).alloc _).drewN _⟩
theorem sok_calls (y m d h mi s : Int) (w : World) : Calls Tryz.prog 81 #[.agg #[.int .i64 y, .int .i64 m, .int .i64 d, .int .i64 h, .int .i64 mi, .int .i64 s]] w (Tells w (.bool (decide (okp y m d h mi s)))) := by
  by_cases h1 : 1980 ≤ y ∧ y ≤ 2107
  rotate_left
  · have HF : decide (okp y m d h mi s) = false := by rw [decide_eq_false_iff_not]; intro hh; unfold okp at hh; exact h1 hh.1
    rw [HF]
    exact sok_calls_0 y m d h mi s w  (decide_eq_false h1)
  by_cases h2 : 1 ≤ m ∧ m ≤ 12
  rotate_left
  · have HF : decide (okp y m d h mi s) = false := by rw [decide_eq_false_iff_not]; intro hh; unfold okp at hh; exact h2 hh.2.1
    rw [HF]
    exact sok_calls_1 y m d h mi s w (decide_eq_true h1) (decide_eq_false h2)
  by_cases h3 : 1 ≤ d ∧ d ≤ dd y m
  rotate_left
  · have HF : decide (okp y m d h mi s) = false := by rw [decide_eq_false_iff_not]; intro hh; unfold okp at hh; exact h3 hh.2.2.1
    rw [HF]
    exact sok_calls_2 y m d h mi s w (decide_eq_true h1) (decide_eq_true h2) (decide_eq_false h3)
  by_cases h4 : 0 ≤ h ∧ h ≤ 23
  rotate_left
  · have HF : decide (okp y m d h mi s) = false := by rw [decide_eq_false_iff_not]; intro hh; unfold okp at hh; exact h4 hh.2.2.2.1
    rw [HF]
    exact sok_calls_3 y m d h mi s w (decide_eq_true h1) (decide_eq_true h2) (decide_eq_true h3) (decide_eq_false h4)
  by_cases h5 : 0 ≤ mi ∧ mi ≤ 59
  rotate_left
  · have HF : decide (okp y m d h mi s) = false := by rw [decide_eq_false_iff_not]; intro hh; unfold okp at hh; exact h5 hh.2.2.2.2.1
    rw [HF]
    exact sok_calls_4 y m d h mi s w (decide_eq_true h1) (decide_eq_true h2) (decide_eq_true h3) (decide_eq_true h4) (decide_eq_false h5)
  by_cases h6 : 0 ≤ s ∧ s ≤ 58
  rotate_left
  · have HF : decide (okp y m d h mi s) = false := by rw [decide_eq_false_iff_not]; intro hh; unfold okp at hh; exact h6 hh.2.2.2.2.2.1
    rw [HF]
    exact sok_calls_5 y m d h mi s w (decide_eq_true h1) (decide_eq_true h2) (decide_eq_true h3) (decide_eq_true h4) (decide_eq_true h5) (decide_eq_false h6)
  have HT : decide (okp y m d h mi s) = (Int.tmod s 2 == 0) := by
    rw [Bool.eq_iff_iff, decide_eq_true_iff, beq_iff_eq]; exact ⟨fun t => t.2.2.2.2.2.2, fun t => ⟨h1, h2, h3, h4, h5, h6, t⟩⟩
  rw [HT]
  exact sok_calls_6 y m d h mi s w (decide_eq_true h1) (decide_eq_true h2) (decide_eq_true h3) (decide_eq_true h4) (decide_eq_true h5) (decide_eq_true h6)
end Go.Proofs.YtnadjlejlohgiaaGreatDoor.Nm

/- Files of an archive: their cells; names apart from each other, as each program looks for it. Nothing of the program is walked here. -/
namespace Go.Proofs.YtnadjlejlohgiaaGreatDoor.Nm
open Go.RowKit Go.Proofs.YtnadjlejlohgiaaGreatDoor.Mem
set_option linter.unusedVariables false
/-- A file: its name, its stamp's six numbers, its text. -/
structure Fi where
  nm : ByteArray
  y : Int
  m : Int
  d : Int
  h : Int
  mi : Int
  s : Int
  tx : ByteArray
def fcell (f : Fi) : List Value := [.string f.nm, .int .i64 f.y, .int .i64 f.m, .int .i64 f.d, .int .i64 f.h, .int .i64 f.mi, .int .i64 f.s, .string f.tx]
def fcells (L : List Fi) : List Value := L.flatMap fcell
theorem fcells_cons (f : Fi) (L : List Fi) : fcells (f :: L) = fcell f ++ fcells L := rfl
theorem fcells_append (L M : List Fi) : fcells (L ++ M) = fcells L ++ fcells M := by unfold fcells; rw [List.flatMap_append]
theorem fcells_length (L : List Fi) : (fcells L).length = L.length * 8 := by
  induction L with
  | nil => rfl
  | cons f L ih => rw [fcells_cons, List.length_append, ih, List.length_cons]; show 8 + _ = _; omega
theorem fcells_get : ∀ (L : List Fi) {i : Nat} (h : i < L.length) {j : Nat} {u : Value}, (fcell L[i])[j]? = some u → (fcells L)[i * 8 + j]? = some u
  | f :: L, 0, _, j, u, hu => by
    rw [fcells_cons, List.getElem?_append_left]
    · simpa using hu
    · have := (List.getElem?_eq_some_iff.1 hu).1
      simpa using this
  | f :: L, i + 1, h, j, u, hu => by
    have h8 : (fcell f).length = 8 := rfl
    rw [fcells_cons, List.getElem?_append_right (by rw [h8]; omega), h8, show (i + 1) * 8 + j - 8 = i * 8 + j from by omega]
    exact fcells_get L (by simpa using h) (by simpa using hu)
/-- The cells of files lie in memory, from a place of a block on. -/
structure FiAt (w : World) (g o : Nat) (L : List Fi) : Prop where mk :: (out : ∀ k u, (fcells L)[k]? = some u → w.cell? ⟨g, o + k, none⟩ = some u)
theorem FiAt.on {w w' : World} {g o : Nat} {L : List Fi} (h : FiAt w g o L) (O : On w w') : FiAt w' g o L :=
  ⟨fun k u hu => (O.cell (World.block_lt_of_cell? w _ (h.out k u hu))).trans (h.out k u hu)⟩
theorem FiAt.cells {w : World} {g o : Nat} {L : List Fi} (H : FiAt w g o L) {i : Nat} (hi : i < L.length) :
    w.cell? ⟨g, o + i * 8, none⟩ = some (.string L[i].nm) ∧ w.cell? ⟨g, o + i * 8 + 1, none⟩ = some (.int .i64 L[i].y) ∧ w.cell? ⟨g, o + i * 8 + 2, none⟩ = some (.int .i64 L[i].m) ∧ w.cell? ⟨g, o + i * 8 + 3, none⟩ = some (.int .i64 L[i].d) ∧
    w.cell? ⟨g, o + i * 8 + 4, none⟩ = some (.int .i64 L[i].h) ∧ w.cell? ⟨g, o + i * 8 + 5, none⟩ = some (.int .i64 L[i].mi) ∧ w.cell? ⟨g, o + i * 8 + 6, none⟩ = some (.int .i64 L[i].s) ∧ w.cell? ⟨g, o + i * 8 + 7, none⟩ = some (.string L[i].tx) := by
  have c := fun j u (hu : (fcell L[i])[j]? = some u) => H.out _ _ (fcells_get L hi hu)
  refine ⟨?_, ?_, ?_, ?_, ?_, ?_, ?_, ?_⟩
  · simpa using c 0 _ rfl
  · simpa [Nat.add_assoc] using c 1 _ rfl
  · simpa [Nat.add_assoc] using c 2 _ rfl
  · simpa [Nat.add_assoc] using c 3 _ rfl
  · simpa [Nat.add_assoc] using c 4 _ rfl
  · simpa [Nat.add_assoc] using c 5 _ rfl
  · simpa [Nat.add_assoc] using c 6 _ rfl
  · simpa [Nat.add_assoc] using c 7 _ rfl
theorem FiAt.row {w : World} {g t : Nat} {L : List Fi} (h : Row w g t (fcells L)) : FiAt w g 0 L := ⟨fun k u hu => by rw [Nat.zero_add]; exact h.cell hu⟩
/-- The name of a place. -/
def nmAt (L : List Fi) (i : Nat) : List UInt8 := match L[i]? with | some f => f.nm.data.toList | none => []
theorem nmAt_lt {L : List Fi} {i : Nat} (h : i < L.length) : nmAt L i = L[i].nm.data.toList := by unfold nmAt; rw [List.getElem?_eq_getElem h]
/-- A name within another one, as in a dir. -/
def under (a b : List UInt8) : Bool := Lib.hasPrefix b (a ++ [47])
theorem under_not_self (a : List UInt8) : under a a = false := by
  unfold under Lib.hasPrefix
  cases h : (a ++ [47]).isPrefixOf a with
  | false => rfl
  | true =>
    have := (List.isPrefixOf_iff_prefix.1 h).length_le
    rw [List.length_append, List.length_singleton] at this; omega
/-- All names are apart. -/
def Apart (L : List Fi) : Prop := ∀ i j, i < L.length → j < L.length → i ≠ j → nmAt L i ≠ nmAt L j ∧ under (nmAt L i) (nmAt L j) = false
/-- As the program looks for it: up to k. -/
def ApartTo (L : List Fi) (k : Nat) : Prop := ∀ i j, i < k → j < i → nmAt L i ≠ nmAt L j ∧ under (nmAt L j) (nmAt L i) = false ∧ under (nmAt L i) (nmAt L j) = false
theorem apart_to {L : List Fi} : ApartTo L L.length ↔ Apart L := by
  constructor
  · intro h i j hi hj hne
    rcases Nat.lt_or_gt_of_ne hne with hlt | hgt
    · obtain ⟨a, b, c⟩ := h j i hj hlt
      exact ⟨fun e => a e.symm, b⟩
    · obtain ⟨a, b, c⟩ := h i j hi hgt
      exact ⟨a, c⟩
  · intro h i j hi hj
    have h1 := h i j hi (by omega) (by omega)
    have h2 := h j i (by omega) hi (by omega)
    exact ⟨h1.1, h2.2, h1.2⟩
/-- As the specification looks for it: at place i. -/
def ApartAt (L : List Fi) (i : Nat) : Prop := (∀ j, j < i → nmAt L j ≠ nmAt L i) ∧ ∀ k, k < L.length → under (nmAt L i) (nmAt L k) = false
theorem apart_at {L : List Fi} : (∀ i, i < L.length → ApartAt L i) ↔ Apart L := by
  constructor
  · intro h i j hi hj hne
    refine ⟨?_, (h i hi).2 j hj⟩
    rcases Nat.lt_or_gt_of_ne hne with hlt | hgt
    · exact (h j hj).1 i hlt
    · exact fun e => (h i hi).1 j hgt e.symm
  · intro h i hi
    refine ⟨fun j hj => (h j i (by omega) hi (by omega)).1, fun k hk => ?_⟩
    by_cases e : i = k
    · subst e; exact under_not_self _
    · exact (h i k hi hk e).2
end Go.Proofs.YtnadjlejlohgiaaGreatDoor.Nm

