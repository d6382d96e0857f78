/- Names cut at slashes: both programs' NameOk answer the plain one. Conditions: the size of the text; the cell that holds the library's length (any number). -/
import Derived.Test.YtpbfhflggicpiaaDoorNm
import Derived.Test.YtpbfhflggicpiaaDoorShelf
namespace Go.Proofs.YtpbfhflggicpiaaDoor.Nm
open Go.RowKit Go.Proofs.YtpbfhflggicpiaaDoor.Mem
set_option linter.unusedVariables false
set_option linter.unusedSimpArgs false
/-- A text cut at slashes. -/
def parts : List UInt8 → List (List UInt8)
  | [] => [[]]
  | b :: t => if b = 47 then [] :: parts t else match parts t with
    | [] => [[b]]
    | p :: r => (b :: p) :: r
theorem parts_ne (l : List UInt8) : parts l ≠ [] := by
  cases l with
  | nil => simp [parts]
  | cons b t => unfold parts; split; · simp
                split <;> simp
theorem parts_slash : ∀ (a b : List UInt8), (47 : UInt8) ∉ a → parts (a ++ 47 :: b) = a :: parts b
  | [], b, _ => by simp [parts]
  | x :: a, b, h => by
    have hx : x ≠ 47 := fun e => h (by simp [e])
    have ih := parts_slash a b (fun e => h (List.mem_cons_of_mem _ e))
    simp only [List.cons_append, parts, if_neg hx, ih]
theorem parts_one : ∀ (a : List UInt8), (47 : UInt8) ∉ a → parts a = [a]
  | [], _ => rfl
  | x :: a, h => by
    have hx : x ≠ 47 := fun e => h (by simp [e])
    have ih := parts_one a (fun e => h (List.mem_cons_of_mem _ e))
    simp only [parts, if_neg hx, ih]
theorem parts_append : ∀ (a b : List UInt8), parts (a ++ 47 :: b) = parts a ++ parts b
  | [], b => by simp [parts]
  | x :: a, b => by
    have ih := parts_append a b
    by_cases hx : x = 47
    · simp only [List.cons_append, parts, if_pos hx, ih, List.cons_append]
    · simp only [List.cons_append, parts, if_neg hx, ih]
      cases h : parts a with
      | nil => exact absurd h (parts_ne a)
      | cons p r => simp
def nameOk (l : List UInt8) : Bool := (parts l).all partOk && decide ((parts l).length ≤ 4)
theorem parts_len (l : List UInt8) : (parts l).length ≤ l.length + 1 := by
  induction l with
  | nil => simp [parts]
  | cons b t ih =>
    unfold parts; split
    · simp; omega
    · split <;> simp_all <;> omega
theorem cut_step {l done : List (List UInt8)} {s : List UInt8} {from_ k : Nat} (hp : l = done ++ parts (s.drop from_)) (hf : from_ ≤ k) (hk : k < s.length) (hno : (47 : UInt8) ∉ (s.take k).drop from_) (hb : s[k] = 47) :
    l = (done ++ [(s.take k).drop from_]) ++ parts (s.drop (k + 1)) := by
  have e : s.drop from_ = (s.take k).drop from_ ++ 47 :: s.drop (k + 1) := by
    have h1 : s.drop k = s[k] :: s.drop (k + 1) := List.drop_eq_getElem_cons hk
    rw [← hb, ← h1]
    conv => lhs; rw [← List.take_append_drop k s, List.drop_append]
    congr 1
    have : from_ - (s.take k).length = 0 := by rw [List.length_take]; omega
    rw [this, List.drop_zero]
  rw [hp, e, parts_slash _ _ hno, List.append_assoc]; rfl
theorem no_step {s : List UInt8} {from_ k : Nat} (hf : from_ ≤ k) (hk : k < s.length) (hno : (47 : UInt8) ∉ (s.take k).drop from_) (hb : s[k] ≠ 47) : (47 : UInt8) ∉ (s.take (k + 1)).drop from_ := by
  rw [List.take_succ_eq_append_getElem hk, List.drop_append]
  intro h
  rcases List.mem_append.1 h with h | h
  · exact hno h
  · have : from_ - (s.take k).length = 0 := by rw [List.length_take]; omega
    rw [this, List.drop_zero] at h
    simp at h
    exact hb h.symm
theorem byte_at {s : ByteArray} {k : Nat} (hk : k < s.size) : ∃ b, s[k] = b ∧ k < s.data.toList.length ∧ ∀ h : k < s.data.toList.length, s.data.toList[k] = b := ⟨_, rfl, by rw [Array.length_toList]; exact hk, fun _ => rfl⟩
theorem toNat_47 {b : UInt8} : b.toNat = 47 ↔ b = 47 := ⟨fun h => UInt8.toNat_inj.1 (by simpa using h), fun h => by subst h; rfl⟩
theorem splitK_one : ∀ s : List UInt8, Lib.splitK [47] 0 (Lib.count s [47]) s = parts s
  | [] => by
    have h : Lib.count [] [(47 : UInt8)] = 0 := by rw [Lib.count_miss (by simp [Lib.index])]
    rw [h]; rfl
  | b :: l => by
    have ih := splitK_one l
    by_cases hb : b = 47
    · subst hb
      have hix : Lib.index (47 :: l) [(47 : UInt8)] = ((0 : Nat) : Int) := by rw [Lib.index]; simp [List.isPrefixOf]
      rw [Lib.count_cons_eq, Nat.add_comm, Lib.splitK, if_neg (by rw [hix]; decide), hix]
      simp only [Int.toNat_natCast, List.length_cons, List.length_nil, Nat.zero_add, List.take_zero, List.drop_succ_cons, List.drop_zero, ih, parts, if_true, Nat.add_zero]
    · have hp : ([(47 : UInt8)] : List UInt8).isPrefixOf (b :: l) = false := by simp [List.isPrefixOf, Ne.symm hb]
      have hix : Lib.index (b :: l) [47] = if Lib.index l [47] == -1 then -1 else Lib.index l [47] + 1 := by rw [Lib.index, hp]; simp
      rw [Lib.count_cons_ne b 47 l hb]
      by_cases hm : Lib.index l [(47 : UInt8)] = -1
      · rw [Lib.count_miss hm] at ih ⊢
        have ih' : [l] = parts l := ih
        simp only [parts, if_neg hb, ← ih']
        rfl
      · have hge := Lib.index_ge l [(47 : UInt8)]
        obtain ⟨j, hj⟩ : ∃ j : Nat, Lib.index l [(47 : UInt8)] = j := ⟨(Lib.index l [(47 : UInt8)]).toNat, by omega⟩
        have hix' : Lib.index (b :: l) [47] = ((j + 1 : Nat) : Int) := by rw [hix, if_neg (fun e => hm (beq_iff_eq.1 e)), hj]; omega
        have hc := Lib.count_hit (by simp) hj
        obtain ⟨k, hk⟩ : ∃ k, Lib.count l [(47 : UInt8)] = k + 1 := ⟨_, by rw [hc, Nat.add_comm]⟩
        rw [hk] at ih ⊢
        rw [Lib.splitK, if_neg (by rw [hj]; simp), hj] at ih
        rw [Lib.splitK, if_neg (by rw [hix']; simp; omega), hix']
        simp only [Int.toNat_natCast, List.length_cons, List.length_nil, Nat.zero_add, Nat.add_zero] at ih ⊢
        simp only [parts, if_neg hb, ← ih, List.take_succ_cons, List.drop_succ_cons]
theorem slash_data : (⟨#[47]⟩ : ByteArray).data.toList = [47] := rfl
theorem split_is (s : ByteArray) : (Lib.splitB ⟨#[47]⟩ 0 (Lib.countB s ⟨#[47]⟩) s).map Value.string = (parts s.data.toList).map str := by
  have h := Lib.splitB_data ⟨#[47]⟩ 0 (Lib.countB s ⟨#[47]⟩) s
  have hc : Lib.countB s ⟨#[47]⟩ = Lib.count s.data.toList [47] := rfl
  rw [hc, slash_data, splitK_one] at h
  rw [hc, ← h, List.map_map]
  refine List.map_congr_left fun x _ => ?_
  exact str_of x
theorem split_len (s : ByteArray) : Lib.countB s ⟨#[47]⟩ + 1 = (parts s.data.toList).length := by
  have h := congrArg List.length (split_is s)
  rw [List.length_map, List.length_map, Lib.splitB_all _ (by decide) 0 _ s rfl] at h
  exact h
theorem strinfo : (Tryd.prog.info? 9).map (fun i => (i.zero, i.size, i.bytes)) = some (some (.string ByteArray.empty), 1, 16) := by kernel_rfl
set_option maxRecDepth 100000 in
theorem cut_calls (s : ByteArray) (hs : s.size < 4294967281) (w : World) :
    Calls Tryd.prog 22 #[.string s, .int .u8 47, .int .i64 (s.size + 1)] w fun e w' => ∃ v, e = .returned v ∧ Own w.heap.size w' 9 1 v (parts s.data.toList).length ((parts s.data.toList).map str) ∧ On w w' := by
  go_enter Tryd.func22, Tryd.ntmps22
  go_wp2_with fail
  obtain ⟨i0, hi, hz0, hz1, hz2⟩ := info_parts strinfo
  have HS := Lib.hid hs
  clear hs
  go_loopw [7, 8, 9] (fun v f x wr => ∃ (k fr : Nat) (done : List (List UInt8)), x = .int .i64 k ∧ f = .int .i64 fr ∧ fr ≤ k ∧ k ≤ s.size ∧ parts s.data.toList = done ++ parts (s.data.toList.drop fr) ∧ (47 : UInt8) ∉ (s.data.toList.take k).drop fr ∧ done.length ≤ k ∧ Own w.heap.size wr 9 1 v done.length (done.map str) ∧ On w wr) (fun _ _ x _ => s.size - (intOf x).toNat)
  case atStart => exact ⟨0, 0, [], rfl, rfl, Nat.le_refl _, Nat.zero_le _, rfl, by simp, Nat.le_refl _, Own.new w 9 1 #[] 0 (Nat.zero_le _) rfl (Nat.le_refl _), (On.refl w).alloc _⟩
  case round =>
    obtain ⟨k, fr, done, rfl, rfl, hfk, hk, hp, hno, hdk, hown, O⟩ := hrel
    obtain ⟨g, cap, rfl, hg, hrow, hn, hcap, hlen⟩ := hown.parts
    by_cases hlt : k < s.size
    · obtain ⟨b, hbb, hk', hat⟩ := byte_at hlt
      have hd : done.length < 4294967281 := by have := HS.out; omega
      have hks : k < 4294967281 := by have := HS.out; omega
      have hd2 : (done.length : Int) < s.size + 1 := by omega
      by_cases hb : b = 47
      · have hx := cut_step hp hfk hk' hno (by rw [hat]; exact hb)
        have ex : Value.string (s.extract fr k) = str ((s.data.toList.take k).drop fr) := by
          rw [str_of, Lib.extract_data, List.drop_take]
        have EX := Lib.hid ex
        have HX := Lib.hid hx
        have HP := Lib.hid hp
        have HN := Lib.hid hno
        have hb1 : ((b.toNat : Int) == 47) = true := by rw [hb]; rfl
        clear hb hat hk' ex hx hp hno
        go_wp2_with (at_builtin; go_must (refine wpList_app rfl _ _ 45 rfl w i0 (.string ByteArray.empty) 16 1 Tryd.underlying45 hi hz0 hz1 hz2 rfl (by decide) rfl _ _ _ rfl hown O rfl (by simp [Value.oneCell']) (by unfold maxLen; omega) (by omega) ?_); intro v' w1 hown' O' _)
        go_roundw
        case rel =>
          refine ⟨k + 1, k + 1, done ++ [(s.data.toList.take k).drop fr], by go_num, by go_num, Nat.le_refl _, hlt, HX.out, by simp, by simp; omega, ?_, O'⟩
          simpa [EX.out] using hown'
        case measure => simp [intOf]; omega
      · have hx := no_step hfk hk' hno (by rw [hat]; exact hb)
        have hb1 : ((b.toNat : Int) == 47) = false := by
          rw [beq_eq_false_iff_ne]; intro h; exact hb (toNat_47.1 (by omega))
        have HX := Lib.hid hx
        have HP := Lib.hid hp
        have HN := Lib.hid hno
        clear hb hat hk' hx hp hno
        go_wp2_with fail
        go_roundw
        case rel =>
          exact ⟨k + 1, fr, done, by go_num, rfl, by omega, by omega, HP.out, HX.out, by omega, hown, O⟩
        case measure => simp [intOf]; omega
    · obtain rfl : k = s.size := by omega
      have hL : s.data.toList.length = s.size := Array.length_toList
      rw [List.take_of_length_le (by omega)] at hno
      rw [parts_one _ hno] at hp
      have hd : done.length < 4294967281 := by have := HS.out; omega
      have ex : Value.string (s.extract fr s.size) = str (s.data.toList.drop fr) := by
        rw [str_of, Lib.extract_to_end]
      have EX := Lib.hid ex
      have HP := Lib.hid hp
      clear ex hp hno
      go_wp2_with (at_builtin; go_must (refine wpList_app rfl _ _ 45 rfl w i0 (.string ByteArray.empty) 16 1 Tryd.underlying45 hi hz0 hz1 hz2 rfl (by decide) rfl _ _ _ rfl hown O rfl (by simp [Value.oneCell']) (by unfold maxLen; omega) (by omega) ?_); intro v' w1 hown' O' _)
      go_ret
      refine ⟨_, rfl, ?_, O'⟩
      rw [HP.out]
      simpa [EX.out] using hown'
theorem part_small {s : List UInt8} {p : List UInt8} (h : p ∈ parts s) : p.length ≤ s.length := by
  induction s generalizing p with
  | nil => simp [parts] at h; simp [h]
  | cons b t ih =>
    unfold parts at h
    split at h
    · rcases List.mem_cons.1 h with rfl | h
      · simp
      · have := ih h; simp; omega
    · split at h
      · simp at h; simp [h]
      · rename_i q r hq
        rcases List.mem_cons.1 h with rfl | h
        · have := ih (p := q) (by rw [hq]; simp); simp; omega
        · have := ih (p := p) (by rw [hq]; simp [h]); simp; omega
set_option maxRecDepth 100000 in
theorem iname_calls (s : ByteArray) (hs : s.size < 4294967281) (m : Int) (w : World) (hm : w.cell? ⟨0, 0, none⟩ = some (.int .i64 m)) :
    Calls Tryd.prog 10 #[.string s] w (Tells w (.bool (nameOk s.data.toList))) := by
  go_enter Tryd.func10, Tryd.ntmps10
  go_wp2_with fail
  refine (Tryd.strings_Split s _ m w hs hm (by decide)).mono ?_
  rintro e w1 ⟨rfl, rfl⟩
  rw [split_is, split_len]
  have hlen := parts_len s.data.toList
  have hall := fun p => part_small (s := s.data.toList) (p := p)
  have hL : s.data.toList.length = s.size := Array.length_toList
  have hnm : nameOk s.data.toList = ((parts s.data.toList).all partOk && decide ((parts s.data.toList).length ≤ 4)) := rfl
  generalize hps : parts s.data.toList = ps at *
  have O := (On.refl w).alloc (.cells (ps.map str).toArray 9)
  have R := Row.of (Blk.new w 9 (ps.map str).toArray)
  have HL := Lib.hid hall
  have HS := Lib.hid hs
  have HM := Lib.hid hnm
  clear hall hs hnm hps
  have hp1 : ps.length < 4294967299 := by have := HS.out; omega
  go_wp2_with fail
  go_loopw [10] (fun x wr => ∃ k : Nat, k ≤ ps.length ∧ x = .int .i64 k ∧ (ps.take k).all partOk = true ∧ Row wr w.heap.size 9 (ps.map str) ∧ On w wr) (fun x _ => ps.length - (intOf x).toNat)
  case atStart => exact ⟨0, by omega, rfl, rfl, R, O⟩
  case round =>
    obtain ⟨k, hk, rfl, hall, R, O⟩ := hrel
    by_cases hlt : k < ps.length
    · have c0 : wr.cell? ⟨w.heap.size, k, none⟩ = some (.string ⟨ps[k].toArray⟩) := R.cell (by simp [hlt, str])
      have hmem : ps[k] ∈ ps := List.getElem_mem hlt
      have hpl := HL.out _ hmem
      have hstep : partOk ps[k] = true → (ps.take (k + 1)).all partOk = true := fun hb => by
        rw [List.take_succ_eq_append_getElem hlt, List.all_append, hall]; simpa using hb
      generalize ps[k] = p at *
      have HT := Lib.hid hstep
      clear hstep
      have hpz : (⟨p.toArray⟩ : ByteArray).size < 4294967296 := by have := HS.out; simp [ByteArray.size]; omega
      have hL2 := Lib.hid hL
      clear hL
      go_wp2_with fail
      refine (part_calls _ hpz wr).mono ?_
      rintro e w1 ⟨rfl, O1⟩
      replace O := O.call O1
      replace R := R.on O1
      have hp2 : partOk (⟨p.toArray⟩ : ByteArray).data.toList = partOk p := by simp
      rw [hp2]
      by_cases hb : partOk p = true
      · rw [hb]
        have hs' := HT.out hb
        have HT' := Lib.hid hs'
        clear hs'
        go_wp2_with fail
        go_roundw
        case rel => exact ⟨k + 1, by omega, by go_num, HT'.out, R, O⟩
        case measure => simp [intOf]; omega
      · have hb' : partOk p = false := by simpa using hb
        rw [hb']
        go_wp2_with fail
        go_ret
        refine ⟨?_, O⟩
        rw [HM.out]
        have : ps.all partOk = false := by
          rw [Bool.eq_false_iff]; intro h; exact hb (List.all_eq_true.1 h _ hmem)
        rw [this]; rfl
    · obtain rfl : k = ps.length := by omega
      have hall2 : ps.all partOk = true := by
        rw [List.take_of_length_le (Nat.le_refl _)] at hall; exact hall
      go_wp2_with fail
      go_ret
      refine ⟨?_, O⟩
      rw [HM.out, hall2]
      simp; omega
theorem ok_cases {b : UInt8} (h : okByte b = true) :
    (97 ≤ (b.toNat : Int) ∧ (b.toNat : Int) ≤ 122) ∨ ((b.toNat : Int) < 97 ∧ 48 ≤ (b.toNat : Int) ∧ (b.toNat : Int) ≤ 57) ∨ ((b.toNat : Int) < 97 ∧ (b.toNat : Int) < 48 ∧ ((b.toNat : Int) == 46) = true) ∨
    ((b.toNat : Int) < 97 ∧ (b.toNat : Int) < 48 ∧ ((b.toNat : Int) == 46) = false ∧ ((b.toNat : Int) == 45) = true) ∨ ((b.toNat : Int) < 97 ∧ 48 ≤ (b.toNat : Int) ∧ 57 < (b.toNat : Int) ∧ ((b.toNat : Int) == 46) = false ∧ ((b.toNat : Int) == 45) = false ∧ ((b.toNat : Int) == 95) = true) := by
  simp only [okByte, Bool.or_eq_true, decide_eq_true_eq] at h
  simp only [beq_iff_eq, beq_eq_false_iff_ne, ne_eq]
  omega
theorem part_eq (q : ByteArray) (h : q.data.toList.all okByte = true) : partOk q.data.toList = (decide (1 ≤ (q.size : Int) ∧ (q.size : Int) ≤ 10) && !(q.toList == [46]) && !(q.toList == [46, 46])) := by
  unfold partOk
  rw [h, ByteArray.toList_eq]
  have hL : q.data.toList.length = q.size := Array.length_toList
  have h1 : decide (1 ≤ q.data.toList.length ∧ q.data.toList.length ≤ 10) = decide (1 ≤ (q.size : Int) ∧ (q.size : Int) ≤ 10) := by
    rw [hL]; exact decide_eq_decide.2 (by omega)
  rw [h1]
  have h2 : ∀ a b : List UInt8, decide (a ≠ b) = !(a == b) := fun a b => by
    by_cases h : a = b <;> simp [h]
  rw [h2, h2]; simp
theorem bad_cases {b : UInt8} (h : ¬ okByte b = true) :
    (decide (97 ≤ (b.toNat : Int)) = true ∧ decide ((b.toNat : Int) ≤ 122) = false ∧ decide (48 ≤ (b.toNat : Int)) = true ∧ decide ((b.toNat : Int) ≤ 57) = false ∧ ((b.toNat : Int) == 46) = false ∧ ((b.toNat : Int) == 45) = false ∧ ((b.toNat : Int) == 95) = false) ∨
    (decide (97 ≤ (b.toNat : Int)) = false ∧ decide (48 ≤ (b.toNat : Int)) = true ∧ decide ((b.toNat : Int) ≤ 57) = false ∧ ((b.toNat : Int) == 46) = false ∧ ((b.toNat : Int) == 45) = false ∧ ((b.toNat : Int) == 95) = false) ∨
    (decide (97 ≤ (b.toNat : Int)) = false ∧ decide (48 ≤ (b.toNat : Int)) = false ∧ ((b.toNat : Int) == 46) = false ∧ ((b.toNat : Int) == 45) = false ∧ ((b.toNat : Int) == 95) = false) := by
  simp only [okByte, Bool.or_eq_true, decide_eq_true_eq] at h
  simp only [beq_iff_eq, beq_eq_false_iff_ne, ne_eq, decide_eq_true_eq, decide_eq_false_iff_not]
  omega
set_option maxRecDepth 100000 in
set_option maxHeartbeats 1000000 in
theorem sname_calls (s : ByteArray) (hs : s.size < 4294967281) (w : World) :
    Calls Tryd.prog 9 #[.string s] w (Tells w (.bool (nameOk s.data.toList))) := by
  go_enter Tryd.func9, Tryd.ntmps9
  go_wp2_with fail
  refine (cut_calls s hs w).mono ?_
  rintro e w1 ⟨v1, rfl, hown, O⟩
  obtain ⟨g, cap, rfl, hg, R, hn, hcap, _⟩ := hown.parts
  have hlen := parts_len s.data.toList
  have hall := fun p => part_small (s := s.data.toList) (p := p)
  have hL : s.data.toList.length = s.size := Array.length_toList
  have hnm : nameOk s.data.toList = ((parts s.data.toList).all partOk && decide ((parts s.data.toList).length ≤ 4)) := rfl
  generalize hps : parts s.data.toList = ps at *
  have HL := Lib.hid hall
  have HS := Lib.hid hs
  have HM := Lib.hid hnm
  clear hall hs hnm hps hown
  have hp1 : ps.length < 4294967299 := by have := HS.out; omega
  go_wp2_with fail
  go_loopw [4] (fun x wr => ∃ k : Nat, k ≤ ps.length ∧ x = .int .i64 k ∧ (ps.take k).all partOk = true ∧ Row wr g 9 (ps.map str) ∧ On w wr) (fun x _ => ps.length - (intOf x).toNat)
  case atStart => exact ⟨0, by omega, rfl, rfl, R, O⟩
  case round =>
    obtain ⟨k, hk, rfl, hall, R, O⟩ := hrel
    by_cases hlt : k < ps.length
    · obtain ⟨q, hq⟩ : ∃ q : ByteArray, ps[k] = q.data.toList := ⟨⟨ps[k].toArray⟩, by simp⟩
      have c0 : wr.cell? ⟨g, k, none⟩ = some (.string q) := R.cell (by rw [str_of, ← hq]; simp [hlt])
      have hmem : ps[k] ∈ ps := List.getElem_mem hlt
      rw [hq] at hmem
      have hpl := HL.out _ hmem
      have hstep : partOk q.data.toList = true → (ps.take (k + 1)).all partOk = true := fun hb => by
        rw [List.take_succ_eq_append_getElem hlt, List.all_append, hall, hq]; simpa using hb
      have HQ := Lib.hid hq
      have HT := Lib.hid hstep
      have HA := Lib.hid hall
      have hqz : q.size < 4294967281 := by have := HS.out; rw [hL] at hpl; rw [show q.size = q.data.toList.length from Array.length_toList.symm]; omega
      have hL2 := Lib.hid hL
      have hPL := Lib.hid hpl
      have hMM := Lib.hid hmem
      clear hstep hq hL hall hpl hmem
      go_wp2_with fail
      go_loopw [6] (fun x w2 => ∃ j : Nat, j ≤ q.size ∧ x = .int .i64 j ∧ (q.data.toList.take j).all okByte = true ∧ w2 = wr) (fun x _ => q.size - (intOf x).toNat)
      case atStart => exact ⟨0, by omega, rfl, rfl, rfl⟩
      case round =>
        obtain ⟨j, hj, rfl, hall, rfl⟩ := hrel
        by_cases hjt : j < q.size
        · have hstep := all_step hall hjt
          have hmem := mem_at hjt
          generalize hbb : q[j] = b at *
          have HA2 := Lib.hid hall
          have HST := Lib.hid hstep
          have HME := Lib.hid hmem
          clear hall hstep hmem
          by_cases hb : okByte b = true
          · rcases ok_cases hb with ⟨h1, h2⟩ | ⟨h1, h2, h3⟩ | ⟨h1, h2, h3⟩ | ⟨h1, h2, h3, h4⟩ | ⟨h1, h2, h3, h4, h5, h6⟩
            all_goals
              have hs1 := Lib.hid (HST.out hb)
              clear hb
              go_wp2_with fail
              go_roundw
              case rel => exact ⟨j + 1, by omega, by go_num, hs1.out, by simp⟩
              case measure => simp [intOf]; omega
          · have hp : nameOk s.data.toList = false := by
              have h1 : q.data.toList.all okByte = false := by
                rw [Bool.eq_false_iff]; intro h; exact hb (List.all_eq_true.1 h _ HME.out)
              have h2 : ps.all partOk = false := by
                rw [Bool.eq_false_iff]; intro h
                have := List.all_eq_true.1 h _ hMM.out
                unfold partOk at this
                rw [h1] at this; exact absurd this (by simp)
              rw [HM.out, h2]; rfl
            have HP := Lib.hid hp
            clear hp
            rcases bad_cases hb with ⟨h1, h2, h3, h4, h5, h6, h7⟩ | ⟨h1, h2, h3, h4, h5, h6⟩ | ⟨h1, h2, h3, h4, h5⟩
            all_goals
              clear hb
              go_wp2_with fail
              go_ret
              exact ⟨by rw [HP.out]; rfl, O⟩
        · obtain rfl : j = q.size := by omega
          have hall2 : q.data.toList.all okByte = true := by
            rw [List.take_of_length_le (by rw [Array.length_toList]; exact Nat.le_refl _)] at hall; exact hall
          have hpo := part_eq q hall2
          have HPO := Lib.hid hpo
          have hfalse : partOk q.data.toList = false → nameOk s.data.toList = false := fun h => by
            have h2 : ps.all partOk = false := by
              rw [Bool.eq_false_iff]; intro h'
              have := List.all_eq_true.1 h' _ hMM.out
              rw [h] at this; exact absurd this (by simp)
            rw [HM.out, h2]; rfl
          have HF := Lib.hid hfalse
          clear hall hall2 hpo hfalse
          go_wp2_with fail
          refine (in_calls _ _ _ _).mono ?_
          rintro e w3 ⟨rfl, O1⟩
          replace O := O.call O1
          replace R := R.on O1
          clear O1
          by_cases hin : 1 ≤ (q.size : Int) ∧ (q.size : Int) ≤ 10
          · rw [decide_eq_true hin]
            have HI := Lib.hid hin
            clear hin
            cases h46 : (q.toList == [46])
            · cases h47 : (q.toList == [46, 46])
              · have hs1 := HT.out (by rw [HPO.out, decide_eq_true HI.out, h46, h47]; rfl)
                have HS1 := Lib.hid hs1
                clear hs1
                go_wp2_with fail
                go_roundw
                case rel => exact ⟨k + 1, by omega, by go_num, HS1.out, R, O⟩
                case measure => simp [intOf]; omega
              · have hf := HF.out (by rw [HPO.out, h47]; simp)
                have HF2 := Lib.hid hf
                clear hf
                go_wp2_with fail
                go_ret
                exact ⟨by rw [HF2.out]; rfl, O⟩
            · have hf := HF.out (by rw [HPO.out, h46]; simp)
              have HF2 := Lib.hid hf
              clear hf
              go_wp2_with fail
              go_ret
              exact ⟨by rw [HF2.out]; rfl, O⟩
          · rw [decide_eq_false hin]
            have hf := HF.out (by rw [HPO.out, decide_eq_false hin]; rfl)
            have HF2 := Lib.hid hf
            clear hf hin
            go_wp2_with fail
            go_ret
            exact ⟨by rw [HF2.out]; rfl, O⟩
    · obtain rfl : k = ps.length := by omega
      have hall2 : ps.all partOk = true := by
        rw [List.take_of_length_le (Nat.le_refl _)] at hall; exact hall
      go_wp2_with fail
      go_ret
      refine ⟨?_, O⟩
      rw [HM.out, hall2]
      simp; omega
end Go.Proofs.YtpbfhflggicpiaaDoor.Nm
