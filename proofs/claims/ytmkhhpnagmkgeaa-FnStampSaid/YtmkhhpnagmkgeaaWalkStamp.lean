/- The walk of the law FnStamp: at every two inputs it returns true and keeps what was. No condition beyond the sizes that every row has. -/
import Derived.Test.YtmkhhpnagmkgeaaWalkGet
namespace Go.Proofs.Ytmkhhpnagmkgeaa.StampGet
open Go.RowKit Go.Proofs.Ytmkhhpnagmkgeaa.Mem Go.Proofs.Ytmkhhpnagmkgeaa.PFnStampLast Go.Proofs.YtmkhhpnagmkgeaaW.PrintWords Go.Proofs.YtmkhhpnagmkgeaaW.PrintLast Go.Proofs.YtmkhhpnagmkgeaaW.PrintMore
set_option linter.unusedVariables false
set_option linter.unusedSimpArgs false
set_option maxRecDepth 100000 in
set_option maxHeartbeats 400000 in
theorem drawput_calls (A0 : Option Addr) (c0 : Nat) (l0 b : List Int) (y m d h mi s q : Int) (w : World) (hr0 : Kd.C (Kd.int .u8) w A0 l0.length l0) (hc0 : l0.length ≤ c0) (ho : spec_l1Open.f l0 = some (b, 0)) (ha : spec_l11AnyStamp.f 1 b 0 = some (y, m, d, h, mi, s, q)) :
    Calls Try.prog 19 #[.slice A0 l0.length c0] w (Told w (.agg #[.int .i64 y, .int .i64 m, .int .i64 d, .int .i64 h, .int .i64 mi, .int .i64 s])) := by
  have HR := Lib.hid hr0
  have HO := Lib.hid ho
  have HA := Lib.hid ha
  clear hr0 ho ha
  go_enter Try.func19, Try.ntmps19
  go_wp2_with fail
  have O := (On.refl w).alloc (.cells zero6 25)
  have B := Blk.new w 25 zero6
  refine (spec_l1Open.calls _ _ _ _ _ (w.alloc (.cells zero6 25)) _ (Below.refl _ _) (Kd.C_alloc HR.out _) hc0 HO.out).mono ?_
  rintro e w1 ⟨g, rfl, hI, hb, hb2⟩
  clear hb2
  go_wp2_with fail
  refine (spec_l11AnyStamp.calls 1 g _ _ _ _ _ _ _ _ _ (w.alloc (.cells zero6 25)) _ hI hb HA.out).mono ?_
  rintro e w2 ⟨rfl, hI2, hb3, hk⟩
  replace B := B.call hb3
  replace O := O.call (Below.on hb3)
  clear hI hb hI2 hb3 hk
  have c0 : w2.cell? ⟨w.heap.size, 0, none⟩ = some (.int .i64 0) := (B.cell 0).trans rfl
  have c1 : w2.cell? ⟨w.heap.size, 1, none⟩ = some (.int .i64 0) := (B.cell 1).trans rfl
  have c2 : w2.cell? ⟨w.heap.size, 2, none⟩ = some (.int .i64 0) := (B.cell 2).trans rfl
  have c3 : w2.cell? ⟨w.heap.size, 3, none⟩ = some (.int .i64 0) := (B.cell 3).trans rfl
  have c4 : w2.cell? ⟨w.heap.size, 4, none⟩ = some (.int .i64 0) := (B.cell 4).trans rfl
  have c5 : w2.cell? ⟨w.heap.size, 5, none⟩ = some (.int .i64 0) := (B.cell 5).trans rfl
  have fr : ∀ i, w2.frozen? ⟨w.heap.size, i, none⟩ = false := B.frozen
  go_wp2_with fail
  have B' := set6 B (.int .i64 y) (.int .i64 m) (.int .i64 d) (.int .i64 h) (.int .i64 mi) (.int .i64 s)
  refine bodyPost_ret (v := .agg #[.int .i64 y, .int .i64 m, .int .i64 d, .int .i64 h, .int .i64 mi, .int .i64 s]) (by exact res_c (fn := Try.f19) (p := 2) rfl B' rfl Try.underlying25 rfl (by kernel_rfl)) rfl ⟨rfl, ?_⟩
  repeat (first | with_reducible exact O | refine On.set ?_ (Nat.le_refl _) _)
theorem iss_on {w0 W W' : World} {g : Nat} {f0 : List Int} {f1 : Int} (h : IsS49 w0 W g f0 f1) (O : On W W') : IsS49 w0 W' g f0 f1 := by
  obtain ⟨A, c, hb, hg, hr⟩ := h
  exact ⟨A, c, (O.blk (Blk.mk hb)).out, hg, hr⟩
theorem c_of_six {W : World} {g : Nat} {a b c d e f : Int} (B : Blk W g 3 #[.int .i64 a, .int .i64 b, .int .i64 c, .int .i64 d, .int .i64 e, .int .i64 f]) : Kd.C (Kd.int .i64) W (some ⟨g, 0, none⟩) ([a, b, c, d, e, f] : List Int).length [a, b, c, d, e, f] := by
  refine Kd.C_of_reads (d := (0 : Int)) (h1 := fun _ => rfl) ⟨rfl, by simp only [List.length_cons, List.length_nil]; omega, fun _ => ⟨_, rfl, fun j hj => ?_⟩⟩
  have h := B.cell j
  have hj' : j < 6 := hj
  have ea : (⟨g, 0, none⟩ : Addr).add j = ⟨g, j, none⟩ := by unfold Addr.add; split <;> simp_all
  rw [ea, h]
  match j, hj' with
  | 0, _ => rfl
  | 1, _ => rfl
  | 2, _ => rfl
  | 3, _ => rfl
  | 4, _ => rfl
  | 5, _ => rfl
set_option maxRecDepth 100000 in
set_option maxHeartbeats 400000 in
theorem drawget_calls (A0 : Option Addr) (c0 : Nat) (l0 b : List Int) (y m d h mi s y' m' d' h' mi' s' q u v : Int) (w : World) (hr0 : Kd.C (Kd.int .u8) w A0 l0.length l0) (hc0 : l0.length ≤ c0) (ho : spec_l1Open.f l0 = some (b, 0)) (hs : spec_l11Stamp.f 1 b 0 = some (y, m, d, h, mi, s, 6)) (ha : spec_l11AnyStamp.f 1 b 6 = some (y', m', d', h', mi', s', q))
   (hu : spec_l6Put.f y m d h mi s = some u) (hv : spec_l6Put.f y' m' d' h' mi' s' = some v) (x p : Int) (hone : spec_l1Rd_one.f 1 b q [u, v, 0, -1, 4294967295, 4294967296] = some (x, p)) :
    Calls Try.prog 20 #[.slice A0 l0.length c0] w (Told w (.int .i64 x)) := by
  have HR := Lib.hid hr0
  have HO := Lib.hid ho
  have HA := Lib.hid ha
  have HS := Lib.hid hs
  have HU := Lib.hid hu
  have HV := Lib.hid hv
  have H1 := Lib.hid hone
  clear hr0 ho ha hs hu hv hone
  go_enter Try.func20, Try.ntmps20
  go_wp2_with fail
  refine (spec_l1Open.calls _ _ _ _ _ w _ (Below.refl _ _) HR.out hc0 HO.out).mono ?_
  rintro e w1 ⟨g, rfl, hI, hb, hb2⟩
  go_wp2_with fail
  have O := Below.on hb
  refine (spec_l11Stamp.calls 1 g _ _ _ _ _ _ _ _ _ w _ hI hb HS.out).mono ?_
  rintro e w2 ⟨rfl, hI2, hb3, hk⟩
  clear hI hb hb2 hk
  go_wp2_with fail
  refine (spec_l6Put.calls _ _ _ _ _ _ _ _ HU.out).mono ?_
  rintro e w3 ⟨rfl, hb4⟩
  have I3 := iss_on hI2 (Below.on hb4)
  have hb5 := Below.trans hb3 (Below.mono hb4 hb3.size)
  clear hI2 hb3 hb4
  go_wp2_with fail
  refine (spec_l11AnyStamp.calls 1 g _ _ _ _ _ _ _ _ _ w _ I3 hb5 HA.out).mono ?_
  rintro e w4 ⟨rfl, hI, hb, hk⟩
  clear I3 hb5 hk
  go_wp2_with fail
  refine (spec_l6Put.calls _ _ _ _ _ _ _ _ HV.out).mono ?_
  rintro e w5 ⟨rfl, hb4⟩
  have I5 := iss_on hI (Below.on hb4)
  have hb5 := Below.trans hb (Below.mono hb4 hb.size)
  clear hI hb hb4 O
  go_wp2_with fail
  have D := Blk.new w5 3 #[.int .i64 u, .int .i64 v, .int .i64 0, .int .i64 (-1), .int .i64 4294967295, .int .i64 4294967296]
  have hg : w5.heap.size ≠ g := by
    obtain ⟨A, c, hb, _, _⟩ := I5
    have := (Blk.mk hb).lt
    omega
  refine (spec_l1Rd_one.calls 1 g _ _ _ _ _ _ _ w _ (iss_on I5 ((On.refl _).alloc _)) (Below.alloc hb5 hb5.size _) (c_of_six D) (by simp) (fun ad e _ => by injection e with e; subst e; exact hg) H1.out).mono ?_
  rintro e w6 ⟨rfl, hI, hb, hk⟩
  go_wp2_with fail
  go_ret
  exact ⟨rfl, Below.on hb⟩
set_option maxRecDepth 100000 in
set_option maxHeartbeats 1000000 in
theorem law_main (A0 A1 : Option Addr) (c0 c1 : Nat) (l0 l1 : List Int) (w : World) (hlen : (l0.length : Int) ≤ 1048576) (hlen1 : (l1.length : Int) ≤ 1048576) (y m d h mi s t : Int) (ht : t < 9223372036854775808)
    (h19 : ∀ W, On w W → Calls Try.prog 19 #[.slice A0 l0.length c0] W (Told W (.agg #[.int .i64 y, .int .i64 m, .int .i64 d, .int .i64 h, .int .i64 mi, .int .i64 s])))
    (h20 : ∀ W, On w W → Calls Try.prog 20 #[.slice A1 l1.length c1] W (Told W (.int .i64 t))) (ok : okp y m d h mi s) :
    Calls Try.prog 9 #[.slice A0 l0.length c0, .slice A1 l1.length c1] w (Told w (.bool true)) := by
  have P19 := Lib.hid h19
  have P20 := Lib.hid h20
  have HP := Lib.hid (iput_ok ok 0)
  have HQ := Lib.hid (sput_ok ok 0)
  have HI := Lib.hid (iok_eq 0 y m d h mi s)
  have HS := Lib.hid (sok_eq 0 y m d h mi s)
  have OK := Lib.hid (show decide (okp y m d h mi s) = true from by simpa using ok)
  have hn := num_bd ok
  have hG : get (num y m d h mi s) = (y, m, d, h, mi, s, true) := by
    obtain ⟨e1, e2, e3, e4, e5, e6⟩ := get_num ok
    unfold get
    rw [if_pos ⟨hn.1, hn.2, by rw [e1, e2, e3, e4, e5, e6]; exact ok⟩, e1, e2, e3, e4, e5, e6]
  have HG := Lib.hid hG
  clear hG ok h19 h20
  obtain ⟨n0, n1⟩ := hn
  generalize num y m d h mi s = n at *
  go_enter Try.func9, Try.ntmps9
  go_wp2_with fail
  refine (P19.out _ (On.refl _)).mono ?_
  rintro e w1 ⟨rfl, O⟩
  have B := Blk.new w1 25 #[.int .i64 y, .int .i64 m, .int .i64 d, .int .i64 h, .int .i64 mi, .int .i64 s]
  replace O := O.alloc (.cells #[.int .i64 y, .int .i64 m, .int .i64 d, .int .i64 h, .int .i64 mi, .int .i64 s] 25)
  go_wp2_with fail
  refine (impl_StampPut.calls 1 _ _ _ _ _ _ _ _ HP.out).mono ?_
  rintro e w2 ⟨rfl, hb⟩
  replace O := O.call (Below.on hb)
  replace B := B.call hb
  clear hb
  go_wp2_with fail
  refine (iget_calls n (by omega) _).mono ?_
  rintro e w3 ⟨rfl, hb⟩
  rw [HG.out]
  unfold tup
  replace O := O.call hb
  replace B := hb.blk B
  clear hb
  have c0 : w3.cell? ⟨w1.heap.size, 0, none⟩ = some _ := (B.cell 0).trans rfl
  have c1 : w3.cell? ⟨w1.heap.size, 1, none⟩ = some _ := (B.cell 1).trans rfl
  have c2 : w3.cell? ⟨w1.heap.size, 2, none⟩ = some _ := (B.cell 2).trans rfl
  have c3 : w3.cell? ⟨w1.heap.size, 3, none⟩ = some _ := (B.cell 3).trans rfl
  have c4 : w3.cell? ⟨w1.heap.size, 4, none⟩ = some _ := (B.cell 4).trans rfl
  have c5 : w3.cell? ⟨w1.heap.size, 5, none⟩ = some _ := (B.cell 5).trans rfl
  have lt := B.lt
  go_wp2_with fail
  have D := Blk.new w3 25 #[.int .i64 y, .int .i64 m, .int .i64 d, .int .i64 h, .int .i64 mi, .int .i64 s]
  replace B := B.alloc (.cells #[.int .i64 y, .int .i64 m, .int .i64 d, .int .i64 h, .int .i64 mi, .int .i64 s] 25)
  replace O := O.alloc (.cells #[.int .i64 y, .int .i64 m, .int .i64 d, .int .i64 h, .int .i64 mi, .int .i64 s] 25)
  clear c0 c1 c2 c3 c4 c5
  generalize w3.alloc (.cells #[.int .i64 y, .int .i64 m, .int .i64 d, .int .i64 h, .int .i64 mi, .int .i64 s] 25) = wz at *
  generalize w1.heap.size = g1 at *
  generalize w3.heap.size = g2 at *
  have c0 : ∀ W, On wz W → W.cell? ⟨g1, 0, none⟩ = some (.int .i64 y) := fun W h => ((h.blk B).cell 0).trans rfl
  have c1 : ∀ W, On wz W → W.cell? ⟨g1, 1, none⟩ = some (.int .i64 m) := fun W h => ((h.blk B).cell 1).trans rfl
  have c2 : ∀ W, On wz W → W.cell? ⟨g1, 2, none⟩ = some (.int .i64 d) := fun W h => ((h.blk B).cell 2).trans rfl
  have c3 : ∀ W, On wz W → W.cell? ⟨g1, 3, none⟩ = some (.int .i64 h) := fun W h => ((h.blk B).cell 3).trans rfl
  have c4 : ∀ W, On wz W → W.cell? ⟨g1, 4, none⟩ = some (.int .i64 mi) := fun W h => ((h.blk B).cell 4).trans rfl
  have c5 : ∀ W, On wz W → W.cell? ⟨g1, 5, none⟩ = some (.int .i64 s) := fun W h => ((h.blk B).cell 5).trans rfl
  have d0 : ∀ W, On wz W → W.cell? ⟨g2, 0, none⟩ = some (.int .i64 y) := fun W h => ((h.blk D).cell 0).trans rfl
  have d1 : ∀ W, On wz W → W.cell? ⟨g2, 1, none⟩ = some (.int .i64 m) := fun W h => ((h.blk D).cell 1).trans rfl
  have d2 : ∀ W, On wz W → W.cell? ⟨g2, 2, none⟩ = some (.int .i64 d) := fun W h => ((h.blk D).cell 2).trans rfl
  have d3 : ∀ W, On wz W → W.cell? ⟨g2, 3, none⟩ = some (.int .i64 h) := fun W h => ((h.blk D).cell 3).trans rfl
  have d4 : ∀ W, On wz W → W.cell? ⟨g2, 4, none⟩ = some (.int .i64 mi) := fun W h => ((h.blk D).cell 4).trans rfl
  have d5 : ∀ W, On wz W → W.cell? ⟨g2, 5, none⟩ = some (.int .i64 s) := fun W h => ((h.blk D).cell 5).trans rfl
  go_region_held3 (fun W => On wz W) (first | assumption | exact (On.refl _).drew | exact On.refl _ | (apply On.drew; assumption) | (refine On.call ?_ (Below.on (by assumption)); assumption))
    (first
      | (go_at_call 13; refine (spec_StampPut.calls 1 _ _ _ _ _ _ _ _ HQ.out).mono ?_; rintro e wn ⟨rfl, hb⟩)
      | (go_at_call 12; refine (impl_StampOk.calls 1 _ _ _ _ _ _ _ _ HI.out).mono ?_; rintro e wn ⟨rfl, hb⟩; rw [OK.out])
      | (go_at_call 10; refine (spec_StampOk.calls 1 _ _ _ _ _ _ _ _ HS.out).mono ?_; rintro e wn ⟨rfl, hb⟩; rw [OK.out]))
  clear B D
  rename_i hH
  replace O := O.call hH
  clear hH c0 c1 c2 c3 c4 c5 d0 d1 d2 d3 d4 d5
  go_wp2_with fail
  refine (P20.out _ O).mono ?_
  rintro e w5 ⟨rfl, O5⟩
  replace O := O.call O5
  clear O5
  go_wp2_with fail
  refine (iget_calls t ht _).mono ?_
  unfold tup
  generalize hx0 : get t = x
  obtain ⟨y', m', d', h', mi', s', b⟩ := x
  have HX := Lib.hid hx0
  clear hx0
  rintro e w6 ⟨rfl, O6⟩
  have E := Blk.new w6 25 #[.int .i64 y', .int .i64 m', .int .i64 d', .int .i64 h', .int .i64 mi', .int .i64 s']
  replace O := (O.call O6).alloc (.cells #[.int .i64 y', .int .i64 m', .int .i64 d', .int .i64 h', .int .i64 mi', .int .i64 s'] 25)
  go_wp2_with fail
  refine (sget_calls t _).mono ?_
  unfold tup
  rw [HX.out]
  rintro e w7 ⟨rfl, O7⟩
  replace E := O7.blk E
  replace O := O.call O7
  clear O6 O7
  have e0 : w7.cell? ⟨w6.heap.size, 0, none⟩ = some (.int .i64 y') := (E.cell 0).trans rfl
  have e1 : w7.cell? ⟨w6.heap.size, 1, none⟩ = some (.int .i64 m') := (E.cell 1).trans rfl
  have e2 : w7.cell? ⟨w6.heap.size, 2, none⟩ = some (.int .i64 d') := (E.cell 2).trans rfl
  have e3 : w7.cell? ⟨w6.heap.size, 3, none⟩ = some (.int .i64 h') := (E.cell 3).trans rfl
  have e4 : w7.cell? ⟨w6.heap.size, 4, none⟩ = some (.int .i64 mi') := (E.cell 4).trans rfl
  have e5 : w7.cell? ⟨w6.heap.size, 5, none⟩ = some (.int .i64 s') := (E.cell 5).trans rfl
  have lt := E.lt
  replace O := O.alloc (.cells #[.int .i64 y', .int .i64 m', .int .i64 d', .int .i64 h', .int .i64 mi', .int .i64 s'] 25)
  cases b
  · go_wp2_with fail
    go_ret
    exact ⟨by simp, O⟩
  · have HPT : Hid (impl_StampPut.f 1 y' m' d' h' mi' s' = some t) := by
      have hx := HX.out
      unfold get at hx
      by_cases g : got t
      · rw [if_pos g] at hx
        simp only [Prod.mk.injEq, and_true] at hx
        obtain ⟨rfl, rfl, rfl, rfl, rfl, rfl⟩ := hx
        exact Lib.hid (by rw [iput_ok g.2.2, num_get g.1])
      · rw [if_neg g] at hx
        simp at hx
    go_wp2_with fail
    refine (impl_StampPut.calls 1 _ _ _ _ _ _ _ _ HPT.out).mono ?_
    rintro e w8 ⟨rfl, hb⟩
    go_wp2_with fail
    go_ret
    exact ⟨by simp, O.call (Below.on hb)⟩
set_option maxRecDepth 100000 in
set_option maxHeartbeats 1000000 in
theorem law_no (A0 A1 : Option Addr) (c0 c1 : Nat) (l0 l1 : List Int) (w : World) (hlen : (l0.length : Int) ≤ 1048576) (hlen1 : (l1.length : Int) ≤ 1048576) (y m d h mi s t : Int) (ht : t < 9223372036854775808)
    (h19 : ∀ W, On w W → Calls Try.prog 19 #[.slice A0 l0.length c0] W (Told W (.agg #[.int .i64 y, .int .i64 m, .int .i64 d, .int .i64 h, .int .i64 mi, .int .i64 s])))
    (h20 : ∀ W, On w W → Calls Try.prog 20 #[.slice A1 l1.length c1] W (Told W (.int .i64 t))) (ok : ¬ okp y m d h mi s) :
    Calls Try.prog 9 #[.slice A0 l0.length c0, .slice A1 l1.length c1] w (Told w (.bool true)) := by
  have P19 := Lib.hid h19
  have P20 := Lib.hid h20
  have HP := Lib.hid (iput_no ok 0)
  have HQ := Lib.hid (sput_no ok 0)
  have HI := Lib.hid (iok_eq 0 y m d h mi s)
  have HS := Lib.hid (sok_eq 0 y m d h mi s)
  have OK := Lib.hid (show decide (okp y m d h mi s) = false from by simpa using ok)
  have HG : Hid (get (-1) = (0, 0, 0, 0, 0, 0, false)) := Lib.hid (by unfold get; rw [if_neg (fun g => absurd g.1 (by decide))])
  clear ok h19 h20
  obtain ⟨n, hn⟩ : ∃ n : Int, n = -1 := ⟨_, rfl⟩
  rw [← hn] at HP HQ HG
  have n1 : n < 0 := by omega
  have nb : decide (0 ≤ n) = false := by simp; omega
  clear hn
  go_enter Try.func9, Try.ntmps9
  go_wp2_with fail
  refine (P19.out _ (On.refl _)).mono ?_
  rintro e w1 ⟨rfl, O⟩
  have B := Blk.new w1 25 #[.int .i64 y, .int .i64 m, .int .i64 d, .int .i64 h, .int .i64 mi, .int .i64 s]
  replace O := O.alloc (.cells #[.int .i64 y, .int .i64 m, .int .i64 d, .int .i64 h, .int .i64 mi, .int .i64 s] 25)
  go_wp2_with fail
  refine (impl_StampPut.calls 1 _ _ _ _ _ _ _ _ HP.out).mono ?_
  rintro e w2 ⟨rfl, hb⟩
  replace O := O.call (Below.on hb)
  replace B := B.call hb
  clear hb
  go_wp2_with fail
  refine (iget_calls n (by omega) _).mono ?_
  rintro e w3 ⟨rfl, hb⟩
  rw [HG.out]
  unfold tup
  replace O := O.call hb
  replace B := hb.blk B
  clear hb
  have c0 : w3.cell? ⟨w1.heap.size, 0, none⟩ = some _ := (B.cell 0).trans rfl
  have c1 : w3.cell? ⟨w1.heap.size, 1, none⟩ = some _ := (B.cell 1).trans rfl
  have c2 : w3.cell? ⟨w1.heap.size, 2, none⟩ = some _ := (B.cell 2).trans rfl
  have c3 : w3.cell? ⟨w1.heap.size, 3, none⟩ = some _ := (B.cell 3).trans rfl
  have c4 : w3.cell? ⟨w1.heap.size, 4, none⟩ = some _ := (B.cell 4).trans rfl
  have c5 : w3.cell? ⟨w1.heap.size, 5, none⟩ = some _ := (B.cell 5).trans rfl
  have lt := B.lt
  go_wp2_with fail
  have D := Blk.new w3 25 zero6
  replace B := B.alloc (.cells zero6 25)
  replace O := O.alloc (.cells zero6 25)
  clear c0 c1 c2 c3 c4 c5
  generalize w3.alloc (.cells zero6 25) = wz at *
  generalize w1.heap.size = g1 at *
  generalize w3.heap.size = g2 at *
  have c0 : ∀ W, On wz W → W.cell? ⟨g1, 0, none⟩ = some (.int .i64 y) := fun W h => ((h.blk B).cell 0).trans rfl
  have c1 : ∀ W, On wz W → W.cell? ⟨g1, 1, none⟩ = some (.int .i64 m) := fun W h => ((h.blk B).cell 1).trans rfl
  have c2 : ∀ W, On wz W → W.cell? ⟨g1, 2, none⟩ = some (.int .i64 d) := fun W h => ((h.blk B).cell 2).trans rfl
  have c3 : ∀ W, On wz W → W.cell? ⟨g1, 3, none⟩ = some (.int .i64 h) := fun W h => ((h.blk B).cell 3).trans rfl
  have c4 : ∀ W, On wz W → W.cell? ⟨g1, 4, none⟩ = some (.int .i64 mi) := fun W h => ((h.blk B).cell 4).trans rfl
  have c5 : ∀ W, On wz W → W.cell? ⟨g1, 5, none⟩ = some (.int .i64 s) := fun W h => ((h.blk B).cell 5).trans rfl
  have d0 : ∀ W, On wz W → W.cell? ⟨g2, 0, none⟩ = some (.int .i64 0) := fun W h => ((h.blk D).cell 0).trans rfl
  have d1 : ∀ W, On wz W → W.cell? ⟨g2, 1, none⟩ = some (.int .i64 0) := fun W h => ((h.blk D).cell 1).trans rfl
  have d2 : ∀ W, On wz W → W.cell? ⟨g2, 2, none⟩ = some (.int .i64 0) := fun W h => ((h.blk D).cell 2).trans rfl
  have d3 : ∀ W, On wz W → W.cell? ⟨g2, 3, none⟩ = some (.int .i64 0) := fun W h => ((h.blk D).cell 3).trans rfl
  have d4 : ∀ W, On wz W → W.cell? ⟨g2, 4, none⟩ = some (.int .i64 0) := fun W h => ((h.blk D).cell 4).trans rfl
  have d5 : ∀ W, On wz W → W.cell? ⟨g2, 5, none⟩ = some (.int .i64 0) := fun W h => ((h.blk D).cell 5).trans rfl
  refine wp_region_held_drew (S := fun W => On wz W) (by kernel_rfl) (On.refl _).drew (fun hHeld => ?_)
  refine wpAnyH_take (i := 0) (oi := { dst := some 31, op := Op.move (Operand.tmp 6), type := 3, pos := "laws.go:498", after := #[], guard := none }) (v := ?_) rfl (by kernel_rfl) (by kernel_rfl) (by kernel_rfl) (fun _ _ _ h => h) (Or.inl ⟨by rfl, ?_⟩) (by assumption) ?_
  rotate_left
  · intro w hSw
    go_simp
    first | done | with_reducible rfl
  try simp only [Act.put, List.setIfInBounds_toArray, List.set_cons_zero, List.set_cons_succ]
  refine wpAnyH_take (i := 1) (oi := { dst := some 32, op := Op.load 25 (Operand.tmp 5), type := 25, pos := "laws.go:498", after := #[], guard := none }) (v := ?_) rfl (by kernel_rfl) (by kernel_rfl) (by kernel_rfl) (fun _ _ _ h => h) (Or.inl ⟨by rfl, ?_⟩) (by assumption) ?_
  rotate_left
  · intro w hSw
    go_simp
    first | done | with_reducible rfl
  try simp only [Act.put, List.setIfInBounds_toArray, List.set_cons_zero, List.set_cons_succ]
  refine wpAnyH_ready (rs := [2]) (by kernel_rfl) (by simp) ?_
  refine AllReadyH.cons (o := { dst := some 33, op := Op.call { callee := Callee.value (Operand.func 13), args := #[Operand.tmp 32], argTypes := #[25] }, type := 3, pos := "laws.go:498", after := #[{ on := 1, ground := Ground.data }], guard := none }) rfl (fun K hK => ?_) AllReadyH.nil
  go_simp
  refine (spec_StampPut.calls 1 _ _ _ _ _ _ _ _ HQ.out).mono ?_
  rintro e wn ⟨rfl, hb⟩
  refine hK.out _ _ ?_ (fun hHeld => ?_)
  · exact On.call (by assumption) (Below.on hb)
  clear hK K
  try simp only [Act.put, List.setIfInBounds_toArray, List.set_cons_zero, List.set_cons_succ]
  refine wpAnyH_take (i := 3) (oi := { dst := some 34, op := Op.binOp BinOp.neq 3 (Operand.tmp 31) (Operand.tmp 33) 3, type := 4, pos := "laws.go:498", after := #[{ on := 0, ground := Ground.data }, { on := 2, ground := Ground.data }], guard := none }) (v := ?_) rfl (by kernel_rfl) (by kernel_rfl) (by kernel_rfl) (fun _ _ _ h => h) (Or.inl ⟨by rfl, ?_⟩) (by assumption) ?_
  rotate_left
  · intro w hSw
    go_simp
    first | done | with_reducible rfl
  try simp only [Act.put, List.setIfInBounds_toArray, List.set_cons_zero, List.set_cons_succ]
  refine wpAnyH_take (i := 4) (oi := { dst := some 35, op := Op.move (Operand.tmp 34), type := 4, pos := "laws.go:498", after := #[{ on := 3, ground := Ground.data }, { on := 2, ground := Ground.chain }], guard := none }) (v := ?_) rfl (by kernel_rfl) (by kernel_rfl) (by kernel_rfl) (fun _ _ _ h => h) (Or.inl ⟨by rfl, ?_⟩) (by assumption) ?_
  rotate_left
  · intro w hSw
    go_simp
    first | done | with_reducible rfl
  try simp only [Act.put, List.setIfInBounds_toArray, List.set_cons_zero, List.set_cons_succ]
  refine wpAnyH_take (i := 5) (oi := { dst := some 36, op := Op.load 25 (Operand.tmp 5), type := 25, pos := "laws.go:498", after := #[{ on := 4, ground := Ground.guard }], guard := some (4, false) }) (v := ?_) rfl (by kernel_rfl) (by kernel_rfl) (by kernel_rfl) (fun _ _ _ h => h) (Or.inl ⟨by rfl, ?_⟩) (by assumption) ?_
  rotate_left
  · intro w hSw
    go_simp
    first | done | with_reducible rfl
  try simp only [Act.put, List.setIfInBounds_toArray, List.set_cons_zero, List.set_cons_succ]
  refine wpAnyH_take (i := 7) (oi := { dst := some 38, op := Op.load 25 (Operand.tmp 5), type := 25, pos := "laws.go:498", after := #[{ on := 4, ground := Ground.guard }], guard := some (4, false) }) (v := ?_) rfl (by kernel_rfl) (by kernel_rfl) (by kernel_rfl) (fun _ _ _ h => h) (Or.inl ⟨by rfl, ?_⟩) (by assumption) ?_
  rotate_left
  · intro w hSw
    go_simp
    first | done | with_reducible rfl
  try simp only [Act.put, List.setIfInBounds_toArray, List.set_cons_zero, List.set_cons_succ]
  refine wpAnyH_ready (rs := [6]) (by kernel_rfl) (by simp) ?_
  refine AllReadyH.cons (o := { dst := some 37, op := Op.call { callee := Callee.value (Operand.func 12), args := #[Operand.tmp 36], argTypes := #[25] }, type := 4, pos := "laws.go:498", after := #[{ on := 5, ground := Ground.data }, { on := 4, ground := Ground.chain }, { on := 4, ground := Ground.guard }], guard := some (4, false) }) rfl (fun K hK => ?_) AllReadyH.nil
  go_simp
  refine (impl_StampOk.calls 1 _ _ _ _ _ _ _ _ HI.out).mono ?_
  rintro e wn ⟨rfl, hb⟩
  rw [OK.out]
  refine hK.out _ _ ?_ (fun hHeld => ?_)
  · exact On.call (by assumption) (Below.on hb)
  clear hK K
  try simp only [Act.put, List.setIfInBounds_toArray, List.set_cons_zero, List.set_cons_succ]
  refine wpAnyH_ready (rs := [8]) (by kernel_rfl) (by simp) ?_
  refine AllReadyH.cons (o := { dst := some 39, op := Op.call { callee := Callee.value (Operand.func 10), args := #[Operand.tmp 38], argTypes := #[25] }, type := 4, pos := "laws.go:498", after := #[{ on := 7, ground := Ground.data }, { on := 6, ground := Ground.chain }, { on := 4, ground := Ground.guard }], guard := some (4, false) }) rfl (fun K hK => ?_) AllReadyH.nil
  go_simp
  refine (spec_StampOk.calls 1 _ _ _ _ _ _ _ _ HS.out).mono ?_
  rintro e wn ⟨rfl, hb⟩
  rw [OK.out]
  refine hK.out _ _ ?_ (fun hHeld => ?_)
  · exact On.call (by assumption) (Below.on hb)
  clear hK K
  try simp only [Act.put, List.setIfInBounds_toArray, List.set_cons_zero, List.set_cons_succ]
  refine wpAnyH_take (i := 9) (oi := { dst := some 40, op := Op.binOp BinOp.neq 4 (Operand.tmp 37) (Operand.tmp 39) 4, type := 4, pos := "laws.go:498", after := #[{ on := 6, ground := Ground.data }, { on := 8, ground := Ground.data }, { on := 4, ground := Ground.guard }], guard := some (4, false) }) (v := ?_) rfl (by kernel_rfl) (by kernel_rfl) (by kernel_rfl) (fun _ _ _ h => h) (Or.inl ⟨by rfl, ?_⟩) (by assumption) ?_
  rotate_left
  · intro w hSw
    go_simp
    first | done | with_reducible rfl
  try simp only [Act.put, List.setIfInBounds_toArray, List.set_cons_zero, List.set_cons_succ]
  refine wpAnyH_take (i := 10) (oi := { dst := some 41, op := Op.pick (Operand.tmp 35) (Operand.const (Value.bool true)) (Operand.tmp 40), type := 4, pos := "laws.go:498", after := #[{ on := 4, ground := Ground.data }, { on := 9, ground := Ground.data }], guard := none }) (v := ?_) rfl (by kernel_rfl) (by kernel_rfl) (by kernel_rfl) (fun _ _ _ h => h) (Or.inl ⟨by rfl, ?_⟩) (by assumption) ?_
  rotate_left
  · intro w hSw
    go_simp
    first | done | with_reducible rfl
  try simp only [Act.put, List.setIfInBounds_toArray, List.set_cons_zero, List.set_cons_succ]
  refine wpAnyH_take (i := 11) (oi := { dst := some 42, op := Op.move (Operand.tmp 41), type := 4, pos := "laws.go:498", after := #[{ on := 10, ground := Ground.data }, { on := 8, ground := Ground.chain }], guard := none }) (v := ?_) rfl (by kernel_rfl) (by kernel_rfl) (by kernel_rfl) (fun _ _ _ h => h) (Or.inl ⟨by rfl, ?_⟩) (by assumption) ?_
  rotate_left
  · intro w hSw
    go_simp
    first | done | with_reducible rfl
  try simp only [Act.put, List.setIfInBounds_toArray, List.set_cons_zero, List.set_cons_succ]
  refine wpAnyH_take (i := 12) (oi := { dst := some 43, op := Op.move (Operand.tmp 8), type := 4, pos := "laws.go:498", after := #[{ on := 11, ground := Ground.guard }], guard := some (11, false) }) (v := ?_) rfl (by kernel_rfl) (by kernel_rfl) (by kernel_rfl) (fun _ _ _ h => h) (Or.inl ⟨by rfl, ?_⟩) (by assumption) ?_
  rotate_left
  · intro w hSw
    go_simp
    first | done | with_reducible rfl
  try simp only [Act.put, List.setIfInBounds_toArray, List.set_cons_zero, List.set_cons_succ]
  refine wpAnyH_take (i := 13) (oi := { dst := some 44, op := Op.move (Operand.tmp 6), type := 3, pos := "laws.go:498", after := #[{ on := 11, ground := Ground.guard }], guard := some (11, false) }) (v := ?_) rfl (by kernel_rfl) (by kernel_rfl) (by kernel_rfl) (fun _ _ _ h => h) (Or.inl ⟨by rfl, ?_⟩) (by assumption) ?_
  rotate_left
  · intro w hSw
    go_simp
    first | done | with_reducible rfl
  try simp only [Act.put, List.setIfInBounds_toArray, List.set_cons_zero, List.set_cons_succ]
  refine wpAnyH_take (i := 14) (oi := { dst := some 45, op := Op.binOp BinOp.geq 3 (Operand.tmp 44) (Operand.const (Value.int IntKind.i64 0)) 3, type := 4, pos := "laws.go:498", after := #[{ on := 13, ground := Ground.data }, { on := 11, ground := Ground.guard }], guard := some (11, false) }) (v := ?_) rfl (by kernel_rfl) (by kernel_rfl) (by kernel_rfl) (fun _ _ _ h => h) (Or.inl ⟨by rfl, ?_⟩) (by assumption) ?_
  rotate_left
  · intro w hSw
    go_simp
    first | done | with_reducible rfl
  try simp only [Act.put, List.setIfInBounds_toArray, List.set_cons_zero, List.set_cons_succ]
  refine wpAnyH_take (i := 15) (oi := { dst := some 46, op := Op.binOp BinOp.neq 4 (Operand.tmp 43) (Operand.tmp 45) 4, type := 4, pos := "laws.go:498", after := #[{ on := 12, ground := Ground.data }, { on := 14, ground := Ground.data }, { on := 11, ground := Ground.guard }], guard := some (11, false) }) (v := ?_) rfl (by kernel_rfl) (by kernel_rfl) (by kernel_rfl) (fun _ _ _ h => h) (Or.inl ⟨by rfl, ?_⟩) (by assumption) ?_
  rotate_left
  · intro w hSw
    go_simp
    first | done | with_reducible rfl
  try simp only [Act.put, List.setIfInBounds_toArray, List.set_cons_zero, List.set_cons_succ]
  refine wpAnyH_take (i := 16) (oi := { dst := some 47, op := Op.pick (Operand.tmp 42) (Operand.const (Value.bool true)) (Operand.tmp 46), type := 4, pos := "laws.go:498", after := #[{ on := 11, ground := Ground.data }, { on := 15, ground := Ground.data }], guard := none }) (v := ?_) rfl (by kernel_rfl) (by kernel_rfl) (by kernel_rfl) (fun _ _ _ h => h) (Or.inl ⟨by rfl, ?_⟩) (by assumption) ?_
  rotate_left
  · intro w hSw
    go_simp
    first | done | with_reducible rfl
  try simp only [Act.put, List.setIfInBounds_toArray, List.set_cons_zero, List.set_cons_succ]
  refine wpAnyH_take (i := 17) (oi := { dst := some 48, op := Op.move (Operand.tmp 47), type := 4, pos := "laws.go:498", after := #[{ on := 16, ground := Ground.data }, { on := 11, ground := Ground.chain }], guard := none }) (v := ?_) rfl (by kernel_rfl) (by kernel_rfl) (by kernel_rfl) (fun _ _ _ h => h) (Or.inl ⟨by rfl, ?_⟩) (by assumption) ?_
  rotate_left
  · intro w hSw
    go_simp
    first | done | with_reducible rfl
  try simp only [Act.put, List.setIfInBounds_toArray, List.set_cons_zero, List.set_cons_succ]
  refine wpAnyH_take (i := 18) (oi := { dst := some 49, op := Op.move (Operand.tmp 8), type := 4, pos := "laws.go:498", after := #[{ on := 17, ground := Ground.guard }], guard := some (17, false) }) (v := ?_) rfl (by kernel_rfl) (by kernel_rfl) (by kernel_rfl) (fun _ _ _ h => h) (Or.inl ⟨by rfl, ?_⟩) (by assumption) ?_
  rotate_left
  · intro w hSw
    go_simp
    first | done | with_reducible rfl
  try simp only [Act.put, List.setIfInBounds_toArray, List.set_cons_zero, List.set_cons_succ]
  refine wpAnyH_take (i := 19) (oi := { dst := some 50, op := Op.move (Operand.tmp 49), type := 4, pos := "laws.go:498", after := #[{ on := 18, ground := Ground.data }, { on := 17, ground := Ground.chain }, { on := 17, ground := Ground.guard }], guard := some (17, false) }) (v := ?_) rfl (by kernel_rfl) (by kernel_rfl) (by kernel_rfl) (fun _ _ _ h => h) (Or.inl ⟨by rfl, ?_⟩) (by assumption) ?_
  rotate_left
  · intro w hSw
    go_simp
    first | done | with_reducible rfl
  try simp only [Act.put, List.setIfInBounds_toArray, List.set_cons_zero, List.set_cons_succ]
  refine wpAnyH_take (i := 20) (oi := { dst := some 51, op := Op.load 25 (Operand.tmp 7), type := 25, pos := "laws.go:498", after := #[{ on := 19, ground := Ground.guard }], guard := some (19, true) }) (v := undef) rfl (by kernel_rfl) (by kernel_rfl) (by kernel_rfl) (fun _ _ _ h => h) (Or.inr ⟨by rfl, rfl⟩) (by assumption) ?_
  try simp only [Act.put, List.setIfInBounds_toArray, List.set_cons_zero, List.set_cons_succ]
  refine wpAnyH_take (i := 21) (oi := { dst := some 52, op := Op.load 25 (Operand.tmp 5), type := 25, pos := "laws.go:498", after := #[{ on := 19, ground := Ground.guard }], guard := some (19, true) }) (v := undef) rfl (by kernel_rfl) (by kernel_rfl) (by kernel_rfl) (fun _ _ _ h => h) (Or.inr ⟨by rfl, rfl⟩) (by assumption) ?_
  try simp only [Act.put, List.setIfInBounds_toArray, List.set_cons_zero, List.set_cons_succ]
  refine wpAnyH_take (i := 22) (oi := { dst := some 53, op := Op.binOp BinOp.neq 25 (Operand.tmp 51) (Operand.tmp 52) 25, type := 4, pos := "laws.go:498", after := #[{ on := 20, ground := Ground.data }, { on := 21, ground := Ground.data }, { on := 19, ground := Ground.guard }], guard := some (19, true) }) (v := undef) rfl (by kernel_rfl) (by kernel_rfl) (by kernel_rfl) (fun _ _ _ h => h) (Or.inr ⟨by rfl, rfl⟩) (by assumption) ?_
  try simp only [Act.put, List.setIfInBounds_toArray, List.set_cons_zero, List.set_cons_succ]
  refine wpAnyH_take (i := 23) (oi := { dst := some 54, op := Op.pick (Operand.tmp 50) (Operand.tmp 53) (Operand.const (Value.bool false)), type := 4, pos := "laws.go:498", after := #[{ on := 19, ground := Ground.data }, { on := 22, ground := Ground.data }, { on := 17, ground := Ground.guard }], guard := some (17, false) }) (v := ?_) rfl (by kernel_rfl) (by kernel_rfl) (by kernel_rfl) (fun _ _ _ h => h) (Or.inl ⟨by rfl, ?_⟩) (by assumption) ?_
  rotate_left
  · intro w hSw
    go_simp
    first | done | with_reducible rfl
  try simp only [Act.put, List.setIfInBounds_toArray, List.set_cons_zero, List.set_cons_succ]
  refine wpAnyH_take (i := 24) (oi := { dst := some 55, op := Op.pick (Operand.tmp 48) (Operand.const (Value.bool true)) (Operand.tmp 54), type := 4, pos := "laws.go:498", after := #[{ on := 17, ground := Ground.data }, { on := 23, ground := Ground.data }], guard := none }) (v := ?_) rfl (by kernel_rfl) (by kernel_rfl) (by kernel_rfl) (fun _ _ _ h => h) (Or.inl ⟨by rfl, ?_⟩) (by assumption) ?_
  rotate_left
  · intro w hSw
    go_simp
    first | done | with_reducible rfl
  try simp only [Act.put, List.setIfInBounds_toArray, List.set_cons_zero, List.set_cons_succ]
  refine wpAnyH_done (by kernel_rfl) ?_ _
  clear B D
  replace O := O.call hHeld
  clear hHeld c0 c1 c2 c3 c4 c5 d0 d1 d2 d3 d4 d5
  go_wp2_with fail
  refine (P20.out _ O).mono ?_
  rintro e w5 ⟨rfl, O5⟩
  replace O := O.call O5
  clear O5
  go_wp2_with fail
  refine (iget_calls t ht _).mono ?_
  unfold tup
  generalize hx0 : get t = x
  obtain ⟨y', m', d', h', mi', s', b⟩ := x
  have HX := Lib.hid hx0
  clear hx0
  rintro e w6 ⟨rfl, O6⟩
  have E := Blk.new w6 25 #[.int .i64 y', .int .i64 m', .int .i64 d', .int .i64 h', .int .i64 mi', .int .i64 s']
  replace O := (O.call O6).alloc (.cells #[.int .i64 y', .int .i64 m', .int .i64 d', .int .i64 h', .int .i64 mi', .int .i64 s'] 25)
  go_wp2_with fail
  refine (sget_calls t _).mono ?_
  unfold tup
  rw [HX.out]
  rintro e w7 ⟨rfl, O7⟩
  replace E := O7.blk E
  replace O := O.call O7
  clear O6 O7
  have e0 : w7.cell? ⟨w6.heap.size, 0, none⟩ = some (.int .i64 y') := (E.cell 0).trans rfl
  have e1 : w7.cell? ⟨w6.heap.size, 1, none⟩ = some (.int .i64 m') := (E.cell 1).trans rfl
  have e2 : w7.cell? ⟨w6.heap.size, 2, none⟩ = some (.int .i64 d') := (E.cell 2).trans rfl
  have e3 : w7.cell? ⟨w6.heap.size, 3, none⟩ = some (.int .i64 h') := (E.cell 3).trans rfl
  have e4 : w7.cell? ⟨w6.heap.size, 4, none⟩ = some (.int .i64 mi') := (E.cell 4).trans rfl
  have e5 : w7.cell? ⟨w6.heap.size, 5, none⟩ = some (.int .i64 s') := (E.cell 5).trans rfl
  have lt := E.lt
  replace O := O.alloc (.cells #[.int .i64 y', .int .i64 m', .int .i64 d', .int .i64 h', .int .i64 mi', .int .i64 s'] 25)
  cases b
  · go_wp2_with fail
    go_ret
    exact ⟨by simp, O⟩
  · have HPT : Hid (impl_StampPut.f 1 y' m' d' h' mi' s' = some t) := by
      have hx := HX.out
      unfold get at hx
      by_cases g : got t
      · rw [if_pos g] at hx
        simp only [Prod.mk.injEq, and_true] at hx
        obtain ⟨rfl, rfl, rfl, rfl, rfl, rfl⟩ := hx
        exact Lib.hid (by rw [iput_ok g.2.2, num_get g.1])
      · rw [if_neg g] at hx
        simp at hx
    go_wp2_with fail
    refine (impl_StampPut.calls 1 _ _ _ _ _ _ _ _ HPT.out).mono ?_
    rintro e w8 ⟨rfl, hb⟩
    go_wp2_with fail
    go_ret
    exact ⟨by simp, O.call (Below.on hb)⟩
set_option maxRecDepth 100000 in
set_option maxHeartbeats 1000000 in
theorem law_long (A0 A1 : Option Addr) (c0 c1 n0 n1 : Nat) (w : World) (hlen : ¬ ((n0 : Int) ≤ 1048576)) :
    Calls Try.prog 9 #[.slice A0 n0 c0, .slice A1 n1 c1] w (Told w (.bool true)) := by
  have h : (1048576 : Int) < n0 := by omega
  clear hlen
  go_enter Try.func9, Try.ntmps9
  go_wp2_with fail
  go_ret
  exact ⟨rfl, On.refl _⟩
set_option maxRecDepth 100000 in
set_option maxHeartbeats 1000000 in
theorem law_long2 (A0 A1 : Option Addr) (c0 c1 n0 n1 : Nat) (w : World) (hs : (n0 : Int) ≤ 1048576) (hlen : ¬ ((n1 : Int) ≤ 1048576)) :
    Calls Try.prog 9 #[.slice A0 n0 c0, .slice A1 n1 c1] w (Told w (.bool true)) := by
  have h : (1048576 : Int) < n1 := by omega
  clear hlen
  go_enter Try.func9, Try.ntmps9
  go_wp2_with fail
  go_ret
  exact ⟨rfl, On.refl _⟩
def byteOk (b : List Int) : Prop := b.length ≤ 2000 ∧ ∀ x ∈ b, 0 ≤ x ∧ x ≤ 255
theorem rd_bd {b : List Int} (hb : byteOk b) (i : Int) : 0 ≤ rd b i ∧ rd b i ≤ 255 := by
  unfold rd
  by_cases h : i.toNat < b.length
  · rw [List.getD_eq_getElem?_getD, List.getElem?_eq_getElem h]; exact hb.2 _ (List.getElem_mem h)
  · rw [List.getD_eq_getElem?_getD, List.getElem?_eq_none (by omega)]; decide
theorem xor_nn {x y : Int} (x0 : 0 ≤ x) (x1 : x < 9223372036854775808) (y0 : 0 ≤ y) (y1 : y < 9223372036854775808) : 0 ≤ Go.bits .xor .i64 x y := by
  obtain ⟨a, rfl⟩ := Int.eq_ofNat_of_zero_le x0
  obtain ⟨b, rfl⟩ := Int.eq_ofNat_of_zero_le y0
  have ha : a < 2 ^ 63 := by omega
  have hb : b < 2 ^ 63 := by omega
  have hx := Nat.xor_lt_two_pow ha hb
  have ha' : a % 2 ^ IntKind.i64.bits = a := by show a % 2 ^ 64 = a; omega
  have hb' : b % 2 ^ IntKind.i64.bits = b := by show b % 2 ^ 64 = b; omega
  simp only [Go.bits, BitVec.ofInt_natCast, BitVec.toNat_xor, BitVec.toNat_ofNat, ha', hb']
  rw [wr_i64 _ (by omega) (by omega)]
  omega
theorem pick_tells {b : List Int} (hb : byteOk b) {p : Int} (p0 : 0 ≤ p) (p1 : p ≤ 1000000000) {n : Int} (n1 : 1 ≤ n) : ∃ r, 0 ≤ r ∧ r < n ∧ ∀ k, spec_l1Rd_pick.f (k + 1) b p n = some (r, p + 1) := by
  unfold spec_l1Rd_pick.f
  simp only [show ¬ n < 1 from by omega, if_false]
  rw [w64 (x := p + 1) (by omega) (by omega)]
  simp only [spec_l1Rd_pick.j0]
  have e1 : wrap64 (p + 1 - 1) = p := by rw [w64 (by omega) (by omega)]; omega
  rw [e1]
  have hl := hb.1
  by_cases h0 : (b.length : Int) = 0
  · refine ⟨0, by omega, by omega, fun k => ?_⟩
    rw [show ((b.length : Int) == 0) = true from by simp [h0]]
    rfl
  rw [show ((b.length : Int) == 0) = false from beq_eq_false_iff_ne.2 h0]
  by_cases h1 : p < (b.length : Int)
  · have hr := rd_bd hb p
    refine ⟨Int.tmod (wrap64 (rd b p)) n, ?_, ?_, fun k => ?_⟩
    · rw [w64 (by omega) (by omega)]; rw [Int.tmod_eq_emod_of_nonneg hr.1]; exact Int.emod_nonneg _ (by omega)
    · rw [w64 (by omega) (by omega)]; rw [Int.tmod_eq_emod_of_nonneg hr.1]; exact Int.emod_lt_of_pos _ (by omega)
    · rw [if_neg (by decide), if_pos h1, if_pos p0, if_neg (by omega)]
  · have e2 : wrap64 (p * 7) = p * 7 := w64 (by omega) (by omega)
    have e3 : wrap64 (p * 7 + 3) = p * 7 + 3 := w64 (by omega) (by omega)
    rw [e2, e3, Int.tmod_eq_emod_of_nonneg p0, Int.tmod_eq_emod_of_nonneg (a := p * 7 + 3) (by omega)]
    have hi1 := Int.emod_nonneg p (b := (b.length : Int)) h0
    have hi2 := Int.emod_lt_of_pos p (b := (b.length : Int)) (by omega)
    have hj1 := Int.emod_nonneg (p * 7 + 3) (b := (b.length : Int)) h0
    have hj2 := Int.emod_lt_of_pos (p * 7 + 3) (b := (b.length : Int)) (by omega)
    have hr := rd_bd hb (p % (b.length : Int))
    have hs := rd_bd hb ((p * 7 + 3) % (b.length : Int))
    have hq0 : 0 ≤ Int.tdiv p (b.length : Int) := by rw [Int.tdiv_eq_ediv_of_nonneg p0]; exact Int.ediv_nonneg p0 (by omega)
    have hq1 : Int.tdiv p (b.length : Int) ≤ p := by rw [Int.tdiv_eq_ediv_of_nonneg p0]; exact Int.ediv_le_self _ p0
    generalize Int.tdiv p (b.length : Int) = q at *
    generalize rd b (p % (b.length : Int)) = u at *
    generalize rd b ((p * 7 + 3) % (b.length : Int)) = v at *
    rw [w64 (x := u) (by omega) (by omega), w64 (x := v) (by omega) (by omega), w64 (x := u * 131) (by omega) (by omega), w64 (x := v * 1117) (by omega) (by omega), w64 (x := p * 29) (by omega) (by omega), w64 (x := q) (by omega) (by omega), w64 (x := q * 53) (by omega) (by omega), w64 (x := u * 131 + v * 1117) (by omega) (by omega), w64 (x := u * 131 + v * 1117 + p * 29) (by omega) (by omega), w64 (x := u * 131 + v * 1117 + p * 29 + q * 53) (by omega) (by omega)]
    have x0 : 0 ≤ u * 131 + v * 1117 + p * 29 + q * 53 := by omega
    have x1 : u * 131 + v * 1117 + p * 29 + q * 53 ≤ 1000000000000 := by omega
    generalize u * 131 + v * 1117 + p * 29 + q * 53 = X at *
    rw [Int.tdiv_eq_ediv_of_nonneg x0, w64 (x := X / 64) (by omega) (by omega)]
    have hz := xor_nn (x := X) (y := X / 64) (by omega) (by omega) (by omega) (by omega)
    generalize Go.bits .xor .i64 X (X / 64) = Z at *
    refine ⟨Int.tmod Z n, ?_, ?_, fun k => ?_⟩
    · rw [Int.tmod_eq_emod_of_nonneg hz]; exact Int.emod_nonneg _ (by omega)
    · rw [Int.tmod_eq_emod_of_nonneg hz]; exact Int.emod_lt_of_pos _ (by omega)
    · rw [if_neg (by decide), if_neg h1, if_neg h0, if_pos hi1, if_pos hi2, if_pos hj1, if_pos hj2, if_neg (by omega)]
theorem open_tells {l : List Int} (hl : ∀ x ∈ l, (Lit.int .u8 x).wf = true) : ∃ b, byteOk b ∧ spec_l1Open.f l = some (b, 0) := by
  have hb : ∀ x ∈ l, 0 ≤ x ∧ x ≤ 255 := fun x hx => by simpa [Lit.wf, IntKind.min, IntKind.max, IntKind.signed, IntKind.bits] using hl x hx
  unfold spec_l1Open.f
  by_cases h : (l.length : Int) > 2000
  · rw [if_pos h, if_pos (by omega)]
    exact ⟨_, ⟨by rw [List.length_take]; omega, fun x hx => hb x (List.mem_of_mem_take hx)⟩, rfl⟩
  · rw [if_neg h]
    exact ⟨_, ⟨by omega, hb⟩, rfl⟩
theorem one_tells {b : List Int} (hb : byteOk b) {p : Int} (p0 : 0 ≤ p) (p1 : p ≤ 1000000000) {l : List Int} (hl : l ≠ []) : ∃ x, x ∈ l ∧ ∀ k, spec_l1Rd_one.f (k + 1) b p l = some (x, p + 1) := by
  have hlen : 1 ≤ (l.length : Int) := by have := List.length_pos_iff.2 hl; omega
  obtain ⟨r, r0, r1, hr⟩ := pick_tells hb p0 p1 hlen
  refine ⟨rd l r, ?_, fun k => ?_⟩
  · unfold rd
    rw [List.getD_eq_getElem?_getD, List.getElem?_eq_getElem (by omega)]; exact List.getElem_mem _
  · unfold spec_l1Rd_one.f
    rw [hr]
    simp only [Option.bind_some]
    rw [if_pos r0, if_pos r1]
theorem stamp_tells {b : List Int} (hb : byteOk b) {p : Int} (p0 : 0 ≤ p) (p1 : p ≤ 1000000) : ∃ y m d h mi s, ∀ k, spec_l11Stamp.f (k + 1) b p = some (y, m, d, h, mi, s, p + 6) := by
  obtain ⟨x1, _, h1⟩ := one_tells hb p0 (by omega) (l := [1980, 2000, 2024, 2107]) (by simp)
  obtain ⟨x2, _, _, h2⟩ := pick_tells hb (p := p + 1) (by omega) (by omega) (n := 12) (by omega)
  obtain ⟨x3, _, _, h3⟩ := pick_tells hb (p := p + 1 + 1) (by omega) (by omega) (n := 28) (by omega)
  obtain ⟨x4, _, _, h4⟩ := pick_tells hb (p := p + 1 + 1 + 1) (by omega) (by omega) (n := 24) (by omega)
  obtain ⟨x5, _, _, h5⟩ := pick_tells hb (p := p + 1 + 1 + 1 + 1) (by omega) (by omega) (n := 60) (by omega)
  obtain ⟨x6, _, _, h6⟩ := pick_tells hb (p := p + 1 + 1 + 1 + 1 + 1) (by omega) (by omega) (n := 30) (by omega)
  refine ⟨x1, wrap64 (1 + x2), wrap64 (1 + x3), x4, x5, wrap64 (2 * x6), fun k => ?_⟩
  unfold spec_l11Stamp.f
  rw [h1]; simp only [Option.bind_some]
  rw [h2]; simp only [Option.bind_some]
  rw [h3]; simp only [Option.bind_some]
  rw [h4]; simp only [Option.bind_some]
  rw [h5]; simp only [Option.bind_some]
  rw [h6]; simp only [Option.bind_some]
  congr 1; simp only [Prod.mk.injEq, true_and]; omega
theorem anystamp_tells {b : List Int} (hb : byteOk b) {p : Int} (p0 : 0 ≤ p) (p1 : p ≤ 100000) : ∃ y m d h mi s q, (p ≤ q ∧ q ≤ p + 10) ∧ ∀ k, spec_l11AnyStamp.f (k + 1) b p = some (y, m, d, h, mi, s, q) := by
  obtain ⟨y, m, d, h, mi, s, hs⟩ := stamp_tells hb p0 (by omega)
  obtain ⟨r, _, _, hr⟩ := pick_tells hb (p := p + 6) (by omega) (by omega) (n := 10) (by omega)
  obtain ⟨o0, _, ho0⟩ := one_tells hb (p := p + 6 + 1) (by omega) (by omega) (l := [0, 29, 30, 31, 32]) (by simp)
  obtain ⟨o1, _, ho1⟩ := one_tells hb (p := p + 6 + 1) (by omega) (by omega) (l := [1979, 2100, 2108, 1900]) (by simp)
  obtain ⟨o2, _, ho2⟩ := one_tells hb (p := p + 6 + 1) (by omega) (by omega) (l := [1, 59, 60, -2]) (by simp)
  obtain ⟨o3, _, ho3⟩ := one_tells hb (p := p + 6 + 1) (by omega) (by omega) (l := [0, 2, 13]) (by simp)
  unfold spec_l11AnyStamp.f
  by_cases c0 : r = 0
  · refine ⟨y, m, o0, h, mi, s, p + 6 + 1 + 1, by omega, fun k => ?_⟩
    rw [hs]; simp only [Option.bind_some]; rw [hr]; simp only [Option.bind_some]; rw [if_pos c0, ho0]; rfl
  by_cases c1 : r = 1
  · refine ⟨o1, m, d, h, mi, s, p + 6 + 1 + 1, by omega, fun k => ?_⟩
    rw [hs]; simp only [Option.bind_some]; rw [hr]; simp only [Option.bind_some]; rw [if_neg c0, if_pos c1, ho1]; rfl
  by_cases c2 : r = 2
  · refine ⟨y, m, d, h, mi, o2, p + 6 + 1 + 1, by omega, fun k => ?_⟩
    rw [hs]; simp only [Option.bind_some]; rw [hr]; simp only [Option.bind_some]; rw [if_neg c0, if_neg c1, if_pos c2, ho2]; rfl
  by_cases c3 : r = 3
  · refine ⟨y, o3, d, h, mi, s, p + 6 + 1 + 1, by omega, fun k => ?_⟩
    rw [hs]; simp only [Option.bind_some]; rw [hr]; simp only [Option.bind_some]; rw [if_neg c0, if_neg c1, if_neg c2, if_pos c3, ho3]; rfl
  · refine ⟨y, m, d, h, mi, s, p + 6 + 1, by omega, fun k => ?_⟩
    rw [hs]; simp only [Option.bind_some]; rw [hr]; simp only [Option.bind_some]; rw [if_neg c0, if_neg c1, if_neg c2, if_neg c3]
theorem draws0 {l : List Int} (hl : ∀ x ∈ l, (Lit.int .u8 x).wf = true) : ∃ b y m d h mi s q, spec_l1Open.f l = some (b, 0) ∧ spec_l11AnyStamp.f 1 b 0 = some (y, m, d, h, mi, s, q) := by
  obtain ⟨b, hb, ho⟩ := open_tells hl
  obtain ⟨y, m, d, h, mi, s, q, _, hs⟩ := anystamp_tells hb (p := 0) (by omega) (by omega)
  exact ⟨b, y, m, d, h, mi, s, q, ho, hs 0⟩
theorem wrap_lt (x : Int) : wrap64 x < 9223372036854775808 := by unfold wrap64; omega
theorem draws1 {l : List Int} (hl : ∀ x ∈ l, (Lit.int .u8 x).wf = true) : ∃ b y m d h mi s y' m' d' h' mi' s' q u v x p, x < 9223372036854775808 ∧ spec_l1Open.f l = some (b, 0) ∧ spec_l11Stamp.f 1 b 0 = some (y, m, d, h, mi, s, 6) ∧ spec_l11AnyStamp.f 1 b 6 = some (y', m', d', h', mi', s', q) ∧ spec_l6Put.f y m d h mi s = some u ∧ spec_l6Put.f y' m' d' h' mi' s' = some v ∧ spec_l1Rd_one.f 1 b q [u, v, 0, -1, 4294967295, 4294967296] = some (x, p) := by
  obtain ⟨b, hb, ho⟩ := open_tells hl
  obtain ⟨y, m, d, h, mi, s, hs⟩ := stamp_tells hb (p := 0) (by omega) (by omega)
  obtain ⟨y', m', d', h', mi', s', q, hq, hs'⟩ := anystamp_tells hb (p := 6) (by omega) (by omega)
  have g1 : ∃ u, spec_l6Put.f y m d h mi s = some u ∧ u < 9223372036854775808 := ⟨_, rfl, wrap_lt _⟩
  have g2 : ∃ u, spec_l6Put.f y' m' d' h' mi' s' = some u ∧ u < 9223372036854775808 := ⟨_, rfl, wrap_lt _⟩
  obtain ⟨u, hu, u1⟩ := g1
  obtain ⟨v, hv, v1⟩ := g2
  obtain ⟨x, hx, hone⟩ := one_tells hb (p := q) (by omega) (by omega) (l := [u, v, 0, -1, 4294967295, 4294967296]) (by simp)
  refine ⟨b, y, m, d, h, mi, s, y', m', d', h', mi', s', q, u, v, x, q + 1, ?_, ho, hs 0, hs' 0, hu, hv, hone 0⟩
  simp only [List.mem_cons, List.not_mem_nil, or_false] at hx
  omega
theorem stamp_walk (a0 : Option Addr) (len0 cap0 : Nat) (z0 : List Int) (a1 : Option Addr) (len1 cap1 : Nat) (z1 : List Int) (w : World) (w0 : (a0 = none ∧ len0 = 0 ∧ cap0 = 0 ∧ z0 = []) ∨ ∃ x, a0 = some x ∧ len0 ≤ cap0 ∧ cap0 ≤ maxLen ∧ z0.length = cap0 ∧ (∀ i, i < z0.length → w.cell? (x.add i) = some (.int .u8 (z0.getD i 0))) ∧ ∀ n ∈ z0, (Lit.int .u8 n).wf = true) (y0 : len0 * 1 ≤ 140737488351232) (w1 : (a1 = none ∧ len1 = 0 ∧ cap1 = 0 ∧ z1 = []) ∨ ∃ x, a1 = some x ∧ len1 ≤ cap1 ∧ cap1 ≤ maxLen ∧ z1.length = cap1 ∧ (∀ i, i < z1.length → w.cell? (x.add i) = some (.int .u8 (z1.getD i 0))) ∧ ∀ n ∈ z1, (Lit.int .u8 n).wf = true) (y1 : len1 * 1 ≤ 140737488351232) :
    Calls Try.prog 9 #[.slice a0 len0 cap0, .slice a1 len1 cap1] w fun e w' => e = .returned (.bool true) ∧ Below w.heap.size w w' := by
  obtain ⟨l0, rfl, hr0, hm0, hw0, hc0⟩ := ReadsInt.ofRowC w0
  obtain ⟨l1, rfl, hr1, hm1, hw1, hc1⟩ := ReadsInt.ofRowC w1
  have hr := Kd.C_of_reads (d := (0 : Int)) (h1 := fun _ => rfl) hr0
  have hr' := Kd.C_of_reads (d := (0 : Int)) (h1 := fun _ => rfl) hr1
  have fin : Calls Try.prog 9 #[.slice a0 l0.length cap0, .slice a1 l1.length cap1] w (Told w (.bool true)) := by
    by_cases hlen : (l0.length : Int) ≤ 1048576
    · by_cases hlen1 : (l1.length : Int) ≤ 1048576
      · obtain ⟨b, y, m, d, h, mi, s, q, f1, f2⟩ := draws0 hw0
        obtain ⟨b', y1, m1, d1, h1, mi1, s1, y2, m2, d2, h2, mi2, s2, q', u, v, x, p, xl, e1, e2, e3, e4, e5, e6⟩ := draws1 hw1
        have k19 : ∀ W, On w W → Calls Try.prog 19 #[.slice a0 l0.length cap0] W (Told W (.agg #[.int .i64 y, .int .i64 m, .int .i64 d, .int .i64 h, .int .i64 mi, .int .i64 s])) := fun W O => drawput_calls _ _ _ _ _ _ _ _ _ _ _ _ (Kd.C_below hr O.out) hc0 f1 f2
        have k20 : ∀ W, On w W → Calls Try.prog 20 #[.slice a1 l1.length cap1] W (Told W (.int .i64 x)) := fun W O => drawget_calls _ _ _ _ _ _ _ _ _ _ _ _ _ _ _ _ _ _ _ _ (Kd.C_below hr' O.out) hc1 e1 e2 e3 e4 e5 _ _ e6
        by_cases ok : okp y m d h mi s
        · exact law_main _ _ _ _ _ _ _ hlen hlen1 _ _ _ _ _ _ _ xl k19 k20 ok
        · exact law_no _ _ _ _ _ _ _ hlen hlen1 _ _ _ _ _ _ _ xl k19 k20 ok
      · exact law_long2 _ _ _ _ _ _ _ hlen hlen1
    · exact law_long _ _ _ _ _ _ _ hlen
  exact fin.mono fun _ _ h => ⟨h.1, h.2.out⟩
end Go.Proofs.Ytmkhhpnagmkgeaa.StampGet
