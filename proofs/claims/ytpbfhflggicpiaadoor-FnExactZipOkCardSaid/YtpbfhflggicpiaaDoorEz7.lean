/- The program's ZipOk. -/
import Derived.Test.YtpbfhflggicpiaaDoorEz6
namespace Go.Proofs.YtpbfhflggicpiaaDoor.Nm
open Go.RowKit Go.Proofs.YtpbfhflggicpiaaDoor.Mem
set_option linter.unusedVariables false
set_option linter.unusedSimpArgs false
set_option maxRecDepth 100000 in
set_option maxHeartbeats 1000000 in
theorem izipok_calls (sp : Option Addr) (cap : Nat) (L : List Fi) (w : World) (hf : Fact w) (hs : Fs w sp L) (hz : Szs L 1048576) (hm : L.length ≤ 1048576) :
    Calls Tryd.prog 20 #[.slice sp L.length cap] w (fun e w' => ∃ b : Bool, e = .returned (.bool b) ∧ On w w' ∧ (b = true ↔ ZipOk L)) := by
  have HNE := Lib.hid (fun (h : ZipOk L) => h.1)
  have HAP := Lib.hid (fun (h : ZipOk L) => h.2.1)
  have HL := Lib.hid (fun (h : ZipOk L) => h.2.2)
  have HMK : RowKit.Hid ((∀ i, i < L.length → EnAt L i) → Apart L → L.length ≤ 6 → ZipOk L) := Lib.hid (fun h h2 h6 => ⟨h, h2, h6⟩)
  have HNM := Lib.hid (fun w (h : Fs w sp L) (h6 : L.length ≤ 6) => namesof_calls sp cap L w h h6)
  have HPA := Lib.hid (fun r cap w (hs : Nms w r L) (hm : L.length ≤ 6) (hc : L.length ≤ cap) (hc2 : cap ≤ maxLen) => apart_calls r cap L w hs hz hm hc hc2)
  have HZ := Lib.hid hz
  clear hz
  generalize ZipOk L = Z at *
  generalize Apart L = A at *
  generalize hn : L.length = n at *
  have HF := Lib.hid hf
  clear hf
  go_enter Tryd.func20, Tryd.ntmps20
  go_wp2_with fail
  go_loopw [7] (fun x wr => ∃ i : Nat, x = .int .i64 i ∧ i ≤ n ∧ (∀ j, j < i → EnAt L j) ∧ On w wr) (fun x _ => n - (intOf x).toNat)
  case atStart => exact ⟨0, rfl, by omega, fun j h1 => by omega, On.refl w⟩
  case round =>
    obtain ⟨i, rfl, hi, H, O⟩ := hrel
    by_cases hlt : i < n
    · rcases hs.out with hs0 | ⟨g, o, rfl, F⟩
      · rw [hs0] at hn; simp at hn; omega
      · have hil : i < L.length := by omega
        obtain ⟨c0, c1, c2, c3, c4, c5, c6, c7⟩ := (F.on O).cells hil
        have hz1 := HZ.out.out _ (List.getElem_mem hil)
        have HC := Lib.hid (fun w hf => ientry_calls L[i].nm L[i].y L[i].m L[i].d L[i].h L[i].mi L[i].s L[i].tx w hf (by omega) (by unfold maxLen; omega))
        have HE := Lib.hid (show EnAt L i ↔ entryOk L[i].nm L[i].y L[i].m L[i].d L[i].h L[i].mi L[i].s L[i].tx = true from EnAt.iff hil)
        clear hz1
        generalize entryOk L[i].nm L[i].y L[i].m L[i].d L[i].h L[i].mi L[i].s L[i].tx = R at *
        unfold ent at HC
        generalize L[i].nm = nm at *
        generalize L[i].y = y at *
        generalize L[i].m = m at *
        generalize L[i].d = d at *
        generalize L[i].h = h at *
        generalize L[i].mi = mi at *
        generalize L[i].s = s at *
        generalize L[i].tx = tx at *
        go_upto_region 4 with fail
        have A1 := (On.refl wr).alloc (.cells #[.string nm, .int .i64 y, .int .i64 m, .int .i64 d, .int .i64 h, .int .i64 mi, .int .i64 s, .string tx] 34)
        have B1 := Blk.new wr 34 #[.string nm, .int .i64 y, .int .i64 m, .int .i64 d, .int .i64 h, .int .i64 mi, .int .i64 s, .string tx]
        have O1 := O.call A1
        have cs := fun W (b : Blk W wr.heap.size 34 #[.string nm, .int .i64 y, .int .i64 m, .int .i64 d, .int .i64 h, .int .i64 mi, .int .i64 s, .string tx]) => (⟨(b.cell 0).trans rfl, (b.cell 1).trans rfl, (b.cell 2).trans rfl, (b.cell 3).trans rfl, (b.cell 4).trans rfl, (b.cell 5).trans rfl, (b.cell 6).trans rfl, (b.cell 7).trans rfl⟩ :
          W.cell? ⟨wr.heap.size, 0, none⟩ = some (.string nm) ∧ W.cell? ⟨wr.heap.size, 1, none⟩ = some (.int .i64 y) ∧ W.cell? ⟨wr.heap.size, 2, none⟩ = some (.int .i64 m) ∧ W.cell? ⟨wr.heap.size, 3, none⟩ = some (.int .i64 d) ∧ W.cell? ⟨wr.heap.size, 4, none⟩ = some (.int .i64 h) ∧ W.cell? ⟨wr.heap.size, 5, none⟩ = some (.int .i64 mi) ∧ W.cell? ⟨wr.heap.size, 6, none⟩ = some (.int .i64 s) ∧ W.cell? ⟨wr.heap.size, 7, none⟩ = some (.string tx))
        obtain ⟨x0, x1, x2, x3, x4, x5, x6, x7⟩ := cs _ B1
        clear c0 c1 c2 c3 c4 c5 c6 c7 cs B1 A1
        generalize wr.alloc (.cells #[.string nm, .int .i64 y, .int .i64 m, .int .i64 d, .int .i64 h, .int .i64 mi, .int .i64 s, .string tx] 34) = w1 at *
        generalize wr.heap.size = p at *
        go_wp2_with fail
        refine (HC.out w1 (HF.out.on HF.out.lt O1)).mono ?_
        rintro e w2 ⟨rfl, O2⟩
        have O3 := O1.call O2
        clear x0 x1 x2 x3 x4 x5 x6 x7
        cases R with
        | false =>
          go_wp2_with fail
          go_ret
          exact ⟨_, rfl, O3, by simp; intro hz; have := HE.out.1 (HNE.out hz i hlt); first | exact this | cases this⟩
        | true =>
          have HEI := Lib.hid (HE.out.2 rfl)
          clear HE
          go_wp2_with fail
          exact ⟨⟨i + 1, by go_num, by omega, fun k hk => by
            rcases Nat.lt_or_ge k i with hk' | hk'
            · exact H k hk'
            · obtain rfl : k = i := by omega
              exact HEI.out, O3⟩, by simp [intOf]; omega⟩
    · obtain rfl : i = n := by omega
      have HH := Lib.hid H
      clear H
      by_cases h6 : i ≤ 6
      · go_wp2_with fail
        refine (HNM.out wr (hs.on O) h6).mono ?_
        rintro e w1 ⟨v, rfl, hown, O1⟩
        obtain ⟨r, capr, rfl, _, hrow, hkc, hcap, hlen⟩ := hown.parts
        have O2 := O.call O1
        clear hlen
        go_wp2_with fail
        refine (HPA.out r capr w1 (Nms.of hrow) h6 hkc hcap).mono ?_
        rintro e w2 ⟨b, rfl, O3, hb⟩
        have HB := Lib.hid hb
        clear hb
        go_wp2_with fail
        go_ret
        exact ⟨b, rfl, O2.call O3, ⟨fun h => HMK.out HH.out (HB.out.1 h) h6, fun hz => HB.out.2 (HAP.out hz)⟩⟩
      · go_wp2_with fail
        go_ret
        refine Or.inl ⟨rfl, O, ?_⟩
        intro hz; have := HL.out hz; omega
end Go.Proofs.YtpbfhflggicpiaaDoor.Nm
