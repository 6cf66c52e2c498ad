/- The law DiskKeeps, walked. -/
import Derived.Test.YtoflmhdgojenpaaDq
namespace Go.Proofs.Ytoflmhdgojenpaa
open Go.RowKit Go.Maps Go.WideMaps Go.WideElems

def nF : ByteArray := ⟨#[102]⟩
theorem app_f (bs : List Int) (h : bs.length ≤ 1000) : appL 5000 nF bs [] = ([⟨nF, bs, 0⟩], 0) := by
  unfold appL
  rw [if_neg (by decide), if_neg (by simp [usedL]; omega)]
  rfl
theorem sync_f (bs : List Int) : syncL nF [⟨nF, bs, 0⟩] = [⟨nF, bs, bs.length⟩] := rfl
theorem there_f (bs : List Int) (n : Nat) : thereL nF [⟨nF, bs, n⟩] = 0 := rfl
theorem read_f (bs : List Int) (n : Nat) : readL nF [⟨nF, bs, n⟩] = bs := rfl
theorem synced_f (bs : List Int) : syncedL nF [⟨nF, bs, bs.length⟩] = bs := List.take_length

theorem Dk.set {w : World} {a most : Nat} {L : List FR} {F : List Nat} (h : Dk w a most L F) {p : Addr} (hp : p.block ∉ F) (u : Value) : Dk (w.setCell p u) a most L F :=
  h.keep fun k hk => Below.heap_setCell w p u k (fun e => hp (by rw [← e]; exact hk))

set_option maxRecDepth 100000 in
set_option maxHeartbeats 4000000 in
theorem keeps_calls (bv : Value) (bs : List Int) (w : World) (hb : SlR w bv (u8s bs)) : Calls Try.prog 3 #[bv] w (RetBool w true) := by
  have hb0 := hb
  obtain ⟨A, c, rfl, hlc, -⟩ := hb
  rw [u8s_length] at *
  have HB := Lib.hid hb0
  clear hb0 hlc
  by_cases hbig : 1000 < bs.length
  · go_enter Try.func3, Try.ntmps3
    go_wp2_with fail
    refine (awake07_calls _).mono ?_
    rintro e w1 ⟨rfl, h1⟩
    go_wp2_with fail
    refine (awake07_calls _).mono ?_
    rintro e w2 ⟨rfl, h2⟩
    go_wp2
    go_ret
    exact ⟨rfl, h1.trans h2 (fun _ _ h => h)⟩
  · have hlen : bs.length ≤ 1000 := by omega
    go_enter Try.func3, Try.ntmps3
    go_wp2_with fail
    refine (awake07_calls _).mono ?_
    rintro e w1 ⟨rfl, h1⟩
    have HC1 := Lib.hid h1
    clear h1
    go_wp2_with fail
    refine (new_L _ _).mono ?_
    rintro e w2 ⟨a, F, rfl, hD, hc, hF⟩
    rw [show capOf 5000 = 5000 from rfl] at hD
    have HC2 := Lib.hid (HC1.out.trans hc (fun _ _ h => h))
    have HD := Lib.hid hD
    have HF := Lib.hid (fun k hk => Nat.le_trans HC1.out.size (hF k hk) : ∀ k ∈ F, w.heap.size ≤ k)
    clear hc hD hF
    unfold dptr
    have hrd2 : SlR w2 (.slice A bs.length c) (u8s bs) := HB.out.chg HC2.out (fun _ _ h => h)
    have HR2 := Lib.hid hrd2
    clear hrd2
    go_wp2_with (at_builtin; refine wpList_append_bytes _ rfl _ _ rfl _ [] rfl ?g1 _ bs rfl ?g2 ?g3 ?g4)
    case g1 => exact Row1.none_ _ _ _
    case g2 => exact HR2.out.chg ((Chg.refl (fun _ => False) w2).alloc _) (fun _ _ h => h)
    case g3 => first | omega | (simp only [List.length_nil]; omega)
    case g4 =>
      intro ov w3 hrow hc3 hblk
      obtain ⟨A3, c3, hv3, -⟩ := hrow.shape
      subst hv3
      try rw [u8s_length] at *
      have hc3' : Chg (fun _ => False) w2 w3 := ((Chg.refl (fun _ => False) w2).alloc _).trans hc3 (by simp [rowBlk])
      have HC3 := Lib.hid (HC2.out.trans hc3' (fun _ _ h => h))
      have HD3 := Lib.hid (HD.out.none_ hc3')
      have hnew : ∀ k ∈ rowBlk (.slice A3 bs.length c3), w2.heap.size ≤ k ∧ k ∉ F := fun k hk => by
        rcases hblk k hk with h | h
        · simp [rowBlk] at h
        · have hk2 : w2.heap.size ≤ k := by omega
          exact ⟨hk2, fun hF => by have := HD.out.lt k hF; omega⟩
      have HN := Lib.hid hnew
      have HROW := Lib.hid hrow
      clear hrow hc3 hblk hc3' hnew
      go_wp2_with fail
      have A1 := append_L HD3.out nF (.slice A3 bs.length c3) bs ⟨HROW.out.slr, fun k hk => (HN.out k (HROW.out.rd k hk)).2⟩ (by decide) (by omega)
      rw [app_f bs hlen] at A1
      refine A1.mono ?_
      intro e w4 h
      obtain ⟨rfl, F4, hD4, hc4, hF4, hd4, he4⟩ := h.own HC3.out HF.out
      have hrow4 : Row1 w4 5 (.slice A3 bs.length c3) (u8s bs) := HROW.out.keep fun k hk => hd4.block k (HROW.out.lt k hk) (HN.out k hk).2
      have hN4 : ∀ k ∈ rowBlk (.slice A3 bs.length c3), k ∉ F4 := fun k hk hF => by
        rcases he4 k hF with h | h
        · exact (HN.out k hk).2 h
        · have := HROW.out.lt k hk; omega
      have HROW4 := Lib.hid hrow4
      have HN4 := Lib.hid hN4
      have HC4 := Lib.hid hc4
      have HD4 := Lib.hid hD4
      have HF4 := Lib.hid hF4
      clear A1 h hc4 hD4 hF4 hd4 he4 hrow4 hN4
      unfold codeV
      go_wp2_with fail
      have A2 := sync_L HD4.out nF (by decide)
      rw [sync_f, there_f] at A2
      refine A2.mono ?_
      intro e w5 h
      obtain ⟨rfl, F5, hD5, hc5, hF5, hd5, he5⟩ := h.own HC4.out HF4.out
      have hrow5 : Row1 w5 5 (.slice A3 bs.length c3) (u8s bs) := HROW4.out.keep fun k hk => hd5.block k (HROW4.out.lt k hk) (HN4.out k hk)
      have hN5 : ∀ k ∈ rowBlk (.slice A3 bs.length c3), k ∉ F5 := fun k hk hF => by
        rcases he5 k hF with h | h
        · exact HN4.out k hk h
        · have := HROW4.out.lt k hk; omega
      have HROW5 := Lib.hid hrow5
      have HN5 := Lib.hid hN5
      have HC5 := Lib.hid hc5
      have HD5 := Lib.hid hD5
      have HF5 := Lib.hid hF5
      clear A2 h hc5 hD5 hF5 hd5 he5 hrow5 hN5
      unfold codeV
      go_wp2
      go_loopw [5] (fun iv wr => ∃ (k : Nat) (xs : List Int), iv = .int .i64 k ∧ k ≤ bs.length ∧ xs.length = bs.length ∧ Row1 wr 5 (.slice A3 bs.length c3) (u8s xs) ∧ Dk wr a 5000 [⟨nF, bs, bs.length⟩] F5 ∧ Chg (fun _ => False) w wr)
        (fun iv wr => bs.length - (intOf iv).toNat)
      case atStart => exact ⟨0, bs, rfl, Nat.zero_le _, rfl, HROW5.out, HD5.out, HC5.out⟩
      case round =>
        obtain ⟨k, xs, rfl, hk, hxl, hrow6, hD6, hc6⟩ := hrel
        have HROW6 := Lib.hid hrow6
        have HD6 := Lib.hid hD6
        have HC6 := Lib.hid hc6
        have HXL := Lib.hid hxl
        clear hrow6 hD6 hc6 hxl
        by_cases hlt : k < bs.length
        · obtain ⟨g, c', hsl', hcc', hcm', hg, cur, hcur, -⟩ := HROW6.out.at (by rw [u8s_length, HXL.out]; omega)
          rw [u8s_length, HXL.out] at hsl'
          injection hsl' with e1 e2 e3
          subst e1
          have hx : wr.cell? ⟨g, k, none⟩ = some (.int .u8 (xs.getD k 0)) := HROW6.out.cell rfl (by
            rw [u8s, List.getElem?_map, List.getElem?_eq_getElem (by rw [HXL.out]; exact hlt)]
            simp [List.getD, HXL.out, hlt])
          have hf := frozen_of_blk hcur k
          have HG := Lib.hid hg
          have hk0 : (k : Int) < (bs.length : Int) := by omega
          generalize hxv : xs.getD k 0 = x at hx
          clear hcc' hcm' hg hcur e2 e3 hxv
          go_wp2
          go_roundw
          case rel =>
            refine ⟨k + 1, xs.set k (bits BinOp.xor IntKind.u8 x 255), by go_num, hlt, by rw [List.length_set]; exact HXL.out, ?_, HD6.out.set (fun h => HN5.out g HG.out h) _, HC6.out.set (fun h => ?_) _⟩
            · have := HROW6.out.set rfl (j := k) (by rw [u8s_length, HXL.out]; exact hlt) (.int .u8 (bits BinOp.xor IntKind.u8 x 255))
              simpa [u8s, List.map_set] using this
            · have h1 := (HN.out g HG.out).1
              have h2 := HC2.out.size
              have h3 : g < w.heap.size := h
              omega
          case measure => simp [intOf]; omega
        · have hkn : ¬ (k : Int) < (bs.length : Int) := by omega
          clear hlt
          go_wp2_with fail
          have A3 := read_L HD6.out nF (by decide)
          rw [read_f, there_f] at A3
          refine A3.mono ?_
          rintro e w7 ⟨x, rfl, hx⟩
          have HX7 := Lib.hid hx
          have HD7 := Lib.hid (HD6.out.none_ hx.2.1)
          have HC7 := Lib.hid (HC6.out.trans hx.2.1 (fun _ _ h => h))
          clear A3 hx
          obtain ⟨Ax, cx, hvx, -⟩ := HX7.out.1.shape
          subst hvx
          rw [u8s_length] at HX7 ⊢
          go_wp2_with fail
          have A4 := synced_L HD7.out nF (by decide)
          rw [synced_f, there_f] at A4
          refine A4.mono ?_
          rintro e w8 ⟨y, rfl, hy⟩
          have HY8 := Lib.hid hy
          have HX8 := Lib.hid (HX7.out.1.keep fun k hk => hy.2.1.block k (HX7.out.1.lt k hk) (fun h => h))
          have HD8 := Lib.hid (HD7.out.none_ hy.2.1)
          have HC8 := Lib.hid (HC7.out.trans hy.2.1 (fun _ _ h => h))
          clear A4 hy
          obtain ⟨Ay, cy, hvy, -⟩ := HY8.out.1.shape
          subst hvy
          rw [u8s_length] at HY8 ⊢
          have hb8 := Lib.hid (HB.out.chg HC8.out (fun _ _ h => h))
          have ht : ((strOf bs).toList == (strOf bs).toList) = true := by simp
          go_wp2_with fail
          refine (same_calls _ _ bs bs _ HX8.out.slr hb8.out).mono ?_
          rintro e w9 ⟨rfl, rfl⟩
          go_wp2_with fail
          refine (same_calls _ _ bs bs _ HY8.out.1.slr hb8.out).mono ?_
          rintro e w9 ⟨rfl, rfl⟩
          go_wp2
          have hxb : ∀ k ∈ rowBlk (.slice Ax bs.length cx), w.heap.size ≤ k ∧ k ∉ F5 ∧ k ∉ rowBlk (.slice Ay bs.length cy) := fun k hk => by
            have h1 := HX7.out.2.2 k hk
            have h2 := HX7.out.1.lt k hk
            refine ⟨Nat.le_trans HC6.out.size h1, fun h => ?_, fun h => ?_⟩
            · have := HD6.out.lt k h; omega
            · have := HY8.out.2.2 k h; omega
          have hyb : ∀ k ∈ rowBlk (.slice Ay bs.length cy), w.heap.size ≤ k ∧ k ∉ F5 ∧ k ∉ rowBlk (.slice Ax bs.length cx) := fun k hk => by
            have h1 := HY8.out.2.2 k hk
            refine ⟨Nat.le_trans HC7.out.size h1, fun h => ?_, fun h => ?_⟩
            · have := HD7.out.lt k h; omega
            · have := HX7.out.1.lt k h; omega
          have HXB := Lib.hid hxb
          have HYB := Lib.hid hyb
          clear hxb hyb
          go_loopw [11] (fun iv wr => ∃ (k : Nat) (xs ys : List Int), iv = .int .i64 k ∧ k ≤ bs.length ∧ xs.length = bs.length ∧ ys.length = bs.length ∧ Row1 wr 5 (.slice Ax bs.length cx) (u8s xs) ∧ Row1 wr 5 (.slice Ay bs.length cy) (u8s ys) ∧ Dk wr a 5000 [⟨nF, bs, bs.length⟩] F5 ∧ Chg (fun _ => False) w wr)
            (fun iv wr => bs.length - (intOf iv).toNat)
          case atStart => exact ⟨0, bs, bs, rfl, Nat.zero_le _, rfl, rfl, HX8.out, HY8.out.1, HD8.out, HC8.out⟩
          case round =>
            obtain ⟨k, xs, ys, rfl, hk, hxl, hyl, hrx, hry, hD9, hc9⟩ := hrel
            have HRX := Lib.hid hrx
            have HRY := Lib.hid hry
            have HD9 := Lib.hid hD9
            have HC9 := Lib.hid hc9
            have HXL := Lib.hid hxl
            have HYL := Lib.hid hyl
            clear hrx hry hD9 hc9 hxl hyl hkn
            by_cases hlt : k < bs.length
            · obtain ⟨g, c', hsl', -, -, hg, cur, hcur, -⟩ := HRX.out.at (by rw [u8s_length, HXL.out]; omega)
              rw [u8s_length, HXL.out] at hsl'
              injection hsl' with e1 e2 e3
              subst e1
              obtain ⟨g2, c2', hsl2, -, -, hg2, cur2, hcur2, -⟩ := HRY.out.at (by rw [u8s_length, HYL.out]; omega)
              rw [u8s_length, HYL.out] at hsl2
              injection hsl2 with e4 e5 e6
              subst e4
              have hgg : g2 ≠ g := fun e => (HYB.out g2 hg2).2.2 (by rw [e]; exact hg)
              have hx : wr.cell? ⟨g, k, none⟩ = some (.int .u8 (xs.getD k 0)) := HRX.out.cell rfl (by
                rw [u8s, List.getElem?_map, List.getElem?_eq_getElem (by rw [HXL.out]; exact hlt)]
                simp [List.getD, HXL.out, hlt])
              have hf := frozen_of_blk hcur k
              have hy : wr.cell? ⟨g2, k, none⟩ = some (.int .u8 (ys.getD k 0)) := HRY.out.cell rfl (by
                rw [u8s, List.getElem?_map, List.getElem?_eq_getElem (by rw [HYL.out]; exact hlt)]
                simp [List.getD, HYL.out, hlt])
              have hf2 := frozen_of_blk hcur2 k
              have hy2 : (wr.setCell ⟨g, k, none⟩ (.int .u8 7)).cell? ⟨g2, k, none⟩ = some (.int .u8 (ys.getD k 0)) := (World.cell?_of_block (Below.heap_setCell wr _ _ g2 hgg)).trans hy
              have hf3 : (wr.setCell ⟨g, k, none⟩ (.int .u8 7)).frozen? ⟨g2, k, none⟩ = false := (World.frozen?_of_block (Below.heap_setCell wr _ _ g2 hgg)).trans hf2
              have HG := Lib.hid hg
              have HG2 := Lib.hid hg2
              have HGG := Lib.hid hgg
              have hk0 : (k : Int) < (bs.length : Int) := by omega
              generalize xs.getD k 0 = x at hx
              generalize ys.getD k 0 = y at hy hy2
              clear hg hcur hcur2 hg2 e2 e3 e5 e6 hgg hy hf2
              go_wp2
              go_roundw
              case rel =>
                refine ⟨k + 1, xs.set k 7, ys.set k 8, by go_num, hlt, by rw [List.length_set]; exact HXL.out, by rw [List.length_set]; exact HYL.out, ?_, ?_, (HD9.out.set (fun h => (HXB.out g HG.out).2.1 h) _).set (fun h => (HYB.out g2 HG2.out).2.1 h) _, (HC9.out.set (fun h => ?_) _).set (fun h => ?_) _⟩
                · have := HRX.out.set rfl (j := k) (by rw [u8s_length, HXL.out]; exact hlt) (.int .u8 7)
                  have h2 : Row1 (wr.setCell ⟨g, k, none⟩ (.int .u8 7)) 5 (.slice (some ⟨g, 0, none⟩) bs.length cx) (u8s (xs.set k 7)) := by simpa [u8s, List.map_set] using this
                  exact h2.keep fun j hj => Below.heap_setCell _ _ _ j (fun e => (HXB.out j hj).2.2 (by rw [e]; exact HG2.out))
                · have h1 : Row1 (wr.setCell ⟨g, k, none⟩ (.int .u8 7)) 5 (.slice (some ⟨g2, 0, none⟩) bs.length cy) (u8s ys) := HRY.out.keep fun j hj => Below.heap_setCell _ _ _ j (fun e => (HYB.out j hj).2.2 (by rw [e]; exact HG.out))
                  have := h1.set rfl (j := k) (by rw [u8s_length, HYL.out]; exact hlt) (.int .u8 8)
                  simpa [u8s, List.map_set] using this
                · have h1 := (HXB.out g HG.out).1
                  have h3 : g < w.heap.size := h
                  omega
                · have h1 := (HYB.out g2 HG2.out).1
                  have h3 : g2 < w.heap.size := h
                  omega
              case measure => simp [intOf]; omega
            · have hkn : ¬ (k : Int) < (bs.length : Int) := by omega
              clear hlt
              go_wp2_with fail
              have A5 := read_L HD9.out nF (by decide)
              rw [read_f, there_f] at A5
              refine A5.mono ?_
              rintro e w10 ⟨z, rfl, hz⟩
              have hc10 := HC9.out.trans hz.2.1 (fun _ _ h => h)
              have HC10 := Lib.hid hc10
              have hb10 := Lib.hid (HB.out.chg hc10 (fun _ _ h => h))
              have HZ := Lib.hid hz
              clear A5 hz hc10
              go_wp2_with fail
              refine (same_calls _ _ bs bs _ HZ.out.1.slr hb10.out).mono ?_
              rintro e w11 ⟨rfl, rfl⟩
              go_wp2
              go_ret
              exact ⟨rfl, HC10.out⟩

end Go.Proofs.Ytoflmhdgojenpaa
