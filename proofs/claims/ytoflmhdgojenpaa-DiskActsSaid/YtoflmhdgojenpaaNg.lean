/- Do of the document's answer: trim (printed by wip/gen-xnf.py). -/
import Derived.Test.YtoflmhdgojenpaaNf
namespace Go.Proofs.Ytoflmhdgojenpaa
open Go.RowKit Go.Maps Go.WideMaps Go.WideElems

theorem SlR.take1 {w : World} {A : Option Addr} {n c : Nat} {bs : List Int} (h : SlR w (.slice A n c) (u8s bs)) {j : Nat} (hj : j ≤ bs.length) : SlR w (.slice A j c) (u8s (bs.take j)) := by
  obtain ⟨A', c', he, h1, h2⟩ := h
  injection he with e1 e2 e3
  subst e1
  subst e3
  rw [u8s_length] at h1 h2
  refine ⟨A, c, by rw [u8s_length, List.length_take, Nat.min_eq_left hj], by rw [u8s_length, List.length_take]; omega, fun h0 => ?_⟩
  rw [u8s_length, List.length_take] at h0
  obtain ⟨ad, hA, hc⟩ := h2 (by omega)
  refine ⟨ad, hA, fun i u hu => hc i u ?_⟩
  unfold u8s at hu ⊢
  rw [List.map_take, List.getElem?_take] at hu
  split at hu
  · exact hu
  · cases hu

set_option maxRecDepth 100000 in
set_option maxHeartbeats 4000000 in
theorem do_trim {w : World} {v : Value} {l : List RE} {most : Nat} {x : ActE} (h : DoIn w v l most x) (h0 : x.d = 6) : Calls Try.prog 21 #[v, .int .i64 most, actV x] w (RetDo w v l (trimL x.name x.i (l.map RE.abs))) := by
  have H := Lib.hid h
  obtain ⟨A1, c1, hbv, -, -⟩ := h.act.b
  obtain ⟨A2, c2, hkv, -, -⟩ := h.act.keep
  obtain ⟨A, c, rfl, hcm⟩ := h.fs.cap
  rw [u8s_length] at hbv
  rw [i64s_length] at hkv
  have HBV := Lib.hid hbv
  have HKV := Lib.hid hkv
  have HAC := Lib.hid (actC_new w x A1 c1 A2 c2 38 (0, 0))
  have HC0 := Lib.hid ((Chg.refl (fun _ => False) w).alloc (.cells (actC x A1 c1 A2 c2) 38 (0, 0)))
  generalize hw0 : w.alloc (.cells (actC x A1 c1 A2 c2) 38 (0, 0)) = w0 at HAC HC0
  have HW0 : Hid (w.alloc (.cells #[.int .i64 6, .string x.name, .string x.other, .slice A1 x.b.length c1, .int .i64 x.i, .slice A2 x.keep.length c2] 38 (0, 0)) = w0) := Lib.hid (by rw [← hw0]; unfold actC; rw [h0])
  generalize hb0 : w.heap.size = b0 at HAC
  have HB0 := Lib.hid hb0
  unfold actV
  rw [hbv, hkv, h0]
  clear h hbv hkv hw0 hb0
  have HD := Lib.hid h0
  clear h0
  go_enter Try.func21, Try.ntmps21
  go_wp2_with fail
  rw [HW0.out, HB0.out]
  refine (find_calls _ l x.name _ (H.out.fs.none_ HC0.out)).mono ?_
  rintro e w1 ⟨rfl, hc1⟩
  have HC1 := Lib.hid (HC0.out.trans hc1 (fun _ _ h => h))
  have HA1 := Lib.hid (HAC.out.none_ hc1)
  have HF1 := Lib.hid (H.out.fs.none_ HC1.out)
  clear hc1
  have a0 := HA1.out.q0
  rw [HD.out] at a0
  have a1 := HA1.out.q1
  have a2 := HA1.out.q2
  have a3 := HA1.out.q3
  have a4 := HA1.out.q4
  rcases placeR_spec x.name l with ⟨hp, hnone⟩ | ⟨k, hk, hp, hname, hfirst⟩
  · have HNO := Lib.hid hnone
    rw [hp]
    clear hp hnone
    go_wp2
    try (go_quiet (fail))
    try go_wp2
    go_ret2
    exact RetDo.mk (by unfold trimL; rw [look_none HNO.out]) HF1.out rfl HC1.out
  · have HP := Lib.hid hp
    have HN := Lib.hid hname
    have HFI := Lib.hid hfirst
    rw [hp]
    clear hp hname hfirst
    obtain ⟨ad, hA, hx, hcell⟩ := HF1.out.get hk
    subst hA
    have q0 := hcell 0 (.string (l[k]).name) rfl
    have q1 := hcell 1 (l[k]).v rfl
    have q2 := hcell 2 (.int .i64 (l[k]).sy) rfl
    rw [show (ad.add (k * 3)).add 0 = ad.add (k * 3) from rfl] at q0
    rw [add_pos _ (by omega)] at q1 q2
    obtain ⟨Ak, ck, hkv', -, -⟩ := hx.rd
    rw [u8s_length] at hkv'
    have HKV' := Lib.hid hkv'
    rw [hkv'] at q1
    have HXK := Lib.hid hx
    have hk0 : (k : Int) < (l.length : Int) := by omega
    have hk1 : (0 : Int) ≤ (k : Int) := by omega
    clear hcell hx hkv'
    generalize hfk : l[k] = fk at *
    have HFK := Lib.hid hfk
    clear hfk
    have HAL := Lib.hid (fun o => (Chg.refl (fun _ => False) w1).alloc o)
    have HNE : Hid (b0 ≠ w1.heap.size) := Lib.hid (Nat.ne_of_lt (World.block_lt_of_cell? w1 _ a3))
    have HBF : Hid (w.heap.size ≤ w1.heap.size) := Lib.hid HC1.out.size
    have hww := without_calls (.slice (some ad) l.length c) l k (w1.alloc (.cells #[.string fk.name, .slice Ak fk.bs.length ck, .int .i64 fk.sy] 91 (0, 0))) (HF1.out.none_ (HAL.out _)) hk
    have HWW := Lib.hid hww
    clear hww
    go_wp2_with fail
    refine HWW.out.mono ?_
    rintro e w4 ⟨v4, rfl, hfs4, hc4, hfr4⟩
    have HBD : Hid (∀ z ∈ l, ∀ y ∈ rdBlk z.v, y ≠ w1.heap.size) := Lib.hid (fun z hz y hy => Nat.ne_of_lt ((HF1.out.all z hz).rd.lt y hy))
    have HFS4 := Lib.hid hfs4
    obtain ⟨A4, d4, hv4, -⟩ := hfs4.cap
    generalize hl4 : (l.take k ++ l.drop (k + 1)).length = n4 at hv4
    have HL4 := Lib.hid hl4
    subst hv4
    have hbk := heap_alloc_new w1 (.cells #[.string fk.name, .slice Ak fk.bs.length ck, .int .i64 fk.sy] 91 (0, 0))
    have hlt3 : w1.heap.size < (w1.alloc (.cells #[.string fk.name, .slice Ak fk.bs.length ck, .int .i64 fk.sy] 91 (0, 0))).heap.size := by simp
    have hb4 := (hc4.block _ hlt3 (fun h => h)).trans hbk
    have HFR4 : Hid (∀ y ∈ rdBlkN (.slice A4 n4 d4), y ≠ w1.heap.size) := Lib.hid (fun y hy e => by
      have := hfr4 y hy
      omega)
    have HFR4b : Hid (∀ y ∈ rdBlkN (.slice A4 n4 d4), w.heap.size ≤ y) := Lib.hid (fun y hy => by have h1 := hfr4 y hy; have h2 := HBF.out; omega)
    have HBK := Lib.hid hb4
    have HLT : Hid (w1.heap.size < w4.heap.size) := Lib.hid (Nat.lt_of_lt_of_le hlt3 hc4.size)
    have h34 : Chg (fun _ => False) w1 w4 := (HAL.out _).trans hc4 (fun _ _ h => h)
    have HC4 := Lib.hid (HC1.out.trans h34 (fun _ _ h => h))
    have HA4 := Lib.hid (HA1.out.none_ h34)
    have f0 := cell_of_blk hb4 0
    have f1 := cell_of_blk hb4 1
    have f2 := cell_of_blk hb4 2
    have z0 := frozen_of_blk hb4 0
    have z1 := frozen_of_blk hb4 1
    have z2 := frozen_of_blk hb4 2
    simp at f0 f1 f2
    have hxs := HXK.out.none_ h34
    have HXK4 := Lib.hid hxs
    have HSF : Hid (SlR w4 (.slice Ak fk.bs.length ck) (u8s fk.bs)) := Lib.hid (by have := hxs.rd; rw [HKV'.out] at this; exact this)
    have HSB : Hid (SlR w4 (.slice A1 x.b.length c1) (u8s x.b)) := Lib.hid (by have := (H.out.act.none_ HC4.out).b; rw [HBV.out] at this; exact this)
    clear hfs4 hc4 hfr4 hl4 hbk hlt3 hb4 h34 hxs q0 q1 q2 a0 a1 a2 a3 a4 HWW HAL
    have a0 := HA4.out.q0
    rw [HD.out] at a0
    have a1 := HA4.out.q1
    have a2 := HA4.out.q2
    have a3 := HA4.out.q3
    have a4 := HA4.out.q4
    generalize w1.heap.size = bf at *
    by_cases hbad : x.i < 0 ∨ (fk.bs.length : Int) < x.i
    · have HBAD := Lib.hid hbad
      rcases hbad with hbad | hbad
      · go_wp2
        go_ret2
        exact RetDo.mk (by unfold trimL; rw [look_place hk (by rw [HFK.out]; exact HN.out) HFI.out, HFK.out]; exact if_pos HBAD.out) (H.out.fs.none_ HC4.out) rfl HC4.out
      · by_cases hneg : x.i < 0
        · omega
        · go_wp2
          go_ret2
          exact RetDo.mk (by unfold trimL; rw [look_place hk (by rw [HFK.out]; exact HN.out) HFI.out, HFK.out]; exact if_pos HBAD.out) (H.out.fs.none_ HC4.out) rfl HC4.out
    · have HBAD := Lib.hid hbad
      obtain ⟨j, hj⟩ : ∃ j : Nat, x.i = (j : Int) := ⟨x.i.toNat, by omega⟩
      have HJ := Lib.hid hj
      rw [hj] at a4
      have hjl : j ≤ fk.bs.length := by omega
      have hi0 : ¬ (j : Int) < 0 := by omega
      have hi1 : ¬ (fk.bs.length : Int) < (j : Int) := by omega
      have hi2 : (0 : Int) ≤ (j : Int) := by omega
      obtain ⟨A9, c9, he9, hle9, -⟩ := HSF.out
      injection he9 with e1 e2 e3
      subst e3
      rw [u8s_length] at hle9
      have hi3 : (j : Int) ≤ (ck : Int) := by omega
      clear hbad hj e1 e2
      have g0 := fun o => (((Chg.refl (fun _ => False) w4).alloc o).cellF f0)
      have g1 := fun o => (((Chg.refl (fun _ => False) w4).alloc o).cellF f1)
      have g2 := fun o => (((Chg.refl (fun _ => False) w4).alloc o).cellF f2)
      have g4 := fun o => (((Chg.refl (fun _ => False) w4).alloc o).cellF a4)
      go_wp2_with (at_builtin; refine wpList_append_bytes _ rfl _ _ rfl (.slice (some ⟨w4.heap.size, 0, none⟩) 0 0) [] rfl ?g1 (.slice Ak j ck) (fk.bs.take j) rfl ?g2 ?g3 ?g4)
      case g1 => exact Row1.none_ _ _ _
      case g2 => exact (HSF.out.none_ ((Chg.refl (fun _ => False) w4).alloc _)).take1 hjl
      case g3 => simp; have := HXK4.out.len; omega
      case g4 =>
        intro v5 w5 hrow hc5 hblk
        have h45 : Chg (fun _ => False) w4 w5 := Chg.trans ((Chg.refl (fun _ => False) w4).alloc _) hc5 (by simp [rowBlk])
        try rw [List.nil_append] at hrow
        have hmin : min j fk.bs.length = j := Nat.min_eq_left hjl
        obtain ⟨R2, d2, hv5, -⟩ := hrow.shape
        simp only [u8s_length, List.length_take, hmin] at hv5
        clear hmin
        subst hv5
        have hvb : ∀ y ∈ rowBlk (.slice R2 j d2), y ≠ bf := fun y hy e => by
          have h0 := HLT.out
          rcases hblk y hy with h | h
          · simp [rowBlk] at h
          · first | omega | (simp at h; omega)
        have HVB4 : Hid (∀ y ∈ rowBlk (.slice R2 j d2), w4.heap.size ≤ y) := Lib.hid (fun y hy => by
          rcases hblk y hy with h | h
          · simp [rowBlk] at h
          · first | omega | (simp at h; omega))
        have HVB := Lib.hid hvb
        have HROW := Lib.hid hrow
        have e0 := (h45.block bf HLT.out (fun h => h)).trans HBK.out
        have HE0 := Lib.hid e0
        have e1 := frozen_of_blk e0 1
        have e2 := cell_of_blk e0 1
        simp at e2
        have b5 := set_blk e0 1 (.slice R2 j d2)
        have y0 := cell_of_blk b5 0
        have y1 := cell_of_blk b5 1
        have y2 := cell_of_blk b5 2
        have y3 := frozen_of_blk b5 2
        simp at y0 y1 y2
        have h5 : Chg (fun k => k = bf) w4 (w5.setCell ⟨bf, 1, none⟩ (.slice R2 j d2)) := (h45.mono (fun _ _ h => h.elim) : Chg (fun k => k = bf) w4 w5).set (fun _ => rfl) _
        have H5 := Lib.hid h5
        have y4 := h5.cell a4 HNE.out
        have hs := HSF.out
        clear hrow hc5 hblk hvb h45 e0 b5 h5 hs g0 g1 g2 g4 z0 z1 z2
        by_cases hsy : j < fk.sy
        · have hsy' : (j : Int) < (fk.sy : Int) := by omega
          have h5 : Chg (fun k => k = bf) w4 ((w5.setCell ⟨bf, 1, none⟩ (.slice R2 j d2)).setCell ⟨bf, 2, none⟩ (.int .i64 j)) := H5.out.set (fun _ => rfl) _
          have HC5 := Lib.hid (HC4.out.trans h5 (fun k hk he => by have := HBF.out; omega))
          have hfs5 := HFS4.out.setB h5 HFR4.out (fun z hz => HBD.out z (mem_without hz))
          have hbk5 : ∀ y ∈ rdBlk (.slice Ak fk.bs.length ck), y ≠ bf := fun y hy => HBD.out fk (by rw [← HFK.out]; exact List.getElem_mem hk) y (by rw [HKV'.out]; exact hy)
          have hre : REok ((w5.setCell ⟨bf, 1, none⟩ (.slice R2 j d2)).setCell ⟨bf, 2, none⟩ (.int .i64 j)) ⟨fk.name, .slice R2 j d2, fk.bs.take j, j⟩ := ⟨(HROW.out.keep (w' := ((w5.setCell ⟨bf, 1, none⟩ (.slice R2 j d2)).setCell ⟨bf, 2, none⟩ (.int .i64 j))) (fun y hy => (Below.heap_setCell _ _ _ _ (HVB.out y hy)).trans (Below.heap_setCell _ _ _ _ (HVB.out y hy)))).slr, by simp only [List.length_take]; omega, by have := HXK4.out.len; simp only [List.length_take]; omega, HXK4.out.name⟩
          have hput := put07_calls _ _ ⟨fk.name, .slice R2 j d2, fk.bs.take j, j⟩ _ hfs5 hre (by have := H.out.few; simp; omega)
          unfold RE.val at hput
          have HPUT := Lib.hid hput
          clear hput hre hbk5 hfs5 h5
          go_wp2_with fail
          refine HPUT.out.mono ?_
          rintro e w6 ⟨v6, rfl, hfs6, hc6, hfr6⟩
          have HFR6 := Lib.hid hfr6
          have HFS6 := Lib.hid hfs6
          have HC6 := Lib.hid (HC5.out.trans hc6 (fun _ _ h => h))
          clear hfs6 hc6 hfr6 HPUT
          go_wp2
          go_ret2
          refine RetDo.mk ?_ HFS6.out (putR_set H.out.sort hk (x := ⟨fk.name, .slice R2 j d2, fk.bs.take j, j⟩) (by rw [HFK.out])) HC6.out (FsBlk.put HFR6.out HC5.out.size (fun z hz => mem_without hz) (fun y hy => .inr (Nat.le_trans HC4.out.size (HVB4.out y (HROW.out.rd y hy)))))
          unfold trimL
          rw [look_place hk (by rw [HFK.out]; exact HN.out) HFI.out, HFK.out]
          refine (if_neg HBAD.out).trans ?_
          rw [HJ.out]
          have hmn : min fk.sy j = j := by omega
          simp only [RE.abs, Int.toNat_natCast, hmn]
        · have hsy' : ¬ (j : Int) < (fk.sy : Int) := by omega
          have h5 : Chg (fun k => k = bf) w4 (w5.setCell ⟨bf, 1, none⟩ (.slice R2 j d2)) := H5.out
          have HC5 := Lib.hid (HC4.out.trans h5 (fun k hk he => by have := HBF.out; omega))
          have hfs5 := HFS4.out.setB h5 HFR4.out (fun z hz => HBD.out z (mem_without hz))
          have hbk5 : ∀ y ∈ rdBlk (.slice Ak fk.bs.length ck), y ≠ bf := fun y hy => HBD.out fk (by rw [← HFK.out]; exact List.getElem_mem hk) y (by rw [HKV'.out]; exact hy)
          have hre : REok (w5.setCell ⟨bf, 1, none⟩ (.slice R2 j d2)) ⟨fk.name, .slice R2 j d2, fk.bs.take j, fk.sy⟩ := ⟨(HROW.out.keep (w' := (w5.setCell ⟨bf, 1, none⟩ (.slice R2 j d2))) (fun y hy => Below.heap_setCell _ _ _ _ (HVB.out y hy))).slr, by simp only [List.length_take]; omega, by have := HXK4.out.len; simp only [List.length_take]; omega, HXK4.out.name⟩
          have hput := put07_calls _ _ ⟨fk.name, .slice R2 j d2, fk.bs.take j, fk.sy⟩ _ hfs5 hre (by have := H.out.few; simp; omega)
          unfold RE.val at hput
          have HPUT := Lib.hid hput
          clear hput hre hbk5 hfs5 h5
          go_wp2_with fail
          refine HPUT.out.mono ?_
          rintro e w6 ⟨v6, rfl, hfs6, hc6, hfr6⟩
          have HFR6 := Lib.hid hfr6
          have HFS6 := Lib.hid hfs6
          have HC6 := Lib.hid (HC5.out.trans hc6 (fun _ _ h => h))
          clear hfs6 hc6 hfr6 HPUT
          go_wp2
          go_ret2
          refine RetDo.mk ?_ HFS6.out (putR_set H.out.sort hk (x := ⟨fk.name, .slice R2 j d2, fk.bs.take j, fk.sy⟩) (by rw [HFK.out])) HC6.out (FsBlk.put HFR6.out HC5.out.size (fun z hz => mem_without hz) (fun y hy => .inr (Nat.le_trans HC4.out.size (HVB4.out y (HROW.out.rd y hy)))))
          unfold trimL
          rw [look_place hk (by rw [HFK.out]; exact HN.out) HFI.out, HFK.out]
          refine (if_neg HBAD.out).trans ?_
          rw [HJ.out]
          have hmn : min fk.sy j = fk.sy := by omega
          simp only [RE.abs, Int.toNat_natCast, hmn]

end Go.Proofs.Ytoflmhdgojenpaa
