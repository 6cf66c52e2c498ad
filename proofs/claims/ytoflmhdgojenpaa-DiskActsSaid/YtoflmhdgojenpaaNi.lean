/- Do of the document's answer: rename (printed by wip/gen-xni.py). -/
import Derived.Test.YtoflmhdgojenpaaNh
namespace Go.Proofs.Ytoflmhdgojenpaa
open Go.RowKit Go.Maps Go.WideMaps Go.WideElems

theorem delL_none {n : ByteArray} {L : List FR} (h : ∀ y ∈ L, y.name ≠ n) : delL n L = L := List.filter_eq_self.2 fun z hz => by simp [h z hz]
theorem without_ne {l : List RE} (hs : SortR l) {k : Nat} (hk : k < l.length) {n : ByteArray} (hn : (l[k]).name = n) : ∀ z ∈ l.take k ++ l.drop (k + 1), z.name ≠ n := by
  obtain ⟨h1, h2⟩ := cut_at hs hk
  intro z hz
  rcases List.mem_append.1 hz with h | h
  · exact fun e => before_ne (h1 z h) (e.trans hn.symm)
  · exact fun e => before_ne (h2 z h) (hn.trans e.symm)

set_option maxRecDepth 100000 in
set_option maxHeartbeats 4000000 in
theorem do_ren {w : World} {v : Value} {l : List RE} {most : Nat} {x : ActE} (h : DoIn w v l most x) (h0 : x.d = 2) : Calls Try.prog 21 #[v, .int .i64 most, actV x] w (RetDo w v l (renL x.name x.other (l.map RE.abs))) := by
  have H := Lib.hid h
  obtain ⟨A1, c1, hbv, -, -⟩ := h.act.b
  obtain ⟨A2, c2, hkv, -, -⟩ := h.act.keep
  obtain ⟨A, c, rfl, hcm⟩ := h.fs.cap
  rw [u8s_length] at hbv
  rw [i64s_length] at hkv
  have HBV := Lib.hid hbv
  have HKV := Lib.hid hkv
  have HAC := Lib.hid (actC_new w x A1 c1 A2 c2 38 (0, 0))
  have HC0 := Lib.hid ((Chg.refl (fun _ => False) w).alloc (.cells (actC x A1 c1 A2 c2) 38 (0, 0)))
  generalize hw0 : w.alloc (.cells (actC x A1 c1 A2 c2) 38 (0, 0)) = w0 at HAC HC0
  have HW0 : Hid (w.alloc (.cells #[.int .i64 2, .string x.name, .string x.other, .slice A1 x.b.length c1, .int .i64 x.i, .slice A2 x.keep.length c2] 38 (0, 0)) = w0) := Lib.hid (by rw [← hw0]; unfold actC; rw [h0])
  generalize hb0 : w.heap.size = b0 at HAC
  have HB0 := Lib.hid hb0
  unfold actV
  rw [hbv, hkv, h0]
  clear h hbv hkv hw0 hb0
  have HD := Lib.hid h0
  clear h0
  go_enter Try.func21, Try.ntmps21
  go_wp2_with fail
  rw [HW0.out, HB0.out]
  refine (find_calls _ l x.name _ (H.out.fs.none_ HC0.out)).mono ?_
  rintro e w1 ⟨rfl, hc1⟩
  have HC1 := Lib.hid (HC0.out.trans hc1 (fun _ _ h => h))
  have HA1 := Lib.hid (HAC.out.none_ hc1)
  have HF1 := Lib.hid (H.out.fs.none_ HC1.out)
  clear hc1
  have a0 := HA1.out.q0
  rw [HD.out] at a0
  have a1 := HA1.out.q1
  have a2 := HA1.out.q2
  have a3 := HA1.out.q3
  have a4 := HA1.out.q4
  cases hn : namedB x.name with
  | false =>
    go_wp2_with fail
    refine (named07_calls x.name _ H.out.act.name).mono ?_
    rintro e w2 ⟨rfl, hc2⟩
    have HC2 := Lib.hid (HC1.out.trans hc2 (fun _ _ h => h))
    clear hc2
    rw [hn]
    go_wp2
    go_ret2
    exact RetDo.mk (by unfold renL; rw [if_neg (by rw [hn]; simp)]) (H.out.fs.none_ HC2.out) rfl HC2.out
  | true =>
    go_wp2_with fail
    refine (named07_calls x.name _ H.out.act.name).mono ?_
    rintro e w2 ⟨rfl, hc2⟩
    replace HC1 := Lib.hid (HC1.out.trans hc2 (fun _ _ h => h))
    replace HA1 := Lib.hid (HA1.out.none_ hc2)
    replace HF1 := Lib.hid (HF1.out.none_ hc2)
    clear hc2 a0 a1 a2 a3 a4
    have a0 := HA1.out.q0
    rw [HD.out] at a0
    have a1 := HA1.out.q1
    have a2 := HA1.out.q2
    have a3 := HA1.out.q3
    have a4 := HA1.out.q4
    have HNN := Lib.hid hn
    rw [hn]
    clear hn
    cases hm : namedB x.other with
    | false =>
      go_wp2_with fail
      refine (named07_calls x.other _ H.out.act.other).mono ?_
      rintro e w3 ⟨rfl, hc2⟩
      have HC2 := Lib.hid (HC1.out.trans hc2 (fun _ _ h => h))
      clear hc2
      rw [hm]
      go_wp2
      go_ret2
      exact RetDo.mk (by unfold renL; rw [if_neg (by rw [hm]; simp)]) (H.out.fs.none_ HC2.out) rfl HC2.out
    | true =>
      go_wp2_with fail
      refine (named07_calls x.other _ H.out.act.other).mono ?_
      rintro e w3 ⟨rfl, hc2⟩
      replace HC1 := Lib.hid (HC1.out.trans hc2 (fun _ _ h => h))
      replace HA1 := Lib.hid (HA1.out.none_ hc2)
      replace HF1 := Lib.hid (HF1.out.none_ hc2)
      clear hc2 a0 a1 a2 a3 a4
      have a0 := HA1.out.q0
      rw [HD.out] at a0
      have a1 := HA1.out.q1
      have a2 := HA1.out.q2
      have a3 := HA1.out.q3
      have a4 := HA1.out.q4
      have HMM := Lib.hid hm
      rw [hm]
      clear hm
      rcases placeR_spec x.name l with ⟨hp, hnone⟩ | ⟨k, hk, hp, hname, hfirst⟩
      · have HNO := Lib.hid hnone
        rw [hp]
        clear hp hnone
        go_wp2
        try (go_quiet (fail))
        try go_wp2
        go_ret2
        exact RetDo.mk (by unfold renL; rw [if_pos ⟨HNN.out, HMM.out⟩, look_none HNO.out]) HF1.out rfl HC1.out
      · have HP := Lib.hid hp
        have HN := Lib.hid hname
        have HFI := Lib.hid hfirst
        rw [hp]
        clear hp hname hfirst
        obtain ⟨ad, hA, hx, hcell⟩ := HF1.out.get hk
        subst hA
        have q0 := hcell 0 (.string (l[k]).name) rfl
        have q1 := hcell 1 (l[k]).v rfl
        have q2 := hcell 2 (.int .i64 (l[k]).sy) rfl
        rw [show (ad.add (k * 3)).add 0 = ad.add (k * 3) from rfl] at q0
        rw [add_pos _ (by omega)] at q1 q2
        obtain ⟨Ak, ck, hkv', -, -⟩ := hx.rd
        rw [u8s_length] at hkv'
        have HKV' := Lib.hid hkv'
        rw [hkv'] at q1
        have HXK := Lib.hid hx
        have hk0 : (k : Int) < (l.length : Int) := by omega
        have hk1 : (0 : Int) ≤ (k : Int) := by omega
        clear hcell hx hkv'
        generalize hfk : l[k] = fk at *
        have HFK := Lib.hid hfk
        clear hfk
        have HAL := Lib.hid (fun o => (Chg.refl (fun _ => False) w3).alloc o)
        have HNE : Hid (b0 ≠ w3.heap.size) := Lib.hid (Nat.ne_of_lt (World.block_lt_of_cell? w3 _ a3))
        have HBF : Hid (w.heap.size ≤ w3.heap.size) := Lib.hid HC1.out.size
        have hww := without_calls (.slice (some ad) l.length c) l k (w3.alloc (.cells #[.string fk.name, .slice Ak fk.bs.length ck, .int .i64 fk.sy] 91 (0, 0))) (HF1.out.none_ (HAL.out _)) hk
        have HWW := Lib.hid hww
        clear hww
        go_wp2_with fail
        refine HWW.out.mono ?_
        rintro e w4 ⟨v4, rfl, hfs4, hc4, hfr4⟩
        have HBD : Hid (∀ z ∈ l, ∀ y ∈ rdBlk z.v, y ≠ w3.heap.size) := Lib.hid (fun z hz y hy => Nat.ne_of_lt ((HF1.out.all z hz).rd.lt y hy))
        have HFS4 := Lib.hid hfs4
        obtain ⟨A4, d4, hv4, -⟩ := hfs4.cap
        generalize hl4 : (l.take k ++ l.drop (k + 1)).length = n4 at hv4
        have HL4 := Lib.hid hl4
        subst hv4
        have hbk := heap_alloc_new w3 (.cells #[.string fk.name, .slice Ak fk.bs.length ck, .int .i64 fk.sy] 91 (0, 0))
        have hlt3 : w3.heap.size < (w3.alloc (.cells #[.string fk.name, .slice Ak fk.bs.length ck, .int .i64 fk.sy] 91 (0, 0))).heap.size := by simp
        have hb4 := (hc4.block _ hlt3 (fun h => h)).trans hbk
        have HFR4 : Hid (∀ y ∈ rdBlkN (.slice A4 n4 d4), y ≠ w3.heap.size) := Lib.hid (fun y hy e => by
          have := hfr4 y hy
          omega)
        have HFR4b : Hid (∀ y ∈ rdBlkN (.slice A4 n4 d4), w.heap.size ≤ y) := Lib.hid (fun y hy => by have h1 := hfr4 y hy; have h2 := HBF.out; omega)
        have HBK := Lib.hid hb4
        have HLT : Hid (w3.heap.size < w4.heap.size) := Lib.hid (Nat.lt_of_lt_of_le hlt3 hc4.size)
        have h34 : Chg (fun _ => False) w3 w4 := (HAL.out _).trans hc4 (fun _ _ h => h)
        have HC4 := Lib.hid (HC1.out.trans h34 (fun _ _ h => h))
        have HA4 := Lib.hid (HA1.out.none_ h34)
        have f0 := cell_of_blk hb4 0
        have f1 := cell_of_blk hb4 1
        have f2 := cell_of_blk hb4 2
        have z0 := frozen_of_blk hb4 0
        have z1 := frozen_of_blk hb4 1
        have z2 := frozen_of_blk hb4 2
        simp at f0 f1 f2
        have hxs := HXK.out.none_ h34
        have HXK4 := Lib.hid hxs
        have HSF : Hid (SlR w4 (.slice Ak fk.bs.length ck) (u8s fk.bs)) := Lib.hid (by have := hxs.rd; rw [HKV'.out] at this; exact this)
        have HSB : Hid (SlR w4 (.slice A1 x.b.length c1) (u8s x.b)) := Lib.hid (by have := (H.out.act.none_ HC4.out).b; rw [HBV.out] at this; exact this)
        clear hfs4 hc4 hfr4 hl4 hbk hlt3 hb4 h34 hxs q0 q1 q2 a0 a1 a2 a3 a4 HWW HAL
        have a0 := HA4.out.q0
        rw [HD.out] at a0
        have a1 := HA4.out.q1
        have a2 := HA4.out.q2
        have a3 := HA4.out.q3
        have a4 := HA4.out.q4
        generalize w3.heap.size = bf at *
        have h5 : Chg (fun k => k = bf) w4 (w4.setCell ⟨bf, 0, none⟩ (.string x.other)) := (Chg.refl (fun k => k = bf) w4).set (fun _ => rfl) _
        have HC5 := Lib.hid (HC4.out.trans h5 (fun k hk he => by have := HBF.out; omega))
        have HFS5 := Lib.hid (HFS4.out.setB h5 HFR4.out (fun z hz => HBD.out z (mem_without hz)))
        have hbk5 : ∀ y ∈ rdBlk (.slice Ak fk.bs.length ck), y ≠ bf := fun y hy => HBD.out fk (by rw [← HFK.out]; exact List.getElem_mem hk) y (by rw [HKV'.out]; exact hy)
        have HRE := Lib.hid (⟨HSF.out.chg h5 (fun y hy e => hbk5 y hy e), HXK4.out.sy, HXK4.out.len, H.out.act.other⟩ : REok (w4.setCell ⟨bf, 0, none⟩ (.string x.other)) ⟨x.other, .slice Ak fk.bs.length ck, fk.bs, fk.sy⟩)
        have b5 := set_blk HBK.out 0 (.string x.other)
        have y0 := cell_of_blk b5 0
        have y1 := cell_of_blk b5 1
        have y2 := cell_of_blk b5 2
        simp at y0 y1 y2
        have y4 := h5.cell a2 HNE.out
        have y5 := h5.cell a0 HNE.out
        clear b5 f1 f2 a1 a3 a4 h5 hbk5
        have hfc := find_calls _ (l.take k ++ l.drop (k + 1)) x.other _ HFS5.out
        have HFC := Lib.hid hfc
        clear hfc
        have hrm : (l.take k ++ l.drop (k + 1)).map RE.abs = delL x.name (l.map RE.abs) := (without_del H.out.sort hk).trans (by rw [HFK.out, HN.out])
        have HRM := Lib.hid hrm
        have HSR := Lib.hid (H.out.sort.without hk)
        have hfn : (l.take k ++ l.drop (k + 1)).length < 999 := by have := H.out.few; simp; omega
        have HFN := Lib.hid hfn
        clear hrm hfn
        generalize hrl : l.take k ++ l.drop (k + 1) = rl at *
        have HRL := Lib.hid hrl
        clear hrl
        go_wp2_with fail
        refine HFC.out.mono ?_
        rintro e w6 ⟨rfl, hc6⟩
        have HC6 := Lib.hid (HC5.out.trans hc6 (fun _ _ h => h))
        have HFS6 := Lib.hid (HFS5.out.none_ hc6)
        have HRE6 := Lib.hid (HRE.out.none_ hc6)
        replace y0 := hc6.cellF y0
        replace y1 := hc6.cellF y1
        replace y2 := hc6.cellF y2
        replace y4 := hc6.cellF y4
        replace y5 := hc6.cellF y5
        clear HFC hc6 a0 a2 f0 z0 z1 z2
        generalize hw6 : (w4.setCell ⟨bf, 0, none⟩ (.string x.other)) = w5 at *
        clear hw6
        rcases placeR_spec x.other rl with ⟨hp, hnone⟩ | ⟨j, hj, hp, hname, hfirst⟩
        · have HNO := Lib.hid hnone
          rw [hp]
          clear hp hnone
          have hput := put07_calls _ _ ⟨x.other, .slice Ak fk.bs.length ck, fk.bs, fk.sy⟩ _ HFS6.out HRE6.out (by have := HFN.out; omega)
          unfold RE.val at hput
          have HPUT := Lib.hid hput
          clear hput
          go_wp2_with fail
          refine HPUT.out.mono ?_
          rintro e w7 ⟨v7, rfl, hfs7, hc7, hfr7⟩
          have HFS7 := Lib.hid hfs7
          have HFR7 := Lib.hid hfr7
          have HC7 := Lib.hid (HC6.out.trans hc7 (fun _ _ h => h))
          clear hfs7 hc7 hfr7 HPUT
          go_wp2
          go_ret2
          refine RetDo.mk ?_ HFS7.out (putR_new (x := ⟨x.other, .slice Ak fk.bs.length ck, fk.bs, fk.sy⟩) HNO.out) HC7.out (FsBlk.put HFR7.out HC6.out.size (fun z hz => by rw [← HRL.out] at hz; exact mem_without hz) (fun y hy => .inl ⟨fk, by rw [← HFK.out]; exact List.getElem_mem hk, by rw [HKV'.out]; exact hy⟩))
          unfold renL
          rw [if_pos ⟨HNN.out, HMM.out⟩, look_place hk (by rw [HFK.out]; exact HN.out) HFI.out, HFK.out, ← HRM.out, delL_none (n := x.other)]
          · rfl
          · intro y hy
            obtain ⟨z, hz, rfl⟩ := List.mem_map.1 hy
            exact HNO.out z hz
        · have HN2 := Lib.hid hname
          have hrm2 : (rl.take j ++ rl.drop (j + 1)).map RE.abs = delL x.other (rl.map RE.abs) := (without_del HSR.out hj).trans (by rw [hname])
          have HRM2 := Lib.hid hrm2
          have HNO2 : Hid (∀ z ∈ rl.take j ++ rl.drop (j + 1), z.name ≠ x.other) := Lib.hid (fun z hz => without_ne HSR.out hj hname z hz)
          have HFN2 : Hid ((rl.take j ++ rl.drop (j + 1)).length < 999) := Lib.hid (by have := HFN.out; simp; omega)
          have hww2 := without_calls _ rl j _ HFS6.out hj
          have HWW2 := Lib.hid hww2
          have hj0 : (0 : Int) ≤ (j : Int) := by omega
          have hj1 : (j : Int) < (rl.length : Int) := by omega
          rw [hp]
          clear hp hname hfirst hrm2 hww2
          go_wp2_with fail
          refine HWW2.out.mono ?_
          rintro e w7 ⟨v7, rfl, hfs7, hc7, -⟩
          have HFS7 := Lib.hid hfs7
          obtain ⟨A7, d7, hv7, -⟩ := hfs7.cap
          generalize hl7 : (rl.take j ++ rl.drop (j + 1)).length = n7 at hv7
          have HL7 := Lib.hid hl7
          subst hv7
          have HC7 := Lib.hid (HC6.out.trans hc7 (fun _ _ h => h))
          have HRE7 := Lib.hid (HRE6.out.none_ hc7)
          replace y0 := hc7.cellF y0
          replace y1 := hc7.cellF y1
          replace y2 := hc7.cellF y2
          replace y4 := hc7.cellF y4
          replace y5 := hc7.cellF y5
          clear hfs7 hc7 HWW2 hl7
          have hput := put07_calls _ _ ⟨x.other, .slice Ak fk.bs.length ck, fk.bs, fk.sy⟩ _ HFS7.out HRE7.out (by have := HFN2.out; omega)
          unfold RE.val at hput
          have HPUT := Lib.hid hput
          clear hput
          go_wp2_with fail
          refine HPUT.out.mono ?_
          rintro e w8 ⟨v8, rfl, hfs8, hc8, hfr8⟩
          have HFS8 := Lib.hid hfs8
          have HFR8 := Lib.hid hfr8
          have HC8 := Lib.hid (HC7.out.trans hc8 (fun _ _ h => h))
          clear hfs8 hc8 hfr8 HPUT
          go_wp2
          go_ret2
          refine RetDo.mk ?_ HFS8.out (putR_new (x := ⟨x.other, .slice Ak fk.bs.length ck, fk.bs, fk.sy⟩) HNO2.out) HC8.out (FsBlk.put HFR8.out HC7.out.size (fun z hz => by have h := mem_without hz; rw [← HRL.out] at h; exact mem_without h) (fun y hy => .inl ⟨fk, by rw [← HFK.out]; exact List.getElem_mem hk, by rw [HKV'.out]; exact hy⟩))
          unfold renL
          rw [if_pos ⟨HNN.out, HMM.out⟩, look_place hk (by rw [HFK.out]; exact HN.out) HFI.out, HFK.out, ← HRM.out, ← HRM2.out]
          rfl

end Go.Proofs.Ytoflmhdgojenpaa
