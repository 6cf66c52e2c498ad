/- Do of the document's answer: delete, sync (printed by wip/gen-xnf.py). -/
import Derived.Test.YtoflmhdgojenpaaNe
namespace Go.Proofs.Ytoflmhdgojenpaa
open Go.RowKit Go.Maps Go.WideMaps Go.WideElems

theorem Fs.setB {w w5 : World} {bf : Nat} {v : Value} {l : List RE} (h : Fs w v l) (hc : Chg (fun k => k = bf) w w5) (hv : ∀ y ∈ rdBlkN v, y ≠ bf) (hz : ∀ z ∈ l, ∀ y ∈ rdBlk z.v, y ≠ bf) : Fs w5 v l :=
  ⟨h.sl.chg (by omega) hc (fun y hy e => hv y hy e), h.cap, h.few, fun z hzl => ⟨(h.all z hzl).rd.chg hc (fun y hy e => hz z hzl y hy e), (h.all z hzl).sy, (h.all z hzl).len, (h.all z hzl).name⟩⟩
theorem FsBlk.without {v0 v4 : Value} {l : List RE} {k B : Nat} (hfr : ∀ y ∈ rdBlkN v4, B ≤ y) : ∀ y, FsBlk v4 (l.take k ++ l.drop (k + 1)) y → FsBlk v0 l y ∨ B ≤ y := by
  rintro y (h | ⟨z, hz, h⟩)
  · exact .inr (hfr y h)
  · refine .inl (.inr ⟨z, ?_, h⟩)
    rcases List.mem_append.1 hz with h | h
    · exact List.mem_of_mem_take h
    · exact List.mem_of_mem_drop h
theorem mem_without {l : List RE} {k : Nat} {z : RE} (h : z ∈ l.take k ++ l.drop (k + 1)) : z ∈ l := by
  rcases List.mem_append.1 h with h | h
  · exact List.mem_of_mem_take h
  · exact List.mem_of_mem_drop h

set_option maxRecDepth 100000 in
set_option maxHeartbeats 4000000 in
theorem do_del {w : World} {v : Value} {l : List RE} {most : Nat} {x : ActE} (h : DoIn w v l most x) (h0 : x.d = 3) : Calls Try.prog 21 #[v, .int .i64 most, actV x] w (RetDo w v l (deleteL x.name (l.map RE.abs), thereL x.name (l.map RE.abs))) := by
  have H := Lib.hid h
  obtain ⟨A1, c1, hbv, -, -⟩ := h.act.b
  obtain ⟨A2, c2, hkv, -, -⟩ := h.act.keep
  obtain ⟨A, c, rfl, hcm⟩ := h.fs.cap
  rw [u8s_length] at hbv
  rw [i64s_length] at hkv
  have HBV := Lib.hid hbv
  have HKV := Lib.hid hkv
  have HAC := Lib.hid (actC_new w x A1 c1 A2 c2 38 (0, 0))
  have HC0 := Lib.hid ((Chg.refl (fun _ => False) w).alloc (.cells (actC x A1 c1 A2 c2) 38 (0, 0)))
  generalize hw0 : w.alloc (.cells (actC x A1 c1 A2 c2) 38 (0, 0)) = w0 at HAC HC0
  have HW0 : Hid (w.alloc (.cells #[.int .i64 3, .string x.name, .string x.other, .slice A1 x.b.length c1, .int .i64 x.i, .slice A2 x.keep.length c2] 38 (0, 0)) = w0) := Lib.hid (by rw [← hw0]; unfold actC; rw [h0])
  generalize hb0 : w.heap.size = b0 at HAC
  have HB0 := Lib.hid hb0
  unfold actV
  rw [hbv, hkv, h0]
  clear h hbv hkv hw0 hb0
  have HD := Lib.hid h0
  clear h0
  go_enter Try.func21, Try.ntmps21
  go_wp2_with fail
  rw [HW0.out, HB0.out]
  refine (find_calls _ l x.name _ (H.out.fs.none_ HC0.out)).mono ?_
  rintro e w1 ⟨rfl, hc1⟩
  have HC1 := Lib.hid (HC0.out.trans hc1 (fun _ _ h => h))
  have HA1 := Lib.hid (HAC.out.none_ hc1)
  have HF1 := Lib.hid (H.out.fs.none_ HC1.out)
  clear hc1
  have a0 := HA1.out.q0
  rw [HD.out] at a0
  have a1 := HA1.out.q1
  have a2 := HA1.out.q2
  have a3 := HA1.out.q3
  have a4 := HA1.out.q4
  rcases placeR_spec x.name l with ⟨hp, hnone⟩ | ⟨k, hk, hp, hname, hfirst⟩
  · have HNO := Lib.hid hnone
    rw [hp]
    clear hp hnone
    go_wp2
    try (go_quiet (fail))
    try go_wp2
    go_ret2
    exact RetDo.mk (by unfold deleteL thereL; rw [look_none HNO.out]) HF1.out rfl HC1.out
  · have HP := Lib.hid hp
    have HN := Lib.hid hname
    have HFI := Lib.hid hfirst
    rw [hp]
    clear hp hname hfirst
    obtain ⟨ad, hA, hx, hcell⟩ := HF1.out.get hk
    subst hA
    have q0 := hcell 0 (.string (l[k]).name) rfl
    have q1 := hcell 1 (l[k]).v rfl
    have q2 := hcell 2 (.int .i64 (l[k]).sy) rfl
    rw [show (ad.add (k * 3)).add 0 = ad.add (k * 3) from rfl] at q0
    rw [add_pos _ (by omega)] at q1 q2
    obtain ⟨Ak, ck, hkv', -, -⟩ := hx.rd
    rw [u8s_length] at hkv'
    have HKV' := Lib.hid hkv'
    rw [hkv'] at q1
    have HXK := Lib.hid hx
    have hk0 : (k : Int) < (l.length : Int) := by omega
    have hk1 : (0 : Int) ≤ (k : Int) := by omega
    clear hcell hx hkv'
    generalize hfk : l[k] = fk at *
    have HFK := Lib.hid hfk
    clear hfk
    have HAL := Lib.hid (fun o => (Chg.refl (fun _ => False) w1).alloc o)
    have HNE : Hid (b0 ≠ w1.heap.size) := Lib.hid (Nat.ne_of_lt (World.block_lt_of_cell? w1 _ a3))
    have HBF : Hid (w.heap.size ≤ w1.heap.size) := Lib.hid HC1.out.size
    have hww := without_calls (.slice (some ad) l.length c) l k (w1.alloc (.cells #[.string fk.name, .slice Ak fk.bs.length ck, .int .i64 fk.sy] 91 (0, 0))) (HF1.out.none_ (HAL.out _)) hk
    have HWW := Lib.hid hww
    clear hww
    go_wp2_with fail
    refine HWW.out.mono ?_
    rintro e w4 ⟨v4, rfl, hfs4, hc4, hfr4⟩
    have HBD : Hid (∀ z ∈ l, ∀ y ∈ rdBlk z.v, y ≠ w1.heap.size) := Lib.hid (fun z hz y hy => Nat.ne_of_lt ((HF1.out.all z hz).rd.lt y hy))
    have HFS4 := Lib.hid hfs4
    obtain ⟨A4, d4, hv4, -⟩ := hfs4.cap
    generalize hl4 : (l.take k ++ l.drop (k + 1)).length = n4 at hv4
    have HL4 := Lib.hid hl4
    subst hv4
    have hbk := heap_alloc_new w1 (.cells #[.string fk.name, .slice Ak fk.bs.length ck, .int .i64 fk.sy] 91 (0, 0))
    have hlt3 : w1.heap.size < (w1.alloc (.cells #[.string fk.name, .slice Ak fk.bs.length ck, .int .i64 fk.sy] 91 (0, 0))).heap.size := by simp
    have hb4 := (hc4.block _ hlt3 (fun h => h)).trans hbk
    have HFR4 : Hid (∀ y ∈ rdBlkN (.slice A4 n4 d4), y ≠ w1.heap.size) := Lib.hid (fun y hy e => by
      have := hfr4 y hy
      omega)
    have HFR4b : Hid (∀ y ∈ rdBlkN (.slice A4 n4 d4), w.heap.size ≤ y) := Lib.hid (fun y hy => by have h1 := hfr4 y hy; have h2 := HBF.out; omega)
    have HBK := Lib.hid hb4
    have HLT : Hid (w1.heap.size < w4.heap.size) := Lib.hid (Nat.lt_of_lt_of_le hlt3 hc4.size)
    have h34 : Chg (fun _ => False) w1 w4 := (HAL.out _).trans hc4 (fun _ _ h => h)
    have HC4 := Lib.hid (HC1.out.trans h34 (fun _ _ h => h))
    have HA4 := Lib.hid (HA1.out.none_ h34)
    have f0 := cell_of_blk hb4 0
    have f1 := cell_of_blk hb4 1
    have f2 := cell_of_blk hb4 2
    have z0 := frozen_of_blk hb4 0
    have z1 := frozen_of_blk hb4 1
    have z2 := frozen_of_blk hb4 2
    simp at f0 f1 f2
    have hxs := HXK.out.none_ h34
    have HXK4 := Lib.hid hxs
    have HSF : Hid (SlR w4 (.slice Ak fk.bs.length ck) (u8s fk.bs)) := Lib.hid (by have := hxs.rd; rw [HKV'.out] at this; exact this)
    have HSB : Hid (SlR w4 (.slice A1 x.b.length c1) (u8s x.b)) := Lib.hid (by have := (H.out.act.none_ HC4.out).b; rw [HBV.out] at this; exact this)
    clear hfs4 hc4 hfr4 hl4 hbk hlt3 hb4 h34 hxs q0 q1 q2 a0 a1 a2 a3 a4 HWW HAL
    have a0 := HA4.out.q0
    rw [HD.out] at a0
    have a1 := HA4.out.q1
    have a2 := HA4.out.q2
    have a3 := HA4.out.q3
    have a4 := HA4.out.q4
    generalize w1.heap.size = bf at *
    go_wp2
    go_ret2
    refine RetDo.mk ?_ HFS4.out ((without_del H.out.sort hk).trans (by rw [HFK.out, HN.out])) HC4.out (FsBlk.without HFR4b.out)
    unfold deleteL thereL
    rw [look_place hk (by rw [HFK.out]; exact HN.out) HFI.out]

set_option maxRecDepth 100000 in
set_option maxHeartbeats 4000000 in
theorem do_sync {w : World} {v : Value} {l : List RE} {most : Nat} {x : ActE} (h : DoIn w v l most x) (h0 : x.d = 1) : Calls Try.prog 21 #[v, .int .i64 most, actV x] w (RetDo w v l (syncL x.name (l.map RE.abs), thereL x.name (l.map RE.abs))) := by
  have H := Lib.hid h
  obtain ⟨A1, c1, hbv, -, -⟩ := h.act.b
  obtain ⟨A2, c2, hkv, -, -⟩ := h.act.keep
  obtain ⟨A, c, rfl, hcm⟩ := h.fs.cap
  rw [u8s_length] at hbv
  rw [i64s_length] at hkv
  have HBV := Lib.hid hbv
  have HKV := Lib.hid hkv
  have HAC := Lib.hid (actC_new w x A1 c1 A2 c2 38 (0, 0))
  have HC0 := Lib.hid ((Chg.refl (fun _ => False) w).alloc (.cells (actC x A1 c1 A2 c2) 38 (0, 0)))
  generalize hw0 : w.alloc (.cells (actC x A1 c1 A2 c2) 38 (0, 0)) = w0 at HAC HC0
  have HW0 : Hid (w.alloc (.cells #[.int .i64 1, .string x.name, .string x.other, .slice A1 x.b.length c1, .int .i64 x.i, .slice A2 x.keep.length c2] 38 (0, 0)) = w0) := Lib.hid (by rw [← hw0]; unfold actC; rw [h0])
  generalize hb0 : w.heap.size = b0 at HAC
  have HB0 := Lib.hid hb0
  unfold actV
  rw [hbv, hkv, h0]
  clear h hbv hkv hw0 hb0
  have HD := Lib.hid h0
  clear h0
  go_enter Try.func21, Try.ntmps21
  go_wp2_with fail
  rw [HW0.out, HB0.out]
  refine (find_calls _ l x.name _ (H.out.fs.none_ HC0.out)).mono ?_
  rintro e w1 ⟨rfl, hc1⟩
  have HC1 := Lib.hid (HC0.out.trans hc1 (fun _ _ h => h))
  have HA1 := Lib.hid (HAC.out.none_ hc1)
  have HF1 := Lib.hid (H.out.fs.none_ HC1.out)
  clear hc1
  have a0 := HA1.out.q0
  rw [HD.out] at a0
  have a1 := HA1.out.q1
  have a2 := HA1.out.q2
  have a3 := HA1.out.q3
  have a4 := HA1.out.q4
  rcases placeR_spec x.name l with ⟨hp, hnone⟩ | ⟨k, hk, hp, hname, hfirst⟩
  · have HNO := Lib.hid hnone
    rw [hp]
    clear hp hnone
    go_wp2
    try (go_quiet (fail))
    try go_wp2
    go_ret2
    exact RetDo.mk (by unfold syncL thereL; rw [look_none HNO.out]) HF1.out rfl HC1.out
  · have HP := Lib.hid hp
    have HN := Lib.hid hname
    have HFI := Lib.hid hfirst
    rw [hp]
    clear hp hname hfirst
    obtain ⟨ad, hA, hx, hcell⟩ := HF1.out.get hk
    subst hA
    have q0 := hcell 0 (.string (l[k]).name) rfl
    have q1 := hcell 1 (l[k]).v rfl
    have q2 := hcell 2 (.int .i64 (l[k]).sy) rfl
    rw [show (ad.add (k * 3)).add 0 = ad.add (k * 3) from rfl] at q0
    rw [add_pos _ (by omega)] at q1 q2
    obtain ⟨Ak, ck, hkv', -, -⟩ := hx.rd
    rw [u8s_length] at hkv'
    have HKV' := Lib.hid hkv'
    rw [hkv'] at q1
    have HXK := Lib.hid hx
    have hk0 : (k : Int) < (l.length : Int) := by omega
    have hk1 : (0 : Int) ≤ (k : Int) := by omega
    clear hcell hx hkv'
    generalize hfk : l[k] = fk at *
    have HFK := Lib.hid hfk
    clear hfk
    have HAL := Lib.hid (fun o => (Chg.refl (fun _ => False) w1).alloc o)
    have HNE : Hid (b0 ≠ w1.heap.size) := Lib.hid (Nat.ne_of_lt (World.block_lt_of_cell? w1 _ a3))
    have HBF : Hid (w.heap.size ≤ w1.heap.size) := Lib.hid HC1.out.size
    have hww := without_calls (.slice (some ad) l.length c) l k (w1.alloc (.cells #[.string fk.name, .slice Ak fk.bs.length ck, .int .i64 fk.sy] 91 (0, 0))) (HF1.out.none_ (HAL.out _)) hk
    have HWW := Lib.hid hww
    clear hww
    go_wp2_with fail
    refine HWW.out.mono ?_
    rintro e w4 ⟨v4, rfl, hfs4, hc4, hfr4⟩
    have HBD : Hid (∀ z ∈ l, ∀ y ∈ rdBlk z.v, y ≠ w1.heap.size) := Lib.hid (fun z hz y hy => Nat.ne_of_lt ((HF1.out.all z hz).rd.lt y hy))
    have HFS4 := Lib.hid hfs4
    obtain ⟨A4, d4, hv4, -⟩ := hfs4.cap
    generalize hl4 : (l.take k ++ l.drop (k + 1)).length = n4 at hv4
    have HL4 := Lib.hid hl4
    subst hv4
    have hbk := heap_alloc_new w1 (.cells #[.string fk.name, .slice Ak fk.bs.length ck, .int .i64 fk.sy] 91 (0, 0))
    have hlt3 : w1.heap.size < (w1.alloc (.cells #[.string fk.name, .slice Ak fk.bs.length ck, .int .i64 fk.sy] 91 (0, 0))).heap.size := by simp
    have hb4 := (hc4.block _ hlt3 (fun h => h)).trans hbk
    have HFR4 : Hid (∀ y ∈ rdBlkN (.slice A4 n4 d4), y ≠ w1.heap.size) := Lib.hid (fun y hy e => by
      have := hfr4 y hy
      omega)
    have HFR4b : Hid (∀ y ∈ rdBlkN (.slice A4 n4 d4), w.heap.size ≤ y) := Lib.hid (fun y hy => by have h1 := hfr4 y hy; have h2 := HBF.out; omega)
    have HBK := Lib.hid hb4
    have HLT : Hid (w1.heap.size < w4.heap.size) := Lib.hid (Nat.lt_of_lt_of_le hlt3 hc4.size)
    have h34 : Chg (fun _ => False) w1 w4 := (HAL.out _).trans hc4 (fun _ _ h => h)
    have HC4 := Lib.hid (HC1.out.trans h34 (fun _ _ h => h))
    have HA4 := Lib.hid (HA1.out.none_ h34)
    have f0 := cell_of_blk hb4 0
    have f1 := cell_of_blk hb4 1
    have f2 := cell_of_blk hb4 2
    have z0 := frozen_of_blk hb4 0
    have z1 := frozen_of_blk hb4 1
    have z2 := frozen_of_blk hb4 2
    simp at f0 f1 f2
    have hxs := HXK.out.none_ h34
    have HXK4 := Lib.hid hxs
    have HSF : Hid (SlR w4 (.slice Ak fk.bs.length ck) (u8s fk.bs)) := Lib.hid (by have := hxs.rd; rw [HKV'.out] at this; exact this)
    have HSB : Hid (SlR w4 (.slice A1 x.b.length c1) (u8s x.b)) := Lib.hid (by have := (H.out.act.none_ HC4.out).b; rw [HBV.out] at this; exact this)
    clear hfs4 hc4 hfr4 hl4 hbk hlt3 hb4 h34 hxs q0 q1 q2 a0 a1 a2 a3 a4 HWW HAL
    have a0 := HA4.out.q0
    rw [HD.out] at a0
    have a1 := HA4.out.q1
    have a2 := HA4.out.q2
    have a3 := HA4.out.q3
    have a4 := HA4.out.q4
    generalize w1.heap.size = bf at *
    have h5 : Chg (fun k => k = bf) w4 (w4.setCell ⟨bf, 2, none⟩ (.int .i64 fk.bs.length)) := (Chg.refl (fun k => k = bf) w4).set (fun _ => rfl) _
    have HC5 := Lib.hid (HC4.out.trans h5 (fun k hk he => by have := HBF.out; omega))
    have hfs5 := HFS4.out.setB h5 HFR4.out (fun z hz => HBD.out z (mem_without hz))
    have hbk5 : ∀ y ∈ rdBlk (.slice Ak fk.bs.length ck), y ≠ bf := fun y hy => HBD.out fk (by rw [← HFK.out]; exact List.getElem_mem hk) y (by rw [HKV'.out]; exact hy)
    have hre : REok (w4.setCell ⟨bf, 2, none⟩ (.int .i64 fk.bs.length)) ⟨fk.name, .slice Ak fk.bs.length ck, fk.bs, fk.bs.length⟩ := ⟨HSF.out.chg h5 (fun y hy e => hbk5 y hy e), Nat.le_refl _, HXK4.out.len, HXK4.out.name⟩
    have hput := put07_calls _ _ ⟨fk.name, .slice Ak fk.bs.length ck, fk.bs, fk.bs.length⟩ _ hfs5 hre (by have := H.out.few; simp; omega)
    unfold RE.val at hput
    have HPUT := Lib.hid hput
    clear hput hre hbk5 hfs5 h5
    go_wp2_with fail
    refine HPUT.out.mono ?_
    rintro e w6 ⟨v6, rfl, hfs6, hc6, hfr6⟩
    have HFR6 := Lib.hid hfr6
    have HFS6 := Lib.hid hfs6
    have HC6 := Lib.hid (HC5.out.trans hc6 (fun _ _ h => h))
    clear hfs6 hc6 hfr6 HPUT
    go_wp2
    go_ret2
    refine RetDo.mk ?_ HFS6.out (putR_set H.out.sort hk (x := ⟨fk.name, .slice Ak fk.bs.length ck, fk.bs, fk.bs.length⟩) (by rw [HFK.out])) HC6.out (FsBlk.put HFR6.out HC5.out.size (fun z hz => mem_without hz) (fun y hy => .inl ⟨fk, by rw [← HFK.out]; exact List.getElem_mem hk, by rw [HKV'.out]; exact hy⟩))
    unfold syncL thereL
    rw [look_place hk (by rw [HFK.out]; exact HN.out) HFI.out, HFK.out]
    rfl

end Go.Proofs.Ytoflmhdgojenpaa
