/- What (*Disk).Copy does. -/
import Derived.Test.YtoflmhdgojenpaaDn
namespace Go.Proofs.Ytoflmhdgojenpaa
open Go.RowKit Go.Maps Go.WideMaps Go.WideElems

theorem Ranges.chg {S : Nat → Prop} {w w' : World} {b r n cnt : Nat} {E : List FE} {left : Lit → Bool} (h : Ranges w b r n E left cnt) (hc : Chg S w w') (hb : ¬ S b) (hr : ¬ S r) : Ranges w' b r n E left cnt := by
  obtain ⟨es, clock, since, seen, c0, h1, h2, h3, h4, h5, h6⟩ := h
  exact ⟨es, clock, since, seen, c0, (hc.block b (lt_of_block h1) hb).trans h1, h2, h3, h4, (hc.block r (lt_of_block h5) hr).trans h5, h6⟩

set_option maxRecDepth 100000 in
theorem put_run {w : World} {b n : Nat} {E : List FE} (h : w.ownsMap Try.prog 9 ptrR b n (dOf E)) (hn : n < maxLen) {s : ByteArray} (hs : s.size ≤ maxLen) (k : Nat) :
    ∃ w', (Instr.mapUpdate 81 (.map (some b)) (.string s) (.pointer (some ⟨k, 0, none⟩))).run Try.prog w = .ok () w' ∧ w'.ownsMap Try.prog 9 ptrR b (n + 1) ((dOf E).put (keyL s) (blkD k)) ∧ Chg (fun x => x = b) w w' := by
  obtain ⟨w', h1, h2, h3⟩ := h.store strKeyed mapT hn (keyOf_string_mk Try.underlying9 hs) (ptrR_mk k)
  exact ⟨w', h1, h2, (Chg.of_grown h3.grown).mono fun k _ hk => by injection hk with hk; exact hk.symm⟩

/-- A disk like another one, of its own. -/
def IsCopy (w : World) (most : Nat) (E : List FE) (e : Ending) (w' : World) : Prop :=
  ∃ a2 bm2 E2, e = .returned (.pointer (some ⟨a2, 0, none⟩)) ∧ DiskAt w' a2 most E2 bm2 ∧ E2.map FE.abs = E.map FE.abs ∧ Chg (fun _ => False) w w' ∧ ∀ k ∈ foot a2 bm2 E2, w.heap.size ≤ k

theorem sorted_eq {E E2 : List FE} (h1 : E.Pairwise fun x y => before x.name y.name = true) (h2 : E2.Pairwise fun x y => before x.name y.name = true) (hp : (E2.map FE.abs).Perm (E.map FE.abs)) : E2.map FE.abs = E.map FE.abs := by
  refine hp.eq_of_pairwise (le := fun x y => before x.name y.name = true) (fun a b _ _ h1 h2 => ?_) ?_ ?_
  · exact absurd (List.lt_trans ((before_lt _ _).1 h1) ((before_lt _ _).1 h2)) (List.lt_irrefl _)
  · rw [List.pairwise_map]; exact h2
  · rw [List.pairwise_map]; exact h1

set_option maxRecDepth 100000 in
set_option maxHeartbeats 4000000 in
theorem copy_calls {w : World} {a most bm : Nat} {E : List FE} (hD : DiskAt w a most E bm) (hE : E.length ≤ 8796093022208) :
    Calls Try.prog 20 #[dptr a] w (IsCopy w most E) := by
  unfold dptr
  have HD := Lib.hid hD
  have h1 := hD.cell1
  have h0 := hD.cell0
  have hsm := hD.small
  clear hD
  go_enter Try.func20, Try.ntmps20
  go_wp2_with fail
  refine (new_calls _ _).mono ?_
  rintro e' w1 ⟨a2, bm2, rfl, hD2, hc1, ha2, hbm2⟩
  have hcap : capOf (most : Int) = most := by unfold capOf; split <;> (try split) <;> omega
  rw [hcap] at hD2
  have HD2 := Lib.hid hD2
  have HD1 := Lib.hid (HD.out.none_ hc1)
  have HC1 := Lib.hid hc1
  have hmap1 := HD1.out.map
  have k0 := HD1.out.cell0
  clear hD2 hc1 hcap h0 h1
  go_wp2_with (at_range; refine wpList_range_files _ rfl _ rfl bm E.length E rfl hmap1 ?_; intro w2 hrg0 hc2 hs2)
  go_frame
  have HR0 := Lib.hid hrg0
  have HC2 := Lib.hid hc2
  clear hrg0 hc2 hmap1 k0
  go_loopw [4] (fun _ wr => ∃ (left : Lit → Bool) (cnt : Nat) (Ec : List FE), Ranges wr bm w1.heap.size E.length E left cnt ∧ DiskAt wr a2 most Ec bm2 ∧ (Ec.map FE.abs).Perm ((doneE left E).map FE.abs) ∧ Chg (fun _ => False) w wr ∧
      (∀ k ∈ foot a2 bm2 Ec, w.heap.size ≤ k ∧ k ≠ w1.heap.size)) (fun _ wr => wr.rangeLeft bm w1.heap.size)
  case atStart =>
    refine ⟨_, _, [], HR0.out, HD2.out.none_ HC2.out, by rw [doneE_start], HC1.out.trans HC2.out (fun _ _ h => h), fun k hk => ?_⟩
    have hlt := HD2.out.lt k hk
    rcases DiskAt.mem_foot.1 hk with h | h | ⟨z, hz, _⟩
    · omega
    · omega
    · cases hz
  case round =>
    obtain ⟨left, cnt, Ec, hrg, hDc, hperm, hcw, hft⟩ := hrel
    have HRG := Lib.hid hrg
    have HDC := Lib.hid hDc
    have HP := Lib.hid hperm
    have HCW := Lib.hid hcw
    have HFT := Lib.hid hft
    clear hDc hperm hcw hft
    go_wp2_with (at_next; refine wpList_next_files _ rfl _ rfl bm w1.heap.size E.length E left cnt rfl hrg ?_ ?_)
    · intro _ hl0
      have H : IsCopy w most E (.returned (.pointer (some ⟨a2, 0, none⟩))) wr := by
        refine ⟨a2, bm2, Ec, rfl, HDC.out, ?_, HCW.out, fun k hk => (HFT.out k hk).1⟩
        have := HP.out
        rw [doneE_end hl0] at this
        exact sorted_eq HD.out.sorted HDC.out.sorted this
      have HH := Lib.hid H
      clear H hl0 hrg
      go_wp2
      go_ret
      exact HH.out
    · intro e w3 cnt1 he hle hrg1 hlt hc3 hs3 hen
      have hbmlt : bm < w.heap.size := ownsMap_lt HD.out.map
      have hr1 : w.heap.size ≤ w1.heap.size := HC1.out.size
      have HDC3 := Lib.hid (HDC.out.chg hc3 (fun k hk => (HFT.out k hk).2))
      have HCW3 := Lib.hid (HCW.out.trans hc3 (fun k hk e0 => by omega))
      have HD3 := Lib.hid (HD.out.none_ HCW3.out)
      have hF := HD3.out.files e he
      have hlen := HD3.out.len he
      have hrd := hF.row.slr
      have c0 := HDC3.out.cell0
      have c1 := hF.cell0
      have c2 := hF.cell1
      have HE := Lib.hid (⟨he, hle, hlt⟩ : e ∈ E ∧ left (keyL e.name) = true ∧ cnt1 < cnt)
      have HRG1 := Lib.hid hrg1
      have HF := Lib.hid hF
      have hEc : Hid (Ec.length ≤ E.length) := Lib.hid (by
        have h1 := HP.out.length_eq
        rw [List.length_map, List.length_map] at h1
        rw [h1]
        exact List.length_filter_le _ _)
      have hne0 : ¬ a2 = bm2 := fun h => by
        have := HDC3.out.apart
        rw [foot_eq, List.nodup_cons] at this
        exact this.1 (by simp [h])
      have hne1 : ¬ e.blk = bm2 := fun h => by
        have h1 := HD.out.lt e.blk (DiskAt.mem_foot.2 (.inr (.inr ⟨e, he, .inl rfl⟩)))
        have h2 := (HFT.out bm2 (DiskAt.mem_foot.2 (.inr (.inl rfl)))).1
        omega
      clear hrg1 he hle hlt hc3 hs3 hF hrg
      go_wp2_with fail
      go_region_held3 (fun W => W.cell? ⟨a2, 0, none⟩ = some (.map (some bm2)) ∧ W.cell? ⟨e.blk, 0, none⟩ = some e.sl ∧ W.cell? ⟨e.blk, 1, none⟩ = some (.int .i64 e.sy))
        (first | exact ⟨c0, c1, c2⟩ | exact ⟨k0, k1, k2⟩ | exact ⟨j0, j1, j2⟩ | exact ⟨m0, m1, m2⟩ | go_keep)
        (first | (go_at_call 49; refine (clone_calls e.bs _ _ (by first | exact hrd | exact hrd.drew) (by omega)).mono ?_; rintro e' wq ⟨v, rfl, hv⟩; obtain ⟨A3, c3, hv3, -⟩ := hv.1.shape; subst hv3; have hcq := hv.2.1.from_drew; rw [u8s_length]; have HV := Lib.hid hv; clear hv; have k0 := hcq.cellF c0; have k1 := hcq.cellF c1; have k2 := hcq.cellF c2; have hal := (Chg.refl (fun _ => False) wq).alloc (.cells #[.slice A3 e.bs.length c3, .int .i64 e.sy] 87); have j0 := hal.cellF k0; have j1 := hal.cellF k1; have j2 := hal.cellF k2; obtain ⟨w4, hrun, hm4, hc4⟩ := put_run ((HDC3.out.none_ hcq).none_ hal).map (by have := hEc.out; unfold maxLen; omega) HF.out.key wq.heap.size; have m0 := hc4.cell j0 hne0; have m1 := hc4.cell j1 hne1; have m2 := hc4.cell j2 hne1; have HM4 := Lib.hid hm4; have HC4 := Lib.hid hc4; have HCQ := Lib.hid hcq; clear hm4 hc4 hcq))
      have hal := (Chg.refl (fun _ => False) wq).alloc (.cells #[.slice A3 e.bs.length c3, .int .i64 e.sy] 87)
      have h34 : Chg (fun x => x = bm2) w3 w4 := ((HCQ.out.trans hal (fun _ _ h => h)).mono (fun _ _ h => h.elim)).trans HC4.out (fun _ _ h => h)
      have hbm2 : w.heap.size ≤ bm2 := (HFT.out bm2 (DiskAt.mem_foot.2 (.inr (.inl rfl)))).1
      have hbm2lt : bm2 < w3.heap.size := ownsMap_lt HDC3.out.map
      have hR4 : Ranges w4 bm w1.heap.size E.length E (fun z => left z && !z.sameKey (keyL e.name)) cnt1 := HRG1.out.chg h34 (by omega) (fun h => (HFT.out bm2 (DiskAt.mem_foot.2 (.inr (.inl rfl)))).2 h.symm)
      have hst := doneE_step HD.out.names HE.out.1 HE.out.2.1
      have hno : lookE e.name Ec = none := by
        cases hl : lookE e.name Ec with
        | none => rfl
        | some z =>
          exfalso
          obtain ⟨hz1, hz2⟩ := lookE_mem hl
          obtain ⟨y, hy1, hy2⟩ := List.mem_map.1 ((HP.out.mem_iff).1 (List.mem_map.2 ⟨z, hz1, rfl⟩))
          have hyn : y.name = e.name := (congrArg FR.name hy2).trans hz2
          have := (List.mem_filter.1 hy1).2
          rw [hyn, HE.out.2.1] at this
          simp at this
      have hu : used Ec + e.bs.length ≤ most := by
        have h1 : used Ec = used (doneE left E) := by
          rw [← abs_used, ← abs_used]
          exact (HP.out.map _).sum_nat
        have h2 := used_perm hst
        rw [used_cons] at h2
        have h3 := doneE_le (fun z => left z && !z.sameKey (keyL e.name)) E
        have := HD.out.room
        omega
      have hsz := HV.out.2.1.size
      have hvr : ∀ k ∈ rowBlk (.slice A3 (u8s e.bs).length c3), w3.heap.size ≤ k ∧ k < wq.heap.size := fun k hk => ⟨HV.out.2.2 k hk, HV.out.1.lt k hk⟩
      have hF4 : FileAt w4 ⟨e.name, wq.heap.size, .slice A3 (u8s e.bs).length c3, e.bs, e.sy⟩ := by
        refine ⟨?_, ?_, HF.out.sy, HF.out.key⟩
        · rw [u8s_length]
          exact (HC4.out.block wq.heap.size (by simp) (fun h => by simp at hsz; have h' : wq.heap.size = bm2 := h; omega)).trans (heap_alloc_new wq _)
        · refine HV.out.1.keep fun k hk => ?_
          have := hvr k hk
          exact (HC4.out.block k (Nat.lt_of_lt_of_le this.2 (by simp)) (fun h => by have h' : k = bm2 := h; omega)).trans (Below.heap_alloc wq _ k this.2)
      have hput := ((HDC3.out.none_ HCQ.out).none_ hal).put (x := ⟨e.name, wq.heap.size, .slice A3 (u8s e.bs).length c3, e.bs, e.sy⟩) HM4.out HC4.out hF4 (by
        unfold blks
        rw [List.nodup_cons]
        exact ⟨fun hk => Nat.lt_irrefl _ (hvr wq.heap.size hk).2, rowBlk_nodup _⟩) (fun k hk hk' => by
        have h1 : k ∈ foot a2 bm2 Ec := by
          rw [show (⟨e.name, wq.heap.size, .slice A3 (u8s e.bs).length c3, e.bs, e.sy⟩ : FE).name = e.name from rfl, delE_none hno] at hk'
          exact hk'
        have h2 := HDC3.out.lt k h1
        rcases List.mem_cons.1 hk with h | h
        · simp at hsz
          have h' : k = wq.heap.size := h
          omega
        · have := hvr k h; omega) (by
        rw [show (⟨e.name, wq.heap.size, .slice A3 (u8s e.bs).length c3, e.bs, e.sy⟩ : FE).name = e.name from rfl, delE_none hno]
        exact hu)
      rw [show (⟨e.name, wq.heap.size, .slice A3 (u8s e.bs).length c3, e.bs, e.sy⟩ : FE).name = e.name from rfl, delE_none hno] at hput
      have hper2 : ((insE ⟨e.name, wq.heap.size, .slice A3 (u8s e.bs).length c3, e.bs, e.sy⟩ Ec).map FE.abs).Perm ((doneE (fun z => left z && !z.sameKey (keyL e.name)) E).map FE.abs) := by
        refine ((ins_perm _ Ec).map _).trans (List.Perm.trans ?_ (hst.map _).symm)
        exact HP.out.cons _
      have hft4 : ∀ k ∈ foot a2 bm2 (insE ⟨e.name, wq.heap.size, .slice A3 (u8s e.bs).length c3, e.bs, e.sy⟩ Ec), w.heap.size ≤ k ∧ k ≠ w1.heap.size := by
        have hw3 : w.heap.size ≤ w3.heap.size := HCW3.out.size
        have hr3 : w1.heap.size < w3.heap.size := HRG1.out.lt
        intro k hk
        rcases DiskAt.mem_foot.1 hk with h | h | ⟨z, hz, h⟩
        · exact HFT.out k (DiskAt.mem_foot.2 (.inl h))
        · exact HFT.out k (DiskAt.mem_foot.2 (.inr (.inl h)))
        · rcases mem_ins.1 hz with hzx | hz
          · subst hzx
            rcases h with h | h
            · simp at hsz
              have h' : k = wq.heap.size := h
              omega
            · have := hvr k h; omega
          · exact HFT.out k (DiskAt.mem_foot.2 (.inr (.inr ⟨z, hz, h⟩)))
      have HX := Lib.hid (⟨_, _, _, hR4, hput, hper2, HCW3.out.trans h34 (fun k hk h => by omega), hft4⟩ : ∃ (left : Lit → Bool) (cnt : Nat) (Ec : List FE), Ranges w4 bm w1.heap.size E.length E left cnt ∧ DiskAt w4 a2 most Ec bm2 ∧ (Ec.map FE.abs).Perm ((doneE left E).map FE.abs) ∧ Chg (fun _ => False) w w4 ∧
          (∀ k ∈ foot a2 bm2 Ec, w.heap.size ≤ k ∧ k ≠ w1.heap.size))
      have HR4 := Lib.hid hR4
      clear hal h34 hst hno hu hvr hF4 hput hper2 hft4 hR4 hsz hbm2 hbm2lt
      go_wp2
      go_roundw
      case rel => exact HX.out
      case measure => rw [HR4.out.left_eq, HRG.out.left_eq]; exact HE.out.2.2

end Go.Proofs.Ytoflmhdgojenpaa
