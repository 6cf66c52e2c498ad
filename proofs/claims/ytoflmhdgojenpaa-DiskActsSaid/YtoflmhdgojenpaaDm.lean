/- What (*Disk).Append does. -/
import Derived.Test.YtoflmhdgojenpaaDl
import Derived.IntWalk
namespace Go.Proofs.Ytoflmhdgojenpaa
open Go.RowKit Go.Maps Go.WideMaps Go.WideElems

theorem DiskAt.drew {w : World} {a most bm : Nat} {E : List FE} (h : DiskAt w a most E bm) : DiskAt w.drew a most E bm := h.keep fun _ _ => rfl
theorem DiskAt.drewN {w : World} {a most bm : Nat} {E : List FE} (h : DiskAt w a most E bm) (n : Nat) : DiskAt (w.drewN n) a most E bm := h.keep fun _ _ => rfl

def usedL (L : List FR) : Nat := (L.map fun f => f.bs.length).sum
theorem abs_used (E : List FE) : usedL (E.map FE.abs) = used E := by
  unfold usedL used
  rw [List.map_map]
  rfl

def appL (most : Nat) (n : ByteArray) (b : List Int) (L : List FR) : List FR × Int :=
  if namedB n = false then (L, 1)
  else if (most : Int) - usedL L < b.length then (L, 4)
  else match lookL n L with
    | none => (insL ⟨n, b, 0⟩ L, 0)
    | some f => (setL { f with bs := f.bs ++ b } L, 0)

/-- The slice that is handed in can be read, and is none of the disk's. -/
structure ArgOk (w : World) (v : Value) (bs : List Int) (foot : List Nat) : Prop where
  rd : SlR w v (u8s bs)
  out : ∀ k ∈ rdBlk v, k ∉ foot

theorem setL_insL {x y : FR} (hn : x.name = y.name) : ∀ L : List FR, (∀ f ∈ L, f.name ≠ x.name) → setL x (insL y L) = insL x L
  | [], _ => by simp [setL, insL, hn]
  | f :: r, h => by
    have hf : f.name ≠ x.name := h f (by simp)
    simp only [insL, hn]
    by_cases hb : before y.name f.name = true
    · rw [if_pos hb, if_pos hb]
      have : setL x r = r := by
        unfold setL
        conv => rhs; rw [← List.map_id r]
        exact List.map_congr_left fun z hz => if_neg (h z (by simp [hz]))
      unfold setL at *
      simp only [List.map_cons, this]
      rw [if_pos hn.symm, if_neg hf]
    · rw [if_neg hb, if_neg hb]
      have ih := setL_insL hn r (fun z hz => h z (by simp [hz]))
      unfold setL at *
      simp only [List.map_cons, ih]
      rw [if_neg hf]

/-- Bytes are put behind a file's: the store of the longer row into the file's block. -/
theorem app_done {w w1 : World} {a most bm : Nat} {E : List FE} (hD : DiskAt w a most E bm) {n : ByteArray} {e : FE} (hlk : lookE n E = some e) {b : List Int} (hroom : used E + b.length ≤ most) {v' : Value}
    (hrow : Row1 w1 5 v' (u8s (e.bs ++ b))) (hc : Chg (fun k => k ∈ rowBlk e.sl) w w1) (hblk : ∀ k ∈ rowBlk v', k ∈ rowBlk e.sl ∨ w.heap.size ≤ k) (ret : Value) :
    Mut w a most bm E (setL { e.abs with bs := e.bs ++ b } (E.map FE.abs)) ret (.returned ret) (w1.setCell ⟨e.blk, 0, none⟩ v') := by
  have hm := (lookE_mem hlk).1
  have hF := hD.files e hm
  have hnd := hD.blks_nodup hm
  have hlt := lt_of_block hF.blk
  have hblk1 : w1.heap[e.blk]? = w.heap[e.blk]? := hc.block _ hlt (fun hk => blks_ne hnd _ hk rfl)
  refine Mut.upd (x := { e with sl := v', bs := e.bs ++ b }) hD hlk rfl rfl ⟨?_, ?_, ?_, hF.key⟩ hblk ((hc.mono (fun k _ hk => by simp [blks, hk])).set (fun _ => by simp [blks]) _) ?_ _
  · have := set_blk (hblk1.trans hF.blk) 0 v'
    have h4 : (w1.setCell ⟨e.blk, 0, none⟩ v').heap[e.blk]? = some (.cells #[v', .int .i64 e.sy] 87 (0, 0)) := by simpa using this
    exact h4
  · refine hrow.keep fun k hk => Below.heap_setCell w1 _ _ k ?_
    rcases hblk k hk with h | h
    · exact blks_ne hnd k h
    · have : e.blk < w.heap.size := hlt
      intro e0
      have e0' : k = e.blk := e0
      omega
  · show e.sy ≤ (e.bs ++ b).length
    have := hF.sy
    rw [List.length_append]
    omega
  · have := hD.room
    have := len_le_used hm
    show used E - e.bs.length + (e.bs ++ b).length ≤ most
    rw [List.length_append]
    omega

/-- A file of no bytes comes. -/
theorem new_file {w w1 w2 : World} {a most bm : Nat} {E : List FE} {m : Nat} (hD : DiskAt w a most E bm) {n : ByteArray} (hn : n.size ≤ maxLen) (hlk : lookE n E = none) (hw : w1 = w.alloc (.cells #[.slice none 0 0, .int .i64 0] 87))
    (hm : w2.ownsMap Try.prog 9 ptrR bm m ((dOf E).put (keyL n) (blkD w.heap.size))) (hc : Chg (fun k => k = bm) w1 w2) :
    DiskAt w2 a most (insE ⟨n, w.heap.size, .slice none 0 0, [], 0⟩ E) bm ∧ lookE n (insE ⟨n, w.heap.size, .slice none 0 0, [], 0⟩ E) = some ⟨n, w.heap.size, .slice none 0 0, [], 0⟩ := by
  subst hw
  have hD1 : DiskAt (w.alloc (.cells #[.slice none 0 0, .int .i64 0] 87)) a most E bm := hD.none_ ((Chg.refl _ w).alloc _)
  have hbm : bm < w.heap.size := ownsMap_lt hD.map
  have hF : FileAt w2 ⟨n, w.heap.size, .slice none 0 0, [], 0⟩ := by
    refine ⟨?_, Row1.none_ _ _ _, Nat.le_refl _, hn⟩
    exact (hc.block w.heap.size (by simp) (fun e0 => by omega)).trans (heap_alloc_new w _)
  have hp := hD1.put (x := ⟨n, w.heap.size, .slice none 0 0, [], 0⟩) hm hc hF (by simp [blks, rowBlk]) (fun k hk hk' => by
    simp [blks, rowBlk] at hk
    subst hk
    rw [delE_none hlk] at hk'
    have := hD.lt _ hk'
    omega) (by
    rw [delE_none hlk]
    have := hD.room
    simpa using this)
  have hpp : insE ⟨n, w.heap.size, .slice none 0 0, [], 0⟩ (delE n E) = insE ⟨n, w.heap.size, .slice none 0 0, [], 0⟩ E := by rw [delE_none hlk]
  rw [show (⟨n, w.heap.size, .slice none 0 0, [], 0⟩ : FE).name = n from rfl, hpp] at hp
  refine ⟨hp, ?_⟩
  have hmem : (⟨n, w.heap.size, .slice none 0 0, [], 0⟩ : FE) ∈ insE ⟨n, w.heap.size, .slice none 0 0, [], 0⟩ E := mem_ins.2 (.inl rfl)
  cases hl : lookE n (insE ⟨n, w.heap.size, .slice none 0 0, [], 0⟩ E) with
  | none =>
    unfold lookE at hl
    have := List.find?_eq_none.1 hl _ hmem
    simp at this
  | some e =>
    obtain ⟨h1, h2⟩ := lookE_mem hl
    rcases mem_ins.1 h1 with rfl | h1
    · rfl
    · unfold lookE at hlk
      have := List.find?_eq_none.1 hlk e h1
      simp [h2] at this

set_option maxRecDepth 100000 in
set_option maxHeartbeats 2000000 in
theorem append_calls {w : World} {a most bm : Nat} {E : List FE} (hD : DiskAt w a most E bm) (n : ByteArray) (bv : Value) (bs : List Int) (hb : ArgOk w bv bs (foot a bm E)) (hE : E.length < maxLen) (hbs : bs.length ≤ 35184372088832) :
    Calls Try.prog 14 #[dptr a, .string n, bv] w (Mut w a most bm E (appL most n bs (E.map FE.abs)).1 (codeV (appL most n bs (E.map FE.abs)).2)) := by
  have h0 := hD.cell0
  have h1 := hD.cell1
  have hsm := hD.small
  have hro := hD.room
  obtain ⟨A, c, rfl, hlc, -⟩ := hb.rd
  unfold dptr
  unfold appL
  rw [← abs_look, abs_used]
  by_cases hnm : namedB n = true
  · rw [if_neg (by rw [hnm]; simp)]
    have hn : n.size ≤ maxLen := by
      simp [namedB] at hnm
      unfold maxLen
      omega
    have H1 := Lib.hid hnm
    clear hnm
    have hwr : IntKind.i64.wrap ((most : Int) - (used E : Int)) = (most : Int) - (used E : Int) := IntWalk.i64_in _ (by omega)
    by_cases hfull : (most : Int) - (used E : Int) < (bs.length : Int)
    · rw [if_pos hfull]
      show Calls _ _ _ _ (Mut w a most bm E (E.map FE.abs) (.int .i64 4))
      rw [u8s_length]
      have HD := Lib.hid hD
      have Hb := Lib.hid hb
      clear hD hb hlc
      go_enter Try.func14, Try.ntmps14
      go_wp2_with (go_at_call 48; refine (named_calls _ _ true H1.out).mono ?_; rintro e w' ⟨rfl, rfl⟩)
      go_region_held3 (fun w' => w'.cell? ⟨a, 1, none⟩ = some (.int .i64 most)) (first | exact h1 | exact k1 | go_keep)
        (first | (go_at_call 46; refine (used_calls (by first | exact HD.out | exact HD.out.drew)).mono ?_; rintro e' w' ⟨rfl, hc⟩; have k1 := hc.cellF h1))
      have hc0 : Chg (fun _ => False) w w' := hc.from_drew
      have H := Mut.none_ HD.out hc0 (.int .i64 4)
      clear hc0 hc HD
      go_wp2
      go_ret
      exact H
    · rw [if_neg hfull]
      have Hful : Hid (used E + bs.length ≤ most) := Lib.hid (by omega)
      have HD := Lib.hid hD
      have Hb := Lib.hid hb
      cases hlk : lookE n E with
      | none =>
        have Hlk := Lib.hid hlk
        have hlk' := hlk
        show Calls _ _ _ _ (Mut w a most bm E (insL ⟨n, bs, 0⟩ (E.map FE.abs)) (.int .i64 0))
        rw [u8s_length]
        clear hD hb hlc hlk hlk'
        go_enter Try.func14, Try.ntmps14
        go_wp2_with (go_at_call 48; refine (named_calls _ _ true H1.out).mono ?_; rintro e w' ⟨rfl, rfl⟩)
        go_region_held3 (fun w' => w'.cell? ⟨a, 1, none⟩ = some (.int .i64 most)) (first | exact h1 | exact k1 | go_keep)
          (first | (go_at_call 46; refine (used_calls (by first | exact HD.out | exact HD.out.drew)).mono ?_; rintro e' w' ⟨rfl, hc⟩; have k1 := hc.cellF h1))
        have HD1 := Lib.hid (HD.out.none_ hc.from_drew)
        have hc1 := Lib.hid hc.from_drew
        have k0 := HD1.out.cell0
        have hl1 := look_run HD1.out.map hn
        rw [ptrOf_none Hlk.out] at hl1
        have hmap1 := HD1.out.map
        clear hc h0 h1 HD hwr
        go_wp2_with (at_mapUpdate; refine wpList_put_file _ rfl _ _ _ rfl bm E _ rfl (ownsMap_keep hmap1 (Below.heap_alloc w' _ bm (ownsMap_lt hmap1))) hE n rfl hn w'.heap.size rfl ?_)
        intro w2 hm2 hc2
        have hnew := Lib.hid (new_file HD1.out hn Hlk.out rfl hm2 hc2)
        have hD2 := hnew.out.1
        have hF2 := hD2.files _ (lookE_mem hnew.out.2).1
        have j0 := hD2.cell0
        have hl2 := look_run hD2.map hn
        rw [ptrOf_some hnew.out.2] at hl2
        have j1 := hF2.cell0
        have hrd := Hb.out.rd
        have hc12 : Chg (fun k => k = bm) w w2 := ((hc1.out.alloc _).mono (fun _ _ hf => hf.elim)).trans hc2 (fun _ _ h => h)
        have hrd2 := hrd.chg hc12 (fun k hk e0 => Hb.out.out k hk (by rw [e0]; exact DiskAt.mem_foot.2 (.inr (.inl rfl))))
        have Hc12 := Lib.hid hc12
        clear hl1 k0 k1 hmap1 hm2 hc2 hD2 hF2 hrd hc12
        rw [u8s_length] at hrd2
        go_wp2_with (at_builtin; refine wpList_append_bytes _ rfl _ _ rfl _ [] rfl ?g1 _ bs rfl ?g2 ?g3 ?g4)
        case g1 => exact Row1.none_ _ _ _
        case g3 => first | omega | (simp only [List.length_nil]; omega)
        case g4 =>
          intro v' w3 hrow hc3 hblk
          obtain ⟨A2, c2, hv, -⟩ := hrow.shape
          subst hv
          have hdone := app_done (b := bs) hnew.out.1 hnew.out.2 (by
            rw [used_perm (ins_perm _ _), used_cons]
            have := Hful.out
            simp only [List.length_nil]
            omega) (w1 := w3) (by simpa using hrow) hc3 hblk (.int .i64 0)
          have hD3 := hnew.out.1
          have hF3 := hD3.files _ (lookE_mem hnew.out.2).1
          have e0 : w3.heap[w'.heap.size]? = some (.cells #[.slice none 0 0, .int .i64 0] 87 (0, 0)) := (hc3.block _ (lt_of_block hF3.blk) (by simp [rowBlk])).trans hF3.blk
          have e1 := (cell_of_blk e0 0).trans rfl
          have e2 := frozen_of_blk e0 0
          have H : Mut w a most bm E (insL ⟨n, bs, 0⟩ (E.map FE.abs)) (.int .i64 0) (.returned (.int .i64 0)) (w3.setCell ⟨w'.heap.size, 0, none⟩ (.slice A2 (u8s ([] ++ bs)).length c2)) := by
            obtain ⟨E', he, hd', habs, hch, hft⟩ := hdone
            have hsubf : ∀ k ∈ foot a bm (insE ⟨n, w'.heap.size, .slice none 0 0, [], 0⟩ E), k ∈ foot a bm E ∨ w.heap.size ≤ k := by
              intro k hk
              rcases DiskAt.mem_foot.1 hk with rfl | rfl | ⟨z, hz, hk⟩
              · exact .inl (DiskAt.mem_foot.2 (.inl rfl))
              · exact .inl (DiskAt.mem_foot.2 (.inr (.inl rfl)))
              · rcases mem_ins.1 hz with rfl | hz
                · simp [rowBlk] at hk
                  exact .inr (by have := hc1.out.size; omega)
                · exact .inl (DiskAt.mem_foot.2 (.inr (.inr ⟨z, hz, hk⟩)))
            refine ⟨E', he, hd', ?_, (Hc12.out.mono (fun k _ hk => by rw [hk]; exact DiskAt.mem_foot.2 (.inr (.inl rfl)))).trans hch (fun k hk hk2 => (hsubf k hk2).resolve_right (by omega)), fun k hk => ?_⟩
            · rw [habs, abs_ins]
              have hz := setL_insL (x := ⟨n, bs, 0⟩) (y := ⟨n, [], 0⟩) rfl (E.map FE.abs) (fun f hf => by
                obtain ⟨z, hz, rfl⟩ := List.mem_map.1 hf
                have := List.find?_eq_none.1 Hlk.out z hz
                show ¬ z.name = n
                simpa using this)
              exact hz
            · rcases hft k hk with h | h
              · exact hsubf k h
              · exact .inr (Nat.le_trans Hc12.out.size h)
          rw [u8s_length, List.nil_append] at H
          clear hdone hD3 hF3 hrow hc3 hblk e0 hrd2 j1 hl2 j0
          go_wp2
          go_ret
          exact H
      | some e =>
        have Hlk := Lib.hid hlk
        show Calls _ _ _ _ (Mut w a most bm E (setL { e.abs with bs := e.bs ++ bs } (E.map FE.abs)) (.int .i64 0))
        rw [u8s_length]
        clear hD hb hlc hlk
        go_enter Try.func14, Try.ntmps14
        go_wp2_with (go_at_call 48; refine (named_calls _ _ true H1.out).mono ?_; rintro e w' ⟨rfl, rfl⟩)
        go_region_held3 (fun w' => w'.cell? ⟨a, 1, none⟩ = some (.int .i64 most)) (first | exact h1 | exact k1 | go_keep)
          (first | (go_at_call 46; refine (used_calls (by first | exact HD.out | exact HD.out.drew)).mono ?_; rintro e' w' ⟨rfl, hc⟩; have k1 := hc.cellF h1))
        have HD1 := Lib.hid (HD.out.none_ hc.from_drew)
        have hc1 := Lib.hid hc.from_drew
        have k0 := HD1.out.cell0
        have hl1 := look_run HD1.out.map hn
        rw [ptrOf_some Hlk.out] at hl1
        have hF1 := HD1.out.files _ (lookE_mem Hlk.out).1
        have j1 := hF1.cell0
        have hrd := Hb.out.rd.chg hc1.out (fun _ _ hf => hf)
        have hrow0 := Lib.hid hF1.row
        have hlen := HD1.out.len (lookE_mem Hlk.out).1
        rw [u8s_length] at hrd
        clear hc h0 h1 HD hwr hF1
        go_wp2_with (at_builtin; refine wpList_append_bytes _ rfl _ _ rfl _ e.bs rfl ?j1 _ bs rfl ?j2 ?j3 ?j4)
        case j1 => exact hrow0.out
        case j2 => exact hrd
        case j3 => omega
        case j4 =>
          intro v' w3 hrow hc3 hblk
          obtain ⟨A2, c2, hv, -⟩ := hrow.shape
          subst hv
          have hdone := app_done (b := bs) HD1.out Hlk.out Hful.out (w1 := w3) hrow hc3 hblk (.int .i64 0)
          have hF3 := HD1.out.files _ (lookE_mem Hlk.out).1
          have hnd := HD1.out.blks_nodup (lookE_mem Hlk.out).1
          have e0 : w3.heap[e.blk]? = some (.cells #[e.sl, .int .i64 e.sy] 87 (0, 0)) := (hc3.block _ (lt_of_block hF3.blk) (fun hk => blks_ne hnd _ hk rfl)).trans hF3.blk
          have e1 : w3.cell? ⟨e.blk, 0, none⟩ = some e.sl := (cell_of_blk e0 0).trans rfl
          have e2 := frozen_of_blk e0 0
          have H : Mut w a most bm E (setL { e.abs with bs := e.bs ++ bs } (E.map FE.abs)) (.int .i64 0) (.returned (.int .i64 0)) (w3.setCell ⟨e.blk, 0, none⟩ (.slice A2 (u8s (e.bs ++ bs)).length c2)) := by
            obtain ⟨E', he, hd', habs, hch, hft⟩ := hdone
            exact ⟨E', he, hd', habs, (hc1.out.mono (fun _ _ hf => hf.elim)).trans hch (fun _ _ h => h), fun k hk => (hft k hk).imp id (fun h => Nat.le_trans hc1.out.size h)⟩
          rw [u8s_length, List.length_append] at H
          clear hdone hF3 hrow hc3 hblk e0 hrd j1 hl1 k0 k1 hnd
          go_wp2
          go_ret
          exact H
  · have hnm : namedB n = false := by simpa using hnm
    rw [if_pos hnm]
    have H1 := Lib.hid hnm
    have H : Mut w a most bm E (E.map FE.abs) (.int .i64 1) (.returned (.int .i64 1)) w := Mut.same hD _
    clear hnm hD hb
    show Calls _ _ _ _ (Mut w a most bm E (E.map FE.abs) (.int .i64 1))
    go_enter Try.func14, Try.ntmps14
    go_wp2_with (go_at_call 48; refine (named_calls _ _ false H1.out).mono ?_; rintro e w' ⟨rfl, rfl⟩)
    go_ret
    exact H

end Go.Proofs.Ytoflmhdgojenpaa
