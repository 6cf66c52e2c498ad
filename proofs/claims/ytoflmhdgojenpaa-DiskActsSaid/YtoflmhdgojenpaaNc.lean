/- Without and Put of the document's answer. -/
import Derived.Test.YtoflmhdgojenpaaNb
namespace Go.Proofs.Ytoflmhdgojenpaa
open Go.RowKit Go.Maps Go.WideMaps Go.WideElems

/-- Files that are answered: in new blocks. -/
def RetFs (w : World) (l : List RE) (e : Ending) (w' : World) : Prop := ∃ v, e = .returned v ∧ Fs w' v l ∧ Chg (fun _ => False) w w' ∧ ∀ y ∈ rdBlkN v, w.heap.size ≤ y

theorem fileinfo : (Try.prog.info? 91).map (fun i => (i.zero, i.size, i.bytes)) = some (some (.agg #[.string ByteArray.empty, .slice none 0 0, .int .i64 0]), 3, 48) := by kernel_rfl
theorem cellsR_app (l m : List RE) : cellsR (l ++ m) = cellsR l ++ cellsR m := by simp [cellsR]
theorem cellsR_take (l : List RE) {k : Nat} (hk : k ≤ l.length) : (cellsR l).take (k * 3) = cellsR (l.take k) := by
  conv => lhs; rw [← List.take_append_drop k l, cellsR_app]
  refine List.take_left' ?_
  rw [cellsR_length, List.length_take, Nat.min_eq_left hk]
theorem cellsR_drop (l : List RE) {k : Nat} (hk : k ≤ l.length) : (cellsR l).drop (k * 3) = cellsR (l.drop k) := by
  conv => lhs; rw [← List.take_append_drop k l, cellsR_app]
  refine List.drop_left' ?_
  rw [cellsR_length, List.length_take, Nat.min_eq_left hk]
theorem Fs.takeN {w : World} {A : Option Addr} {c : Nat} {l : List RE} (h : Fs w (.slice A l.length c) l) {k : Nat} (hk : k ≤ l.length) : SlN w 3 (.slice A k c) (l.take k).length (cellsR (l.take k)) := by
  rw [← cellsR_take l hk, List.length_take, Nat.min_eq_left hk]
  exact h.sl.take hk
theorem Fs.dropN {w : World} {ad : Addr} {c : Nat} {l : List RE} (h : Fs w (.slice (some ad) l.length c) l) {k : Nat} (hk : k ≤ l.length) : SlN w 3 (.slice (some (ad.add (k * 3))) (l.length - k) (c - k)) (l.drop k).length (cellsR (l.drop k)) := by
  rw [← cellsR_drop l hk, List.length_drop]
  exact h.sl.drop hk
theorem Fs.dropC {w : World} {ad : Addr} {c : Nat} {l : List RE} (h : Fs w (.slice (some ad) l.length c) l) {k : Nat} (hk : k ≤ l.length) :
    SlN w 3 (.slice (if c = k then some ad else some (ad.add (k * 3))) (l.length - k) (c - k)) (l.drop k).length (cellsR (l.drop k)) := by
  split
  · rename_i hc
    obtain ⟨-, A', c', he, hlc, -⟩ := h.sl
    injection he with e1 e2 e3
    have hl : l.length = k := by omega
    rw [hl, List.drop_eq_nil_of_le (by omega), Nat.sub_self]
    exact SlN.empty _ _ _ _
  · exact h.dropN hk
theorem REok.one {w : World} {x : RE} (h : REok w x) : x.v.oneCell' = true := by
  obtain ⟨A, c, hv, -⟩ := h.rd
  rw [hv]
  rfl
theorem cellsR_one {l : List RE} (h : ∀ x ∈ l, x.v.oneCell' = true) : ∀ u ∈ cellsR l, u.oneCell' = true := by
  intro u hu
  obtain ⟨x, hx, hu⟩ := List.mem_flatMap.1 hu
  simp only [RE.cells, List.mem_cons, List.not_mem_nil, or_false] at hu
  rcases hu with rfl | rfl | rfl
  · rfl
  · exact h x hx
  · rfl
/-- 'append(v, x..)' of files, in a drawn region. -/
theorem step_append_files (w : World) {ops : Array Oper} {o : Oper} {a : Act} {K : Act → World → Prop} {Q : Exit → Act → World → Prop} {E : Prop} (hgd : o.guard = none) (s x : Operand)
    (ho : o.op = .call { callee := .builtin .append, args := #[s, x], argTypes := #[35, 35] })
    (v : Value) (l : List RE) (hs : a.eval s = v) (hown : RowN w 91 3 v l.length (cellsR l)) (u : Value) (news : List RE) (hx : a.eval x = u) (hnews : SlN w 3 u news.length (cellsR news))
    (h1 : ∀ x ∈ news, x.v.oneCell' = true) (hlen : l.length + news.length ≤ 100000)
    (h : ∀ v' w', RowN w' 91 3 v' (l ++ news).length (cellsR (l ++ news)) → Chg (fun k => k ∈ rowBlk v) w w' → (∀ k ∈ rowBlk v', k ∈ rowBlk v ∨ w.heap.size ≤ k) → K (a.put o.dst v') w') :
    if Region.wanted o (yielded ops a.tmps) = true then Oper.wp Try.prog o a w K Q else E := by
  obtain ⟨i0, hi, hz0, hz1, hz2⟩ := info_parts fileinfo
  refine step_append_rowN w hgd s x 35 ho 91 i0 _ 3 48 Try.underlying35 hi hz0 hz1 hz2 rfl (by omega) v l.length (cellsR l) hs hown u news.length (cellsR news) hx hnews (cellsR_one h1) (by omega) (by omega) ?_
  intro v' w' h2 h3 h4
  rw [← cellsR_app, ← List.length_append] at h2
  exact h v' w' h2 h3 h4
theorem Fs.of_row {w : World} {v : Value} {l : List RE} (h : RowN w 91 3 v l.length (cellsR l)) (hf : l.length ≤ 1000) (ha : ∀ x ∈ l, REok w x) : Fs w v l := by
  obtain ⟨A, c, hv, h1, h2⟩ := h.shape
  exact ⟨h.sl, ⟨A, c, hv, h2⟩, hf, ha⟩

set_option maxRecDepth 100000 in
set_option maxHeartbeats 4000000 in
theorem without_calls (v : Value) (l : List RE) (k : Nat) (w : World) (h : Fs w v l) (hk : k < l.length) : Calls Try.prog 52 #[v, .int .i64 k] w (RetFs w (l.take k ++ l.drop (k + 1))) := by
  have HA := Lib.hid h
  obtain ⟨A, c, rfl, h1⟩ := h.cap
  have h2 := h.few
  obtain ⟨ad, rfl, -⟩ := h.get hk
  clear h
  have hw1 : IntKind.i64.wrap ((k : Int) + 1) = (k : Int) + 1 := IntWalk.i64_in _ (by omega)
  obtain ⟨-, A', c', he, hlc, -⟩ := HA.out.sl
  injection he with e1 e2 e3
  subst e3
  have b1 : (0 : Int) ≤ (k : Int) := by omega
  have b2 : (k : Int) ≤ (c : Int) := by omega
  have b3 : (0 : Int) ≤ (k : Int) + 1 := by omega
  have b4 : (k : Int) + 1 ≤ (l.length : Int) := by omega
  have b5 : (l.length : Int) ≤ (c : Int) := by omega
  have b6 : (k : Int) ≤ (l.length : Int) := by omega
  clear e1
  go_enter Try.func52, Try.ntmps52
  go_wp2_with fail
  have k0 : Chg (fun _ => False) w w.drew := (Chg.refl _ w).drew
  go_region_held3 (fun W => Chg (fun _ => False) w W) (first | exact k0 | exact k0.alloc _ | exact k1 | exact k2)
    (first
      | (refine step_append_files _ rfl _ _ rfl (.slice (some ⟨w.heap.size, 0, none⟩) 0 0) [] rfl (RowN.nil_ _ _ _ _) (.slice (some ad) k c) (l.take k) rfl ((HA.out.none_ (by assumption)).takeN (by omega)) (fun x hx => (HA.out.all x (List.mem_of_mem_take hx)).one) (by simp; omega) ?_
         intro v1 W1 hrow1 hc1 hb1
         have k1 : Chg (fun _ => False) w W1 := Chg.trans (by assumption) hc1 (by simp [rowBlk])
         obtain ⟨A1, c1, hv1, -, -⟩ := hrow1.shape
         subst hv1
         have HROW := Lib.hid hrow1
         have HB1 : Hid (∀ x ∈ rowBlk (.slice A1 ([] ++ l.take k).length c1), w.heap.size ≤ x) := Lib.hid (fun x hx => by
           rcases hb1 x hx with h | h
           · simp [rowBlk] at h
           · exact Nat.le_trans (by simp) h)
         clear hrow1 hb1 hc1)
      | (refine step_append_files _ rfl _ _ rfl (.slice A1 ([] ++ l.take k).length c1) ([] ++ l.take k) rfl HROW.out (.slice (if c = k + 1 then some ad else some (ad.add ((k + 1) * 3))) (l.length - (k + 1)) (c - (k + 1))) (l.drop (k + 1)) rfl ((HA.out.none_ k1).dropC (by omega)) (fun x hx => (HA.out.all x (List.mem_of_mem_drop hx)).one) (by simp; omega) ?_
         intro v2 W2 hrow2 hc2 hb2
         have k2 : Chg (fun _ => False) w W2 := Chg.trans k1 hc2 (fun x hx hm => by have := HB1.out x hm; omega)
         obtain ⟨A2, c2, hv2, -, -⟩ := hrow2.shape
         subst hv2
         have HROW2 := Lib.hid hrow2
         have HB2 : Hid (∀ x ∈ rowBlk (.slice A2 ([] ++ l.take k ++ l.drop (k + 1)).length c2), w.heap.size ≤ x) := Lib.hid (fun x hx => by
           rcases hb2 x hx with h | h
           · exact HB1.out x h
           · exact Nat.le_trans k1.size h)
         clear hrow2 hb2 hc2)
      | (trace_state; fail))
  have H : RetFs w (l.take k ++ l.drop (k + 1)) (.returned (.slice A2 ([] ++ l.take k ++ l.drop (k + 1)).length c2)) W2 := by
    refine ⟨_, rfl, ?_, k2, fun y hy => HB2.out y (HROW2.out.rd y hy)⟩
    have h := HROW2.out
    rw [List.nil_append] at h
    refine Fs.of_row h (by simp; omega) (fun x hx => (HA.out.all x ?_).none_ k2)
    rcases List.mem_append.1 hx with h | h
    · exact List.mem_of_mem_take h
    · exact List.mem_of_mem_drop h
  rw [show ([] ++ l.take k ++ l.drop (k + 1) : List RE).length = min k l.length + (l.length - (k + 1)) by simp] at H
  have HH := Lib.hid H
  clear H k2 k1
  go_wp2
  all_goals
    go_ret
    exact HH.out

/-- Files and one more, ahead of the first whose name isn't before its own. -/
def putR (x : RE) : List RE → List RE
  | [] => [x]
  | y :: r => if before y.name x.name = true then y :: putR x r else x :: y :: r
theorem putR_at (x : RE) : ∀ (l : List RE) (p : Nat), p ≤ l.length → (∀ j (hj : j < l.length), j < p → before (l[j]).name x.name = true) → (∀ (h : p < l.length), before (l[p]).name x.name = false) → putR x l = l.take p ++ x :: l.drop p
  | [], p, hp, _, _ => by
    have : p = 0 := by simpa using hp
    subst this
    rfl
  | y :: r, 0, _, _, h2 => by
    have := h2 (by simp)
    simp only [List.getElem_cons_zero] at this
    simp [putR, this]
  | y :: r, p + 1, hp, h1, h2 => by
    have h0 := h1 0 (by simp) (by omega)
    simp only [List.getElem_cons_zero] at h0
    rw [putR, if_pos h0, putR_at x r p (by simpa using hp) (fun j hj hjp => h1 (j + 1) (by simpa using hj) (by omega)) (fun h => h2 (by simpa using h))]
    rfl
def RE.val (x : RE) : Value := .agg #[.string x.name, x.v, .int .i64 x.sy]

theorem less_before : ∀ (a b : List UInt8), Op.bytesLess a b = bytesBefore a b
  | [], [] => by simp [Op.bytesLess, bytesBefore]
  | _ :: _, [] => by simp [Op.bytesLess, bytesBefore]
  | [], _ :: _ => by simp [Op.bytesLess, bytesBefore]
  | x :: r, y :: s => by simp [Op.bytesLess, bytesBefore, less_before r s]
theorem before_str (a b : ByteArray) : Op.bytesLess a.toList b.toList = before a b := by
  rw [ByteArray.toList_eq, ByteArray.toList_eq]
  exact less_before _ _
theorem put_keep {w W : World} {b : Nat} {u0 u1 u2 : Value} (hc : Chg (fun _ => False) w W) (h : w.cell? { block := b, off := 0 } = some u0 ∧ w.cell? { block := b, off := 1 } = some u1 ∧ w.cell? { block := b, off := 2 } = some u2) :
    Chg (fun _ => False) w W ∧ W.cell? { block := b, off := 0 } = some u0 ∧ W.cell? { block := b, off := 1 } = some u1 ∧ W.cell? { block := b, off := 2 } = some u2 :=
  ⟨hc, hc.cellF h.1, hc.cellF h.2.1, hc.cellF h.2.2⟩
theorem sl_one (w : World) (x : RE) {v : Value} (hv : x.v = v) (t : Nat) (m : Nat × Nat) : SlN (w.alloc (.cells #[.string x.name, v, .int .i64 x.sy] t m)) 3 (.slice (some ⟨w.heap.size, 0, none⟩) 1 1) [x].length (cellsR [x]) := by
  subst hv
  refine ⟨rfl, _, _, rfl, Nat.le_refl _, fun _ => ⟨_, rfl, fun j u hu => ?_⟩⟩
  rw [add_lit0, cell_new]
  simpa [cellsR, RE.cells] using hu
theorem sl_oneB (w : World) (x : RE) {v : Value} (hv : x.v = v) (t : Nat) (m : Nat × Nat) (b : Nat) (hb : w.heap.size = b) : SlN (w.alloc (.cells #[.string x.name, v, .int .i64 x.sy] t m)) 3 (.slice (some ⟨b, 0, none⟩) 1 1) [x].length (cellsR [x]) := by
  subst hb
  exact sl_one w x hv t m
theorem drop_nil (w : World) (A : Option Addr) (c : Nat) {l : List RE} {k : Nat} (hk : l.length ≤ k) : SlN w 3 (.slice A (l.length - k) c) (l.drop k).length (cellsR (l.drop k)) := by
  rw [List.drop_eq_nil_of_le hk, Nat.sub_eq_zero_of_le hk]
  exact SlN.empty _ _ _ _
theorem put_end {w W : World} {v v0 : Value} {l : List RE} {x : RE} {k : Nat} (hc : Chg (fun _ => False) w W) (h : Fs w v0 l) (hx : REok w x) (hl : l.length < 1000)
    (hr : RowN W 91 3 v ([] ++ l.take k ++ [x] ++ l.drop k).length (cellsR ([] ++ l.take k ++ [x] ++ l.drop k))) (hp : putR x l = l.take k ++ x :: l.drop k) (hb : ∀ y ∈ rowBlk v, w.heap.size ≤ y) : RetFs w (putR x l) (.returned v) W := by
  have e : [] ++ l.take k ++ [x] ++ l.drop k = putR x l := by rw [hp]; simp
  rw [e] at hr
  refine ⟨_, rfl, Fs.of_row hr ?_ fun y hy => ?_, hc, fun y hy => hb y (hr.rd y hy)⟩
  · rw [hp]; simp; omega
  · rw [hp] at hy
    rcases List.mem_append.1 hy with hy | hy
    · exact (h.all y (List.mem_of_mem_take hy)).none_ hc
    · rcases List.mem_cons.1 hy with rfl | hy
      · exact hx.none_ hc
      · exact (h.all y (List.mem_of_mem_drop hy)).none_ hc

set_option maxRecDepth 100000 in
set_option maxHeartbeats 4000000 in
theorem put07_calls (v : Value) (l : List RE) (x : RE) (w : World) (h : Fs w v l) (hx : REok w x) (hl : l.length < 1000) : Calls Try.prog 53 #[v, x.val] w (RetFs w (putR x l)) := by
  have HA := Lib.hid h
  have HX := Lib.hid hx
  obtain ⟨A, c, rfl, h1⟩ := h.cap
  obtain ⟨-, A', c', he, hlc, -⟩ := h.sl
  injection he with e1 e2 e3
  subst e3
  obtain ⟨Ax, cx, hxv, -, -⟩ := hx.rd
  rw [u8s_length] at hxv
  have HXV := Lib.hid hxv
  clear h hx e1 e2
  unfold RE.val
  rw [hxv]
  clear hxv
  have HA0 := Lib.hid (HA.out.none_ ((Chg.refl (fun _ => False) w).alloc (.cells #[.string x.name, .slice Ax x.bs.length cx, .int .i64 x.sy] 91 (0, 0))))
  have HC0 := Lib.hid ((Chg.refl (fun _ => False) w).alloc (.cells #[.string x.name, .slice Ax x.bs.length cx, .int .i64 x.sy] 91 (0, 0)))
  have HP := fun j => cell_new w #[.string x.name, .slice Ax x.bs.length cx, .int .i64 x.sy] 91 (0, 0) j
  generalize hw0 : w.alloc (.cells #[.string x.name, .slice Ax x.bs.length cx, .int .i64 x.sy] 91 (0, 0)) = w0 at HA0 HC0 HP
  have HW0 := Lib.hid hw0
  have p0 := HP 0
  have p1 := HP 1
  have p2 := HP 2
  simp at p0 p1 p2
  generalize hb0 : w.heap.size = b0 at p0 p1 p2
  have HB0 := Lib.hid hb0
  clear HP
  go_enter Try.func53, Try.ntmps53
  clear hw0 hb0
  go_wp2
  rw [HW0.out, HB0.out]
  go_loopw [5] (fun iv wr => ∃ (k : Nat), iv = .int .i64 k ∧ k ≤ l.length ∧ (∀ j (hj : j < l.length), j < k → before (l[j]).name x.name = true) ∧ Chg (fun _ => False) w0 wr)
    (fun iv _ => l.length - (intOf iv).toNat)
  case atStart => exact ⟨0, rfl, Nat.zero_le _, by simp, Chg.refl _ _⟩
  case round =>
    obtain ⟨k, rfl, hk, hall, hc⟩ := hrel
    have HALL := Lib.hid hall
    have HC := Lib.hid hc
    clear hall hc
    have c0 := HC.out.cellF p0
    have c1 := HC.out.cellF p1
    have c2 := HC.out.cellF p2
    by_cases hlt : k < l.length
    · obtain ⟨ad, rfl, hx, hcell⟩ := (HA0.out.none_ HC.out).get hlt
      have HXE := Lib.hid (rfl : l[k] = l[k])
      have q0 := hcell 0 (.string (l[k]).name) rfl
      rw [show (ad.add (k * 3)).add 0 = ad.add (k * 3) from rfl] at q0
      have hk0 : (k : Int) < (l.length : Int) := by omega
      clear hcell hx
      have HBF := Lib.hid (before_str (l[k]).name x.name)
      have HSPEC := Lib.hid (fun hb : before (l[k]).name x.name = false => putR_at x l k hk HALL.out (fun _ => hb))
      have HALL2 : Hid (before (l[k]).name x.name = true → ∀ j (hj : j < l.length), j < k + 1 → before (l[j]).name x.name = true) := Lib.hid (fun hb j hj hjk => by
        rcases Nat.lt_or_ge j k with h | h
        · exact HALL.out j hj h
        · have : j = k := by omega
          subst this
          exact hb)
      generalize (l[k]).name = m at *
      clear HXE
      cases hb : before m x.name with
      | true =>
        have HB := Lib.hid hb
        have hbl : Op.bytesLess m.toList x.name.toList = true := HBF.out.trans hb
        clear hb
        go_wp2
        go_quiet (fail)
        go_wp2
        go_roundw
        case rel => exact ⟨k + 1, by go_num, hlt, HALL2.out HB.out, HC.out.drewN nq⟩
        case measure => simp [intOf]; omega
      | false =>
        have HB := Lib.hid (HSPEC.out hb)
        have hbl : Op.bytesLess m.toList x.name.toList = false := HBF.out.trans hb
        clear hb
        go_wp2
        go_quiet (fail)
        go_wp2_with fail
        have HC2 := Lib.hid (HC.out.drewN nq)
        clear HC
        generalize wr.drewN nq = wr at *
        have r0 := HC2.out.cellF p0
        have r1 := HC2.out.cellF p1
        have r2 := HC2.out.cellF p2
        have HR := Lib.hid (And.intro r0 (And.intro r1 r2))
        have hcw : Chg (fun _ => False) wr wr.drew := (Chg.refl _ wr).drew
        have HAR := Lib.hid (HA0.out.none_ HC2.out)
        have hkl : k ≤ l.length := by omega
        have b1 : (0 : Int) ≤ (k : Int) := by omega
        have b2 : (k : Int) ≤ (c : Int) := by omega
        have b5 : (l.length : Int) ≤ (c : Int) := by omega
        have b6 : (k : Int) ≤ (l.length : Int) := by omega
        go_region_held3 (fun W => Chg (fun _ => False) wr W ∧ W.cell? { block := b0, off := 0 } = some (.string x.name) ∧ W.cell? { block := b0, off := 1 } = some (.slice Ax x.bs.length cx) ∧ W.cell? { block := b0, off := 2 } = some (.int .i64 x.sy))
          (first | exact put_keep (by first | exact k3 | exact k2 | exact k1 | exact hcw | exact hcw.alloc _ | exact k1.alloc _ | exact (k1.alloc _).drew | exact Chg.alloc (And.left (by assumption)) _ | exact (Chg.alloc (And.left (by assumption)) _).drew | exact Chg.drew (And.left (by assumption))) HR.out | (trace_state; fail))
          (first
            | (refine step_append_files _ rfl _ _ rfl (.slice (some ⟨wr.heap.size, 0, none⟩) 0 0) [] rfl (RowN.nil_ _ _ _ _) (.slice (some ad) k c) (l.take k) rfl ((HAR.out.none_ (And.left (by assumption))).takeN hkl) (fun x hx => (HAR.out.all x (List.mem_of_mem_take hx)).one) (by simp; omega) ?_
               intro v1 W1 hrow1 hc1 hb1
               have k1 : Chg (fun _ => False) wr W1 := Chg.trans (And.left (by assumption)) hc1 (by simp [rowBlk])
               have HCP := Lib.hid (hc1.mono (fun _ _ h => by simp [rowBlk] at h) : Chg (fun _ => False) _ W1)
               obtain ⟨A1, c1, hv1, -, -⟩ := hrow1.shape
               rw [show ([] ++ l.take k : List RE).length = k by simp; omega] at hv1
               subst hv1
               have HROW := Lib.hid hrow1
               have HB1 : Hid (∀ y ∈ rowBlk (.slice A1 k c1), wr.heap.size ≤ y) := Lib.hid (fun y hy => by
                 rcases hb1 y hy with h | h
                 · simp [rowBlk] at h
                 · exact Nat.le_trans (by first | omega | (simp; omega) | simp) h)
               clear hrow1 hb1 hc1)
            | (refine step_append_files _ rfl _ _ rfl (.slice (some ⟨wr.heap.size + 1, 0, none⟩) 0 0) [] rfl (RowN.nil_ _ _ _ _) (.slice (some ad) k c) (l.take k) rfl ((HAR.out.none_ (And.left (by assumption))).takeN hkl) (fun x hx => (HAR.out.all x (List.mem_of_mem_take hx)).one) (by simp; omega) ?_
               intro v1 W1 hrow1 hc1 hb1
               have k1 : Chg (fun _ => False) wr W1 := Chg.trans (And.left (by assumption)) hc1 (by simp [rowBlk])
               have HCP := Lib.hid (hc1.mono (fun _ _ h => by simp [rowBlk] at h) : Chg (fun _ => False) _ W1)
               obtain ⟨A1, c1, hv1, -, -⟩ := hrow1.shape
               rw [show ([] ++ l.take k : List RE).length = k by simp; omega] at hv1
               subst hv1
               have HROW := Lib.hid hrow1
               have HB1 : Hid (∀ y ∈ rowBlk (.slice A1 k c1), wr.heap.size ≤ y) := Lib.hid (fun y hy => by
                 rcases hb1 y hy with h | h
                 · simp [rowBlk] at h
                 · exact Nat.le_trans (by first | omega | (simp; omega) | simp) h)
               clear hrow1 hb1 hc1)
            | (refine step_append_files _ rfl _ _ rfl (.slice A1 k c1) ([] ++ l.take k) rfl (by first | exact HROW.out | exact HROW.out.none_ ((Chg.refl _ W1).alloc _) | exact HROW.out.none_ ((Chg.refl _ W1).alloc _).drew) (.slice (some ⟨W1.heap.size, 0, none⟩) 1 1) [x] rfl (by first | exact sl_one W1 x HXV.out _ _ | exact (sl_one W1 x HXV.out _ _).drew) (by intro y hy; rw [List.mem_singleton.1 hy]; exact HX.out.one) (by simp; omega) ?_
               intro v2 W2 hrow2 hc2 hb2
               have k2 : Chg (fun _ => False) wr W2 := Chg.trans (And.left (by assumption)) hc2 (fun y hy hm => by have := HB1.out y hm; omega)
               obtain ⟨A2, c2, hv2, -, -⟩ := hrow2.shape
               rw [show ([] ++ l.take k ++ [x] : List RE).length = k + 1 by simp; omega] at hv2
               subst hv2
               have HROW2 := Lib.hid hrow2
               have HB2 : Hid (∀ y ∈ rowBlk (.slice A2 (k + 1) c2), wr.heap.size ≤ y) := Lib.hid (fun y hy => by
                 rcases hb2 y hy with h | h
                 · exact HB1.out y h
                 · exact Nat.le_trans k1.size (Nat.le_trans (by first | omega | (simp; omega) | simp) h))
               clear hrow2 hb2 hc2)
            | (refine step_append_files _ rfl _ _ rfl (.slice A1 k c1) ([] ++ l.take k) rfl (by first | exact HROW.out | exact HROW.out.none_ ((Chg.refl _ W1).alloc _) | exact HROW.out.none_ ((Chg.refl _ W1).alloc _).drew) (.slice (some ⟨wr.heap.size + 1, 0, none⟩) 1 1) [x] rfl (by first | exact (sl_oneB ((wr.alloc (.cells #[] 91 (0, 0))).drew) x HXV.out _ _ _ (by simp)).none_ (by omega) HCP.out | exact ((sl_oneB ((wr.alloc (.cells #[] 91 (0, 0))).drew) x HXV.out _ _ _ (by simp)).none_ (by omega) HCP.out).drew) (by intro y hy; rw [List.mem_singleton.1 hy]; exact HX.out.one) (by simp; omega) ?_
               intro v2 W2 hrow2 hc2 hb2
               have k2 : Chg (fun _ => False) wr W2 := Chg.trans (And.left (by assumption)) hc2 (fun y hy hm => by have := HB1.out y hm; omega)
               obtain ⟨A2, c2, hv2, -, -⟩ := hrow2.shape
               rw [show ([] ++ l.take k ++ [x] : List RE).length = k + 1 by simp; omega] at hv2
               subst hv2
               have HROW2 := Lib.hid hrow2
               have HB2 : Hid (∀ y ∈ rowBlk (.slice A2 (k + 1) c2), wr.heap.size ≤ y) := Lib.hid (fun y hy => by
                 rcases hb2 y hy with h | h
                 · exact HB1.out y h
                 · exact Nat.le_trans k1.size (Nat.le_trans (by first | omega | (simp; omega) | simp) h))
               clear hrow2 hb2 hc2)
            | (refine step_append_files _ rfl _ _ rfl (.slice A1 k c1) ([] ++ l.take k) rfl (by first | exact HROW.out | exact HROW.out.none_ ((Chg.refl _ W1).alloc _) | exact HROW.out.none_ ((Chg.refl _ W1).alloc _).drew) (.slice (some ⟨wr.heap.size, 0, none⟩) 1 1) [x] rfl (by first | exact (sl_oneB wr.drew x HXV.out _ _ _ rfl).none_ (by omega) (((Chg.refl (fun _ => False) _).alloc _).trans HCP.out (fun _ _ h => h)) | exact ((sl_oneB wr.drew x HXV.out _ _ _ rfl).none_ (by omega) (((Chg.refl (fun _ => False) _).alloc _).trans HCP.out (fun _ _ h => h))).drew) (by intro y hy; rw [List.mem_singleton.1 hy]; exact HX.out.one) (by simp; omega) ?_
               intro v2 W2 hrow2 hc2 hb2
               have k2 : Chg (fun _ => False) wr W2 := Chg.trans (And.left (by assumption)) hc2 (fun y hy hm => by have := HB1.out y hm; omega)
               obtain ⟨A2, c2, hv2, -, -⟩ := hrow2.shape
               rw [show ([] ++ l.take k ++ [x] : List RE).length = k + 1 by simp; omega] at hv2
               subst hv2
               have HROW2 := Lib.hid hrow2
               have HB2 : Hid (∀ y ∈ rowBlk (.slice A2 (k + 1) c2), wr.heap.size ≤ y) := Lib.hid (fun y hy => by
                 rcases hb2 y hy with h | h
                 · exact HB1.out y h
                 · exact Nat.le_trans k1.size (Nat.le_trans (by first | omega | (simp; omega) | simp) h))
               clear hrow2 hb2 hc2)
            | (refine step_append_files _ rfl _ _ rfl (.slice A2 (k + 1) c2) ([] ++ l.take k ++ [x]) rfl HROW2.out (.slice (if c = k then some ad else some (ad.add (k * 3))) (l.length - k) (c - k)) (l.drop k) rfl ((HAR.out.none_ k2).dropC hkl) (fun x hx => (HAR.out.all x (List.mem_of_mem_drop hx)).one) (by simp; omega) ?_
               intro v3 W3 hrow3 hc3 hb3
               have k3 : Chg (fun _ => False) wr W3 := Chg.trans k2 hc3 (fun y hy hm => by have := HB2.out y hm; omega)
               obtain ⟨A3, c3, hv3, -, -⟩ := hrow3.shape
               rw [show ([] ++ l.take k ++ [x] ++ l.drop k : List RE).length = l.length + 1 by simp; omega] at hv3
               subst hv3
               have HROW3 := Lib.hid hrow3
               have HB3 : Hid (∀ y ∈ rowBlk (.slice A3 (l.length + 1) c3), wr.heap.size ≤ y) := Lib.hid (fun y hy => by
                 rcases hb3 y hy with h | h
                 · exact HB2.out y h
                 · exact Nat.le_trans k2.size h)
               clear hrow3 hb3 hc3)
            | (trace_state; fail))
        all_goals
          have H := put_end (HC0.out.trans (HC2.out.trans k3 (fun _ _ h => h)) (fun _ _ h => h)) HA.out HX.out hl HROW3.out HB.out (fun y hy => Nat.le_trans (HC0.out.trans HC2.out (fun _ _ h => h)).size (HB3.out y hy))
          have HH := Lib.hid H
          clear H k3 k2 k1
          go_wp2
          all_goals
            go_ret
            exact HH.out
    · have hk0 : ¬ (k : Int) < (l.length : Int) := by omega
      have hkk : k = l.length := by omega
      have HB := Lib.hid (putR_at x l k hk HALL.out (fun h => absurd h hlt))
      obtain ⟨-, A', c', he, hlc, hne⟩ := HA.out.sl
      injection he with e1 e2 e3
      subst e3
      subst e1
      clear e2
      cases A with
      | some ad =>
        clear hne hkk
        go_wp2
        go_quiet (fail)
        go_wp2_with fail
        have HC2 := Lib.hid (HC.out.drewN nq)
        clear HC
        generalize wr.drewN nq = wr at *
        have r0 := HC2.out.cellF p0
        have r1 := HC2.out.cellF p1
        have r2 := HC2.out.cellF p2
        have HR := Lib.hid (And.intro r0 (And.intro r1 r2))
        have hcw : Chg (fun _ => False) wr wr.drew := (Chg.refl _ wr).drew
        have HAR := Lib.hid (HA0.out.none_ HC2.out)
        have hkl : k ≤ l.length := by omega
        have b1 : (0 : Int) ≤ (k : Int) := by omega
        have b2 : (k : Int) ≤ (c : Int) := by omega
        have b5 : (l.length : Int) ≤ (c : Int) := by omega
        have b6 : (k : Int) ≤ (l.length : Int) := by omega
        go_region_held3 (fun W => Chg (fun _ => False) wr W ∧ W.cell? { block := b0, off := 0 } = some (.string x.name) ∧ W.cell? { block := b0, off := 1 } = some (.slice Ax x.bs.length cx) ∧ W.cell? { block := b0, off := 2 } = some (.int .i64 x.sy))
          (first | exact put_keep (by first | exact k3 | exact k2 | exact k1 | exact hcw | exact hcw.alloc _ | exact k1.alloc _ | exact (k1.alloc _).drew | exact Chg.alloc (And.left (by assumption)) _ | exact (Chg.alloc (And.left (by assumption)) _).drew | exact Chg.drew (And.left (by assumption))) HR.out | (trace_state; fail))
          (first
            | (refine step_append_files _ rfl _ _ rfl (.slice (some ⟨wr.heap.size, 0, none⟩) 0 0) [] rfl (RowN.nil_ _ _ _ _) (.slice (some ad) k c) (l.take k) rfl ((HAR.out.none_ (And.left (by assumption))).takeN hkl) (fun x hx => (HAR.out.all x (List.mem_of_mem_take hx)).one) (by simp; omega) ?_
               intro v1 W1 hrow1 hc1 hb1
               have k1 : Chg (fun _ => False) wr W1 := Chg.trans (And.left (by assumption)) hc1 (by simp [rowBlk])
               have HCP := Lib.hid (hc1.mono (fun _ _ h => by simp [rowBlk] at h) : Chg (fun _ => False) _ W1)
               obtain ⟨A1, c1, hv1, -, -⟩ := hrow1.shape
               rw [show ([] ++ l.take k : List RE).length = k by simp; omega] at hv1
               subst hv1
               have HROW := Lib.hid hrow1
               have HB1 : Hid (∀ y ∈ rowBlk (.slice A1 k c1), wr.heap.size ≤ y) := Lib.hid (fun y hy => by
                 rcases hb1 y hy with h | h
                 · simp [rowBlk] at h
                 · exact Nat.le_trans (by first | omega | (simp; omega) | simp) h)
               clear hrow1 hb1 hc1)
            | (refine step_append_files _ rfl _ _ rfl (.slice (some ⟨wr.heap.size + 1, 0, none⟩) 0 0) [] rfl (RowN.nil_ _ _ _ _) (.slice (some ad) k c) (l.take k) rfl ((HAR.out.none_ (And.left (by assumption))).takeN hkl) (fun x hx => (HAR.out.all x (List.mem_of_mem_take hx)).one) (by simp; omega) ?_
               intro v1 W1 hrow1 hc1 hb1
               have k1 : Chg (fun _ => False) wr W1 := Chg.trans (And.left (by assumption)) hc1 (by simp [rowBlk])
               have HCP := Lib.hid (hc1.mono (fun _ _ h => by simp [rowBlk] at h) : Chg (fun _ => False) _ W1)
               obtain ⟨A1, c1, hv1, -, -⟩ := hrow1.shape
               rw [show ([] ++ l.take k : List RE).length = k by simp; omega] at hv1
               subst hv1
               have HROW := Lib.hid hrow1
               have HB1 : Hid (∀ y ∈ rowBlk (.slice A1 k c1), wr.heap.size ≤ y) := Lib.hid (fun y hy => by
                 rcases hb1 y hy with h | h
                 · simp [rowBlk] at h
                 · exact Nat.le_trans (by first | omega | (simp; omega) | simp) h)
               clear hrow1 hb1 hc1)
            | (refine step_append_files _ rfl _ _ rfl (.slice A1 k c1) ([] ++ l.take k) rfl (by first | exact HROW.out | exact HROW.out.none_ ((Chg.refl _ W1).alloc _) | exact HROW.out.none_ ((Chg.refl _ W1).alloc _).drew) (.slice (some ⟨W1.heap.size, 0, none⟩) 1 1) [x] rfl (by first | exact sl_one W1 x HXV.out _ _ | exact (sl_one W1 x HXV.out _ _).drew) (by intro y hy; rw [List.mem_singleton.1 hy]; exact HX.out.one) (by simp; omega) ?_
               intro v2 W2 hrow2 hc2 hb2
               have k2 : Chg (fun _ => False) wr W2 := Chg.trans (And.left (by assumption)) hc2 (fun y hy hm => by have := HB1.out y hm; omega)
               obtain ⟨A2, c2, hv2, -, -⟩ := hrow2.shape
               rw [show ([] ++ l.take k ++ [x] : List RE).length = k + 1 by simp; omega] at hv2
               subst hv2
               have HROW2 := Lib.hid hrow2
               have HB2 : Hid (∀ y ∈ rowBlk (.slice A2 (k + 1) c2), wr.heap.size ≤ y) := Lib.hid (fun y hy => by
                 rcases hb2 y hy with h | h
                 · exact HB1.out y h
                 · exact Nat.le_trans k1.size (Nat.le_trans (by first | omega | (simp; omega) | simp) h))
               clear hrow2 hb2 hc2)
            | (refine step_append_files _ rfl _ _ rfl (.slice A1 k c1) ([] ++ l.take k) rfl (by first | exact HROW.out | exact HROW.out.none_ ((Chg.refl _ W1).alloc _) | exact HROW.out.none_ ((Chg.refl _ W1).alloc _).drew) (.slice (some ⟨wr.heap.size + 1, 0, none⟩) 1 1) [x] rfl (by first | exact (sl_oneB ((wr.alloc (.cells #[] 91 (0, 0))).drew) x HXV.out _ _ _ (by simp)).none_ (by omega) HCP.out | exact ((sl_oneB ((wr.alloc (.cells #[] 91 (0, 0))).drew) x HXV.out _ _ _ (by simp)).none_ (by omega) HCP.out).drew) (by intro y hy; rw [List.mem_singleton.1 hy]; exact HX.out.one) (by simp; omega) ?_
               intro v2 W2 hrow2 hc2 hb2
               have k2 : Chg (fun _ => False) wr W2 := Chg.trans (And.left (by assumption)) hc2 (fun y hy hm => by have := HB1.out y hm; omega)
               obtain ⟨A2, c2, hv2, -, -⟩ := hrow2.shape
               rw [show ([] ++ l.take k ++ [x] : List RE).length = k + 1 by simp; omega] at hv2
               subst hv2
               have HROW2 := Lib.hid hrow2
               have HB2 : Hid (∀ y ∈ rowBlk (.slice A2 (k + 1) c2), wr.heap.size ≤ y) := Lib.hid (fun y hy => by
                 rcases hb2 y hy with h | h
                 · exact HB1.out y h
                 · exact Nat.le_trans k1.size (Nat.le_trans (by first | omega | (simp; omega) | simp) h))
               clear hrow2 hb2 hc2)
            | (refine step_append_files _ rfl _ _ rfl (.slice A1 k c1) ([] ++ l.take k) rfl (by first | exact HROW.out | exact HROW.out.none_ ((Chg.refl _ W1).alloc _) | exact HROW.out.none_ ((Chg.refl _ W1).alloc _).drew) (.slice (some ⟨wr.heap.size, 0, none⟩) 1 1) [x] rfl (by first | exact (sl_oneB wr.drew x HXV.out _ _ _ rfl).none_ (by omega) (((Chg.refl (fun _ => False) _).alloc _).trans HCP.out (fun _ _ h => h)) | exact ((sl_oneB wr.drew x HXV.out _ _ _ rfl).none_ (by omega) (((Chg.refl (fun _ => False) _).alloc _).trans HCP.out (fun _ _ h => h))).drew) (by intro y hy; rw [List.mem_singleton.1 hy]; exact HX.out.one) (by simp; omega) ?_
               intro v2 W2 hrow2 hc2 hb2
               have k2 : Chg (fun _ => False) wr W2 := Chg.trans (And.left (by assumption)) hc2 (fun y hy hm => by have := HB1.out y hm; omega)
               obtain ⟨A2, c2, hv2, -, -⟩ := hrow2.shape
               rw [show ([] ++ l.take k ++ [x] : List RE).length = k + 1 by simp; omega] at hv2
               subst hv2
               have HROW2 := Lib.hid hrow2
               have HB2 : Hid (∀ y ∈ rowBlk (.slice A2 (k + 1) c2), wr.heap.size ≤ y) := Lib.hid (fun y hy => by
                 rcases hb2 y hy with h | h
                 · exact HB1.out y h
                 · exact Nat.le_trans k1.size (Nat.le_trans (by first | omega | (simp; omega) | simp) h))
               clear hrow2 hb2 hc2)
            | (refine step_append_files _ rfl _ _ rfl (.slice A2 (k + 1) c2) ([] ++ l.take k ++ [x]) rfl HROW2.out (.slice (if c = k then some ad else some (ad.add (k * 3))) (l.length - k) (c - k)) (l.drop k) rfl ((HAR.out.none_ k2).dropC hkl) (fun x hx => (HAR.out.all x (List.mem_of_mem_drop hx)).one) (by simp; omega) ?_
               intro v3 W3 hrow3 hc3 hb3
               have k3 : Chg (fun _ => False) wr W3 := Chg.trans k2 hc3 (fun y hy hm => by have := HB2.out y hm; omega)
               obtain ⟨A3, c3, hv3, -, -⟩ := hrow3.shape
               rw [show ([] ++ l.take k ++ [x] ++ l.drop k : List RE).length = l.length + 1 by simp; omega] at hv3
               subst hv3
               have HROW3 := Lib.hid hrow3
               have HB3 : Hid (∀ y ∈ rowBlk (.slice A3 (l.length + 1) c3), wr.heap.size ≤ y) := Lib.hid (fun y hy => by
                 rcases hb3 y hy with h | h
                 · exact HB2.out y h
                 · exact Nat.le_trans k2.size h)
               clear hrow3 hb3 hc3)
            | (trace_state; fail))
        all_goals
          have H := put_end (HC0.out.trans (HC2.out.trans k3 (fun _ _ h => h)) (fun _ _ h => h)) HA.out HX.out hl HROW3.out HB.out (fun y hy => Nat.le_trans (HC0.out.trans HC2.out (fun _ _ h => h)).size (HB3.out y hy))
          have HH := Lib.hid H
          clear H k3 k2 k1
          go_wp2
          all_goals
            go_ret
            exact HH.out
      | none =>
        have hl0 : l.length = 0 := by
          rcases Nat.eq_zero_or_pos l.length with h | h
          · exact h
          · obtain ⟨ad, h, -⟩ := hne h
            cases h
        have HDN := Lib.hid (fun W => drop_nil W none (c - k) (l := l) (k := k) (by omega))
        clear hne hkk hl0
        go_wp2
        go_quiet (fail)
        go_wp2_with fail
        have HC2 := Lib.hid (HC.out.drewN nq)
        clear HC
        generalize wr.drewN nq = wr at *
        have r0 := HC2.out.cellF p0
        have r1 := HC2.out.cellF p1
        have r2 := HC2.out.cellF p2
        have HR := Lib.hid (And.intro r0 (And.intro r1 r2))
        have hcw : Chg (fun _ => False) wr wr.drew := (Chg.refl _ wr).drew
        have HAR := Lib.hid (HA0.out.none_ HC2.out)
        have hkl : k ≤ l.length := by omega
        have b1 : (0 : Int) ≤ (k : Int) := by omega
        have b2 : (k : Int) ≤ (c : Int) := by omega
        have b5 : (l.length : Int) ≤ (c : Int) := by omega
        have b6 : (k : Int) ≤ (l.length : Int) := by omega
        go_region_held3 (fun W => Chg (fun _ => False) wr W ∧ W.cell? { block := b0, off := 0 } = some (.string x.name) ∧ W.cell? { block := b0, off := 1 } = some (.slice Ax x.bs.length cx) ∧ W.cell? { block := b0, off := 2 } = some (.int .i64 x.sy))
          (first | exact put_keep (by first | exact k3 | exact k2 | exact k1 | exact hcw | exact hcw.alloc _ | exact k1.alloc _ | exact (k1.alloc _).drew | exact Chg.alloc (And.left (by assumption)) _ | exact (Chg.alloc (And.left (by assumption)) _).drew | exact Chg.drew (And.left (by assumption))) HR.out | (trace_state; fail))
          (first
            | (refine step_append_files _ rfl _ _ rfl (.slice (some ⟨wr.heap.size, 0, none⟩) 0 0) [] rfl (RowN.nil_ _ _ _ _) (.slice none k c) (l.take k) rfl ((HAR.out.none_ (And.left (by assumption))).takeN hkl) (fun x hx => (HAR.out.all x (List.mem_of_mem_take hx)).one) (by simp; omega) ?_
               intro v1 W1 hrow1 hc1 hb1
               have k1 : Chg (fun _ => False) wr W1 := Chg.trans (And.left (by assumption)) hc1 (by simp [rowBlk])
               have HCP := Lib.hid (hc1.mono (fun _ _ h => by simp [rowBlk] at h) : Chg (fun _ => False) _ W1)
               obtain ⟨A1, c1, hv1, -, -⟩ := hrow1.shape
               rw [show ([] ++ l.take k : List RE).length = k by simp; omega] at hv1
               subst hv1
               have HROW := Lib.hid hrow1
               have HB1 : Hid (∀ y ∈ rowBlk (.slice A1 k c1), wr.heap.size ≤ y) := Lib.hid (fun y hy => by
                 rcases hb1 y hy with h | h
                 · simp [rowBlk] at h
                 · exact Nat.le_trans (by first | omega | (simp; omega) | simp) h)
               clear hrow1 hb1 hc1)
            | (refine step_append_files _ rfl _ _ rfl (.slice (some ⟨wr.heap.size + 1, 0, none⟩) 0 0) [] rfl (RowN.nil_ _ _ _ _) (.slice none k c) (l.take k) rfl ((HAR.out.none_ (And.left (by assumption))).takeN hkl) (fun x hx => (HAR.out.all x (List.mem_of_mem_take hx)).one) (by simp; omega) ?_
               intro v1 W1 hrow1 hc1 hb1
               have k1 : Chg (fun _ => False) wr W1 := Chg.trans (And.left (by assumption)) hc1 (by simp [rowBlk])
               have HCP := Lib.hid (hc1.mono (fun _ _ h => by simp [rowBlk] at h) : Chg (fun _ => False) _ W1)
               obtain ⟨A1, c1, hv1, -, -⟩ := hrow1.shape
               rw [show ([] ++ l.take k : List RE).length = k by simp; omega] at hv1
               subst hv1
               have HROW := Lib.hid hrow1
               have HB1 : Hid (∀ y ∈ rowBlk (.slice A1 k c1), wr.heap.size ≤ y) := Lib.hid (fun y hy => by
                 rcases hb1 y hy with h | h
                 · simp [rowBlk] at h
                 · exact Nat.le_trans (by first | omega | (simp; omega) | simp) h)
               clear hrow1 hb1 hc1)
            | (refine step_append_files _ rfl _ _ rfl (.slice A1 k c1) ([] ++ l.take k) rfl (by first | exact HROW.out | exact HROW.out.none_ ((Chg.refl _ W1).alloc _) | exact HROW.out.none_ ((Chg.refl _ W1).alloc _).drew) (.slice (some ⟨W1.heap.size, 0, none⟩) 1 1) [x] rfl (by first | exact sl_one W1 x HXV.out _ _ | exact (sl_one W1 x HXV.out _ _).drew) (by intro y hy; rw [List.mem_singleton.1 hy]; exact HX.out.one) (by simp; omega) ?_
               intro v2 W2 hrow2 hc2 hb2
               have k2 : Chg (fun _ => False) wr W2 := Chg.trans (And.left (by assumption)) hc2 (fun y hy hm => by have := HB1.out y hm; omega)
               obtain ⟨A2, c2, hv2, -, -⟩ := hrow2.shape
               rw [show ([] ++ l.take k ++ [x] : List RE).length = k + 1 by simp; omega] at hv2
               subst hv2
               have HROW2 := Lib.hid hrow2
               have HB2 : Hid (∀ y ∈ rowBlk (.slice A2 (k + 1) c2), wr.heap.size ≤ y) := Lib.hid (fun y hy => by
                 rcases hb2 y hy with h | h
                 · exact HB1.out y h
                 · exact Nat.le_trans k1.size (Nat.le_trans (by first | omega | (simp; omega) | simp) h))
               clear hrow2 hb2 hc2)
            | (refine step_append_files _ rfl _ _ rfl (.slice A1 k c1) ([] ++ l.take k) rfl (by first | exact HROW.out | exact HROW.out.none_ ((Chg.refl _ W1).alloc _) | exact HROW.out.none_ ((Chg.refl _ W1).alloc _).drew) (.slice (some ⟨wr.heap.size + 1, 0, none⟩) 1 1) [x] rfl (by first | exact (sl_oneB ((wr.alloc (.cells #[] 91 (0, 0))).drew) x HXV.out _ _ _ (by simp)).none_ (by omega) HCP.out | exact ((sl_oneB ((wr.alloc (.cells #[] 91 (0, 0))).drew) x HXV.out _ _ _ (by simp)).none_ (by omega) HCP.out).drew) (by intro y hy; rw [List.mem_singleton.1 hy]; exact HX.out.one) (by simp; omega) ?_
               intro v2 W2 hrow2 hc2 hb2
               have k2 : Chg (fun _ => False) wr W2 := Chg.trans (And.left (by assumption)) hc2 (fun y hy hm => by have := HB1.out y hm; omega)
               obtain ⟨A2, c2, hv2, -, -⟩ := hrow2.shape
               rw [show ([] ++ l.take k ++ [x] : List RE).length = k + 1 by simp; omega] at hv2
               subst hv2
               have HROW2 := Lib.hid hrow2
               have HB2 : Hid (∀ y ∈ rowBlk (.slice A2 (k + 1) c2), wr.heap.size ≤ y) := Lib.hid (fun y hy => by
                 rcases hb2 y hy with h | h
                 · exact HB1.out y h
                 · exact Nat.le_trans k1.size (Nat.le_trans (by first | omega | (simp; omega) | simp) h))
               clear hrow2 hb2 hc2)
            | (refine step_append_files _ rfl _ _ rfl (.slice A1 k c1) ([] ++ l.take k) rfl (by first | exact HROW.out | exact HROW.out.none_ ((Chg.refl _ W1).alloc _) | exact HROW.out.none_ ((Chg.refl _ W1).alloc _).drew) (.slice (some ⟨wr.heap.size, 0, none⟩) 1 1) [x] rfl (by first | exact (sl_oneB wr.drew x HXV.out _ _ _ rfl).none_ (by omega) (((Chg.refl (fun _ => False) _).alloc _).trans HCP.out (fun _ _ h => h)) | exact ((sl_oneB wr.drew x HXV.out _ _ _ rfl).none_ (by omega) (((Chg.refl (fun _ => False) _).alloc _).trans HCP.out (fun _ _ h => h))).drew) (by intro y hy; rw [List.mem_singleton.1 hy]; exact HX.out.one) (by simp; omega) ?_
               intro v2 W2 hrow2 hc2 hb2
               have k2 : Chg (fun _ => False) wr W2 := Chg.trans (And.left (by assumption)) hc2 (fun y hy hm => by have := HB1.out y hm; omega)
               obtain ⟨A2, c2, hv2, -, -⟩ := hrow2.shape
               rw [show ([] ++ l.take k ++ [x] : List RE).length = k + 1 by simp; omega] at hv2
               subst hv2
               have HROW2 := Lib.hid hrow2
               have HB2 : Hid (∀ y ∈ rowBlk (.slice A2 (k + 1) c2), wr.heap.size ≤ y) := Lib.hid (fun y hy => by
                 rcases hb2 y hy with h | h
                 · exact HB1.out y h
                 · exact Nat.le_trans k1.size (Nat.le_trans (by first | omega | (simp; omega) | simp) h))
               clear hrow2 hb2 hc2)
            | (refine step_append_files _ rfl _ _ rfl (.slice A2 (k + 1) c2) ([] ++ l.take k ++ [x]) rfl HROW2.out (.slice none (l.length - k) (c - k)) (l.drop k) rfl (HDN.out _) (fun x hx => (HAR.out.all x (List.mem_of_mem_drop hx)).one) (by simp; omega) ?_
               intro v3 W3 hrow3 hc3 hb3
               have k3 : Chg (fun _ => False) wr W3 := Chg.trans k2 hc3 (fun y hy hm => by have := HB2.out y hm; omega)
               obtain ⟨A3, c3, hv3, -, -⟩ := hrow3.shape
               rw [show ([] ++ l.take k ++ [x] ++ l.drop k : List RE).length = l.length + 1 by simp; omega] at hv3
               subst hv3
               have HROW3 := Lib.hid hrow3
               have HB3 : Hid (∀ y ∈ rowBlk (.slice A3 (l.length + 1) c3), wr.heap.size ≤ y) := Lib.hid (fun y hy => by
                 rcases hb3 y hy with h | h
                 · exact HB2.out y h
                 · exact Nat.le_trans k2.size h)
               clear hrow3 hb3 hc3)
            | (trace_state; fail))
        all_goals
          have H := put_end (HC0.out.trans (HC2.out.trans k3 (fun _ _ h => h)) (fun _ _ h => h)) HA.out HX.out hl HROW3.out HB.out (fun y hy => Nat.le_trans (HC0.out.trans HC2.out (fun _ _ h => h)).size (HB3.out y hy))
          have HH := Lib.hid H
          clear H k3 k2 k1
          go_wp2
          all_goals
            go_ret
            exact HH.out

end Go.Proofs.Ytoflmhdgojenpaa
