/- Do of the document's answer: crash (printed by wip/gen-xnj.py). -/
import Derived.Test.YtoflmhdgojenpaaNi
namespace Go.Proofs.Ytoflmhdgojenpaa
open Go.RowKit Go.Maps Go.WideMaps Go.WideElems

theorem tmod_abs (z : Int) (d : Nat) : (Int.tmod z d).natAbs = z.natAbs % d := by
  cases z with
  | ofNat n => rfl
  | negSucc n =>
    show (-((n + 1) % d : Nat) : Int).natAbs = (n + 1) % d
    rw [Int.natAbs_neg]
    rfl
theorem crash_round {l P : List RE} {ks : List Int} {k nx nx2 : Nat} {fk : RE} {y : FR} (hP : P.map RE.abs = (crashL ((l.take k).map RE.abs) ks).1) (hK : ks.drop nx = (crashL ((l.take k).map RE.abs) ks).2) (hk : k < l.length) (hf : l[k] = fk)
    (hc : crash1 fk.abs (ks.drop nx) = (y, ks.drop nx2)) : P.map RE.abs ++ [y] = (crashL ((l.take (k + 1)).map RE.abs) ks).1 ∧ ks.drop nx2 = (crashL ((l.take (k + 1)).map RE.abs) ks).2 := by
  rw [List.take_succ_eq_append_getElem hk, List.map_append, crashL_app, ← hP, ← hK, hf]
  simp [crashL, hc]
/-- 'append(v, x..)' of files. -/
theorem wpList_append_files (w : World) {ops : Array Oper} {rest : List Oper} {o : Oper} {a : Act} {Q : Exit → Act → World → Prop} (hgd : o.guard = none) (s x : Operand)
    (ho : o.op = .call { callee := .builtin .append, args := #[s, x], argTypes := #[35, 35] })
    (v : Value) (l : List RE) (hs : a.eval s = v) (hown : RowN w 91 3 v l.length (cellsR l)) (u : Value) (news : List RE) (hx : a.eval x = u) (hnews : SlN w 3 u news.length (cellsR news))
    (h1 : ∀ x ∈ news, x.v.oneCell' = true) (hlen : l.length + news.length ≤ 100000)
    (h : ∀ v' w', RowN w' 91 3 v' (l ++ news).length (cellsR (l ++ news)) → Chg (fun k => k ∈ rowBlk v) w w' → (∀ k ∈ rowBlk v', k ∈ rowBlk v ∨ w.heap.size ≤ k) → wpList Try.prog ops Q rest (a.put o.dst v') w') :
    wpList Try.prog ops Q (o :: rest) a w := by
  obtain ⟨i0, hi, hz0, hz1, hz2⟩ := info_parts fileinfo
  refine wpList_append_rowN w hgd s x 35 ho 91 i0 _ 3 48 Try.underlying35 hi hz0 hz1 hz2 rfl (by omega) v l.length (cellsR l) hs hown u news.length (cellsR news) hx hnews (cellsR_one h1) (by omega) (by omega) ?_
  intro v' w' h2 h3 h4
  rw [← cellsR_app, ← List.length_append] at h2
  exact h v' w' h2 h3 h4

set_option maxRecDepth 100000 in
set_option maxHeartbeats 4000000 in
theorem do_crash {w : World} {v : Value} {l : List RE} {most : Nat} {x : ActE} (h : DoIn w v l most x) (h0 : x.d = 5) : Calls Try.prog 21 #[v, .int .i64 most, actV x] w (RetDo w v l (((crashL (l.map RE.abs) x.keep).1, 0))) := by
  have H := Lib.hid h
  obtain ⟨A1, c1, hbv, -, -⟩ := h.act.b
  obtain ⟨A2, c2, hkv, -, -⟩ := h.act.keep
  obtain ⟨A, c, rfl, hcm⟩ := h.fs.cap
  rw [u8s_length] at hbv
  rw [i64s_length] at hkv
  have HBV := Lib.hid hbv
  have HKV := Lib.hid hkv
  have HAC := Lib.hid (actC_new w x A1 c1 A2 c2 38 (0, 0))
  have HC0 := Lib.hid ((Chg.refl (fun _ => False) w).alloc (.cells (actC x A1 c1 A2 c2) 38 (0, 0)))
  generalize hw0 : w.alloc (.cells (actC x A1 c1 A2 c2) 38 (0, 0)) = w0 at HAC HC0
  have HW0 : Hid (w.alloc (.cells #[.int .i64 5, .string x.name, .string x.other, .slice A1 x.b.length c1, .int .i64 x.i, .slice A2 x.keep.length c2] 38 (0, 0)) = w0) := Lib.hid (by rw [← hw0]; unfold actC; rw [h0])
  generalize hb0 : w.heap.size = b0 at HAC
  have HB0 := Lib.hid hb0
  unfold actV
  rw [hbv, hkv, h0]
  clear h hbv hkv hw0 hb0
  have HD := Lib.hid h0
  clear h0
  go_enter Try.func21, Try.ntmps21
  go_wp2_with fail
  rw [HW0.out, HB0.out]
  refine (find_calls _ l x.name _ (H.out.fs.none_ HC0.out)).mono ?_
  rintro e w1 ⟨rfl, hc1⟩
  have HC1 := Lib.hid (HC0.out.trans hc1 (fun _ _ h => h))
  have HA1 := Lib.hid (HAC.out.none_ hc1)
  have HF1 := Lib.hid (H.out.fs.none_ HC1.out)
  clear hc1
  have a0 := HA1.out.q0
  rw [HD.out] at a0
  have a1 := HA1.out.q1
  have a2 := HA1.out.q2
  have a3 := HA1.out.q3
  have a4 := HA1.out.q4
  have HKS := Lib.hid (HA1.out.none_ (Chg.refl _ _))
  have hkl : x.keep.length ≤ 5000 := H.out.kl
  have hfew := H.out.few
  clear a1 a2 a3 a4
  go_wp2
  go_loopw [10, 11, 12] (fun ov nv iv wr => ∃ (k nx : Nat) (P : List RE), iv = .int .i64 k ∧ nv = .int .i64 nx ∧ k ≤ l.length ∧ nx ≤ x.keep.length ∧ P.length = k ∧ RowN wr 91 3 ov P.length (cellsR P) ∧ P.map RE.abs = (crashL ((l.take k).map RE.abs) x.keep).1 ∧ x.keep.drop nx = (crashL ((l.take k).map RE.abs) x.keep).2 ∧
      (∀ z ∈ P, REok wr z ∧ ∀ y ∈ rdBlk z.v, y ∉ rowBlk ov ∧ w1.heap.size ≤ y) ∧ (∀ y ∈ rowBlk ov, w1.heap.size ≤ y) ∧ Chg (fun _ => False) w1 wr)
    (fun _ _ iv _ => l.length - (intOf iv).toNat)
  case atStart => exact ⟨0, 0, [], rfl, rfl, Nat.zero_le _, Nat.zero_le _, rfl, RowN.nil_ _ _ _ _, by simp [crashL], by simp [crashL], by simp, by simp [rowBlk], Chg.refl _ _⟩
  case round =>
    obtain ⟨k, nx, P, rfl, rfl, hk, hnx, hPl, hrow, hP, hkr, hall, hob, hc⟩ := hrel
    have HROW := Lib.hid hrow
    have HP := Lib.hid hP
    have HKR := Lib.hid hkr
    have HALL := Lib.hid hall
    have HOB := Lib.hid hob
    have HC := Lib.hid hc
    have HPL := Lib.hid hPl
    obtain ⟨Ao, co, hov, hoc, hocm⟩ := hrow.shape
    subst hov
    clear hrow hP hkr hall hob hc hPl
    have a5 := HC.out.cellF HA1.out.q5
    by_cases hlt : k < l.length
    · obtain ⟨ad, hA, hx, hcell⟩ := (HF1.out.none_ HC.out).get hlt
      subst hA
      have q0 := hcell 0 (.string (l[k]).name) rfl
      have q1 := hcell 1 (l[k]).v rfl
      have q2 := hcell 2 (.int .i64 (l[k]).sy) rfl
      rw [show (ad.add (k * 3)).add 0 = ad.add (k * 3) from rfl] at q0
      rw [add_pos _ (by omega)] at q1 q2
      obtain ⟨Ak, ck, hkv', hkc, -⟩ := hx.rd
      rw [u8s_length] at hkv' hkc
      have HKV' := Lib.hid hkv'
      rw [hkv'] at q1
      have HXK := Lib.hid hx
      have hk0 : (k : Int) < (l.length : Int) := by omega
      have hk1 : (0 : Int) ≤ (k : Int) := by omega
      have hsy := hx.sy
      have hln := hx.len
      clear hcell hx hkv'
      generalize hfk : l[k] = fk at *
      have HFK := Lib.hid hfk
      clear hfk
      have hbk := heap_alloc_new wr (.cells #[.string fk.name, .slice Ak fk.bs.length ck, .int .i64 fk.sy] 91 (0, 0))
      have HAL := Lib.hid ((Chg.refl (fun _ => False) wr).alloc (.cells #[.string fk.name, .slice Ak fk.bs.length ck, .int .i64 fk.sy] 91 (0, 0)))
      have HBK := Lib.hid hbk
      have hsz : (wr.alloc (.cells #[.string fk.name, .slice Ak fk.bs.length ck, .int .i64 fk.sy] 91 (0, 0))).heap.size = wr.heap.size + 1 := by simp
      have HSZ := Lib.hid hsz
      have a6 := HAL.out.cellF a5
      have HSF : Hid (SlR (wr.alloc (.cells #[.string fk.name, .slice Ak fk.bs.length ck, .int .i64 fk.sy] 91 (0, 0))) (.slice Ak fk.bs.length ck) (u8s fk.bs)) := Lib.hid (by have := (HXK.out.none_ HAL.out).rd; rw [HKV'.out] at this; exact this)
      have HBD : Hid (∀ y ∈ rdBlk (.slice Ak fk.bs.length ck), y ≠ wr.heap.size) := Lib.hid (fun y hy => Nat.ne_of_lt (HXK.out.rd.lt y (by rw [HKV'.out]; exact hy)))
      clear hbk hsz
      generalize hw5 : wr.alloc (.cells #[.string fk.name, .slice Ak fk.bs.length ck, .int .i64 fk.sy] 91 (0, 0)) = w5 at *
      generalize hbf : wr.heap.size = bf at *
      have f0 := cell_of_blk HBK.out 0
      have f1 := cell_of_blk HBK.out 1
      have f2 := cell_of_blk HBK.out 2
      have z0 := frozen_of_blk HBK.out 0
      have z1 := frozen_of_blk HBK.out 1
      have z2 := frozen_of_blk HBK.out 2
      simp at f0 f1 f2
      have hwr : IntKind.i64.wrap ((fk.bs.length : Int) - (fk.sy : Int)) = (fk.bs.length : Int) - (fk.sy : Int) := IntWalk.i64_in _ (by omega)
      have HLT := Lib.hid hlt
      have HBF : Hid (wr.heap.size ≤ bf) := Lib.hid (by rw [hbf]; exact Nat.le_refl _)
      by_cases hrest : 0 < (fk.bs.length : Int) - (fk.sy : Int)
      · by_cases hnk : (nx : Int) < (x.keep.length : Int)
        · have hnk' : nx < x.keep.length := by omega
          have hkx : x.keep[nx]? = some x.keep[nx] := List.getElem?_eq_getElem hnk'
          have hdr : x.keep.drop nx = x.keep[nx] :: x.keep.drop (nx + 1) := List.drop_eq_getElem_cons hnk'
          have hrg := H.out.act.rng x.keep[nx] (List.getElem_mem hnk')
          generalize x.keep[nx] = z at *
          obtain ⟨kd, hA2, hkc⟩ : ∃ kd, A2 = some kd ∧ w5.cell? (kd.add nx) = some (.int .i64 z) := by
            have hks := ((H.out.act.none_ HC1.out).none_ (HC.out.trans HAL.out (fun _ _ h => h))).keep
            rw [HKV.out] at hks
            obtain ⟨A', c', he, -, h2⟩ := hks
            injection he with e1 e2 e3
            rw [i64s_length] at h2
            obtain ⟨kd, hA, hcc⟩ := h2 (by omega)
            exact ⟨kd, e1.trans hA, hcc nx _ (by unfold i64s; rw [List.getElem?_map, hkx]; rfl)⟩
          subst hA2
          have hnx0 : (0 : Int) ≤ (nx : Int) := by omega
          have hw1 : IntKind.i64.wrap ((fk.bs.length : Int) - (fk.sy : Int) + 1) = (fk.bs.length : Int) - (fk.sy : Int) + 1 := IntWalk.i64_in _ (by omega)
          have hw2 : IntKind.i64.wrap ((nx : Int) + 1) = ((nx + 1 : Nat) : Int) := by rw [IntWalk.i64_in _ (by omega)]; omega
          obtain ⟨m, hm⟩ : ∃ m : Nat, m = z.natAbs % (fk.bs.length - fk.sy + 1) := ⟨_, rfl⟩
          have hml : m < fk.bs.length - fk.sy + 1 := by rw [hm]; exact Nat.mod_lt _ (by omega)
          have hcr : crash1 fk.abs (x.keep.drop nx) = ((⟨fk.name, .slice none 0 0, fk.bs.take (fk.sy + m), fk.sy + m⟩ : RE).abs, x.keep.drop (nx + 1)) := by
            unfold crash1
            rw [if_neg (show ¬ fk.abs.bs.length = fk.abs.sy from by show ¬ fk.bs.length = fk.sy; omega), hdr]
            show (_, _) = (_, _)
            rw [hm]
            rfl
          have HCR := Lib.hid hcr
          have htm := tmod_abs z (fk.bs.length - fk.sy + 1)
          rw [← hm, show (((fk.bs.length - fk.sy + 1 : Nat)) : Int) = (fk.bs.length : Int) - (fk.sy : Int) + 1 from by omega] at htm
          obtain ⟨nn, hnn⟩ : ∃ nn : Nat, nn = fk.sy + m := ⟨_, rfl⟩
          rw [← hnn] at HCR
          have hnl : nn ≤ fk.bs.length := by omega
          have hz0 : ¬ ((fk.bs.length : Int) - (fk.sy : Int) + 1 = 0) := by omega
          clear hcr hkx hdr hm hnk' 
          generalize hT : Int.tmod z ((fk.bs.length : Int) - (fk.sy : Int) + 1) = T at *
          have hwT : IntKind.i64.wrap T = T := IntWalk.i64_in _ (by omega)
          by_cases hneg : T < 0
          · have hwn : IntKind.i64.wrap (-T) = (m : Int) := by rw [IntWalk.i64_in _ (by omega)]; omega
            have hw0 : IntKind.i64.wrap ((fk.sy : Int) + (m : Int)) = (nn : Int) := by rw [IntWalk.i64_in _ (by omega)]; omega
            clear htm hml hnn
            have hq0 : (0 : Int) ≤ (nn : Nat) := by omega
            have hq1 : ((nn : Nat) : Int) ≤ (ck : Int) := by omega
            have hql : nn ≤ fk.bs.length := by omega
            have HQL := Lib.hid hql
            have b6 := set_blk HBK.out 2 (.int .i64 (nn : Nat))
            have h56 : Chg (fun k => k = bf) w5 (w5.setCell ⟨bf, 2, none⟩ (.int .i64 (nn : Nat))) := (Chg.refl (fun k => k = bf) w5).set (fun _ => rfl) _
            have hsf6 := HSF.out.chg h56 (fun y hy e => HBD.out y hy e)
            have H56 := Lib.hid h56
            have HSF6 := Lib.hid hsf6
            have x0 := cell_of_blk b6 0
            have x1 := cell_of_blk b6 1
            have x2 := cell_of_blk b6 2
            simp at x0 x1 x2
            have HB6 := Lib.hid b6
            have HS6 : Hid ((w5.setCell ⟨bf, 2, none⟩ (.int .i64 (nn : Nat))).heap.size = bf + 1) := Lib.hid (by rw [← HSZ.out]; simp)
            clear b6 h56 hsf6
            have g0 := fun o => (((Chg.refl (fun _ => False) (w5.setCell ⟨bf, 2, none⟩ (.int .i64 (nn : Nat)))).alloc o).cellF x0)
            have g1 := fun o => (((Chg.refl (fun _ => False) (w5.setCell ⟨bf, 2, none⟩ (.int .i64 (nn : Nat)))).alloc o).cellF x1)
            have g2 := fun o => (((Chg.refl (fun _ => False) (w5.setCell ⟨bf, 2, none⟩ (.int .i64 (nn : Nat)))).alloc o).cellF x2)
            go_wp2_with (at_builtin; refine wpList_append_bytes _ rfl _ _ rfl (.slice (some ⟨w5.heap.size, 0, none⟩) 0 0) [] (by first | rfl | (simp; rfl)) ?h11 (.slice Ak nn ck) (fk.bs.take nn) rfl ?h12 ?h13 ?h14)
            case h11 => exact Row1.none_ _ _ _
            case h12 => exact (HSF6.out.none_ ((Chg.refl (fun _ => False) (w5.setCell ⟨bf, 2, none⟩ (.int .i64 (nn : Nat)))).alloc _)).take1 HQL.out
            case h13 => have := HXK.out.len; have := HQL.out; (try simp only [List.length_nil, List.length_take]); omega
            case h14 =>
              intro v7 w7 hrow hc7 hblk
              have h67 : Chg (fun _ => False) (w5.setCell ⟨bf, 2, none⟩ (.int .i64 (nn : Nat))) w7 := Chg.trans ((Chg.refl (fun _ => False) (w5.setCell ⟨bf, 2, none⟩ (.int .i64 (nn : Nat)))).alloc _) hc7 (by simp [rowBlk])
              try rw [List.nil_append] at hrow
              obtain ⟨R2, d2, hv7, -⟩ := hrow.shape
              simp only [u8s_length, List.length_take, Nat.min_eq_left HQL.out] at hv7
              subst hv7
              have hlt6 : bf < (w5.setCell ⟨bf, 2, none⟩ (.int .i64 (nn : Nat))).heap.size := by have := HS6.out; omega
              have hvb : ∀ y ∈ rowBlk (.slice R2 nn d2), bf < y := fun y hy => by
                rcases hblk y hy with h | h
                · simp [rowBlk] at h
                · exact Nat.lt_of_lt_of_le (by have := HSZ.out; simp; omega) h
              have HVB := Lib.hid hvb
              have HROW7 := Lib.hid hrow
              have e7 := (h67.block bf hlt6 (fun h => h)).trans HB6.out
              have c7 := cell_of_blk e7 1
              have z7 := frozen_of_blk e7 1
              simp at c7
              have b8 := set_blk e7 1 (.slice R2 nn d2)
              have y0 := cell_of_blk b8 0
              have y1 := cell_of_blk b8 1
              have y2 := cell_of_blk b8 2
              simp at y0 y1 y2
              have h58 : Chg (fun k => k = bf) w5 (w7.setCell ⟨bf, 1, none⟩ (.slice R2 nn d2)) := (H56.out.trans h67 (fun _ _ h => h.elim)).set (fun _ => rfl) _
              have H58 := Lib.hid (HAL.out.trans h58 (fun y hy e => by have := HBF.out; omega) : Chg (fun _ => False) wr (w7.setCell ⟨bf, 1, none⟩ (.slice R2 nn d2)))
              have hs78 : bf < (w7.setCell ⟨bf, 1, none⟩ (.slice R2 nn d2)).heap.size := Nat.lt_of_lt_of_le (by have := HSZ.out; omega) h58.size
              have HSL8 := Lib.hid ((HROW7.out.keep (w' := w7.setCell ⟨bf, 1, none⟩ (.slice R2 nn d2)) (fun y hy => Below.heap_setCell _ _ _ _ (Nat.ne_of_gt (HVB.out y hy)))))
              have HS78 := Lib.hid hs78
              clear hrow hc7 hblk hvb h67 e7 b8 h58 hs78 hlt6 g0 g1 g2 x0 x1 x2 z0 z1 z2 f0 f1 f2
              have HRE8 : Hid (REok (w7.setCell ⟨bf, 1, none⟩ (.slice R2 nn d2)) ⟨fk.name, .slice R2 nn d2, fk.bs.take nn, nn⟩) := Lib.hid ⟨HSL8.out.slr, by simp only [List.length_take]; have := HQL.out; omega, by simp only [List.length_take]; have := HXK.out.len; omega, HXK.out.name⟩
              have HR8 := Lib.hid ((HROW.out.none_ H58.out).none_ ((Chg.refl (fun _ => False) (w7.setCell ⟨bf, 1, none⟩ (.slice R2 nn d2))).alloc (.cells #[.string fk.name, .slice R2 nn d2, (.int .i64 (nn : Nat))] 91 (0, 0))))
              have HAL9 := Lib.hid ((Chg.refl (fun _ => False) (w7.setCell ⟨bf, 1, none⟩ (.slice R2 nn d2))).alloc (.cells #[.string fk.name, .slice R2 nn d2, (.int .i64 (nn : Nat))] 91 (0, 0)))
              go_wp2_with (at_builtin; refine wpList_append_files _ rfl _ _ rfl (.slice Ao P.length co) P rfl HR8.out (.slice (some ⟨w7.heap.size, 0, none⟩) 1 1) [⟨fk.name, .slice R2 nn d2, fk.bs.take nn, nn⟩] rfl (sl_oneB (w7.setCell ⟨bf, 1, none⟩ (.slice R2 nn d2)) ⟨fk.name, .slice R2 nn d2, fk.bs.take nn, nn⟩ rfl _ _ _ (by simp)) (by intro y hy; rw [List.mem_singleton.1 hy]; exact HRE8.out.one) (by have := HPL.out; simp; omega) ?h19)
              intro v9 w9 hrow9 hc9 hb9
              have HROW9 := Lib.hid hrow9
              have HC9 := Lib.hid hc9
              have HB9 := Lib.hid hb9
              have HRES := Lib.hid (crash_round HP.out HKR.out HLT.out HFK.out HCR.out)
              clear hrow9 hc9 hb9
              go_wp2
              go_roundw
              case rel =>
                have h89 : Chg (fun k => k ∈ rowBlk (.slice Ao P.length co)) (w7.setCell ⟨bf, 1, none⟩ (.slice R2 nn d2)) w9 := (HAL9.out.mono (fun _ _ h => h.elim) : Chg (fun k => k ∈ rowBlk (.slice Ao P.length co)) (w7.setCell ⟨bf, 1, none⟩ (.slice R2 nn d2)) _).trans HC9.out (fun _ _ h => h)
                have hpw : ∀ y ∈ rowBlk (.slice Ao P.length co), y < wr.heap.size := HROW.out.lt
                refine ⟨k + 1, nx + 1, P ++ [⟨fk.name, .slice R2 nn d2, fk.bs.take nn, nn⟩], by go_num, by first | rfl | go_num, HLT.out, by omega, by simp [HPL.out], by rw [List.length_append]; exact HROW9.out, ?_, HRES.out.2, ?_, ?_, ?_⟩
                · rw [List.map_append]
                  exact HRES.out.1
                · intro z hz
                  rcases List.mem_append.1 hz with hz | hz
                  · obtain ⟨r1, r2⟩ := HALL.out z hz
                    have r8 := r1.none_ H58.out
                    refine ⟨⟨r8.rd.chg h89 (fun y hy he => (r2 y hy).1 he), r8.sy, r8.len, r8.name⟩, fun y hy => ⟨fun he => ?_, (r2 y hy).2⟩⟩
                    rcases HB9.out y he with h | h
                    · exact (r2 y hy).1 h
                    · have h1 := r8.rd.lt y hy
                      have h2 : (w7.setCell ⟨bf, 1, none⟩ (.slice R2 nn d2)).heap.size ≤ y := by first | exact Nat.le_trans HAL9.out.size h | (simp at h ⊢; omega)
                      omega
                  · rw [List.mem_singleton.1 hz]
                    have r8 := HRE8.out
                    have r9 : ∀ y ∈ rdBlk (.slice R2 nn d2), bf < y := fun y hy => HVB.out y (HROW7.out.rd y hy)
                    refine ⟨⟨r8.rd.chg h89 (fun y hy he => by have h1 := r9 y hy; have h2 := hpw y he; have h3 := HBF.out; omega), r8.sy, r8.len, r8.name⟩, fun y hy => ⟨fun he => ?_, by have h1 := r9 y hy; have h3 := HBF.out; have h4 := HC.out.size; omega⟩⟩
                    rcases HB9.out y he with h | h
                    · have h1 := r9 y hy; have h2 := hpw y h; have h3 := HBF.out; omega
                    · have h1 := r8.rd.lt y hy
                      have h2 : (w7.setCell ⟨bf, 1, none⟩ (.slice R2 nn d2)).heap.size ≤ y := by first | exact Nat.le_trans HAL9.out.size h | (simp at h ⊢; omega)
                      omega
                · intro y hy
                  rcases HB9.out y hy with h | h
                  · exact HOB.out y h
                  · have h1 := HC.out.size
                    have h2 := H58.out.size
                    have h3 : (w7.setCell ⟨bf, 1, none⟩ (.slice R2 nn d2)).heap.size ≤ y := by first | exact Nat.le_trans HAL9.out.size h | (simp at h ⊢; omega)
                    omega
                · exact (HC.out.trans H58.out (fun _ _ h => h)).trans h89 (fun y hy he => by have := HOB.out y he; omega)
              case measure => simp [intOf]; omega
          · have hTm : T = (m : Int) := by omega
            have hw0 : IntKind.i64.wrap ((fk.sy : Int) + (m : Int)) = (nn : Int) := by rw [IntWalk.i64_in _ (by omega)]; omega
            subst hTm
            clear htm hml hnn
            have hq0 : (0 : Int) ≤ (nn : Nat) := by omega
            have hq1 : ((nn : Nat) : Int) ≤ (ck : Int) := by omega
            have hql : nn ≤ fk.bs.length := by omega
            have HQL := Lib.hid hql
            have b6 := set_blk HBK.out 2 (.int .i64 (nn : Nat))
            have h56 : Chg (fun k => k = bf) w5 (w5.setCell ⟨bf, 2, none⟩ (.int .i64 (nn : Nat))) := (Chg.refl (fun k => k = bf) w5).set (fun _ => rfl) _
            have hsf6 := HSF.out.chg h56 (fun y hy e => HBD.out y hy e)
            have H56 := Lib.hid h56
            have HSF6 := Lib.hid hsf6
            have x0 := cell_of_blk b6 0
            have x1 := cell_of_blk b6 1
            have x2 := cell_of_blk b6 2
            simp at x0 x1 x2
            have HB6 := Lib.hid b6
            have HS6 : Hid ((w5.setCell ⟨bf, 2, none⟩ (.int .i64 (nn : Nat))).heap.size = bf + 1) := Lib.hid (by rw [← HSZ.out]; simp)
            clear b6 h56 hsf6
            have g0 := fun o => (((Chg.refl (fun _ => False) (w5.setCell ⟨bf, 2, none⟩ (.int .i64 (nn : Nat)))).alloc o).cellF x0)
            have g1 := fun o => (((Chg.refl (fun _ => False) (w5.setCell ⟨bf, 2, none⟩ (.int .i64 (nn : Nat)))).alloc o).cellF x1)
            have g2 := fun o => (((Chg.refl (fun _ => False) (w5.setCell ⟨bf, 2, none⟩ (.int .i64 (nn : Nat)))).alloc o).cellF x2)
            go_wp2_with (at_builtin; refine wpList_append_bytes _ rfl _ _ rfl (.slice (some ⟨w5.heap.size, 0, none⟩) 0 0) [] (by first | rfl | (simp; rfl)) ?h21 (.slice Ak nn ck) (fk.bs.take nn) rfl ?h22 ?h23 ?h24)
            case h21 => exact Row1.none_ _ _ _
            case h22 => exact (HSF6.out.none_ ((Chg.refl (fun _ => False) (w5.setCell ⟨bf, 2, none⟩ (.int .i64 (nn : Nat)))).alloc _)).take1 HQL.out
            case h23 => have := HXK.out.len; have := HQL.out; (try simp only [List.length_nil, List.length_take]); omega
            case h24 =>
              intro v7 w7 hrow hc7 hblk
              have h67 : Chg (fun _ => False) (w5.setCell ⟨bf, 2, none⟩ (.int .i64 (nn : Nat))) w7 := Chg.trans ((Chg.refl (fun _ => False) (w5.setCell ⟨bf, 2, none⟩ (.int .i64 (nn : Nat)))).alloc _) hc7 (by simp [rowBlk])
              try rw [List.nil_append] at hrow
              obtain ⟨R2, d2, hv7, -⟩ := hrow.shape
              simp only [u8s_length, List.length_take, Nat.min_eq_left HQL.out] at hv7
              subst hv7
              have hlt6 : bf < (w5.setCell ⟨bf, 2, none⟩ (.int .i64 (nn : Nat))).heap.size := by have := HS6.out; omega
              have hvb : ∀ y ∈ rowBlk (.slice R2 nn d2), bf < y := fun y hy => by
                rcases hblk y hy with h | h
                · simp [rowBlk] at h
                · exact Nat.lt_of_lt_of_le (by have := HSZ.out; simp; omega) h
              have HVB := Lib.hid hvb
              have HROW7 := Lib.hid hrow
              have e7 := (h67.block bf hlt6 (fun h => h)).trans HB6.out
              have c7 := cell_of_blk e7 1
              have z7 := frozen_of_blk e7 1
              simp at c7
              have b8 := set_blk e7 1 (.slice R2 nn d2)
              have y0 := cell_of_blk b8 0
              have y1 := cell_of_blk b8 1
              have y2 := cell_of_blk b8 2
              simp at y0 y1 y2
              have h58 : Chg (fun k => k = bf) w5 (w7.setCell ⟨bf, 1, none⟩ (.slice R2 nn d2)) := (H56.out.trans h67 (fun _ _ h => h.elim)).set (fun _ => rfl) _
              have H58 := Lib.hid (HAL.out.trans h58 (fun y hy e => by have := HBF.out; omega) : Chg (fun _ => False) wr (w7.setCell ⟨bf, 1, none⟩ (.slice R2 nn d2)))
              have hs78 : bf < (w7.setCell ⟨bf, 1, none⟩ (.slice R2 nn d2)).heap.size := Nat.lt_of_lt_of_le (by have := HSZ.out; omega) h58.size
              have HSL8 := Lib.hid ((HROW7.out.keep (w' := w7.setCell ⟨bf, 1, none⟩ (.slice R2 nn d2)) (fun y hy => Below.heap_setCell _ _ _ _ (Nat.ne_of_gt (HVB.out y hy)))))
              have HS78 := Lib.hid hs78
              clear hrow hc7 hblk hvb h67 e7 b8 h58 hs78 hlt6 g0 g1 g2 x0 x1 x2 z0 z1 z2 f0 f1 f2
              have HRE8 : Hid (REok (w7.setCell ⟨bf, 1, none⟩ (.slice R2 nn d2)) ⟨fk.name, .slice R2 nn d2, fk.bs.take nn, nn⟩) := Lib.hid ⟨HSL8.out.slr, by simp only [List.length_take]; have := HQL.out; omega, by simp only [List.length_take]; have := HXK.out.len; omega, HXK.out.name⟩
              have HR8 := Lib.hid ((HROW.out.none_ H58.out).none_ ((Chg.refl (fun _ => False) (w7.setCell ⟨bf, 1, none⟩ (.slice R2 nn d2))).alloc (.cells #[.string fk.name, .slice R2 nn d2, (.int .i64 (nn : Nat))] 91 (0, 0))))
              have HAL9 := Lib.hid ((Chg.refl (fun _ => False) (w7.setCell ⟨bf, 1, none⟩ (.slice R2 nn d2))).alloc (.cells #[.string fk.name, .slice R2 nn d2, (.int .i64 (nn : Nat))] 91 (0, 0)))
              go_wp2_with (at_builtin; refine wpList_append_files _ rfl _ _ rfl (.slice Ao P.length co) P rfl HR8.out (.slice (some ⟨w7.heap.size, 0, none⟩) 1 1) [⟨fk.name, .slice R2 nn d2, fk.bs.take nn, nn⟩] rfl (sl_oneB (w7.setCell ⟨bf, 1, none⟩ (.slice R2 nn d2)) ⟨fk.name, .slice R2 nn d2, fk.bs.take nn, nn⟩ rfl _ _ _ (by simp)) (by intro y hy; rw [List.mem_singleton.1 hy]; exact HRE8.out.one) (by have := HPL.out; simp; omega) ?h29)
              intro v9 w9 hrow9 hc9 hb9
              have HROW9 := Lib.hid hrow9
              have HC9 := Lib.hid hc9
              have HB9 := Lib.hid hb9
              have HRES := Lib.hid (crash_round HP.out HKR.out HLT.out HFK.out HCR.out)
              clear hrow9 hc9 hb9
              go_wp2
              go_roundw
              case rel =>
                have h89 : Chg (fun k => k ∈ rowBlk (.slice Ao P.length co)) (w7.setCell ⟨bf, 1, none⟩ (.slice R2 nn d2)) w9 := (HAL9.out.mono (fun _ _ h => h.elim) : Chg (fun k => k ∈ rowBlk (.slice Ao P.length co)) (w7.setCell ⟨bf, 1, none⟩ (.slice R2 nn d2)) _).trans HC9.out (fun _ _ h => h)
                have hpw : ∀ y ∈ rowBlk (.slice Ao P.length co), y < wr.heap.size := HROW.out.lt
                refine ⟨k + 1, nx + 1, P ++ [⟨fk.name, .slice R2 nn d2, fk.bs.take nn, nn⟩], by go_num, by first | rfl | go_num, HLT.out, by omega, by simp [HPL.out], by rw [List.length_append]; exact HROW9.out, ?_, HRES.out.2, ?_, ?_, ?_⟩
                · rw [List.map_append]
                  exact HRES.out.1
                · intro z hz
                  rcases List.mem_append.1 hz with hz | hz
                  · obtain ⟨r1, r2⟩ := HALL.out z hz
                    have r8 := r1.none_ H58.out
                    refine ⟨⟨r8.rd.chg h89 (fun y hy he => (r2 y hy).1 he), r8.sy, r8.len, r8.name⟩, fun y hy => ⟨fun he => ?_, (r2 y hy).2⟩⟩
                    rcases HB9.out y he with h | h
                    · exact (r2 y hy).1 h
                    · have h1 := r8.rd.lt y hy
                      have h2 : (w7.setCell ⟨bf, 1, none⟩ (.slice R2 nn d2)).heap.size ≤ y := by first | exact Nat.le_trans HAL9.out.size h | (simp at h ⊢; omega)
                      omega
                  · rw [List.mem_singleton.1 hz]
                    have r8 := HRE8.out
                    have r9 : ∀ y ∈ rdBlk (.slice R2 nn d2), bf < y := fun y hy => HVB.out y (HROW7.out.rd y hy)
                    refine ⟨⟨r8.rd.chg h89 (fun y hy he => by have h1 := r9 y hy; have h2 := hpw y he; have h3 := HBF.out; omega), r8.sy, r8.len, r8.name⟩, fun y hy => ⟨fun he => ?_, by have h1 := r9 y hy; have h3 := HBF.out; have h4 := HC.out.size; omega⟩⟩
                    rcases HB9.out y he with h | h
                    · have h1 := r9 y hy; have h2 := hpw y h; have h3 := HBF.out; omega
                    · have h1 := r8.rd.lt y hy
                      have h2 : (w7.setCell ⟨bf, 1, none⟩ (.slice R2 nn d2)).heap.size ≤ y := by first | exact Nat.le_trans HAL9.out.size h | (simp at h ⊢; omega)
                      omega
                · intro y hy
                  rcases HB9.out y hy with h | h
                  · exact HOB.out y h
                  · have h1 := HC.out.size
                    have h2 := H58.out.size
                    have h3 : (w7.setCell ⟨bf, 1, none⟩ (.slice R2 nn d2)).heap.size ≤ y := by first | exact Nat.le_trans HAL9.out.size h | (simp at h ⊢; omega)
                    omega
                · exact (HC.out.trans H58.out (fun _ _ h => h)).trans h89 (fun y hy he => by have := HOB.out y he; omega)
              case measure => simp [intOf]; omega
        · have hw0 : IntKind.i64.wrap ((fk.sy : Int) + 0) = (fk.sy : Int) := by rw [Int.add_zero]; exact IntWalk.i64_in _ (by omega)
          have hcr : crash1 fk.abs (x.keep.drop nx) = ((⟨fk.name, .slice none 0 0, fk.bs.take fk.sy, fk.sy⟩ : RE).abs, x.keep.drop nx) := by
            unfold crash1
            rw [if_neg (show ¬ fk.abs.bs.length = fk.abs.sy from by show ¬ fk.bs.length = fk.sy; omega), List.drop_eq_nil_of_le (by omega)]
            rfl
          have HCR := Lib.hid hcr
          clear hcr
          have hq0 : (0 : Int) ≤ (fk.sy : Nat) := by omega
          have hq1 : ((fk.sy : Nat) : Int) ≤ (ck : Int) := by omega
          have hql : fk.sy ≤ fk.bs.length := by omega
          have HQL := Lib.hid hql
          have b6 := set_blk HBK.out 2 (.int .i64 (fk.sy : Nat))
          have h56 : Chg (fun k => k = bf) w5 (w5.setCell ⟨bf, 2, none⟩ (.int .i64 (fk.sy : Nat))) := (Chg.refl (fun k => k = bf) w5).set (fun _ => rfl) _
          have hsf6 := HSF.out.chg h56 (fun y hy e => HBD.out y hy e)
          have H56 := Lib.hid h56
          have HSF6 := Lib.hid hsf6
          have x0 := cell_of_blk b6 0
          have x1 := cell_of_blk b6 1
          have x2 := cell_of_blk b6 2
          simp at x0 x1 x2
          have HB6 := Lib.hid b6
          have HS6 : Hid ((w5.setCell ⟨bf, 2, none⟩ (.int .i64 (fk.sy : Nat))).heap.size = bf + 1) := Lib.hid (by rw [← HSZ.out]; simp)
          clear b6 h56 hsf6
          have g0 := fun o => (((Chg.refl (fun _ => False) (w5.setCell ⟨bf, 2, none⟩ (.int .i64 (fk.sy : Nat)))).alloc o).cellF x0)
          have g1 := fun o => (((Chg.refl (fun _ => False) (w5.setCell ⟨bf, 2, none⟩ (.int .i64 (fk.sy : Nat)))).alloc o).cellF x1)
          have g2 := fun o => (((Chg.refl (fun _ => False) (w5.setCell ⟨bf, 2, none⟩ (.int .i64 (fk.sy : Nat)))).alloc o).cellF x2)
          go_wp2_with (at_builtin; refine wpList_append_bytes _ rfl _ _ rfl (.slice (some ⟨w5.heap.size, 0, none⟩) 0 0) [] (by first | rfl | (simp; rfl)) ?h31 (.slice Ak fk.sy ck) (fk.bs.take fk.sy) rfl ?h32 ?h33 ?h34)
          case h31 => exact Row1.none_ _ _ _
          case h32 => exact (HSF6.out.none_ ((Chg.refl (fun _ => False) (w5.setCell ⟨bf, 2, none⟩ (.int .i64 (fk.sy : Nat)))).alloc _)).take1 HQL.out
          case h33 => have := HXK.out.len; have := HQL.out; (try simp only [List.length_nil, List.length_take]); omega
          case h34 =>
            intro v7 w7 hrow hc7 hblk
            have h67 : Chg (fun _ => False) (w5.setCell ⟨bf, 2, none⟩ (.int .i64 (fk.sy : Nat))) w7 := Chg.trans ((Chg.refl (fun _ => False) (w5.setCell ⟨bf, 2, none⟩ (.int .i64 (fk.sy : Nat)))).alloc _) hc7 (by simp [rowBlk])
            try rw [List.nil_append] at hrow
            obtain ⟨R2, d2, hv7, -⟩ := hrow.shape
            simp only [u8s_length, List.length_take, Nat.min_eq_left HQL.out] at hv7
            subst hv7
            have hlt6 : bf < (w5.setCell ⟨bf, 2, none⟩ (.int .i64 (fk.sy : Nat))).heap.size := by have := HS6.out; omega
            have hvb : ∀ y ∈ rowBlk (.slice R2 fk.sy d2), bf < y := fun y hy => by
              rcases hblk y hy with h | h
              · simp [rowBlk] at h
              · exact Nat.lt_of_lt_of_le (by have := HSZ.out; simp; omega) h
            have HVB := Lib.hid hvb
            have HROW7 := Lib.hid hrow
            have e7 := (h67.block bf hlt6 (fun h => h)).trans HB6.out
            have c7 := cell_of_blk e7 1
            have z7 := frozen_of_blk e7 1
            simp at c7
            have b8 := set_blk e7 1 (.slice R2 fk.sy d2)
            have y0 := cell_of_blk b8 0
            have y1 := cell_of_blk b8 1
            have y2 := cell_of_blk b8 2
            simp at y0 y1 y2
            have h58 : Chg (fun k => k = bf) w5 (w7.setCell ⟨bf, 1, none⟩ (.slice R2 fk.sy d2)) := (H56.out.trans h67 (fun _ _ h => h.elim)).set (fun _ => rfl) _
            have H58 := Lib.hid (HAL.out.trans h58 (fun y hy e => by have := HBF.out; omega) : Chg (fun _ => False) wr (w7.setCell ⟨bf, 1, none⟩ (.slice R2 fk.sy d2)))
            have hs78 : bf < (w7.setCell ⟨bf, 1, none⟩ (.slice R2 fk.sy d2)).heap.size := Nat.lt_of_lt_of_le (by have := HSZ.out; omega) h58.size
            have HSL8 := Lib.hid ((HROW7.out.keep (w' := w7.setCell ⟨bf, 1, none⟩ (.slice R2 fk.sy d2)) (fun y hy => Below.heap_setCell _ _ _ _ (Nat.ne_of_gt (HVB.out y hy)))))
            have HS78 := Lib.hid hs78
            clear hrow hc7 hblk hvb h67 e7 b8 h58 hs78 hlt6 g0 g1 g2 x0 x1 x2 z0 z1 z2 f0 f1 f2
            have HRE8 : Hid (REok (w7.setCell ⟨bf, 1, none⟩ (.slice R2 fk.sy d2)) ⟨fk.name, .slice R2 fk.sy d2, fk.bs.take fk.sy, fk.sy⟩) := Lib.hid ⟨HSL8.out.slr, by simp only [List.length_take]; have := HQL.out; omega, by simp only [List.length_take]; have := HXK.out.len; omega, HXK.out.name⟩
            have HR8 := Lib.hid ((HROW.out.none_ H58.out).none_ ((Chg.refl (fun _ => False) (w7.setCell ⟨bf, 1, none⟩ (.slice R2 fk.sy d2))).alloc (.cells #[.string fk.name, .slice R2 fk.sy d2, (.int .i64 (fk.sy : Nat))] 91 (0, 0))))
            have HAL9 := Lib.hid ((Chg.refl (fun _ => False) (w7.setCell ⟨bf, 1, none⟩ (.slice R2 fk.sy d2))).alloc (.cells #[.string fk.name, .slice R2 fk.sy d2, (.int .i64 (fk.sy : Nat))] 91 (0, 0)))
            go_wp2_with (at_builtin; refine wpList_append_files _ rfl _ _ rfl (.slice Ao P.length co) P rfl HR8.out (.slice (some ⟨w7.heap.size, 0, none⟩) 1 1) [⟨fk.name, .slice R2 fk.sy d2, fk.bs.take fk.sy, fk.sy⟩] rfl (sl_oneB (w7.setCell ⟨bf, 1, none⟩ (.slice R2 fk.sy d2)) ⟨fk.name, .slice R2 fk.sy d2, fk.bs.take fk.sy, fk.sy⟩ rfl _ _ _ (by simp)) (by intro y hy; rw [List.mem_singleton.1 hy]; exact HRE8.out.one) (by have := HPL.out; simp; omega) ?h39)
            intro v9 w9 hrow9 hc9 hb9
            have HROW9 := Lib.hid hrow9
            have HC9 := Lib.hid hc9
            have HB9 := Lib.hid hb9
            have HRES := Lib.hid (crash_round HP.out HKR.out HLT.out HFK.out HCR.out)
            clear hrow9 hc9 hb9
            go_wp2
            go_roundw
            case rel =>
              have h89 : Chg (fun k => k ∈ rowBlk (.slice Ao P.length co)) (w7.setCell ⟨bf, 1, none⟩ (.slice R2 fk.sy d2)) w9 := (HAL9.out.mono (fun _ _ h => h.elim) : Chg (fun k => k ∈ rowBlk (.slice Ao P.length co)) (w7.setCell ⟨bf, 1, none⟩ (.slice R2 fk.sy d2)) _).trans HC9.out (fun _ _ h => h)
              have hpw : ∀ y ∈ rowBlk (.slice Ao P.length co), y < wr.heap.size := HROW.out.lt
              refine ⟨k + 1, nx, P ++ [⟨fk.name, .slice R2 fk.sy d2, fk.bs.take fk.sy, fk.sy⟩], by go_num, by first | rfl | go_num, HLT.out, by omega, by simp [HPL.out], by rw [List.length_append]; exact HROW9.out, ?_, HRES.out.2, ?_, ?_, ?_⟩
              · rw [List.map_append]
                exact HRES.out.1
              · intro z hz
                rcases List.mem_append.1 hz with hz | hz
                · obtain ⟨r1, r2⟩ := HALL.out z hz
                  have r8 := r1.none_ H58.out
                  refine ⟨⟨r8.rd.chg h89 (fun y hy he => (r2 y hy).1 he), r8.sy, r8.len, r8.name⟩, fun y hy => ⟨fun he => ?_, (r2 y hy).2⟩⟩
                  rcases HB9.out y he with h | h
                  · exact (r2 y hy).1 h
                  · have h1 := r8.rd.lt y hy
                    have h2 : (w7.setCell ⟨bf, 1, none⟩ (.slice R2 fk.sy d2)).heap.size ≤ y := by first | exact Nat.le_trans HAL9.out.size h | (simp at h ⊢; omega)
                    omega
                · rw [List.mem_singleton.1 hz]
                  have r8 := HRE8.out
                  have r9 : ∀ y ∈ rdBlk (.slice R2 fk.sy d2), bf < y := fun y hy => HVB.out y (HROW7.out.rd y hy)
                  refine ⟨⟨r8.rd.chg h89 (fun y hy he => by have h1 := r9 y hy; have h2 := hpw y he; have h3 := HBF.out; omega), r8.sy, r8.len, r8.name⟩, fun y hy => ⟨fun he => ?_, by have h1 := r9 y hy; have h3 := HBF.out; have h4 := HC.out.size; omega⟩⟩
                  rcases HB9.out y he with h | h
                  · have h1 := r9 y hy; have h2 := hpw y h; have h3 := HBF.out; omega
                  · have h1 := r8.rd.lt y hy
                    have h2 : (w7.setCell ⟨bf, 1, none⟩ (.slice R2 fk.sy d2)).heap.size ≤ y := by first | exact Nat.le_trans HAL9.out.size h | (simp at h ⊢; omega)
                    omega
              · intro y hy
                rcases HB9.out y hy with h | h
                · exact HOB.out y h
                · have h1 := HC.out.size
                  have h2 := H58.out.size
                  have h3 : (w7.setCell ⟨bf, 1, none⟩ (.slice R2 fk.sy d2)).heap.size ≤ y := by first | exact Nat.le_trans HAL9.out.size h | (simp at h ⊢; omega)
                  omega
              · exact (HC.out.trans H58.out (fun _ _ h => h)).trans h89 (fun y hy he => by have := HOB.out y he; omega)
            case measure => simp [intOf]; omega
      · have hw0 : IntKind.i64.wrap ((fk.sy : Int) + 0) = (fk.sy : Int) := by rw [Int.add_zero]; exact IntWalk.i64_in _ (by omega)
        have hcr : crash1 fk.abs (x.keep.drop nx) = ((⟨fk.name, .slice none 0 0, fk.bs.take fk.sy, fk.sy⟩ : RE).abs, x.keep.drop nx) := by
          unfold crash1
          rw [if_pos (show fk.abs.bs.length = fk.abs.sy from by show fk.bs.length = fk.sy; omega)]
          have : fk.bs.take fk.sy = fk.bs := List.take_of_length_le (by omega)
          unfold RE.abs
          rw [this]
        have HCR := Lib.hid hcr
        clear hcr
        have hq0 : (0 : Int) ≤ (fk.sy : Nat) := by omega
        have hq1 : ((fk.sy : Nat) : Int) ≤ (ck : Int) := by omega
        have hql : fk.sy ≤ fk.bs.length := by omega
        have HQL := Lib.hid hql
        have b6 := set_blk HBK.out 2 (.int .i64 (fk.sy : Nat))
        have h56 : Chg (fun k => k = bf) w5 (w5.setCell ⟨bf, 2, none⟩ (.int .i64 (fk.sy : Nat))) := (Chg.refl (fun k => k = bf) w5).set (fun _ => rfl) _
        have hsf6 := HSF.out.chg h56 (fun y hy e => HBD.out y hy e)
        have H56 := Lib.hid h56
        have HSF6 := Lib.hid hsf6
        have x0 := cell_of_blk b6 0
        have x1 := cell_of_blk b6 1
        have x2 := cell_of_blk b6 2
        simp at x0 x1 x2
        have HB6 := Lib.hid b6
        have HS6 : Hid ((w5.setCell ⟨bf, 2, none⟩ (.int .i64 (fk.sy : Nat))).heap.size = bf + 1) := Lib.hid (by rw [← HSZ.out]; simp)
        clear b6 h56 hsf6
        have g0 := fun o => (((Chg.refl (fun _ => False) (w5.setCell ⟨bf, 2, none⟩ (.int .i64 (fk.sy : Nat)))).alloc o).cellF x0)
        have g1 := fun o => (((Chg.refl (fun _ => False) (w5.setCell ⟨bf, 2, none⟩ (.int .i64 (fk.sy : Nat)))).alloc o).cellF x1)
        have g2 := fun o => (((Chg.refl (fun _ => False) (w5.setCell ⟨bf, 2, none⟩ (.int .i64 (fk.sy : Nat)))).alloc o).cellF x2)
        go_wp2_with (at_builtin; refine wpList_append_bytes _ rfl _ _ rfl (.slice (some ⟨w5.heap.size, 0, none⟩) 0 0) [] (by first | rfl | (simp; rfl)) ?h41 (.slice Ak fk.sy ck) (fk.bs.take fk.sy) rfl ?h42 ?h43 ?h44)
        case h41 => exact Row1.none_ _ _ _
        case h42 => exact (HSF6.out.none_ ((Chg.refl (fun _ => False) (w5.setCell ⟨bf, 2, none⟩ (.int .i64 (fk.sy : Nat)))).alloc _)).take1 HQL.out
        case h43 => have := HXK.out.len; have := HQL.out; (try simp only [List.length_nil, List.length_take]); omega
        case h44 =>
          intro v7 w7 hrow hc7 hblk
          have h67 : Chg (fun _ => False) (w5.setCell ⟨bf, 2, none⟩ (.int .i64 (fk.sy : Nat))) w7 := Chg.trans ((Chg.refl (fun _ => False) (w5.setCell ⟨bf, 2, none⟩ (.int .i64 (fk.sy : Nat)))).alloc _) hc7 (by simp [rowBlk])
          try rw [List.nil_append] at hrow
          obtain ⟨R2, d2, hv7, -⟩ := hrow.shape
          simp only [u8s_length, List.length_take, Nat.min_eq_left HQL.out] at hv7
          subst hv7
          have hlt6 : bf < (w5.setCell ⟨bf, 2, none⟩ (.int .i64 (fk.sy : Nat))).heap.size := by have := HS6.out; omega
          have hvb : ∀ y ∈ rowBlk (.slice R2 fk.sy d2), bf < y := fun y hy => by
            rcases hblk y hy with h | h
            · simp [rowBlk] at h
            · exact Nat.lt_of_lt_of_le (by have := HSZ.out; simp; omega) h
          have HVB := Lib.hid hvb
          have HROW7 := Lib.hid hrow
          have e7 := (h67.block bf hlt6 (fun h => h)).trans HB6.out
          have c7 := cell_of_blk e7 1
          have z7 := frozen_of_blk e7 1
          simp at c7
          have b8 := set_blk e7 1 (.slice R2 fk.sy d2)
          have y0 := cell_of_blk b8 0
          have y1 := cell_of_blk b8 1
          have y2 := cell_of_blk b8 2
          simp at y0 y1 y2
          have h58 : Chg (fun k => k = bf) w5 (w7.setCell ⟨bf, 1, none⟩ (.slice R2 fk.sy d2)) := (H56.out.trans h67 (fun _ _ h => h.elim)).set (fun _ => rfl) _
          have H58 := Lib.hid (HAL.out.trans h58 (fun y hy e => by have := HBF.out; omega) : Chg (fun _ => False) wr (w7.setCell ⟨bf, 1, none⟩ (.slice R2 fk.sy d2)))
          have hs78 : bf < (w7.setCell ⟨bf, 1, none⟩ (.slice R2 fk.sy d2)).heap.size := Nat.lt_of_lt_of_le (by have := HSZ.out; omega) h58.size
          have HSL8 := Lib.hid ((HROW7.out.keep (w' := w7.setCell ⟨bf, 1, none⟩ (.slice R2 fk.sy d2)) (fun y hy => Below.heap_setCell _ _ _ _ (Nat.ne_of_gt (HVB.out y hy)))))
          have HS78 := Lib.hid hs78
          clear hrow hc7 hblk hvb h67 e7 b8 h58 hs78 hlt6 g0 g1 g2 x0 x1 x2 z0 z1 z2 f0 f1 f2
          have HRE8 : Hid (REok (w7.setCell ⟨bf, 1, none⟩ (.slice R2 fk.sy d2)) ⟨fk.name, .slice R2 fk.sy d2, fk.bs.take fk.sy, fk.sy⟩) := Lib.hid ⟨HSL8.out.slr, by simp only [List.length_take]; have := HQL.out; omega, by simp only [List.length_take]; have := HXK.out.len; omega, HXK.out.name⟩
          have HR8 := Lib.hid ((HROW.out.none_ H58.out).none_ ((Chg.refl (fun _ => False) (w7.setCell ⟨bf, 1, none⟩ (.slice R2 fk.sy d2))).alloc (.cells #[.string fk.name, .slice R2 fk.sy d2, (.int .i64 (fk.sy : Nat))] 91 (0, 0))))
          have HAL9 := Lib.hid ((Chg.refl (fun _ => False) (w7.setCell ⟨bf, 1, none⟩ (.slice R2 fk.sy d2))).alloc (.cells #[.string fk.name, .slice R2 fk.sy d2, (.int .i64 (fk.sy : Nat))] 91 (0, 0)))
          go_wp2_with (at_builtin; refine wpList_append_files _ rfl _ _ rfl (.slice Ao P.length co) P rfl HR8.out (.slice (some ⟨w7.heap.size, 0, none⟩) 1 1) [⟨fk.name, .slice R2 fk.sy d2, fk.bs.take fk.sy, fk.sy⟩] rfl (sl_oneB (w7.setCell ⟨bf, 1, none⟩ (.slice R2 fk.sy d2)) ⟨fk.name, .slice R2 fk.sy d2, fk.bs.take fk.sy, fk.sy⟩ rfl _ _ _ (by simp)) (by intro y hy; rw [List.mem_singleton.1 hy]; exact HRE8.out.one) (by have := HPL.out; simp; omega) ?h49)
          intro v9 w9 hrow9 hc9 hb9
          have HROW9 := Lib.hid hrow9
          have HC9 := Lib.hid hc9
          have HB9 := Lib.hid hb9
          have HRES := Lib.hid (crash_round HP.out HKR.out HLT.out HFK.out HCR.out)
          clear hrow9 hc9 hb9
          go_wp2
          go_roundw
          case rel =>
            have h89 : Chg (fun k => k ∈ rowBlk (.slice Ao P.length co)) (w7.setCell ⟨bf, 1, none⟩ (.slice R2 fk.sy d2)) w9 := (HAL9.out.mono (fun _ _ h => h.elim) : Chg (fun k => k ∈ rowBlk (.slice Ao P.length co)) (w7.setCell ⟨bf, 1, none⟩ (.slice R2 fk.sy d2)) _).trans HC9.out (fun _ _ h => h)
            have hpw : ∀ y ∈ rowBlk (.slice Ao P.length co), y < wr.heap.size := HROW.out.lt
            refine ⟨k + 1, nx, P ++ [⟨fk.name, .slice R2 fk.sy d2, fk.bs.take fk.sy, fk.sy⟩], by go_num, by first | rfl | go_num, HLT.out, by omega, by simp [HPL.out], by rw [List.length_append]; exact HROW9.out, ?_, HRES.out.2, ?_, ?_, ?_⟩
            · rw [List.map_append]
              exact HRES.out.1
            · intro z hz
              rcases List.mem_append.1 hz with hz | hz
              · obtain ⟨r1, r2⟩ := HALL.out z hz
                have r8 := r1.none_ H58.out
                refine ⟨⟨r8.rd.chg h89 (fun y hy he => (r2 y hy).1 he), r8.sy, r8.len, r8.name⟩, fun y hy => ⟨fun he => ?_, (r2 y hy).2⟩⟩
                rcases HB9.out y he with h | h
                · exact (r2 y hy).1 h
                · have h1 := r8.rd.lt y hy
                  have h2 : (w7.setCell ⟨bf, 1, none⟩ (.slice R2 fk.sy d2)).heap.size ≤ y := by first | exact Nat.le_trans HAL9.out.size h | (simp at h ⊢; omega)
                  omega
              · rw [List.mem_singleton.1 hz]
                have r8 := HRE8.out
                have r9 : ∀ y ∈ rdBlk (.slice R2 fk.sy d2), bf < y := fun y hy => HVB.out y (HROW7.out.rd y hy)
                refine ⟨⟨r8.rd.chg h89 (fun y hy he => by have h1 := r9 y hy; have h2 := hpw y he; have h3 := HBF.out; omega), r8.sy, r8.len, r8.name⟩, fun y hy => ⟨fun he => ?_, by have h1 := r9 y hy; have h3 := HBF.out; have h4 := HC.out.size; omega⟩⟩
                rcases HB9.out y he with h | h
                · have h1 := r9 y hy; have h2 := hpw y h; have h3 := HBF.out; omega
                · have h1 := r8.rd.lt y hy
                  have h2 : (w7.setCell ⟨bf, 1, none⟩ (.slice R2 fk.sy d2)).heap.size ≤ y := by first | exact Nat.le_trans HAL9.out.size h | (simp at h ⊢; omega)
                  omega
            · intro y hy
              rcases HB9.out y hy with h | h
              · exact HOB.out y h
              · have h1 := HC.out.size
                have h2 := H58.out.size
                have h3 : (w7.setCell ⟨bf, 1, none⟩ (.slice R2 fk.sy d2)).heap.size ≤ y := by first | exact Nat.le_trans HAL9.out.size h | (simp at h ⊢; omega)
                omega
            · exact (HC.out.trans H58.out (fun _ _ h => h)).trans h89 (fun y hy he => by have := HOB.out y he; omega)
          case measure => simp [intOf]; omega
    · have hk0 : ¬ (k : Int) < (l.length : Int) := by omega
      have hkl : k = l.length := by omega
      have hP' : P.map RE.abs = (crashL (l.map RE.abs) x.keep).1 := by rw [HP.out, hkl, List.take_length]
      have hend := RetDo.mk (w := w) (c := 0) rfl (Fs.of_row HROW.out (by have := HPL.out; omega) (fun z hz => (HALL.out z hz).1)) hP' (HC1.out.trans HC.out (fun _ _ h => h)) (v0 := .slice A l.length c) (l0 := l) (by rintro y (h | ⟨z, hz, h⟩); exact .inr (Nat.le_trans HC1.out.size (HOB.out y (HROW.out.rd y h))); exact .inr (Nat.le_trans HC1.out.size ((HALL.out z hz).2 y h).2))
      have HEND := Lib.hid hend
      clear hP' hkl hend
      go_wp2
      go_ret2
      exact HEND.out

end Go.Proofs.Ytoflmhdgojenpaa
