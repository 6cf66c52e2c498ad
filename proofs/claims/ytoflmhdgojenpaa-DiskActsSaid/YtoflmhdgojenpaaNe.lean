/- Do of the document's answer: append. -/
import Derived.Test.YtoflmhdgojenpaaNd
import Derived.Deep.RegionLaw
namespace Go.Proofs.Ytoflmhdgojenpaa
open Go.RowKit Go.Maps Go.WideMaps Go.WideElems

/-- The blocks that files are read in. -/
def FsBlk (v : Value) (l : List RE) (y : Nat) : Prop := y ∈ rdBlkN v ∨ ∃ z ∈ l, y ∈ rdBlk z.v
/-- What Do answers. -/
def RetDo (w : World) (v0 : Value) (l0 : List RE) (r : List FR × Int) (e : Ending) (w' : World) : Prop :=
  ∃ v l', e = .returned (.tuple #[v, .int .i64 r.2]) ∧ Fs w' v l' ∧ l'.map RE.abs = r.1 ∧ Chg (fun _ => False) w w' ∧ ∀ y, FsBlk v l' y → FsBlk v0 l0 y ∨ w.heap.size ≤ y
theorem RetDo.mk {w w' : World} {v0 : Value} {l0 : List RE} {r : List FR × Int} {L : List FR} {c : Int} {v : Value} {l' : List RE} (hr : r = (L, c)) (h : Fs w' v l') (hl : l'.map RE.abs = L) (hc : Chg (fun _ => False) w w')
    (hb : ∀ y, FsBlk v l' y → FsBlk v0 l0 y ∨ w.heap.size ≤ y := by exact fun _ h => .inl h) : RetDo w v0 l0 r (.returned (.tuple #[v, .int .i64 c])) w' := by
  subst hr
  exact ⟨_, _, rfl, h, hl, hc, hb⟩
theorem mem_putR {x z : RE} : ∀ {l : List RE}, z ∈ putR x l → z = x ∨ z ∈ l
  | [], h => by simpa [putR] using h
  | y :: r, h => by
    unfold putR at h
    split at h
    · rcases List.mem_cons.1 h with h | h
      · exact .inr (by simp [h])
      · rcases mem_putR h with h | h
        · exact .inl h
        · exact .inr (by simp [h])
    · rcases List.mem_cons.1 h with h | h
      · exact .inl h
      · exact .inr h
theorem FsBlk.put {v0 v6 : Value} {l l0 : List RE} {x : RE} {B W : Nat} (hfr : ∀ y ∈ rdBlkN v6, W ≤ y) (hW : B ≤ W) (hsub : ∀ z ∈ l0, z ∈ l) (hx : ∀ y ∈ rdBlk x.v, (∃ z ∈ l, y ∈ rdBlk z.v) ∨ B ≤ y) :
    ∀ y, FsBlk v6 (putR x l0) y → FsBlk v0 l y ∨ B ≤ y := by
  rintro y (h | ⟨z, hz, h⟩)
  · exact .inr (Nat.le_trans hW (hfr y h))
  · rcases mem_putR hz with rfl | hz
    · exact (hx y h).imp .inr id
    · exact .inl (.inr ⟨z, hsub z hz, h⟩)

structure DoIn (w : World) (v : Value) (l : List RE) (most : Nat) (x : ActE) : Prop where
  fs : Fs w v l
  act : ActAt w x
  sort : SortR l
  few : l.length < 999
  used : usedR l ≤ most
  most : most ≤ 65536
  bl : x.b.length ≤ 5000
  kl : x.keep.length ≤ 5000

/-- 'append(v, x..)' of bytes, in a drawn region. -/
theorem step_append_bytes (w : World) {ops : Array Oper} {o : Oper} {a : Act} {K : Act → World → Prop} {Q : Exit → Act → World → Prop} {E : Prop} (hgd : o.guard = none) (s x : Operand)
    (ho : o.op = .call { callee := .builtin .append, args := #[s, x], argTypes := #[22, 22] })
    (v : Value) (xs : List Int) (hs : a.eval s = v) (hown : Row1 w 5 v (u8s xs)) (u : Value) (news : List Int) (hx : a.eval x = u) (hnews : SlR w u (u8s news))
    (hlen : xs.length + news.length ≤ 70368744177664)
    (h : ∀ v' w', Row1 w' 5 v' (u8s (xs ++ news)) → Chg (fun k => k ∈ rowBlk v) w w' → (∀ k ∈ rowBlk v', k ∈ rowBlk v ∨ w.heap.size ≤ k) → K (a.put o.dst v') w') :
    if Region.wanted o (yielded ops a.tmps) = true then Oper.wp Try.prog o a w K Q else E := by
  have hw : Region.wanted o (yielded ops a.tmps) = true := by simp [Region.wanted, hgd]
  rw [if_pos hw]
  obtain ⟨i0, hi, hz0, hz1, hz2⟩ := info_parts u8info
  obtain ⟨A, c, rfl, hl, hc⟩ := hnews
  obtain ⟨v', w', hr, h2, h3, h4⟩ := run_append_row1 (P := Try.prog) w 22 o.type 5 i0 (.int .u8 0) 1 Try.underlying22 hi hz0 hz1 hz2 rfl v (u8s xs) hown A c (u8s news) hc (oneCell_u8s news) (by simp; omega) (by simp; omega)
  unfold Oper.wp execOp
  simp only [ho, resolve, invoke, builtin, Sem.run_bind, Sem.run_pure, Result.andThen_ok, List.map_toArray, List.map_cons, List.map_nil, hs, hx, hr]
  exact h v' w' (by rw [show u8s (xs ++ news) = u8s xs ++ u8s news from by simp [u8s]]; exact h2) h3 h4

theorem SlR.nil_ (w : World) (A : Option Addr) (c : Nat) : SlR w (.slice A 0 c) (u8s []) := ⟨A, c, rfl, Nat.zero_le _, fun h => absurd h (Nat.lt_irrefl 0)⟩
theorem keep1 {w W : World} {b b0 j : Nat} {u : Value} (hc : Chg (fun k => k = b) w W) (h : w.cell? ⟨b0, j, none⟩ = some u) (hne : b0 ≠ b) : Chg (fun k => k = b) w W ∧ W.cell? ⟨b0, j, none⟩ = some u := ⟨hc, hc.cell h hne⟩
theorem keep2 {w W : World} {p q : Addr} {u v : Value} (hc : Chg (fun _ => False) w W) (h : w.cell? p = some u ∧ w.cell? q = some v) : Chg (fun _ => False) w W ∧ W.cell? p = some u ∧ W.cell? q = some v :=
  ⟨hc, hc.cellF h.1, hc.cellF h.2⟩

/-- The act, as the function holds it. -/
def actC (x : ActE) (A1 : Option Addr) (c1 : Nat) (A2 : Option Addr) (c2 : Nat) : Array Value := #[.int .i64 x.d, .string x.name, .string x.other, .slice A1 x.b.length c1, .int .i64 x.i, .slice A2 x.keep.length c2]
structure ActC (w : World) (b : Nat) (x : ActE) (A1 : Option Addr) (c1 : Nat) (A2 : Option Addr) (c2 : Nat) : Prop where
  q0 : w.cell? ⟨b, 0, none⟩ = some (.int .i64 x.d)
  q1 : w.cell? ⟨b, 1, none⟩ = some (.string x.name)
  q2 : w.cell? ⟨b, 2, none⟩ = some (.string x.other)
  q3 : w.cell? ⟨b, 3, none⟩ = some (.slice A1 x.b.length c1)
  q4 : w.cell? ⟨b, 4, none⟩ = some (.int .i64 x.i)
  q5 : w.cell? ⟨b, 5, none⟩ = some (.slice A2 x.keep.length c2)
theorem ActC.none_ {w w' : World} {b : Nat} {x : ActE} {A1 : Option Addr} {c1 : Nat} {A2 : Option Addr} {c2 : Nat} (h : ActC w b x A1 c1 A2 c2) (hc : Chg (fun _ => False) w w') : ActC w' b x A1 c1 A2 c2 :=
  ⟨hc.cellF h.q0, hc.cellF h.q1, hc.cellF h.q2, hc.cellF h.q3, hc.cellF h.q4, hc.cellF h.q5⟩
theorem actC_new (w : World) (x : ActE) (A1 : Option Addr) (c1 : Nat) (A2 : Option Addr) (c2 : Nat) (t : Nat) (m : Nat × Nat) : ActC (w.alloc (.cells (actC x A1 c1 A2 c2) t m)) w.heap.size x A1 c1 A2 c2 := by
  constructor <;> exact (cell_new _ _ _ _ _).trans rfl

set_option maxRecDepth 100000 in
set_option maxHeartbeats 4000000 in
theorem do_app {w : World} {v : Value} {l : List RE} {most : Nat} {x : ActE} (h : DoIn w v l most x) (h0 : x.d = 0) : Calls Try.prog 21 #[v, .int .i64 most, actV x] w (RetDo w v l (appL most x.name x.b (l.map RE.abs))) := by
  have H := Lib.hid h
  obtain ⟨A1, c1, hbv, -, -⟩ := h.act.b
  obtain ⟨A2, c2, hkv, -, -⟩ := h.act.keep
  obtain ⟨A, c, rfl, hcm⟩ := h.fs.cap
  rw [u8s_length] at hbv
  rw [i64s_length] at hkv
  have HBV := Lib.hid hbv
  have HKV := Lib.hid hkv
  have HAC := Lib.hid (actC_new w x A1 c1 A2 c2 38 (0, 0))
  have HC0 := Lib.hid ((Chg.refl (fun _ => False) w).alloc (.cells (actC x A1 c1 A2 c2) 38 (0, 0)))
  generalize hw0 : w.alloc (.cells (actC x A1 c1 A2 c2) 38 (0, 0)) = w0 at HAC HC0
  have HW0 : Hid (w.alloc (.cells #[.int .i64 0, .string x.name, .string x.other, .slice A1 x.b.length c1, .int .i64 x.i, .slice A2 x.keep.length c2] 38 (0, 0)) = w0) := Lib.hid (by rw [← hw0]; unfold actC; rw [h0])
  generalize hb0 : w.heap.size = b0 at HAC
  have HB0 := Lib.hid hb0
  unfold actV
  rw [hbv, hkv, h0]
  clear h hbv hkv hw0 hb0
  have HD := Lib.hid h0
  have hus : 0 ≤ (most : Int) - (usedR l : Int) ∧ (most : Int) - (usedR l : Int) ≤ 65536 := by
    have := H.out.used
    have := H.out.most
    omega
  have hw1 : IntKind.i64.wrap ((most : Int) - (usedR l : Int)) = (most : Int) - (usedR l : Int) := IntWalk.i64_in _ (by omega)
  clear h0
  go_enter Try.func21, Try.ntmps21
  go_wp2_with fail
  rw [HW0.out, HB0.out]
  refine (find_calls _ l x.name _ (H.out.fs.none_ HC0.out)).mono ?_
  rintro e w1 ⟨rfl, hc1⟩
  have HC1 := Lib.hid (HC0.out.trans hc1 (fun _ _ h => h))
  have HA1 := Lib.hid (HAC.out.none_ hc1)
  clear hc1
  have a0 := HA1.out.q0
  rw [HD.out] at a0
  have a1 := HA1.out.q1
  have a3 := HA1.out.q3
  cases hn : namedB x.name with
  | false =>
    go_wp2_with fail
    refine (named07_calls x.name _ H.out.act.name).mono ?_
    rintro e w2 ⟨rfl, hc2⟩
    have HC2 := Lib.hid (HC1.out.trans hc2 (fun _ _ h => h))
    clear hc2 
    rw [hn]
    go_wp2
    go_ret2
    exact RetDo.mk (by unfold appL; rw [if_pos hn]) (H.out.fs.none_ HC2.out) rfl HC2.out
  | true =>
    go_wp2_with fail
    refine (named07_calls x.name _ H.out.act.name).mono ?_
    rintro e w2 ⟨rfl, hc2⟩
    have HC2 := Lib.hid (HC1.out.trans hc2 (fun _ _ h => h))
    have HA2 := Lib.hid (HA1.out.none_ hc2)
    clear hc2 a0 a1 a3
    have a0 := HA2.out.q0
    rw [HD.out] at a0
    have a1 := HA2.out.q1
    have a3 := HA2.out.q3
    rw [hn]
    go_wp2_with fail
    have HF2 := Lib.hid (H.out.fs.none_ HC2.out)
    have HUS : Hid (usedR l ≤ 1000000000) := Lib.hid (by have := H.out.used; have := H.out.most; omega)
    by_cases hfull : (most : Int) - (usedR l : Int) < (x.b.length : Int)
    · have HFU := Lib.hid hfull
      go_quiet ((go_at_call 51; exact Calls.quiet_of_same (used07_calls _ l _ (by first | exact HF2.out | exact HF2.out.none_ (Chg.refl _ _).drew | exact HF2.out.none_ ((Chg.refl _ _).drewN _)) HUS.out)))
      go_wp2
      go_ret2
      exact RetDo.mk (by unfold appL; rw [if_neg (by rw [hn]; simp), if_pos (show (most : Int) - (usedL (l.map RE.abs) : Int) < (x.b.length : Int) from HFU.out)]) (HF2.out.none_ ((Chg.refl _ _).drewN nq)) rfl (HC2.out.drewN nq)
    · have HFU := Lib.hid hfull
      go_quiet ((go_at_call 51; exact Calls.quiet_of_same (used07_calls _ l _ (by first | exact HF2.out | exact HF2.out.none_ (Chg.refl _ _).drew | exact HF2.out.none_ ((Chg.refl _ _).drewN _)) HUS.out)))
      have HC3 := Lib.hid (HC2.out.drewN nq)
      have HA3 := Lib.hid (HA2.out.none_ ((Chg.refl _ _).drewN nq))
      generalize w2.drewN nq = w3 at *
      have HF3 := Lib.hid (H.out.fs.none_ HC3.out)
      clear hfull HF2 HA2 HC2 a0 a1 a3
      have a1 := HA3.out.q1
      have a3 := HA3.out.q3
      rcases placeR_spec x.name l with ⟨hp, hnone⟩ | ⟨k, hk, hp, hname, hfirst⟩
      · have HP := Lib.hid hp
        have HNO := Lib.hid hnone
        rw [hp]
        clear hp hnone
        go_wp2_with fail
        have hblt := World.block_lt_of_cell? w3 _ a3
        have HNE : Hid (b0 ≠ w3.heap.size) := Lib.hid (Nat.ne_of_lt hblt)
        have HLT : Hid (w3.heap.size < (w3.alloc (.cells #[.string x.name, .slice none 0 0, .int .i64 0] 91 (0, 0))).heap.size) := Lib.hid (by simp)
        have HBK := Lib.hid (heap_alloc_new w3 (.cells #[.string x.name, .slice none 0 0, .int .i64 0] 91 (0, 0)))
        clear hblt
        have HF0 := Lib.hid (cell_new w3 #[.string x.name, .slice none 0 0, .int .i64 0] 91 (0, 0))
        have HBF : Hid (w.heap.size ≤ w3.heap.size) := Lib.hid HC3.out.size
        have hca := (Chg.refl (fun _ => False) w3).alloc (.cells #[.string x.name, .slice none 0 0, .int .i64 0] 91 (0, 0))
        have HC4 := Lib.hid (HC3.out.trans hca (fun _ _ h => h))
        have HA4 := Lib.hid (HA3.out.none_ hca)
        generalize w3.alloc (.cells #[.string x.name, .slice none 0 0, .int .i64 0] 91 (0, 0)) = w4 at *
        generalize w3.heap.size = bf at *
        have f0 := HF0.out 0
        have f1 := HF0.out 1
        have f2 := HF0.out 2
        simp at f0 f1 f2
        clear hca a1 a3
        have a3 := HA4.out.q3
        have k0 : Chg (fun k => k = bf) w4 w4.drew := (Chg.refl _ w4).drew
        have HFA := Lib.hid a3
        have HSB : Hid (SlR w4 (.slice A1 x.b.length c1) (u8s x.b)) := Lib.hid (by have := (H.out.act.none_ HC4.out).b; rw [HBV.out] at this; exact this)
        have g1 := fun o => (((Chg.refl (fun _ => False) w4).alloc o).cellF f1)
        have g3 := fun o => (((Chg.refl (fun _ => False) w4).alloc o).cellF a3)
        go_region_law
          (first
            | (refine step_append_bytes _ rfl _ _ rfl (.slice (some ⟨w4.heap.size, 0, none⟩) 0 0) [] rfl (Row1.none_ _ _ _) (.slice none 0 0) [] rfl (SlR.nil_ _ _ _) (by simp) ?_
               intro v1 W1 hrow1 hc1 hb1
               have k1 : Chg (fun _ => False) w4 W1 := by
                 first
                   | exact Chg.trans (((Chg.refl (fun _ => False) w4).drew).alloc _) hc1 (by simp [rowBlk])
                   | exact Chg.trans (((Chg.refl (fun _ => False) w4).alloc _).drew) hc1 (by simp [rowBlk])
               have y1 := k1.cellF f1
               have y3 := k1.cellF a3
               obtain ⟨R1, d1, hv1, -⟩ := hrow1.shape
               rw [List.nil_append, u8s_length] at hv1
               subst hv1
               rw [List.nil_append] at hrow1
               have HROW := Lib.hid hrow1
               have HB1 : Hid (∀ y ∈ rowBlk (.slice R1 ([] : List Int).length d1), w4.heap.size ≤ y) := Lib.hid (fun y hy => by
                 rcases hb1 y hy with h | h
                 · simp [rowBlk] at h
                 · exact Nat.le_trans (by first | omega | (simp; omega) | simp) h)
               clear hrow1 hb1 hc1)
            | (refine step_append_bytes _ rfl _ _ rfl (.slice R1 ([] : List Int).length d1) [] rfl HROW.out (.slice A1 x.b.length c1) x.b rfl (HSB.out.none_ k1) (by have := H.out.bl; simp; omega) ?_
               intro v2 W2 hrow2 hc2 hb2
               have k2 : Chg (fun _ => False) w4 W2 := Chg.trans k1 hc2 (fun y hy hm => by have := HB1.out y hm; omega)
               obtain ⟨R2, d2, hv2, -⟩ := hrow2.shape
               rw [List.nil_append, u8s_length] at hv2
               subst hv2
               rw [List.nil_append] at hrow2
               have HROW2 := Lib.hid hrow2
               have HB3 : Hid (∀ y ∈ rowBlk (.slice R2 x.b.length d2), w4.heap.size ≤ y) := Lib.hid (fun y hy => by
                 rcases hb2 y hy with h | h
                 · exact HB1.out y h
                 · have := k1.size; omega)
               have HB2 : Hid (∀ y ∈ rowBlk (.slice R2 x.b.length d2), y ≠ bf) := Lib.hid (fun y hy e => by
                 have h0 := HLT.out
                 have h1 := HB3.out y hy
                 omega)
               have HK2 := Lib.hid k2
               have e0 := (k2.block bf HLT.out (fun h => h)).trans HBK.out
               have e1 := frozen_of_blk e0 1
               have e2 := cell_of_blk e0 1
               have HE0 := Lib.hid e0
               simp at e2
               clear hrow2 hb2 hc2 e0)
            | fail)
        all_goals
          have b5 := set_blk HE0.out 1 (.slice R2 x.b.length d2)
          have h5 := (HK2.out.mono (fun _ _ h => h.elim) : Chg (fun k => k = bf) w4 W2).set (p := ⟨bf, 1, none⟩) (fun _ => rfl) (.slice R2 x.b.length d2)
          have HC5 := Lib.hid (HC4.out.trans h5 (fun k hk he => by have := HBF.out; omega))
          have hr5 := HROW2.out.keep (w' := W2.setCell ⟨bf, 1, none⟩ (.slice R2 x.b.length d2)) (fun y hy => Below.heap_setCell _ _ _ _ (fun e => HB2.out y hy e))
          have HRE : Hid (REok (W2.setCell ⟨bf, 1, none⟩ (.slice R2 x.b.length d2)) ⟨x.name, .slice R2 x.b.length d2, x.b, 0⟩) := Lib.hid ⟨hr5.slr, Nat.zero_le _, by have := H.out.bl; simp; omega, H.out.act.name⟩
          have r0 := cell_of_blk b5 0
          have r1 := cell_of_blk b5 1
          have r2 := cell_of_blk b5 2
          simp at r0 r1 r2
          have hput := put07_calls (.slice A l.length c) l ⟨x.name, .slice R2 x.b.length d2, x.b, 0⟩ _ (H.out.fs.none_ HC5.out) HRE.out (by have := H.out.few; omega)
          unfold RE.val at hput
          have HPUT := Lib.hid hput
          clear b5 h5 hr5 hput
          clear y1 y3 e1 e2 k1 k2 g1 g3 f0 f1 f2 a3 k0
          generalize W2.setCell ⟨bf, 1, none⟩ (.slice R2 x.b.length d2) = w5 at *
          go_wp2_with fail
          refine HPUT.out.mono ?_
          rintro e w6 ⟨v6, rfl, hfs6, hc6, hfr6⟩
          have H6 : RetDo w (.slice A l.length c) l (appL most x.name x.b (l.map RE.abs)) (.returned (.tuple #[v6, .int .i64 0])) w6 := by
            refine RetDo.mk ?_ hfs6 (putR_new (fun y hy => HNO.out y hy)) (HC5.out.trans hc6 (fun _ _ h => h)) (FsBlk.put hfr6 HC5.out.size (fun z hz => hz) (fun y hy => .inr (Nat.le_trans HC4.out.size (HB3.out y (HROW2.out.rd y hy)))))
            unfold appL
            rw [if_neg (by rw [hn]; simp), if_neg (show ¬ (most : Int) - (usedL (l.map RE.abs) : Int) < (x.b.length : Int) from by have := HFU.out; unfold usedR at this; omega), look_none HNO.out]
            rfl
          have HH := Lib.hid H6
          clear H6 hfs6 hc6 hfr6
          go_wp2
          go_ret2
          exact HH.out
      · have HP := Lib.hid hp
        have HN := Lib.hid hname
        have HFI := Lib.hid hfirst
        rw [hp]
        clear hp hname hfirst
        obtain ⟨ad, hA, hx, hcell⟩ := HF3.out.get hk
        subst hA
        have q0 := hcell 0 (.string (l[k]).name) rfl
        have q1 := hcell 1 (l[k]).v rfl
        have q2 := hcell 2 (.int .i64 (l[k]).sy) rfl
        rw [show (ad.add (k * 3)).add 0 = ad.add (k * 3) from rfl] at q0
        rw [add_pos _ (by omega)] at q1 q2
        obtain ⟨Ak, ck, hkv', -, -⟩ := hx.rd
        rw [u8s_length] at hkv'
        have HKV' := Lib.hid hkv'
        rw [hkv'] at q1
        have HXK := Lib.hid hx
        have hk0 : (k : Int) < (l.length : Int) := by omega
        have hk1 : (0 : Int) ≤ (k : Int) := by omega
        clear hcell hx hkv'
        generalize hfk : l[k] = fk at *
        have HFK := Lib.hid hfk
        clear hfk
        have hal := fun o => (Chg.refl (fun _ => False) w3).alloc o
        have HAL := Lib.hid hal
        have g0 := fun o => (hal o).cellF q0
        have g1 := fun o => (hal o).cellF q1
        have g2 := fun o => (hal o).cellF q2
        clear hal
        have HNE : Hid (b0 ≠ w3.heap.size) := Lib.hid (Nat.ne_of_lt (World.block_lt_of_cell? w3 _ a3))
        have HBF : Hid (w.heap.size ≤ w3.heap.size) := Lib.hid HC3.out.size
        have hww := without_calls (.slice (some ad) l.length c) l k (w3.alloc (.cells #[.string fk.name, .slice Ak fk.bs.length ck, .int .i64 fk.sy] 91 (0, 0))) (HF3.out.none_ (HAL.out _)) hk
        have HWW := Lib.hid hww
        clear hww
        go_wp2_with fail
        refine HWW.out.mono ?_
        rintro e w4 ⟨v4, rfl, hfs4, hc4, hfr4⟩
        have HBD : Hid (∀ z ∈ l, ∀ y ∈ rdBlk z.v, y ≠ w3.heap.size) := Lib.hid (fun z hz y hy => Nat.ne_of_lt ((HF3.out.all z hz).rd.lt y hy))
        have HFS4 := Lib.hid hfs4
        obtain ⟨A4, d4, hv4, -⟩ := hfs4.cap
        generalize hl4 : (l.take k ++ l.drop (k + 1)).length = n4 at hv4
        have HL4 := Lib.hid hl4
        subst hv4
        have hbk := heap_alloc_new w3 (.cells #[.string fk.name, .slice Ak fk.bs.length ck, .int .i64 fk.sy] 91 (0, 0))
        have hlt3 : w3.heap.size < (w3.alloc (.cells #[.string fk.name, .slice Ak fk.bs.length ck, .int .i64 fk.sy] 91 (0, 0))).heap.size := by simp
        have hb4 := (hc4.block _ hlt3 (fun h => h)).trans hbk
        have HFR4 : Hid (∀ y ∈ rdBlkN (.slice A4 n4 d4), y ≠ w3.heap.size) := Lib.hid (fun y hy e => by
          have := hfr4 y hy
          omega)
        have HBK := Lib.hid hb4
        have HLT : Hid (w3.heap.size < w4.heap.size) := Lib.hid (Nat.lt_of_lt_of_le hlt3 hc4.size)
        have h34 : Chg (fun _ => False) w3 w4 := (HAL.out _).trans hc4 (fun _ _ h => h)
        have HC4 := Lib.hid (HC3.out.trans h34 (fun _ _ h => h))
        have HA4 := Lib.hid (HA3.out.none_ h34)
        have f1 := cell_of_blk hb4 1
        simp at f1
        have hxs := HXK.out.none_ h34
        have HXK4 := Lib.hid hxs
        have HSF : Hid (SlR w4 (.slice Ak fk.bs.length ck) (u8s fk.bs)) := Lib.hid (by have := hxs.rd; rw [HKV'.out] at this; exact this)
        have HSB : Hid (SlR w4 (.slice A1 x.b.length c1) (u8s x.b)) := Lib.hid (by have := (H.out.act.none_ HC4.out).b; rw [HBV.out] at this; exact this)
        clear hfs4 hc4 hfr4 hl4 hbk hlt3 hb4 h34 hxs q0 q1 q2 g0 g1 g2 a1 a3 HWW HAL
        have a3 := HA4.out.q3
        generalize w3.heap.size = bf at *
        have hbs : fk.bs.length ≤ 65536 := HXK4.out.len
        have hbb : x.b.length ≤ 5000 := H.out.bl
        go_wp2_with fail
        have g1 := fun o => (((Chg.refl (fun _ => False) w4).alloc o).cellF f1)
        have g3 := fun o => (((Chg.refl (fun _ => False) w4).alloc o).cellF a3)
        go_region_law
          (first
            | (refine step_append_bytes _ rfl _ _ rfl (.slice (some ⟨w4.heap.size, 0, none⟩) 0 0) [] rfl (Row1.none_ _ _ _) (.slice Ak fk.bs.length ck) fk.bs rfl (by first | exact HSF.out.none_ (((Chg.refl (fun _ => False) w4).drew).alloc _) | exact HSF.out.none_ (((Chg.refl (fun _ => False) w4).alloc _).drew)) (by simp; omega) ?_
               intro v1 W1 hrow1 hc1 hb1
               have k1 : Chg (fun _ => False) w4 W1 := by
                 first
                   | exact Chg.trans (((Chg.refl (fun _ => False) w4).drew).alloc _) hc1 (by simp [rowBlk])
                   | exact Chg.trans (((Chg.refl (fun _ => False) w4).alloc _).drew) hc1 (by simp [rowBlk])
               have y1 := k1.cellF f1
               have y3 := k1.cellF a3
               obtain ⟨R1, d1, hv1, -⟩ := hrow1.shape
               rw [List.nil_append, u8s_length] at hv1
               subst hv1
               rw [List.nil_append] at hrow1
               have HROW := Lib.hid hrow1
               have HB1 : Hid (∀ y ∈ rowBlk (.slice R1 fk.bs.length d1), w4.heap.size ≤ y) := Lib.hid (fun y hy => by
                 rcases hb1 y hy with h | h
                 · simp [rowBlk] at h
                 · exact Nat.le_trans (by first | omega | (simp; omega) | simp) h)
               clear hrow1 hb1 hc1)
            | (refine step_append_bytes _ rfl _ _ rfl (.slice R1 fk.bs.length d1) fk.bs rfl HROW.out (.slice A1 x.b.length c1) x.b rfl (HSB.out.none_ k1) (by omega) ?_
               intro v2 W2 hrow2 hc2 hb2
               have k2 : Chg (fun _ => False) w4 W2 := Chg.trans k1 hc2 (fun y hy hm => by have := HB1.out y hm; omega)
               obtain ⟨R2, d2, hv2, -⟩ := hrow2.shape
               rw [u8s_length, List.length_append] at hv2
               subst hv2
               have HROW2 := Lib.hid hrow2
               have HB3 : Hid (∀ y ∈ rowBlk (.slice R2 (fk.bs.length + x.b.length) d2), w4.heap.size ≤ y) := Lib.hid (fun y hy => by
                 rcases hb2 y hy with h | h
                 · exact HB1.out y h
                 · have := k1.size; omega)
               have HB2 : Hid (∀ y ∈ rowBlk (.slice R2 (fk.bs.length + x.b.length) d2), y ≠ bf) := Lib.hid (fun y hy e => by
                 have h0 := HLT.out
                 have h1 := HB3.out y hy
                 omega)
               have HK2 := Lib.hid k2
               have e0 := (k2.block bf HLT.out (fun h => h)).trans HBK.out
               have e1 := frozen_of_blk e0 1
               have e2 := cell_of_blk e0 1
               have HE0 := Lib.hid e0
               simp at e2
               clear hrow2 hb2 hc2 e0)
            | fail)
        all_goals
          have b5 := set_blk HE0.out 1 (.slice R2 (fk.bs.length + x.b.length) d2)
          have h5 := (HK2.out.mono (fun _ _ h => h.elim) : Chg (fun k => k = bf) w4 W2).set (p := ⟨bf, 1, none⟩) (fun _ => rfl) (.slice R2 (fk.bs.length + x.b.length) d2)
          have HC5 := Lib.hid (HC4.out.trans h5 (fun k hk he => by have := HBF.out; omega))
          have hr5 := HROW2.out.keep (w' := W2.setCell ⟨bf, 1, none⟩ (.slice R2 (fk.bs.length + x.b.length) d2)) (fun y hy => Below.heap_setCell _ _ _ _ (fun e => HB2.out y hy e))
          have huse : fk.bs.length + x.b.length ≤ 65536 := by
            have h1 := le_usedL (L := l.map RE.abs) (f := fk.abs) (List.mem_map.2 ⟨fk, by rw [← HFK.out]; exact List.getElem_mem hk, rfl⟩)
            have h2 := HFU.out
            have h3 := H.out.most
            unfold usedR at h2
            have h4 : fk.abs.bs.length = fk.bs.length := rfl
            omega
          have HRE : Hid (REok (W2.setCell ⟨bf, 1, none⟩ (.slice R2 (fk.bs.length + x.b.length) d2)) ⟨fk.name, .slice R2 (fk.bs.length + x.b.length) d2, fk.bs ++ x.b, fk.sy⟩) := Lib.hid ⟨hr5.slr, by have := HXK4.out.sy; simp; omega, by simpa using huse, HXK4.out.name⟩
          have r0 := cell_of_blk b5 0
          have r1 := cell_of_blk b5 1
          have r2 := cell_of_blk b5 2
          simp at r0 r1 r2
          have hfs5 : Fs (W2.setCell ⟨bf, 1, none⟩ (.slice R2 (fk.bs.length + x.b.length) d2)) (.slice A4 n4 d4) (l.take k ++ l.drop (k + 1)) := by
            have h0 := HFS4.out.none_ HK2.out
            refine ⟨h0.sl.keep (fun y hy => ?_), h0.cap, h0.few, fun z hz => ?_⟩
            · exact Below.heap_setCell _ _ _ _ (HFR4.out y hy)
            · have hz1 := h0.all z hz
              have hzl : z ∈ l := by
                rcases List.mem_append.1 hz with h | h
                · exact List.mem_of_mem_take h
                · exact List.mem_of_mem_drop h
              exact ⟨hz1.rd.chg ((Chg.refl (fun k => k = bf) W2).set (p := ⟨bf, 1, none⟩) (fun _ => rfl) _) (fun y hy e => HBD.out z hzl y hy e), hz1.sy, hz1.len, hz1.name⟩
          have hput := put07_calls (.slice A4 n4 d4) (l.take k ++ l.drop (k + 1)) ⟨fk.name, .slice R2 (fk.bs.length + x.b.length) d2, fk.bs ++ x.b, fk.sy⟩ _ hfs5 HRE.out (by have := H.out.few; simp; omega)
          unfold RE.val at hput
          have HPUT := Lib.hid hput
          clear b5 h5 hr5 hput hfs5 huse
          clear y1 y3 e1 e2 k1 k2 g1 g3 f1 a3
          generalize W2.setCell ⟨bf, 1, none⟩ (.slice R2 (fk.bs.length + x.b.length) d2) = w5 at *
          go_wp2_with fail
          refine HPUT.out.mono ?_
          rintro e w6 ⟨v6, rfl, hfs6, hc6, hfr6⟩
          have H6 : RetDo w (.slice (some ad) l.length c) l (appL most x.name x.b (l.map RE.abs)) (.returned (.tuple #[v6, .int .i64 0])) w6 := by
            refine RetDo.mk ?_ hfs6 (putR_set H.out.sort hk (x := ⟨fk.name, .slice R2 (fk.bs.length + x.b.length) d2, fk.bs ++ x.b, fk.sy⟩) (by rw [HFK.out])) (HC5.out.trans hc6 (fun _ _ h => h)) (FsBlk.put hfr6 HC5.out.size (fun z hz => (List.mem_append.1 hz).elim List.mem_of_mem_take List.mem_of_mem_drop) (fun y hy => .inr (Nat.le_trans HC4.out.size (HB3.out y (HROW2.out.rd y hy)))))
            unfold appL
            rw [if_neg (by rw [hn]; simp), if_neg (show ¬ (most : Int) - (usedL (l.map RE.abs) : Int) < (x.b.length : Int) from by have := HFU.out; unfold usedR at this; omega), look_place hk (by rw [HFK.out]; exact HN.out) HFI.out]
            rw [HFK.out]
            rfl
          have HH := Lib.hid H6
          clear H6 hfs6 hc6 hfr6
          go_wp2
          go_ret2
          exact HH.out

end Go.Proofs.Ytoflmhdgojenpaa
