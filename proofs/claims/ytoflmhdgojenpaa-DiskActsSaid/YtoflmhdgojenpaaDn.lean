/- What (*Disk).Crash does. -/
import Derived.Test.YtoflmhdgojenpaaDm
import Derived.BigQuiet
import Derived.BigRegion
import Derived.Deep.QuietTactic
namespace Go.Proofs.Ytoflmhdgojenpaa
open Go.RowKit Go.Maps Go.WideMaps Go.WideElems

set_option maxHeartbeats 400000 in
theorem distance_calls (k : Int) (w : World) (h0 : -9223372036854775808 ≤ k) (h1 : k ≤ 9223372036854775807) :
    Calls Try.prog 57 #[.int .i64 k] w fun e w' => e = .returned (.int .u64 k.natAbs) ∧ w = w' := by
  by_cases hk : k < 0
  · have e1 : IntKind.u64.wrap (-(IntKind.u64.wrap k)) = (k.natAbs : Int) := by
      simp only [IntKind.wrap_u64]
      omega
    go_enter Try.func57, Try.ntmps57
    go_wp2
    go_ret
    exact ⟨rfl, rfl⟩
  · have e1 : IntKind.u64.wrap k = (k.natAbs : Int) := by
      simp only [IntKind.wrap_u64]
      omega
    go_enter Try.func57, Try.ntmps57
    go_wp2
    go_ret
    exact ⟨rfl, rfl⟩

theorem distance_calls' (k : Int) (w : World) (h0 : -9223372036854775808 ≤ k) (h1 : k ≤ 9223372036854775807) :
    Calls Try.prog 57 #[.int .i64 k] w fun e w' => e = .returned (.int .u64 k.natAbs) ∧ w' = w := (distance_calls k w h0 h1).mono fun _ _ h => ⟨h.1, h.2.symm⟩

/-- A file behind a crash, and what is left of the numbers. -/
def crash1 (f : FR) (ks : List Int) : FR × List Int :=
  if f.bs.length = f.sy then (f, ks)
  else match ks with
    | [] => ({ f with bs := f.bs.take f.sy }, [])
    | k :: r => ({ f with bs := f.bs.take (f.sy + k.natAbs % (f.bs.length - f.sy + 1)), sy := f.sy + k.natAbs % (f.bs.length - f.sy + 1) }, r)
def crashL : List FR → List Int → List FR × List Int
  | [], ks => ([], ks)
  | f :: r, ks => ((crash1 f ks).1 :: (crashL r (crash1 f ks).2).1, (crashL r (crash1 f ks).2).2)
theorem crashL_app : ∀ (A B : List FR) (ks : List Int), crashL (A ++ B) ks = ((crashL A ks).1 ++ (crashL B (crashL A ks).2).1, (crashL B (crashL A ks).2).2)
  | [], B, ks => by simp [crashL]
  | f :: r, B, ks => by simp only [List.cons_append, crashL, crashL_app r B]

theorem crashL_len : ∀ (L : List FR) (ks : List Int), (crashL L ks).1.length = L.length
  | [], ks => rfl
  | f :: r, ks => by simp [crashL, crashL_len r]

def i64s (ks : List Int) : List Value := ks.map (.int .i64)
@[simp] theorem i64s_length (ks : List Int) : (i64s ks).length = ks.length := by simp [i64s]

/-- The numbers of a crash, as they are read; nothing of the disk's. -/
def KeepAt (w : World) (v : Value) (ks : List Int) (F : List Nat) : Prop :=
  ∃ A c, v = .slice A ks.length c ∧ ks.length ≤ c ∧ c ≤ 9223372036854775807 ∧ (∀ k ∈ ks, -9223372036854775808 ≤ k ∧ k ≤ 9223372036854775807) ∧
    (0 < ks.length → ∃ ad, A = some ad ∧ ad.block ∉ F ∧ ∀ j u, (i64s ks)[j]? = some u → w.cell? (ad.add j) = some u)

theorem KeepAt.chg {S : Nat → Prop} {w w' : World} {v : Value} {ks : List Int} {F : List Nat} (h : KeepAt w v ks F) (hc : Chg S w w') (hS : ∀ k, k < w.heap.size → S k → k ∈ F) : KeepAt w' v ks F := by
  obtain ⟨A, c, hv, h1, h2, h3, h4⟩ := h
  refine ⟨A, c, hv, h1, h2, h3, fun h0 => ?_⟩
  obtain ⟨ad, hA, hF, hcell⟩ := h4 h0
  refine ⟨ad, hA, hF, fun j u hu => ?_⟩
  have h5 := hcell j u hu
  have hlt := World.block_lt_of_cell? w _ h5
  rw [block_of_add] at hlt
  exact hc.cell h5 (fun hs => hF (by rw [block_of_add] at hs; exact hS _ hlt hs))
theorem add_of_add (a : Addr) (i j : Nat) : (a.add i).add j = a.add (i + j) := by
  unfold Addr.add
  by_cases hi : i = 0
  · subst hi; simp
  · by_cases hj : j = 0
    · subst hj; simp [hi]
    · have : i + j ≠ 0 := by omega
      simp [hi, hj, this, Nat.add_assoc]

theorem names_mem {w : World} {g base n cap e : Nat} {l : List ByteArray} (h : w.ownsRow base e 1 (.slice (some ⟨g, 0, none⟩) n cap) n (strsV l)) {j : Nat} (hj : j < l.length) : w.cell? ⟨g, j, none⟩ = some (.string (l.getD j ByteArray.empty)) := by
  have := h.cells (g := g) rfl j (.string (l.getD j ByteArray.empty)) (by unfold strsV; rw [List.getElem?_map, List.getElem?_eq_getElem hj]; simp [List.getD, hj])
  rw [show ((⟨g, 0, none⟩ : Addr).add j) = ⟨g, j, none⟩ from by unfold Addr.add; split <;> simp_all] at this
  exact this

theorem lookE_of_mem {E : List FE} (hp : E.Pairwise fun x y => x.name ≠ y.name) {e : FE} (he : e ∈ E) : lookE e.name E = some e := by
  cases hl : lookE e.name E with
  | none =>
    have := List.find?_eq_none.1 hl e he
    simp at this
  | some y =>
    obtain ⟨h1, h2⟩ := lookE_mem hl
    obtain ⟨E1, E2, rfl⟩ := List.append_of_mem he
    rw [List.pairwise_append] at hp
    obtain ⟨_, h3, h4⟩ := hp
    rw [List.pairwise_cons] at h3
    rcases List.mem_append.1 h1 with h1 | h1
    · exact absurd h2 (h4 y h1 e (by simp))
    · rcases List.mem_cons.1 h1 with rfl | h1
      · rfl
      · exact absurd h2.symm (h3.1 y h1)

theorem crash_rel {E P : List FE} {k : Nat} {ks kr kr' : List Int} {e0 x : FE} (hP : P.map FE.abs = (crashL ((E.take k).map FE.abs) ks).1) (hkr : kr = (crashL ((E.take k).map FE.abs) ks).2)
    (hd : E.drop k = e0 :: E.drop (k + 1)) (hx : crash1 e0.abs kr = (x.abs, kr')) :
    (P ++ [x]).map FE.abs = (crashL ((E.take (k + 1)).map FE.abs) ks).1 ∧ kr' = (crashL ((E.take (k + 1)).map FE.abs) ks).2 := by
  have ht : E.take (k + 1) = E.take k ++ [e0] := by
    have hk : k < E.length := by
      have : (E.drop k).length = E.length - k := List.length_drop
      rw [hd] at this
      simp at this
      omega
    rw [List.take_succ_eq_append_getElem hk]
    rw [List.drop_eq_getElem_cons hk] at hd
    injection hd with h1 h2
    rw [h1]
  rw [ht]
  simp only [List.map_append, List.map_cons, List.map_nil]
  rw [crashL_app, hP, ← hkr]
  simp [crashL, hx]

/-- One file behind the crash, in its place. -/
theorem crash_set {w w' : World} {a most bm : Nat} {P Q : List FE} {e0 x : FE} {F : List Nat} (hD : DiskAt w a most (P ++ e0 :: Q) bm) (hF : ∀ y ∈ foot a bm (P ++ e0 :: Q), y ∈ F)
    (hn : x.name = e0.name) (hb : x.blk = e0.blk) (hx : FileAt w' x) (hrow : ∀ y ∈ rowBlk x.sl, y ∈ rowBlk e0.sl) (hlen : x.bs.length ≤ e0.bs.length) (hc : Chg (fun y => y ∈ blks e0) w w') :
    DiskAt w' a most ((P ++ [x]) ++ Q) bm ∧ (∀ y ∈ foot a bm ((P ++ [x]) ++ Q), y ∈ F) ∧ Chg (fun y => y ∈ F) w w' := by
  have hm : e0 ∈ P ++ e0 :: Q := by simp
  have hl := lookE_of_mem hD.names hm
  obtain ⟨h1, h2⟩ : (∀ y ∈ P, y.name ≠ x.name) ∧ (∀ y ∈ Q, y.name ≠ x.name) := by
    have hp := hD.names
    rw [List.pairwise_append] at hp
    obtain ⟨_, h3, h4⟩ := hp
    rw [List.pairwise_cons] at h3
    rw [hn]
    exact ⟨fun y hy => h4 y hy e0 (by simp), fun y hy he => h3.1 y hy he.symm⟩
  have hs : setE x (P ++ e0 :: Q) = (P ++ [x]) ++ Q := by rw [setE_split h1 h2 hn.symm]; simp
  have hu := hD.upd hl hn hb hx (fun k hk => .inl (hrow k hk)) hc (by
    have := hD.room
    have := len_le_used hm
    omega)
  rw [hs] at hu
  refine ⟨hu, fun y hy => ?_, hc.mono fun y _ hy => hF y (DiskAt.mem_foot.2 (.inr (.inr ⟨e0, hm, List.mem_cons.1 hy⟩)))⟩
  rcases DiskAt.mem_foot.1 hy with hya | hya | ⟨z, hz, hyz⟩
  · exact hF _ (DiskAt.mem_foot.2 (.inl hya))
  · exact hF _ (DiskAt.mem_foot.2 (.inr (.inl hya)))
  · have hz' : z ∈ P ∨ z = x ∨ z ∈ Q := by simpa [or_assoc] using hz
    rcases hz' with hzP | hzx | hzQ
    · exact hF y (DiskAt.mem_foot.2 (.inr (.inr ⟨z, by simp [hzP], hyz⟩)))
    · subst hzx
      refine hF y (DiskAt.mem_foot.2 (.inr (.inr ⟨e0, hm, ?_⟩)))
      exact hyz.imp (fun h => by rw [h, hb]) (fun h => hrow y h)
    · exact hF y (DiskAt.mem_foot.2 (.inr (.inr ⟨z, by simp [hzQ], hyz⟩)))

theorem row_cut {w : World} {e : TypeId} {A : Option Addr} {n c : Nat} {xs : List Value} (h : Row1 w e (.slice A n c) xs) {k : Nat} (hk : k ≤ xs.length) : Row1 w e (.slice A k c) (xs.take k) := by
  rcases h with ⟨A', he, rfl⟩ | ⟨g', cap, cur, he, h0, h1, h2, h3, h4, h5⟩
  · injection he with e1 e2 e3
    simp at hk
    subst hk; subst e3
    exact .inl ⟨_, rfl, by simp⟩
  · injection he with e1 e2 e3
    subst e1; subst e3
    refine .inr ⟨g', c, cur, by rw [List.length_take, Nat.min_eq_left hk], h0, by rw [List.length_take]; omega, h2, h3, h4, ?_⟩
    rw [List.length_take, Nat.min_eq_left hk, ← h5, List.take_take, Nat.min_eq_left hk]

/-- The two stores of a crash, on one file. -/
theorem crash_file {w : World} {e0 : FE} {A : Option Addr} {c nq n' : Nat} (hF : FileAt w e0) (hnd : (blks e0).Nodup) (hsl : e0.sl = .slice A e0.bs.length c) (hn : n' ≤ e0.bs.length) :
    FileAt (((w.drewN nq).setCell ⟨e0.blk, 1, none⟩ (.int .i64 n')).setCell ⟨e0.blk, 0, none⟩ (.slice A n' c)).drew { e0 with sl := .slice A n' c, bs := e0.bs.take n', sy := n' } ∧
    Chg (fun y => y ∈ blks e0) w (((w.drewN nq).setCell ⟨e0.blk, 1, none⟩ (.int .i64 n')).setCell ⟨e0.blk, 0, none⟩ (.slice A n' c)).drew := by
  refine ⟨⟨?_, ?_, ?_, hF.key⟩, ((((Chg.refl _ w).drewN nq).set (fun _ => by simp [blks]) _).set (fun _ => by simp [blks]) _).drew⟩
  · have h1 : (w.drewN nq).heap[e0.blk]? = some (.cells #[e0.sl, .int .i64 e0.sy] 87 (0, 0)) := hF.blk
    have := set_blk (set_blk h1 1 (.int .i64 n')) 0 (.slice A n' c)
    have h4 : (((w.drewN nq).setCell ⟨e0.blk, 1, none⟩ (.int .i64 n')).setCell ⟨e0.blk, 0, none⟩ (.slice A n' c)).heap[e0.blk]? = some (.cells #[.slice A n' c, .int .i64 n'] 87 (0, 0)) := by simpa using this
    exact h4
  · have hr := hF.row
    rw [hsl] at hr
    have h3 := row_cut hr (k := n') (by rw [u8s_length]; exact hn)
    rw [show (u8s e0.bs).take n' = u8s (e0.bs.take n') from by simp [u8s]] at h3
    refine h3.keep fun k hk => ?_
    have hk' : k ∈ rowBlk e0.sl := by rw [hsl]; exact rowBlk_cut (Nat.le_refl _) k hk
    exact (Below.heap_setCell _ _ _ k (blks_ne hnd k hk')).trans (Below.heap_setCell _ _ _ k (blks_ne hnd k hk'))
  · show n' ≤ (e0.bs.take n').length
    rw [List.length_take]
    omega

set_option maxRecDepth 100000 in
set_option maxHeartbeats 4000000 in
theorem crash_calls {w : World} {a most bm : Nat} {E : List FE} (hD : DiskAt w a most E bm) (hE : E.length ≤ 8796093022208) (kv : Value) (ks : List Int) (hk : KeepAt w kv ks (foot a bm E)) :
    Calls Try.prog 25 #[dptr a, kv] w (Mut w a most bm E (crashL (E.map FE.abs) ks).1 (.tuple #[])) := by
  unfold dptr
  have HD := Lib.hid hD
  have HK := Lib.hid hk
  obtain ⟨A0, c0, rfl, -⟩ := hk
  clear hD
  go_enter Try.func25, Try.ntmps25
  go_wp2_with fail
  refine (names_calls HD.out hE).mono ?_
  rintro e' w1 ⟨v, rfl, hv, hc⟩
  have Hv := Lib.hid hv
  have Hc := Lib.hid hc
  clear hv hc
  by_cases hE0 : E = []
  · obtain ⟨A, cap, hvv⟩ : ∃ A cap, v = .slice A 0 cap := by
      have := Hv.out
      rw [hE0] at this
      rcases this.2 with ⟨rfl, _⟩ | ⟨g, cap, cur, rfl, _⟩
      · exact ⟨none, 0, rfl⟩
      · exact ⟨_, cap, rfl⟩
    subst hvv
    have H : Mut w a most bm E (crashL (E.map FE.abs) ks).1 (.tuple #[]) (.returned (.tuple #[])) w1 := by
      rw [show (crashL (E.map FE.abs) ks).1 = E.map FE.abs from by rw [hE0]; rfl]
      exact Mut.none_ HD.out Hc.out _
    have HH := Lib.hid H
    clear H Hv hE0
    go_wp2
    refine wp_loop_rounds 1 ?_
    rw [rounds_succ]
    go_wp2
    go_end0
    exact HH.out
  · obtain ⟨g, cap, hvv, hcap⟩ : ∃ g cap, v = .slice (some ⟨g, 0, none⟩) E.length cap ∧ E.length ≤ cap := by
      rcases Hv.out.2 with ⟨rfl, h0⟩ | ⟨g, cap, cur, rfl, h1, h2, h3, _⟩
      · simp at h0; exact absurd h0 hE0
      · exact ⟨g, cap, by simp, by simpa using h3⟩
    subst hvv
    have Hv2 : Hid (w1.ownsRow w.heap.size 9 1 (.slice (some ⟨g, 0, none⟩) E.length cap) E.length (strsV (E.map (·.name)))) := by
      have := Hv.out
      rw [List.length_map] at this
      exact Lib.hid this
    clear Hv
    go_wp2
    go_loopw [1, 12] (fun kv iv wr => ∃ (k : Nat) (P Q : List FE) (kr : List Int), iv = .int .i64 k ∧ k = P.length ∧ DiskAt wr a most (P ++ Q) bm ∧ P.map FE.abs = (crashL ((E.take k).map FE.abs) ks).1 ∧ kr = (crashL ((E.take k).map FE.abs) ks).2 ∧ Q = E.drop k ∧
        KeepAt wr kv kr (foot a bm E) ∧ Chg (fun x => x ∈ foot a bm E) w1 wr ∧ ∀ x ∈ foot a bm (P ++ Q), x ∈ foot a bm E)
      (fun _ iv wr => E.length - (intOf iv).toNat)
    case atStart => exact ⟨0, [], E, ks, rfl, rfl, HD.out.none_ Hc.out, rfl, rfl, rfl, HK.out.chg Hc.out (fun _ _ hf => hf.elim), Chg.refl _ _, fun _ h => h⟩
    case round =>
      obtain ⟨k, P, Q, kr, rfl, hkP, hDr, hP, hkr, hQ, hKr, hcr, hft⟩ := hrel
      have HP := Lib.hid hP
      have HKR := Lib.hid hkr
      have HQ := Lib.hid hQ
      have HD2 := Lib.hid hDr
      have HC2 := Lib.hid hcr
      have HF2 := Lib.hid hft
      have HK2 := Lib.hid hKr
      have hkP' := Lib.hid hkP
      obtain ⟨A1, c1, rfl, -⟩ := hKr
      clear hP hkr hQ hDr hcr hft hkP
      by_cases hlt : k < E.length
      · have hd : E.drop k = E[k] :: E.drop (k + 1) := List.drop_eq_getElem_cons hlt
        generalize E[k] = e0 at hd
        have HD0 := Lib.hid hd
        have hQ2 : Q = e0 :: E.drop (k + 1) := HQ.out.trans hd
        subst hQ2
        have hm : e0 ∈ P ++ e0 :: E.drop (k + 1) := by simp
        have hl0 := lookE_of_mem HD2.out.names hm
        have hF := HD2.out.files e0 hm
        have hl := look_run HD2.out.map hF.key
        rw [ptrOf_some hl0] at hl
        have hg0 : g ∉ foot a bm E := fun hg => by
          have h1 := HD.out.lt g hg
          have h2 := (Hv2.out.lt g (by simp [Value.ownBlock])).1
          omega
        have hnm : wr.cell? ⟨g, k, none⟩ = some (.string e0.name) := by
          have h1 := names_mem Hv2.out (j := k) (by simpa using hlt)
          have h2 : (E.map (·.name)).getD k ByteArray.empty = e0.name := by
            have : E[k]? = some e0 := by
              rw [← List.head?_drop, hd]
              rfl
            simp [List.getD, this]
          rw [h2] at h1
          exact HC2.out.cell h1 hg0
        have h0 := HD2.out.cell0
        have h1 := hF.cell0
        have h2 := hF.cell1
        have f1 := frozen_of_blk hF.blk 0
        have f2 := frozen_of_blk hF.blk 1
        have hlen := HD2.out.len hm
        have hsy := hF.sy
        obtain ⟨A, c, hsl, hc, hcm, -⟩ := hF.row.shape
        rw [u8s_length] at hc
        unfold maxLen at hcm
        rw [hsl, u8s_length] at h1
        have hwr : IntKind.i64.wrap ((e0.bs.length : Int) - (e0.sy : Int)) = (e0.bs.length : Int) - (e0.sy : Int) := IntWalk.i64_in _ (by omega)
        have hcap1 : (k : Int) < (E.length : Int) := by omega
        have HHF := Lib.hid hF
        rw [u8s_length] at hsl
        have hsl' := Lib.hid hsl
        clear hl0 hd hF hsl hm hg0
        by_cases hrest : e0.bs.length = e0.sy
        · have hb0 : (((e0.bs.length : Int) - (e0.sy : Int)) == 0) = true := by simp; omega
          have hx : crash1 e0.abs kr = (e0.abs, kr) := by unfold crash1; exact if_pos hrest
          have HX := Lib.hid hx
          clear hrest hx
          generalize e0.bs.length = len at *
          go_wp2_with fail
          go_quiet (fail)
          go_wp2
          go_roundw
          case rel =>
            obtain ⟨r1, r2⟩ := crash_rel HP.out HKR.out HD0.out HX.out
            refine ⟨k + 1, P ++ [e0], E.drop (k + 1), kr, by go_num, ?_, ?_, r1, r2, rfl, ?_, ?_, ?_⟩
            · rw [hkP'.out]; simp
            · have := HD2.out.drewN nq
              simpa using this
            · exact HK2.out.chg ((Chg.refl (fun _ => False) _).drewN nq) (fun _ _ hf => hf.elim)
            · exact HC2.out.drewN nq
            · intro y hy
              exact HF2.out y (by simpa using hy)
          case measure => simp [intOf]; omega
        · have hb0 : (((e0.bs.length : Int) - (e0.sy : Int)) == 0) = false := by simp; omega
          have hrow := Lib.hid (show e0.bs.length ≠ e0.sy from hrest)
          clear hrest
          cases kr with
          | nil =>
            have hx : crash1 e0.abs [] = (({ e0 with sl := .slice A e0.sy c, bs := e0.bs.take e0.sy } : FE).abs, []) := by unfold crash1; rw [if_neg (show ¬ e0.abs.bs.length = e0.abs.sy from hrow.out)]; rfl
            have HX := Lib.hid hx
            have HND := Lib.hid (HD2.out.blks_nodup (e := e0) (by simp))
            have HSY := Lib.hid (show e0.sy ≤ e0.bs.length from hsy)
            clear hx
            have hsc : (e0.sy : Int) ≤ c := by omega
            have hs0 : (0 : Int) ≤ e0.sy := by omega
            generalize hl0 : e0.bs.length = len at h1 hc hlen hsy hwr hb0
            have HL := Lib.hid hl0
            clear hl0
            go_wp2_with fail
            go_quiet (fail)
            go_wp2
            have hfin := Lib.hid (crash_file (nq := nq) HHF.out HND.out hsl'.out HSY.out)
            have gb : ((wr.drewN nq).setCell ⟨e0.blk, 1, none⟩ (.int .i64 e0.sy)).heap[e0.blk]? = some (.cells #[.slice A len c, .int .i64 e0.sy] 87 (0, 0)) := by
              have := set_blk (w := wr.drewN nq) HHF.out.blk 1 (.int .i64 e0.sy)
              rw [hsl'.out, HL.out] at this
              simpa using this
            have g1 := (cell_of_blk gb 0).trans rfl
            have g2 := (cell_of_blk gb 1).trans rfl
            have g3 := frozen_of_blk gb 0
            clear gb h0 h1 h2 f1 f2 hl hnm
            generalize ((wr.drewN nq).setCell ⟨e0.blk, 1, none⟩ (.int .i64 e0.sy)) = W1 at *
            go_region
            go_wp2
            go_roundw
            case rel =>
              obtain ⟨r1, r2⟩ := crash_rel HP.out HKR.out HD0.out HX.out
              obtain ⟨s1, s2⟩ := hfin.out
              obtain ⟨t1, t2, t3⟩ := crash_set HD2.out HF2.out (x := { e0 with sl := .slice A e0.sy c, bs := e0.bs.take e0.sy }) rfl rfl s1 (fun y hy => by rw [hsl'.out]; exact rowBlk_cut (Nat.le_refl _) y hy) (by rw [List.length_take]; omega) s2
              exact ⟨k + 1, _, _, [], by go_num, by rw [hkP'.out]; simp, t1, r1, r2, rfl, HK2.out.chg t3 (fun _ _ h => h), HC2.out.trans t3 (fun _ _ h => h), t2⟩
            case measure => simp [intOf]; omega
          | cons x r =>
            obtain ⟨A', c', he, hk1, hk2, hk3, hk4⟩ := HK2.out
            injection he with he1 he2 he3
            subst he1; subst he3
            obtain ⟨ad, hA, hadF, hcell⟩ := hk4 (by simp)
            subst hA
            obtain ⟨hx0, hx1⟩ := hk3 x (by simp)
            have hkc : wr.cell? ad = some (.int .i64 x) := by
              have := hcell 0 (.int .i64 x) (by simp [i64s])
              simpa [Addr.add] using this
            rw [List.length_cons] at hk1
            have HCELL := Lib.hid hcell
            have HND := Lib.hid (HD2.out.blks_nodup (e := e0) (by simp))
            have HK3 := Lib.hid hk3
            clear hcell hk3 hk4 he2
            have hmod : ((x.natAbs : Nat) : Int) % ((e0.bs.length : Int) - (e0.sy : Int) + 1) = ((x.natAbs % (e0.bs.length - e0.sy + 1) : Nat) : Int) := by
              rw [Int.natCast_emod]
              congr 1
              omega
            generalize hn' : x.natAbs % (e0.bs.length - e0.sy + 1) = n' at hmod
            have hn1 : n' < e0.bs.length - e0.sy + 1 := by rw [← hn']; exact Nat.mod_lt _ (by omega)
            have hx : crash1 e0.abs (x :: r) = (({ e0 with sl := .slice A (e0.sy + n') c, bs := e0.bs.take (e0.sy + n'), sy := e0.sy + n' } : FE).abs, r) := by
              unfold crash1
              rw [if_neg (show ¬ e0.abs.bs.length = e0.abs.sy from hrow.out), ← hn']
              rfl
            have HX := Lib.hid hx
            clear hn' hx
            generalize hl0 : e0.bs.length = len at h1 hc hlen hsy hwr hb0 hn1 hmod
            have HL := Lib.hid hl0
            clear hl0
            go_wp2_with fail
            go_quiet (fail)
            go_wp2
            have hcq : Chg (fun _ => False) wr (wr.drewN nq) := (Chg.refl _ wr).drewN nq
            have q1 : (wr.drewN nq).cell? ad = some (.int .i64 x) := hkc
            have q2 : (wr.drewN nq).cell? ⟨e0.blk, 0, none⟩ = some (.slice A len c) := h1
            have q3 : (wr.drewN nq).cell? ⟨e0.blk, 1, none⟩ = some (.int .i64 e0.sy) := h2
            have q4 : (wr.drewN nq).frozen? ⟨e0.blk, 1, none⟩ = false := f2
            have HHQ := Lib.hid (show FileAt (wr.drewN nq) e0 from HHF.out.keep fun _ _ => rfl)
            have HCQ := Lib.hid hcq
            clear hcq h0 h1 h2 f1 f2 hl hnm hkc
            generalize wr.drewN nq = wq at *
            by_cases hcap' : c1 = 1
            · subst hcap'
              go_quiet ((go_at_call 57; exact Calls.quiet_of_same (distance_calls' x _ hx0 hx1)))
              go_wp2
              have hfin := Lib.hid (crash_file (n' := e0.sy + n') (nq := nq) HHQ.out HND.out hsl'.out (by rw [HL.out]; omega))
              have gb : ((wq.drewN nq).setCell ⟨e0.blk, 1, none⟩ (.int .i64 ((e0.sy : Int) + (n' : Int)))).heap[e0.blk]? = some (.cells #[.slice A len c, .int .i64 ((e0.sy : Int) + (n' : Int))] 87 (0, 0)) := by
                have := set_blk (w := wq.drewN nq) HHQ.out.blk 1 (.int .i64 ((e0.sy : Int) + (n' : Int)))
                rw [hsl'.out, HL.out] at this
                simpa using this
              have g1 := (cell_of_blk gb 0).trans rfl
              have g2 := (cell_of_blk gb 1).trans rfl
              have g3 := frozen_of_blk gb 0
              clear gb q1 q2 q3 q4
              have HW : ∃ W1, W1 = ((wq.drewN nq).setCell ⟨e0.blk, 1, none⟩ (.int .i64 ((e0.sy : Int) + (n' : Int)))) := ⟨_, rfl⟩
              obtain ⟨W1, hW1⟩ := HW
              rw [← hW1] at g1 g2 g3 ⊢
              have HW1 := Lib.hid hW1
              clear hW1
              go_region
              go_wp2
              go_roundw
              case rel =>
                obtain ⟨r1, r2⟩ := crash_rel HP.out HKR.out HD0.out HX.out
                obtain ⟨s1, s2⟩ := hfin.out
                have s1' : FileAt _ { e0 with sl := .slice A (e0.sy + n') c, bs := e0.bs.take (e0.sy + n'), sy := e0.sy + n' } := s1
                obtain ⟨t1, t2, t3⟩ := crash_set (HD2.out.none_ HCQ.out) HF2.out (x := { e0 with sl := .slice A (e0.sy + n') c, bs := e0.bs.take (e0.sy + n'), sy := e0.sy + n' }) rfl rfl s1' (fun y hy => by rw [hsl'.out]; exact rowBlk_cut (Nat.le_refl _) y hy) (by show (e0.bs.take _).length ≤ _; rw [List.length_take]; omega) s2
                have hr0 : r.length = 0 := by omega
                refine ⟨k + 1, _, _, r, by go_num, by rw [hkP'.out]; simp, ?_, r1, r2, rfl, ?_, ?_, t2⟩
                · rw [HW1.out]; exact t1
                · exact ⟨_, 0, by rw [hr0], by omega, by omega, fun z hz => HK3.out z (by simp [hz]), fun h => by omega⟩
                · rw [HW1.out]; exact (HC2.out.trans HCQ.out (fun _ _ h => h.elim)).trans t3 (fun _ _ h => h)
              case measure => simp [intOf]; omega
            · have hcap2 : ¬ c1 - 1 = 0 := by omega
              go_quiet ((go_at_call 57; exact Calls.quiet_of_same (distance_calls' x _ hx0 hx1)))
              go_wp2
              have hfin := Lib.hid (crash_file (n' := e0.sy + n') (nq := nq) HHQ.out HND.out hsl'.out (by rw [HL.out]; omega))
              have gb : ((wq.drewN nq).setCell ⟨e0.blk, 1, none⟩ (.int .i64 ((e0.sy : Int) + (n' : Int)))).heap[e0.blk]? = some (.cells #[.slice A len c, .int .i64 ((e0.sy : Int) + (n' : Int))] 87 (0, 0)) := by
                have := set_blk (w := wq.drewN nq) HHQ.out.blk 1 (.int .i64 ((e0.sy : Int) + (n' : Int)))
                rw [hsl'.out, HL.out] at this
                simpa using this
              have g1 := (cell_of_blk gb 0).trans rfl
              have g2 := (cell_of_blk gb 1).trans rfl
              have g3 := frozen_of_blk gb 0
              clear gb q1 q2 q3 q4
              have HW : ∃ W1, W1 = ((wq.drewN nq).setCell ⟨e0.blk, 1, none⟩ (.int .i64 ((e0.sy : Int) + (n' : Int)))) := ⟨_, rfl⟩
              obtain ⟨W1, hW1⟩ := HW
              rw [← hW1] at g1 g2 g3 ⊢
              have HW1 := Lib.hid hW1
              clear hW1
              go_region
              go_wp2
              go_roundw
              case rel =>
                obtain ⟨r1, r2⟩ := crash_rel HP.out HKR.out HD0.out HX.out
                obtain ⟨s1, s2⟩ := hfin.out
                have s1' : FileAt _ { e0 with sl := .slice A (e0.sy + n') c, bs := e0.bs.take (e0.sy + n'), sy := e0.sy + n' } := s1
                obtain ⟨t1, t2, t3⟩ := crash_set (HD2.out.none_ HCQ.out) HF2.out (x := { e0 with sl := .slice A (e0.sy + n') c, bs := e0.bs.take (e0.sy + n'), sy := e0.sy + n' }) rfl rfl s1' (fun y hy => by rw [hsl'.out]; exact rowBlk_cut (Nat.le_refl _) y hy) (by show (e0.bs.take _).length ≤ _; rw [List.length_take]; omega) s2
                refine ⟨k + 1, _, _, r, by go_num, by rw [hkP'.out]; simp, ?_, r1, r2, rfl, ?_, ?_, t2⟩
                · rw [HW1.out]; exact t1
                · refine ⟨some (ad.add 1), c1 - 1, rfl, by omega, by omega, fun z hz => HK3.out z (by simp [hz]), fun h => ⟨ad.add 1, rfl, by rw [block_of_add]; exact hadF, fun j u hu => ?_⟩⟩
                  have hj := HCELL.out (j + 1) u (by simpa [i64s] using hu)
                  rw [add_of_add, Nat.add_comm 1 j]
                  have hj2 := HCQ.out.cellF hj
                  rw [HW1.out]
                  exact t3.cell hj2 (fun hs => hadF (by rw [block_of_add] at hs; exact hs))
                · rw [HW1.out]; exact (HC2.out.trans HCQ.out (fun _ _ h => h.elim)).trans t3 (fun _ _ h => h)
              case measure => simp [intOf]; omega

      · have hkl : k = E.length := by
          have h1 := congrArg List.length HP.out
          rw [crashL_len, List.length_map, List.length_map, List.length_take, ← hkP'.out] at h1
          omega
        have H : Mut w a most bm E (crashL (E.map FE.abs) ks).1 (.tuple #[]) (.returned (.tuple #[])) wr := by
          refine ⟨P ++ Q, rfl, HD2.out, ?_, (Hc.out.mono (fun _ _ h => h.elim)).trans HC2.out (fun _ _ h => h), fun y hy => .inl (HF2.out y hy)⟩
          have hQ : Q = [] := by rw [HQ.out, hkl]; simp
          rw [hQ, List.append_nil, HP.out, hkl, List.take_length]
        have HH := Lib.hid H
        have hkn : ¬ (k : Int) < (E.length : Int) := by omega
        clear H hlt hkl
        go_wp2
        go_end0
        exact HH.out

end Go.Proofs.Ytoflmhdgojenpaa
