/- What (*Disk).Rename does. -/
import Derived.Test.YtoflmhdgojenpaaDi
namespace Go.Proofs.Ytoflmhdgojenpaa
open Go.RowKit Go.Maps Go.WideMaps Go.WideElems

theorem wpList_put_file (w : World) {ops : Array Oper} {rest : List Oper} {o : Oper} {a : Act} {Q : Exit → Act → World → Prop} (hg : o.guard = none) (m x v : Operand)
    (hop : o.op = Op.mapUpdate 81 m x v)
    (b : Nat) (E : List FE) (n : Nat) (hm : a.eval m = .map (some b)) (hown : w.ownsMap Try.prog 9 ptrR b n (dOf E)) (hn : n < maxLen) (s : ByteArray) (hx : a.eval x = .string s) (hs : s.size ≤ maxLen)
    (k : Nat) (hv : a.eval v = .pointer (some ⟨k, 0, none⟩))
    (hK : ∀ w', w'.ownsMap Try.prog 9 ptrR b (n + 1) ((dOf E).put (keyL s) (blkD k)) → Chg (fun k => k = b) w w' → wpList Try.prog ops Q rest (a.put o.dst undef) w') :
    wpList Try.prog ops Q (o :: rest) a w :=
  wpList_mapUpdate_in w hg m x v 81 hop 9 85 strKeyed mapT ptrR b n (dOf E) hm hown hn _ _ (keyL s) hx hv (keyOf_string_mk Try.underlying9 hs) (blkD k) [] (ptrR_mk k)
    fun w' h1 h2 => hK w' h1 ((Chg.of_grown h2.grown).mono fun k _ hk => by injection hk with hk; exact hk.symm)

def namedB (n : ByteArray) : Bool := decide (1 ≤ n.size ∧ n.size ≤ 24)
def renL (x y : ByteArray) (L : List FR) : List FR × Int :=
  if namedB x = true ∧ namedB y = true then (match lookL x L with | none => (L, 5) | some f => (insL { f with name := y } (delL y (delL x L)), 0)) else (L, 1)

theorem used_del_le (n : ByteArray) (E : List FE) : used (delE n E) ≤ used E := by
  unfold delE
  induction E with
  | nil => simp [used]
  | cons e r ih =>
    rw [List.filter_cons]
    split
    · rw [used_cons, used_cons]; omega
    · rw [used_cons]; omega

set_option maxRecDepth 100000 in
set_option maxHeartbeats 1000000 in
theorem rename_calls {w : World} {a most bm : Nat} {E : List FE} (hD : DiskAt w a most E bm) (x y : ByteArray) (hx : x.size ≤ maxLen) (hE : E.length < maxLen) :
    Calls Try.prog 54 #[dptr a, .string x, .string y] w (Mut w a most bm E (renL x y (E.map FE.abs)).1 (codeV (renL x y (E.map FE.abs)).2)) := by
  have hl := look_run hD.map hx
  have h0 := hD.cell0
  unfold dptr
  unfold renL
  rw [← abs_look]
  by_cases hnm : namedB x = true ∧ namedB y = true
  · rw [if_pos hnm]
    have hy : y.size ≤ maxLen := by
      have := hnm.2
      simp [namedB] at this
      unfold maxLen
      omega
    obtain ⟨n1, n2⟩ := hnm
    have H1 := Lib.hid n1
    have H2 := Lib.hid n2
    clear n1 n2
    cases hlk : lookE x E with
    | none =>
      rw [ptrOf_none hlk] at hl
      have H : Mut w a most bm E (E.map FE.abs) (.int .i64 5) (.returned (.int .i64 5)) w := Mut.same hD _
      clear hlk hD
      show Calls _ _ _ _ (Mut w a most bm E (E.map FE.abs) (.int .i64 5))
      go_enter Try.func54, Try.ntmps54
      go_wp2_with (go_at_call 48; refine (named_calls _ _ true ?_).mono ?_; (first | exact H1.out | exact H2.out); rintro e w' ⟨rfl, rfl⟩)
      go_ret
      exact H
    | some e =>
      rw [ptrOf_some hlk] at hl
      have Hlk := Lib.hid hlk
      have hmap := hD.map
      clear hlk
      show Calls _ _ _ _ (Mut w a most bm E (insL { e.abs with name := y } (delL y (delL x (E.map FE.abs)))) (.int .i64 0))
      go_enter Try.func54, Try.ntmps54
      go_wp2_with (first | (go_at_call 48; refine (named_calls _ _ true ?_).mono ?_; (first | exact H1.out | exact H2.out); rintro e w' ⟨rfl, rfl⟩) | (at_delete; refine wpList_delete_file _ rfl _ _ rfl bm E _ rfl hmap x rfl hx ?_))
      intro w1 hm1 hc1
      have hdel := Lib.hid (hD.del Hlk.out hm1 hc1)
      have hd1 := hdel.out.1
      have h01 := hd1.cell0
      have hmap1 := hd1.map
      have hlen : (delE x E).length < maxLen := Nat.lt_of_le_of_lt (List.length_filter_le _ _) hE
      clear hmap hl h0 hm1
      go_wp2_with (at_mapUpdate; refine wpList_put_file _ rfl _ _ _ rfl bm (delE x E) _ rfl hmap1 hlen y rfl hy e.blk rfl ?_)
      intro w2 hm2 hc2
      have H : Mut w a most bm E (insL { e.abs with name := y } (delL y (delL x (E.map FE.abs)))) (.int .i64 0) (.returned (.int .i64 0)) w2 := by
        obtain ⟨hd, hout, hF⟩ := hdel.out
        have hm := (lookE_mem Hlk.out).1
        have hne : bm ∉ blks e := fun hk => by
          have := hout bm hk
          exact this (DiskAt.mem_foot.2 (.inr (.inl rfl)))
        have hF2 : FileAt w2 { e with name := y } := by
          have := hF.keep (w' := w2) fun k hk => hc2.block k (by
            rcases List.mem_cons.1 hk with rfl | hk
            · exact lt_of_block hF.blk
            · exact hF.row.lt k hk) (fun e0 => hne (by rw [← e0]; exact hk))
          exact ⟨this.blk, this.row, this.sy, hy⟩
        have hsubF : ∀ k ∈ foot a bm (delE y (delE x E)), k ∈ foot a bm (delE x E) := by
          intro k hk
          rcases DiskAt.mem_foot.1 hk with rfl | rfl | ⟨z, hz, hk⟩
          · exact DiskAt.mem_foot.2 (.inl rfl)
          · exact DiskAt.mem_foot.2 (.inr (.inl rfl))
          · exact DiskAt.mem_foot.2 (.inr (.inr ⟨z, (List.mem_filter.1 hz).1, hk⟩))
        have hroom : used (delE x E) + e.bs.length ≤ most := by
          obtain ⟨E1, E2, hE0, h1, h2⟩ := hD.split Hlk.out
          have hr := hD.room
          rw [hE0, delE_split h1 h2 (lookE_mem Hlk.out).2]
          rw [hE0, used_app, used_cons] at hr
          rw [used_app]
          omega
        have hp := hd.put (x := { e with name := y }) hm2 hc2 hF2 (by have := hD.blks_nodup hm; exact this) (fun k hk => fun hk' => hout k hk (hsubF k hk')) (by
          have := used_del_le y (delE x E)
          show used (delE y (delE x E)) + e.bs.length ≤ most
          omega)
        refine ⟨_, rfl, hp, ?_, ?_, ?_⟩
        · rw [abs_ins]
          show insL _ ((delE y (delE x E)).map FE.abs) = _
          rw [abs_del, abs_del]
          rfl
        · refine (hc1.mono (fun k _ hk => ?_)).trans hc2 (fun k _ hk => ?_)
          · rw [hk]; exact DiskAt.mem_foot.2 (.inr (.inl rfl))
          · rw [hk]; exact DiskAt.mem_foot.2 (.inr (.inl rfl))
        · intro k hk
          left
          rcases DiskAt.mem_foot.1 hk with rfl | rfl | ⟨z, hz, hk⟩
          · exact DiskAt.mem_foot.2 (.inl rfl)
          · exact DiskAt.mem_foot.2 (.inr (.inl rfl))
          · rcases mem_ins.1 hz with rfl | hz
            · exact DiskAt.mem_foot.2 (.inr (.inr ⟨e, hm, hk⟩))
            · exact DiskAt.mem_foot.2 (.inr (.inr ⟨z, (List.mem_filter.1 (List.mem_filter.1 hz).1).1, hk⟩))
      clear hm2 hc2 hmap1 hd1 h01 hc1
      go_wp2
      go_ret
      exact H
  · rw [if_neg hnm]
    have H : Mut w a most bm E (E.map FE.abs) (.int .i64 1) (.returned (.int .i64 1)) w := Mut.same hD _
    clear hD hl
    show Calls _ _ _ _ (Mut w a most bm E (E.map FE.abs) (.int .i64 1))
    by_cases n1 : namedB x = true
    · have n2 : namedB y = false := by
        cases h : namedB y
        · rfl
        · exact absurd ⟨n1, h⟩ hnm
      have H1 := Lib.hid n1
      have H2 := Lib.hid n2
      clear n1 n2 hnm
      go_enter Try.func54, Try.ntmps54
      go_wp2_with fail
      refine (named_calls x _ true H1.out).mono ?_
      rintro e w' ⟨rfl, rfl⟩
      go_wp2_with fail
      refine (named_calls y _ false H2.out).mono ?_
      rintro e w' ⟨rfl, rfl⟩
      go_wp2
      go_ret
      exact H
    · have n1 : namedB x = false := by simpa using n1
      have H1 := Lib.hid n1
      clear n1 hnm
      go_enter Try.func54, Try.ntmps54
      go_wp2_with (go_at_call 48; refine (named_calls x _ false H1.out).mono ?_; rintro e w' ⟨rfl, rfl⟩)
      go_ret
      exact H

end Go.Proofs.Ytoflmhdgojenpaa
