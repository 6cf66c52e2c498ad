/- What (*Disk).Sync, Delete, Turn and Trim do. -/
import Derived.Test.YtoflmhdgojenpaaDf
import Derived.Maps.OwnSet
import Derived.Lib.Hide
namespace Go.Proofs.Ytoflmhdgojenpaa
open Go.RowKit Go.Maps Go.WideMaps Go.WideElems

/-- A disk behind a call: its files read as L; nothing but its blocks, and new ones, has changed. -/
def Mut (w : World) (a most bm : Nat) (E : List FE) (L : List FR) (ret : Value) (e : Ending) (w' : World) : Prop :=
  ∃ E', e = .returned ret ∧ DiskAt w' a most E' bm ∧ E'.map FE.abs = L ∧ Chg (fun k => k ∈ foot a bm E) w w' ∧ ∀ k ∈ foot a bm E', k ∈ foot a bm E ∨ w.heap.size ≤ k

theorem Mut.same {w : World} {a most bm : Nat} {E : List FE} (h : DiskAt w a most E bm) (ret : Value) : Mut w a most bm E (E.map FE.abs) ret (.returned ret) w :=
  ⟨E, rfl, h, rfl, Chg.refl _ _, fun _ hk => .inl hk⟩
theorem Mut.none_ {w w' : World} {a most bm : Nat} {E : List FE} (h : DiskAt w a most E bm) (hc : Chg (fun _ => False) w w') (ret : Value) : Mut w a most bm E (E.map FE.abs) ret (.returned ret) w' :=
  ⟨E, rfl, h.none_ hc, rfl, hc.mono (fun _ _ hf => hf.elim), fun _ hk => .inl hk⟩

def codeV (c : Int) : Value := .int .i64 c

theorem DiskAt.blks_nodup {w : World} {a most bm : Nat} {E : List FE} (h : DiskAt w a most E bm) {e : FE} (he : e ∈ E) : (blks e).Nodup := by
  have := h.apart
  rw [foot_eq, List.nodup_cons, List.nodup_cons] at this
  have h3 := this.2.2
  obtain ⟨E1, E2, rfl⟩ := List.append_of_mem he
  rw [List.flatMap_append, List.flatMap_cons, List.nodup_append] at h3
  exact (List.nodup_append.1 h3.2.1).1
theorem blks_ne {e : FE} (h : (blks e).Nodup) : ∀ k ∈ rowBlk e.sl, k ≠ e.blk := by
  intro k hk e0
  subst e0
  exact (List.nodup_cons.1 h).1 hk

/-- What became of a file is said of all. -/
theorem Mut.upd {w w' : World} {a most bm : Nat} {E : List FE} {n : ByteArray} {e x : FE} (h : DiskAt w a most E bm) (hl : lookE n E = some e) (hn : x.name = e.name) (hb : x.blk = e.blk) (hF : FileAt w' x)
    (hrow : ∀ k ∈ rowBlk x.sl, k ∈ rowBlk e.sl ∨ w.heap.size ≤ k) (hc : Chg (fun k => k ∈ blks e) w w') (hroom : used E - e.bs.length + x.bs.length ≤ most) (ret : Value) :
    Mut w a most bm E (setL x.abs (E.map FE.abs)) ret (.returned ret) w' := by
  have hm := (lookE_mem hl).1
  have hsub : ∀ k ∈ blks e, k ∈ foot a bm E := fun k hk => DiskAt.mem_foot.2 (.inr (.inr ⟨e, hm, List.mem_cons.1 hk⟩))
  refine ⟨setE x E, rfl, h.upd hl hn hb hF hrow hc hroom, abs_set x E, hc.mono fun k _ hk => hsub k hk, fun k hk => ?_⟩
  rcases DiskAt.mem_foot.1 hk with rfl | rfl | ⟨y, hy, hk⟩
  · exact .inl (DiskAt.mem_foot.2 (.inl rfl))
  · exact .inl (DiskAt.mem_foot.2 (.inr (.inl rfl)))
  · unfold setE at hy
    obtain ⟨z, hz, rfl⟩ := List.mem_map.1 hy
    by_cases hzn : z.name = x.name
    · rw [if_pos hzn] at hk
      rcases hk with hk | hk
      · exact .inl (hsub k (by rw [hk, hb]; simp [blks]))
      · rcases hrow k hk with hk | hk
        · exact .inl (hsub k (by simp [blks, hk]))
        · exact .inr hk
    · rw [if_neg hzn] at hk
      exact .inl (DiskAt.mem_foot.2 (.inr (.inr ⟨z, hz, hk⟩)))

def syncL (n : ByteArray) (L : List FR) : List FR := match lookL n L with | none => L | some f => setL { f with sy := f.bs.length } L
def thereL (n : ByteArray) (L : List FR) : Int := match lookL n L with | none => 5 | some _ => 0

set_option maxHeartbeats 400000 in
theorem sync_calls {w : World} {a most bm : Nat} {E : List FE} (hD : DiskAt w a most E bm) (n : ByteArray) (hn : n.size ≤ maxLen) :
    Calls Try.prog 15 #[dptr a, .string n] w (Mut w a most bm E (syncL n (E.map FE.abs)) (codeV (thereL n (E.map FE.abs)))) := by
  have hl := look_run hD.map hn
  have h0 := hD.cell0
  unfold dptr
  unfold syncL thereL
  rw [← abs_look]
  cases hlk : lookE n E with
  | none =>
    rw [ptrOf_none hlk] at hl
    have H : Mut w a most bm E (E.map FE.abs) (.int .i64 5) (.returned (.int .i64 5)) w := Mut.same hD _
    clear hlk hD
    show Calls _ _ _ _ (Mut w a most bm E (E.map FE.abs) (.int .i64 5))
    go_enter Try.func15, Try.ntmps15
    go_wp2
    go_ret
    exact H
  | some e =>
    rw [ptrOf_some hlk] at hl
    have hm := (lookE_mem hlk).1
    have hF := hD.files e hm
    have hnd := hD.blks_nodup hm
    have h1 := hF.cell0
    have h2 := hF.cell1
    have f2 := frozen_of_blk hF.blk 1
    obtain ⟨A, c, hsl, hc, hcm, -⟩ := hF.row.shape
    have H : Mut w a most bm E (setL { e.abs with sy := e.bs.length } (E.map FE.abs)) (.int .i64 0) (.returned (.int .i64 0)) (w.setCell ⟨e.blk, 1, none⟩ (.int .i64 e.bs.length)) := by
      refine Mut.upd (x := { e with sy := e.bs.length }) hD hlk rfl rfl ?_ (fun k hk => .inl hk) ((Chg.refl _ w).set (fun _ => by simp [blks]) _) ?_ _
      · refine ⟨?_, hF.row.keep fun k hk => Below.heap_setCell w _ _ k (blks_ne hnd k hk), Nat.le_refl _, hF.key⟩
        have := set_blk hF.blk 1 (.int .i64 e.bs.length)
        simpa using this
      · have := hD.room
        have := len_le_used hm
        show used E - e.bs.length + e.bs.length ≤ most
        omega
    rw [hsl] at h1
    rw [u8s_length] at h1 hc
    clear hlk hD hF hsl hnd hm
    show Calls _ _ _ _ (Mut w a most bm E (setL { e.abs with sy := e.bs.length } (E.map FE.abs)) (.int .i64 0))
    go_enter Try.func15, Try.ntmps15
    go_wp2
    go_ret
    exact H

theorem wpList_delete_file (w : World) {ops : Array Oper} {rest : List Oper} {o : Oper} {a : Act} {Q : Exit → Act → World → Prop} (hg : o.guard = none) (m x : Operand)
    (hop : o.op = Op.call { callee := Callee.builtin Builtin.delete, args := #[m, x], argTypes := #[81, 9] })
    (b : Nat) (E : List FE) (n : Nat) (hm : a.eval m = .map (some b)) (hown : w.ownsMap Try.prog 9 ptrR b n (dOf E)) (s : ByteArray) (hx : a.eval x = .string s) (hs : s.size ≤ maxLen)
    (hK : ∀ w', w'.ownsMap Try.prog 9 ptrR b n ((dOf E).del (keyL s)) → Chg (fun k => k = b) w w' → wpList Try.prog ops Q rest (a.put o.dst (.tuple #[])) w') :
    wpList Try.prog ops Q (o :: rest) a w :=
  wpList_delete_own w hg m x 81 9 hop 85 strKeyed mapT ptrR b n (dOf E) hm hown _ (keyL s) hx (keyOf_string_mk Try.underlying9 hs)
    fun w' h1 h2 => hK w' h1 ((Chg.of_grown h2.grown).mono fun k _ hk => by injection hk with hk; exact hk.symm)

def deleteL (n : ByteArray) (L : List FR) : List FR := match lookL n L with | none => L | some _ => delL n L

set_option maxHeartbeats 400000 in
theorem delete_calls {w : World} {a most bm : Nat} {E : List FE} (hD : DiskAt w a most E bm) (n : ByteArray) (hn : n.size ≤ maxLen) :
    Calls Try.prog 47 #[dptr a, .string n] w (Mut w a most bm E (deleteL n (E.map FE.abs)) (codeV (thereL n (E.map FE.abs)))) := by
  have hl := look_run hD.map hn
  have h0 := hD.cell0
  unfold dptr
  unfold deleteL thereL
  rw [← abs_look]
  cases hlk : lookE n E with
  | none =>
    rw [ptrOf_none hlk] at hl
    have H : Mut w a most bm E (E.map FE.abs) (.int .i64 5) (.returned (.int .i64 5)) w := Mut.same hD _
    clear hlk hD
    show Calls _ _ _ _ (Mut w a most bm E (E.map FE.abs) (.int .i64 5))
    go_enter Try.func47, Try.ntmps47
    go_wp2
    go_ret
    exact H
  | some e =>
    rw [ptrOf_some hlk] at hl
    have Hlk := Lib.hid hlk
    have hmap := hD.map
    clear hlk
    show Calls _ _ _ _ (Mut w a most bm E (delL n (E.map FE.abs)) (.int .i64 0))
    go_enter Try.func47, Try.ntmps47
    go_wp2_with (at_delete; refine wpList_delete_file _ rfl _ _ rfl bm E _ rfl hmap n rfl hn ?_)
    intro w' hm hc
    have H : Mut w a most bm E (delL n (E.map FE.abs)) (.int .i64 0) (.returned (.int .i64 0)) w' := by
      have := hD.del Hlk.out hm hc
      refine ⟨_, rfl, this.1, abs_del n E, hc.mono fun k _ hk => by rw [hk]; exact DiskAt.mem_foot.2 (.inr (.inl rfl)), fun k hk => .inl ?_⟩
      rcases DiskAt.mem_foot.1 hk with rfl | rfl | ⟨y, hy, hk⟩
      · exact DiskAt.mem_foot.2 (.inl rfl)
      · exact DiskAt.mem_foot.2 (.inr (.inl rfl))
      · exact DiskAt.mem_foot.2 (.inr (.inr ⟨y, (List.mem_filter.1 hy).1, hk⟩))
    clear hm hc hmap hD
    go_wp2
    go_ret
    exact H

end Go.Proofs.Ytoflmhdgojenpaa
