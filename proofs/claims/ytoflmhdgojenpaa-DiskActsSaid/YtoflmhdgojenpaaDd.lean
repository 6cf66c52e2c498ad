/- append onto a row of bytes with room; slices.Clone over bytes. -/
import Derived.Test.YtoflmhdgojenpaaDc
namespace Go.Proofs.Ytoflmhdgojenpaa
open Go.RowKit Go.Maps Go.WideMaps Go.WideElems

/-- A slice whose elements, of one cell each, are read. -/
def SlR (w : World) (v : Value) (xs : List Value) : Prop :=
  ∃ A c, v = .slice A xs.length c ∧ xs.length ≤ c ∧ (0 < xs.length → ∃ ad, A = some ad ∧ ∀ j u, xs[j]? = some u → w.cell? (ad.add j) = some u)

theorem Row1.slr {w : World} {e : TypeId} {v : Value} {xs : List Value} (h : Row1 w e v xs) : SlR w v xs := by
  obtain ⟨A, c, rfl, hl, _, hc⟩ := h.shape
  refine ⟨A, c, rfl, hl, fun h0 => ?_⟩
  obtain ⟨g, rfl, hcc⟩ := hc h0
  refine ⟨_, rfl, fun j u hu => ?_⟩
  rw [show ((⟨g, 0, none⟩ : Addr).add j) = ⟨g, j, none⟩ from by unfold Addr.add; split <;> simp_all]
  exact hcc j u hu
/-- The block that a read slice's elements lie in. -/
def rdBlk : Value → List Nat
  | .slice (some a) (_ + 1) _ => [a.block]
  | _ => []
theorem block_of_add (a : Addr) (n : Nat) : (a.add n).block = a.block := by unfold Addr.add; split <;> rfl
theorem SlR.keep {w w' : World} {v : Value} {xs : List Value} (h : SlR w v xs) (hk : ∀ k ∈ rdBlk v, w'.heap[k]? = w.heap[k]?) : SlR w' v xs := by
  obtain ⟨A, c, rfl, hl, hc⟩ := h
  refine ⟨A, c, rfl, hl, fun h0 => ?_⟩
  obtain ⟨ad, rfl, hcc⟩ := hc h0
  refine ⟨ad, rfl, fun j u hu => ?_⟩
  have hb : w'.heap[(ad.add j).block]? = w.heap[(ad.add j).block]? := by
    rw [block_of_add]
    obtain ⟨m, hm⟩ : ∃ m, xs.length = m + 1 := ⟨xs.length - 1, by omega⟩
    exact hk _ (by rw [hm]; simp [rdBlk])
  exact (World.cell?_of_block hb).trans (hcc j u hu)
theorem SlR.drew {w : World} {v : Value} {xs : List Value} (h : SlR w v xs) : SlR w.drew v xs := h
theorem SlR.drewN {w : World} {v : Value} {xs : List Value} (h : SlR w v xs) (n : Nat) : SlR (w.drewN n) v xs := h
theorem SlR.lt {w : World} {v : Value} {xs : List Value} (h : SlR w v xs) : ∀ k ∈ rdBlk v, k < w.heap.size := by
  intro k hk
  obtain ⟨A, c, rfl, hl, hc⟩ := h
  by_cases h0 : 0 < xs.length
  · obtain ⟨ad, rfl, hcc⟩ := hc h0
    obtain ⟨m, hm⟩ : ∃ m, xs.length = m + 1 := ⟨xs.length - 1, by omega⟩
    rw [hm] at hk
    simp [rdBlk] at hk
    subst hk
    have := World.block_lt_of_cell? w _ (hcc 0 _ (List.getElem?_eq_getElem h0))
    rwa [block_of_add] at this
  · rw [show xs.length = 0 by omega] at hk
    cases A <;> simp [rdBlk] at hk
theorem SlR.chg {S : Nat → Prop} {w w' : World} {v : Value} {xs : List Value} (h : SlR w v xs) (hc : Chg S w w') (hS : ∀ k ∈ rdBlk v, ¬ S k) : SlR w' v xs :=
  h.keep fun k hk => hc.block k (h.lt k hk) (hS k hk)
theorem rdBlk_row {v : Value} {n c : Nat} {A : Option Addr} (hv : v = .slice A n c) (h : n ≤ c) : ∀ k ∈ rdBlk v, k ∈ rowBlk v := by
  subst hv
  intro k hk
  cases A with
  | none => simp [rdBlk] at hk
  | some a => cases n with
    | zero => simp [rdBlk] at hk
    | succ n =>
      simp [rdBlk] at hk
      subst hk
      exact mem_rowBlk_mk (by omega)
theorem Row1.rd {w : World} {e : TypeId} {v : Value} {xs : List Value} (h : Row1 w e v xs) : ∀ k ∈ rdBlk v, k ∈ rowBlk v := by
  obtain ⟨A, c, hv, hl, _⟩ := h.shape
  exact rdBlk_row hv hl

theorem oneCell_u8s (bs : List Int) : ∀ u ∈ u8s bs, u.oneCell' = true := by
  intro u hu
  simp only [u8s, List.mem_map] at hu
  obtain ⟨x, _, rfl⟩ := hu
  rfl

theorem u8info : (Try.prog.info? 5).map (fun i => (i.zero, i.size, i.bytes)) = some (some (.int .u8 0), 1, 1) := by kernel_rfl

/-- 'append(v, x..)' of bytes, at the operation. -/
theorem wpList_append_bytes (w : World) {ops : Array Oper} {rest : List Oper} {o : Oper} {a : Act} {Q : Exit → Act → World → Prop} (hgd : o.guard = none) (s x : Operand)
    (ho : o.op = .call { callee := .builtin .append, args := #[s, x], argTypes := #[22, 22] })
    (v : Value) (xs : List Int) (hs : a.eval s = v) (hown : Row1 w 5 v (u8s xs)) (u : Value) (news : List Int) (hx : a.eval x = u) (hnews : SlR w u (u8s news))
    (hlen : xs.length + news.length ≤ 70368744177664)
    (h : ∀ v' w', Row1 w' 5 v' (u8s (xs ++ news)) → Chg (fun k => k ∈ rowBlk v) w w' → (∀ k ∈ rowBlk v', k ∈ rowBlk v ∨ w.heap.size ≤ k) → wpList Try.prog ops Q rest (a.put o.dst v') w') : wpList Try.prog ops Q (o :: rest) a w :=
  wpList_plain hgd fun K hK => by
    obtain ⟨i0, hi, hz0, hz1, hz2⟩ := info_parts u8info
    obtain ⟨A, c, rfl, hl, hc⟩ := hnews
    obtain ⟨v', w', hr, h2, h3, h4⟩ := run_append_row1 (P := Try.prog) w 22 o.type 5 i0 (.int .u8 0) 1 Try.underlying22 hi hz0 hz1 hz2 rfl v (u8s xs) hown A c (u8s news) hc (oneCell_u8s news) (by simp; omega) (by simp; omega)
    unfold Oper.wp execOp
    simp only [ho, resolve, invoke, builtin, Sem.run_bind, Sem.run_pure, Result.andThen_ok, List.map_toArray, List.map_cons, List.map_nil, hs, hx, hr]
    exact hK _ _ (h v' w' (by rw [show u8s (xs ++ news) = u8s xs ++ u8s news from by simp [u8s]]; exact h2) h3 h4)

/-- A slice of bytes that the call made: its row is new. -/
def IsBytes (w : World) (bs : List Int) (v : Value) (w' : World) : Prop :=
  Row1 w' 5 v (u8s bs) ∧ Chg (fun _ => False) w w' ∧ (∀ k ∈ rowBlk v, w.heap.size ≤ k)
theorem IsBytes.from_drew {w w' : World} {bs : List Int} {v : Value} (h : IsBytes w.drew bs v w') : IsBytes w bs v w' := ⟨h.1, h.2.1.from_drew, h.2.2⟩
theorem IsBytes.drew {w w' : World} {bs : List Int} {v : Value} (h : IsBytes w bs v w') : IsBytes w bs v w'.drew := ⟨h.1, h.2.1.drew, h.2.2⟩
def RetBytes (w : World) (bs : List Int) (e : Ending) (w' : World) : Prop := ∃ v, e = .returned v ∧ IsBytes w bs v w'

set_option maxHeartbeats 400000 in
theorem clone_calls (bs : List Int) (v : Value) (w : World) (h : SlR w v (u8s bs)) (hlen : bs.length ≤ 70368744177664) :
    Calls Try.prog 49 #[v] w (RetBytes w bs) := by
  have h' := h
  obtain ⟨A, c, rfl, hl, hc⟩ := h
  cases A with
  | none =>
    have h0 : ¬ 0 < (u8s bs).length := fun h0 => by obtain ⟨ad, e, _⟩ := hc h0; cases e
    have hb : bs = [] := List.eq_nil_of_length_eq_zero (by simpa using h0)
    have H : RetBytes w bs (.returned (.slice none 0 0)) w := by
      subst hb
      exact ⟨_, rfl, Row1.none_ _ _ _, Chg.refl _ _, by simp [rowBlk]⟩
    clear hc h' h0 hb
    have he := @Lib.run_eql_slice_nil Try.prog
    go_enter Try.func49, Try.ntmps49
    go_wp2
    go_ret
    exact H
  | some ad =>
    have he := @Lib.run_eql_slice_nil Try.prog
    clear hc
    go_enter Try.func49, Try.ntmps49
    go_wp2_with (at_builtin; refine wpList_append_bytes _ rfl _ _ rfl _ [] rfl ?h1 _ bs rfl ?h2 ?h3 ?h4)
    case h1 => exact Row1.none_ _ _ _
    case h2 => exact h'.chg ((Chg.refl (fun _ => False) w).alloc _) (fun _ _ hf => hf)
    case h3 => simpa using hlen
    case h4 =>
      intro v' w' hrow hchg hblk
      have H : RetBytes w bs (.returned v') w' :=
        ⟨v', rfl, by simpa using hrow, (((Chg.refl (fun _ => False) w).alloc _).trans hchg (by simp [rowBlk])), fun k hk => by
          rcases hblk k hk with hb | hb
          · simp [rowBlk] at hb
          · omega⟩
      clear hrow hchg hblk h'
      go_wp2
      go_ret
      exact H

end Go.Proofs.Ytoflmhdgojenpaa
