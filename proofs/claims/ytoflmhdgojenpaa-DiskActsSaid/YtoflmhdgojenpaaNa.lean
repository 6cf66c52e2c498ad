/- Rows of elements of several cells, with room, that nobody else has; slices of such elements that are read; append. No program. -/
import Derived.Test.YtoflmhdgojenpaaDa
import Derived.Deep.RegionHeld3
namespace Go.Proofs.Ytoflmhdgojenpaa
open Go.RowKit

/-- A slice of n elements of sz cells each, that is read. -/
def SlN (w : World) (sz : Nat) (v : Value) (n : Nat) (xs : List Value) : Prop :=
  xs.length = n * sz ∧ ∃ A c, v = .slice A n c ∧ n ≤ c ∧ (0 < n → ∃ ad, A = some ad ∧ ∀ j u, xs[j]? = some u → w.cell? (ad.add j) = some u)

/-- A row of n elements of type e, of sz cells each, with room behind it, that nobody else has. -/
def RowN (w : World) (e sz : Nat) (v : Value) (n : Nat) (xs : List Value) : Prop :=
  xs.length = n * sz ∧ ((∃ A, v = .slice A 0 0 ∧ n = 0) ∨
  ∃ g cap cur, v = .slice (some ⟨g, 0, none⟩) n cap ∧ 0 < cap ∧ n ≤ cap ∧ cap ≤ maxLen ∧ w.heap[g]? = some (.cells cur e (0, 0)) ∧ cap * sz ≤ cur.size ∧ cur.toList.take (n * sz) = xs)

theorem add_lit0 (g j : Nat) : ((⟨g, 0, none⟩ : Addr).add j) = ⟨g, j, none⟩ := by unfold Addr.add; split <;> simp_all
theorem block_add (a : Addr) (n : Nat) : (a.add n).block = a.block := by unfold Addr.add; split <;> rfl
theorem add_add (a : Addr) (i j : Nat) : (a.add i).add j = a.add (i + j) := by
  unfold Addr.add
  by_cases hi : i = 0
  · subst hi; simp
  · by_cases hj : j = 0
    · subst hj; simp [hi]
    · have : i + j ≠ 0 := by omega
      simp [hi, hj, this, Nat.add_assoc]
/-- The block that a read slice's elements lie in. -/
def rdBlkN : Value → List Nat
  | .slice (some a) (_ + 1) _ => [a.block]
  | _ => []
theorem mem_rdBlkN {a : Addr} {n c : Nat} (h : 0 < n) : a.block ∈ rdBlkN (.slice (some a) n c) := by
  obtain ⟨m, rfl⟩ : ∃ m, n = m + 1 := ⟨n - 1, by omega⟩
  simp [rdBlkN]

namespace SlN
variable {w w' : World} {sz n : Nat} {v : Value} {xs : List Value}
theorem keep (h : SlN w sz v n xs) (hk : ∀ k ∈ rdBlkN v, w'.heap[k]? = w.heap[k]?) : SlN w' sz v n xs := by
  obtain ⟨hl, A, c, rfl, h1, h2⟩ := h
  refine ⟨hl, A, c, rfl, h1, fun h0 => ?_⟩
  obtain ⟨ad, rfl, hc⟩ := h2 h0
  refine ⟨ad, rfl, fun j u hu => ?_⟩
  have hb : w'.heap[(ad.add j).block]? = w.heap[(ad.add j).block]? := by rw [block_add]; exact hk _ (mem_rdBlkN h0)
  exact (World.cell?_of_block hb).trans (hc j u hu)
theorem lt (h : SlN w sz v n xs) (hsz : 0 < sz) : ∀ k ∈ rdBlkN v, k < w.heap.size := by
  intro k hk
  obtain ⟨hl, A, c, rfl, h1, h2⟩ := h
  cases n with
  | zero => cases A <;> simp [rdBlkN] at hk
  | succ n =>
    obtain ⟨ad, rfl, hc⟩ := h2 (by omega)
    simp [rdBlkN] at hk
    subst hk
    have h0 : 0 < xs.length := by rw [hl]; exact Nat.mul_pos (by omega) hsz
    have := World.block_lt_of_cell? w _ (hc 0 _ (List.getElem?_eq_getElem h0))
    rwa [block_add] at this
theorem chg {S : Nat → Prop} (h : SlN w sz v n xs) (hsz : 0 < sz) (hc : Chg S w w') (hS : ∀ k ∈ rdBlkN v, ¬ S k) : SlN w' sz v n xs :=
  h.keep fun k hk => hc.block k (h.lt hsz k hk) (hS k hk)
theorem none_ (h : SlN w sz v n xs) (hsz : 0 < sz) (hc : Chg (fun _ => False) w w') : SlN w' sz v n xs := h.chg hsz hc fun _ _ hf => hf
theorem drew (h : SlN w sz v n xs) : SlN w.drew sz v n xs := h
/-- The first k elements. -/
theorem take {A : Option Addr} {c : Nat} (h : SlN w sz (.slice A n c) n xs) {k : Nat} (hk : k ≤ n) : SlN w sz (.slice A k c) k (xs.take (k * sz)) := by
  obtain ⟨hl, A', c', he, h1, h2⟩ := h
  injection he with e1 e2 e3
  subst e1; subst e3
  refine ⟨by rw [List.length_take, hl]; exact Nat.min_eq_left (Nat.mul_le_mul_right _ hk), A, c, rfl, by omega, fun h0 => ?_⟩
  obtain ⟨ad, rfl, hc⟩ := h2 (by omega)
  refine ⟨ad, rfl, fun j u hu => hc j u ?_⟩
  rw [List.getElem?_take] at hu
  split at hu
  · exact hu
  · cases hu
/-- What stands behind the first k elements. -/
theorem drop {ad : Addr} {c : Nat} (h : SlN w sz (.slice (some ad) n c) n xs) {k : Nat} (hk : k ≤ n) : SlN w sz (.slice (some (ad.add (k * sz))) (n - k) (c - k)) (n - k) (xs.drop (k * sz)) := by
  obtain ⟨hl, A', c', he, h1, h2⟩ := h
  injection he with e1 e2 e3
  subst e3
  refine ⟨by rw [List.length_drop, hl, Nat.sub_mul], _, _, rfl, by omega, fun h0 => ⟨_, rfl, fun j u hu => ?_⟩⟩
  obtain ⟨ad', hA, hc⟩ := h2 (by omega)
  rw [← e1] at hA
  injection hA with hA
  subst hA
  rw [add_add]
  refine hc _ u ?_
  rw [List.getElem?_drop] at hu
  exact hu
theorem empty (w : World) (sz : Nat) (A : Option Addr) (c : Nat) : SlN w sz (.slice A 0 c) 0 [] := ⟨by simp, A, c, rfl, Nat.zero_le _, fun h => by omega⟩
theorem elem {ad : Addr} {c : Nat} (h : SlN w sz (.slice (some ad) n c) n xs) {j : Nat} {u : Value} (hu : xs[j]? = some u) (hn : 0 < n) : w.cell? (ad.add j) = some u := by
  obtain ⟨hl, A', c', he, h1, h2⟩ := h
  injection he with e1 e2 e3
  obtain ⟨ad', hA, hc⟩ := h2 hn
  rw [← e1] at hA
  injection hA with hA
  subst hA
  exact hc j u hu
end SlN

namespace RowN
variable {w w' : World} {e sz n : Nat} {v : Value} {xs : List Value}
theorem keep (h : RowN w e sz v n xs) (hk : ∀ k ∈ rowBlk v, w'.heap[k]? = w.heap[k]?) : RowN w' e sz v n xs := by
  obtain ⟨hl, h⟩ := h
  refine ⟨hl, ?_⟩
  rcases h with h | ⟨g, cap, cur, rfl, h0, h1, h2, h3, h4, h5⟩
  · exact .inl h
  · exact .inr ⟨g, _, cur, rfl, h0, h1, h2, (hk g (mem_rowBlk_mk (a := ⟨g, 0, none⟩) h0)).trans h3, h4, h5⟩
theorem lt (h : RowN w e sz v n xs) : ∀ k ∈ rowBlk v, k < w.heap.size := by
  intro k hk
  rcases h.2 with ⟨A, rfl, rfl⟩ | ⟨g, cap, cur, rfl, h0, h1, h2, h3, h4, h5⟩
  · rw [rowBlk_zero] at hk; cases hk
  · rw [mem_rowBlk hk]; exact lt_of_block h3
theorem chg {S : Nat → Prop} (h : RowN w e sz v n xs) (hc : Chg S w w') (hS : ∀ k ∈ rowBlk v, ¬ S k) : RowN w' e sz v n xs := h.keep fun k hk => hc.block k (h.lt k hk) (hS k hk)
theorem none_ (h : RowN w e sz v n xs) (hc : Chg (fun _ => False) w w') : RowN w' e sz v n xs := h.chg hc fun _ _ hf => hf
theorem nil_ (w : World) (e sz : Nat) (A : Option Addr) : RowN w e sz (.slice A 0 0) 0 [] := ⟨by simp, .inl ⟨A, rfl, rfl⟩⟩
theorem sl (h : RowN w e sz v n xs) : SlN w sz v n xs := by
  obtain ⟨hl, h⟩ := h
  rcases h with ⟨A, rfl, rfl⟩ | ⟨g, cap, cur, rfl, h0, h1, h2, h3, h4, h5⟩
  · exact ⟨hl, A, 0, rfl, Nat.le_refl _, fun h => by omega⟩
  · refine ⟨hl, _, cap, rfl, h1, fun _ => ⟨_, rfl, fun j u hu => ?_⟩⟩
    rw [add_lit0, cell_of_blk h3, ← Array.getElem?_toList]
    rw [← h5, List.getElem?_take] at hu
    split at hu
    · exact hu
    · cases hu
theorem rd (h : RowN w e sz v n xs) : ∀ k ∈ rdBlkN v, k ∈ rowBlk v := by
  intro k hk
  rcases h.2 with ⟨A, rfl, rfl⟩ | ⟨g, cap, cur, rfl, h0, h1, h2, h3, h4, h5⟩
  · cases A <;> simp [rdBlkN] at hk
  · cases n with
    | zero => simp [rdBlkN] at hk
    | succ n =>
      simp [rdBlkN] at hk
      subst hk
      exact mem_rowBlk_mk (a := ⟨_, 0, none⟩) h0
theorem shape (h : RowN w e sz v n xs) : ∃ A c, v = .slice A n c ∧ n ≤ c ∧ c ≤ maxLen := by
  rcases h.2 with ⟨A, rfl, rfl⟩ | ⟨g, cap, cur, rfl, h0, h1, h2, h3, h4, h5⟩
  · exact ⟨A, 0, rfl, Nat.le_refl _, by unfold maxLen; omega⟩
  · exact ⟨_, cap, rfl, h1, h2⟩
end RowN

theorem run_append_rowN {P : Program} (w : World) (t ty e : TypeId) (i : TypeInfo) (z : Value) (sz bytes : Nat) (ht : P.underlying t = some (.slice e)) (hi : P.info? e = some i) (hz : i.zero = some z)
    (hsize : i.size = sz) (hby : i.bytes = bytes) (hzs : z.cells.size = sz) (hsz : 0 < sz)
    (v : Value) (n : Nat) (xs : List Value) (hown : RowN w e sz v n xs) (u : Value) (m : Nat) (news : List Value)
    (hnews : SlN w sz u m news) (h1 : ∀ u ∈ news, u.oneCell' = true)
    (hbytes : (n + m) * bytes ≤ 140737488355328) (h63 : n + m ≤ 140737488355328) :
    ∃ v' w', (Builtin.append_ #[t, t] ty #[v, u]).run P w = .ok v' w' ∧ RowN w' e sz v' (n + m) (xs ++ news) ∧ Chg (fun k => k ∈ rowBlk v) w w' ∧
      (∀ k ∈ rowBlk v', k ∈ rowBlk v ∨ w.heap.size ≤ k) := by
  have h63' : n + m ≤ maxLen := by unfold maxLen; omega
  subst hby
  subst hsize
  obtain ⟨hnl, A, c, rfl, hmc, hnews⟩ := hnews
  have hown0 := hown
  obtain ⟨hxl, hown⟩ := hown
  have hlen : (xs ++ news).length = (n + m) * i.size := by rw [List.length_append, hxl, hnl, Nat.add_mul]
  rcases Nat.eq_zero_or_pos m with hm | hm
  · subst hm
    have hnil : news = [] := List.eq_nil_of_length_eq_zero (by simpa using hnl)
    subst hnil
    refine ⟨v, w, ?_, by simpa using hown0, Chg.refl _ _, fun k hk => .inl hk⟩
    obtain ⟨A', c', rfl, hl, hm⟩ := hown0.shape
    cases A' <;> cases A <;>
      simp [Builtin.append_, run_underlying ht, sizeOf, typeInfo, hi, Builtin.lenOf, Builtin.firstCells, loadCells, loadCellsFrom, storeCells, hl]
  · obtain ⟨ad, rfl, hcell⟩ := hnews hm
    have grown : ∀ (old : Nat), old < n + m →
        RowN (w.drew.alloc (.cells (xs.toArray ++ news.toArray ++ Builtin.zeroCells z.cells (grownCap w (n + m) old e - (n + m))) e)) e i.size
          (.slice (some ⟨w.heap.size, 0, none⟩) (n + m) (grownCap w (n + m) old e)) (n + m) (xs ++ news) ∧
        Chg (fun k => k ∈ rowBlk v) w (w.drew.alloc (.cells (xs.toArray ++ news.toArray ++ Builtin.zeroCells z.cells (grownCap w (n + m) old e - (n + m))) e)) := by
      intro old ho
      have hge := grownCap_ge w (n + m) old e
      have hcm : grownCap w (n + m) old e ≤ maxLen := grownCap_le_maxLen w _ old e h63'
      refine ⟨⟨hlen, .inr ⟨w.heap.size, _, _, rfl, by omega, hge, hcm, heap_alloc_new w.drew _, ?_, ?_⟩⟩, ((Chg.refl _ w).drew).alloc _⟩
      · simp only [Array.size_append, List.size_toArray, size_zeroCells, hzs, hxl, hnl, ← Nat.add_mul]
        exact Nat.mul_le_mul_right _ (by omega)
      · simp only [Array.toList_append, List.append_assoc]
        rw [← List.append_assoc, ← hlen]
        exact List.take_left
    rcases hown with ⟨A', rfl, rfl⟩ | ⟨g, cap, cur, rfl, hc0, hlc, hcm, hg, hcs, htake⟩
    · have hx : xs = [] := List.eq_nil_of_length_eq_zero (by simpa using hxl)
      subst hx
      cases A' with
      | none =>
        have hr := run_append_nil (P := P) w t ty e i z ht hi hz ad m c news hnl hcell hm (by unfold maxLen at h63'; omega) (by simp at hbytes; omega)
        have hgr := grown 0 (by omega)
        simp only [Nat.zero_add, List.nil_append, Array.empty_append] at hgr ⊢
        exact ⟨_, _, hr, hgr.1, hgr.2, fun k hk => .inr (by rw [mem_rowBlk hk]; exact Nat.le_refl _)⟩
      | some b =>
        have hr := run_append_grow (P := P) w t ty e i z ht hi hz b 0 0 [] (by simp) (by simp) ad m c news hnl hcell (by omega) (by unfold maxLen at h63'; omega) (growslice_fits (by omega) hbytes)
        have hgr := grown 0 (by omega)
        simp only [Nat.zero_add, List.nil_append, Array.empty_append] at hgr hr ⊢
        exact ⟨_, _, hr, hgr.1, hgr.2, fun k hk => .inr (by rw [mem_rowBlk hk]; exact Nat.le_refl _)⟩
    · by_cases hroom : n + m ≤ cap
      · have hfit : n * i.size + news.length ≤ cur.size := by rw [hnl, ← Nat.add_mul]; exact Nat.le_trans (Nat.mul_le_mul_right _ hroom) hcs
        have hr := run_append_room (P := P) w t ty e i ht hi g n cap cur hg ad m c news hnl hcell h1 hroom hfit
        refine ⟨_, _, hr, ⟨hlen, .inr ⟨g, cap, _, rfl, hc0, hroom, hcm, setRow_heap w g cur _ e _ hg, ?_, ?_⟩⟩,
          ⟨rfl, rfl, rfl, by simp, fun k _ hk => setRow_other w g k _ (fun e => hk (by subst e; exact mem_rowBlk_mk (a := ⟨k, 0, none⟩) hc0))⟩, fun k hk => .inl (by rw [mem_rowBlk hk]; exact mem_rowBlk_mk (a := ⟨g, 0, none⟩) hc0)⟩
        · simp only [List.size_toArray, List.length_append, List.length_take, List.length_drop, Array.length_toList]
          omega
        · rw [htake, ← hlen]
          exact List.take_left
      · have holds : ∀ j u, xs[j]? = some u → w.cell? ((⟨g, 0, none⟩ : Addr).add j) = some u := fun j u hu => by
          have hn0 : 0 < n := by
            rcases Nat.eq_zero_or_pos n with h | h
            · subst h
              have : xs = [] := List.eq_nil_of_length_eq_zero (by simpa using hxl)
              subst this
              cases hu
            · exact h
          exact hown0.sl.elem hu hn0
        have hr := run_append_grow (P := P) w t ty e i z ht hi hz ⟨g, 0, none⟩ n cap xs hxl holds ad m c news hnl hcell (by omega) (by unfold maxLen at h63'; omega) (growslice_fits (by omega) hbytes)
        have hgr := grown cap (by omega)
        exact ⟨_, _, hr, hgr.1, hgr.2, fun k hk => .inr (by rw [mem_rowBlk hk]; exact Nat.le_refl _)⟩

section
variable {P : Program} (w : World) {ops : Array Oper} {o : Oper} {a : Act}

theorem wp_append_rowN {K : Act → World → Prop} {Q : Exit → Act → World → Prop} (s x : Operand) (t : TypeId)
    (ho : o.op = .call { callee := .builtin .append, args := #[s, x], argTypes := #[t, t] })
    (e : TypeId) (i : TypeInfo) (z : Value) (sz bytes : Nat) (ht : P.underlying t = some (.slice e)) (hi : P.info? e = some i) (hz : i.zero = some z)
    (hsize : i.size = sz) (hby : i.bytes = bytes) (hzs : z.cells.size = sz) (hsz : 0 < sz)
    (v : Value) (n : Nat) (xs : List Value) (hs : a.eval s = v) (hown : RowN w e sz v n xs) (u : Value) (m : Nat) (news : List Value) (hx : a.eval x = u)
    (hnews : SlN w sz u m news) (h1 : ∀ u ∈ news, u.oneCell' = true)
    (hbytes : (n + m) * bytes ≤ 140737488355328) (h63 : n + m ≤ 140737488355328)
    (h : ∀ v' w', RowN w' e sz v' (n + m) (xs ++ news) → Chg (fun k => k ∈ rowBlk v) w w' → (∀ k ∈ rowBlk v', k ∈ rowBlk v ∨ w.heap.size ≤ k) → K (a.put o.dst v') w') : o.wp P a w K Q := by
  obtain ⟨v', w', hr, h2, h3, h4⟩ := run_append_rowN (P := P) w t o.type e i z sz bytes ht hi hz hsize hby hzs hsz v n xs hown u m news hnews h1 hbytes h63
  unfold Oper.wp execOp
  simp only [ho, resolve, invoke, builtin, Sem.run_bind, Sem.run_pure, Result.andThen_ok, List.map_toArray, List.map_cons, List.map_nil, hs, hx, hr]
  exact h v' w' h2 h3 h4

theorem wpList_append_rowN {rest : List Oper} {Q : Exit → Act → World → Prop} (hgd : o.guard = none) (s x : Operand) (t : TypeId)
    (ho : o.op = .call { callee := .builtin .append, args := #[s, x], argTypes := #[t, t] })
    (e : TypeId) (i : TypeInfo) (z : Value) (sz bytes : Nat) (ht : P.underlying t = some (.slice e)) (hi : P.info? e = some i) (hz : i.zero = some z)
    (hsize : i.size = sz) (hby : i.bytes = bytes) (hzs : z.cells.size = sz) (hsz : 0 < sz)
    (v : Value) (n : Nat) (xs : List Value) (hs : a.eval s = v) (hown : RowN w e sz v n xs) (u : Value) (m : Nat) (news : List Value) (hx : a.eval x = u)
    (hnews : SlN w sz u m news) (h1 : ∀ u ∈ news, u.oneCell' = true)
    (hbytes : (n + m) * bytes ≤ 140737488355328) (h63 : n + m ≤ 140737488355328)
    (h : ∀ v' w', RowN w' e sz v' (n + m) (xs ++ news) → Chg (fun k => k ∈ rowBlk v) w w' → (∀ k ∈ rowBlk v', k ∈ rowBlk v ∨ w.heap.size ≤ k) → wpList P ops Q rest (a.put o.dst v') w') : wpList P ops Q (o :: rest) a w :=
  wpList_plain hgd fun _ hK => wp_append_rowN w s x t ho e i z sz bytes ht hi hz hsize hby hzs hsz v n xs hs hown u m news hx hnews h1 hbytes h63 fun v' w' h2 h3 h4 => hK _ _ (h v' w' h2 h3 h4)

theorem step_append_rowN {K : Act → World → Prop} {Q : Exit → Act → World → Prop} {E : Prop} (hgd : o.guard = none) (s x : Operand) (t : TypeId)
    (ho : o.op = .call { callee := .builtin .append, args := #[s, x], argTypes := #[t, t] })
    (e : TypeId) (i : TypeInfo) (z : Value) (sz bytes : Nat) (ht : P.underlying t = some (.slice e)) (hi : P.info? e = some i) (hz : i.zero = some z)
    (hsize : i.size = sz) (hby : i.bytes = bytes) (hzs : z.cells.size = sz) (hsz : 0 < sz)
    (v : Value) (n : Nat) (xs : List Value) (hs : a.eval s = v) (hown : RowN w e sz v n xs) (u : Value) (m : Nat) (news : List Value) (hx : a.eval x = u)
    (hnews : SlN w sz u m news) (h1 : ∀ u ∈ news, u.oneCell' = true)
    (hbytes : (n + m) * bytes ≤ 140737488355328) (h63 : n + m ≤ 140737488355328)
    (h : ∀ v' w', RowN w' e sz v' (n + m) (xs ++ news) → Chg (fun k => k ∈ rowBlk v) w w' → (∀ k ∈ rowBlk v', k ∈ rowBlk v ∨ w.heap.size ≤ k) → K (a.put o.dst v') w') :
    if Region.wanted o (yielded ops a.tmps) = true then Oper.wp P o a w K Q else E := by
  have hw : Region.wanted o (yielded ops a.tmps) = true := by simp [Region.wanted, hgd]
  rw [if_pos hw]
  exact wp_append_rowN w s x t ho e i z sz bytes ht hi hz hsize hby hzs hsz v n xs hs hown u m news hx hnews h1 hbytes h63 h
end

end Go.Proofs.Ytoflmhdgojenpaa
