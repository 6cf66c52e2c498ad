/- Words for a disk in memory: what changes between two worlds, rows of cells with spare room, a map of pointers, the files. No program yet. -/
import Derived.WalkKit
import Derived.WalkSpells
import Derived.WalkLawsBesides
import Derived.Maps.OwnSet
import Derived.Maps.RangeWalk
import Derived.Maps.Ext
import Derived.Deep.Draws
namespace Go.Proofs.Ytoflmhdgojenpaa
open Go.RowKit Go.Maps

/-- From w to w' only the blocks of S, and new ones, have changed. -/
structure Chg (S : Nat → Prop) (w w' : World) : Prop where
  os : w'.os = w.os
  tape : w'.tape = w.tape
  output : w'.output = w.output
  size : w.heap.size ≤ w'.heap.size
  block : ∀ k, k < w.heap.size → ¬ S k → w'.heap[k]? = w.heap[k]?

namespace Chg
variable {S S' : Nat → Prop} {w w1 w2 : World}
theorem refl (S : Nat → Prop) (w : World) : Chg S w w := ⟨rfl, rfl, rfl, Nat.le_refl _, fun _ _ _ => rfl⟩
theorem mono (h : Chg S w w1) (hS : ∀ k, k < w.heap.size → S k → S' k) : Chg S' w w1 := ⟨h.os, h.tape, h.output, h.size, fun k hk hn => h.block k hk (fun hs => hn (hS k hk hs))⟩
theorem trans (h : Chg S w w1) (h' : Chg S' w1 w2) (hS : ∀ k, k < w.heap.size → S' k → S k) : Chg S w w2 :=
  ⟨h'.os.trans h.os, h'.tape.trans h.tape, h'.output.trans h.output, Nat.le_trans h.size h'.size,
    fun k hk hn => (h'.block k (Nat.lt_of_lt_of_le hk h.size) (fun hs => hn (hS k hk hs))).trans (h.block k hk hn)⟩
theorem drew (h : Chg S w w1) : Chg S w w1.drew := ⟨h.os, h.tape, h.output, h.size, h.block⟩
theorem drewN (h : Chg S w w1) (n : Nat) : Chg S w (w1.drewN n) := ⟨h.os, h.tape, h.output, h.size, h.block⟩
theorem alloc (h : Chg S w w1) (o : Obj) : Chg S w (w1.alloc o) :=
  ⟨h.os, h.tape, h.output, Nat.le_trans h.size (by simp), fun k hk hn => (Below.heap_alloc w1 o k (Nat.lt_of_lt_of_le hk h.size)).trans (h.block k hk hn)⟩
theorem set (h : Chg S w w1) {p : Addr} (hp : p.block < w.heap.size → S p.block) (u : Value) : Chg S w (w1.setCell p u) :=
  ⟨h.os, h.tape, h.output, by simpa using h.size, fun k hk hn => (Below.heap_setCell w1 p u k (fun e => hn (by subst e; exact hp hk))).trans (h.block k hk hn)⟩
theorem of_grown {row : Option Nat} (h : w.grownBy w1 row) : Chg (fun k => row = some k) w w1 := ⟨h.os, h.tape, h.output, h.size, fun k hk hn => h.block k hk (fun e => hn e.symm)⟩
theorem grown (h : Chg S w w1) {row : Option Nat} (hg : w1.grownBy w2 row) (hr : ∀ k, k < w.heap.size → row = some k → S k) : Chg S w w2 := h.trans (of_grown hg) hr
theorem of_below (h : Below w.heap.size w w1) : Chg S w w1 := ⟨h.os, h.tape, h.output, h.size, fun k hk _ => h.block k hk⟩
theorem below (h : Chg S w w1) {B : Nat} (hS : ∀ k, k < w.heap.size → S k → B ≤ k) (hB : B ≤ w.heap.size) : Below B w w1 :=
  ⟨h.os, h.tape, h.output, h.size, fun k hk => h.block k (Nat.lt_of_lt_of_le hk hB) (fun hs => by have := hS k (Nat.lt_of_lt_of_le hk hB) hs; omega)⟩
theorem from_drew (h : Chg S w.drew w1) : Chg S w w1 := ⟨h.os, h.tape, h.output, h.size, h.block⟩
theorem from_drewN {n : Nat} (h : Chg S (w.drewN n) w1) : Chg S w w1 := ⟨h.os, h.tape, h.output, h.size, h.block⟩
theorem lt_of (h : Chg S w w1) {k : Nat} (hk : k < w.heap.size) : k < w1.heap.size := Nat.lt_of_lt_of_le hk h.size
theorem cell (h : Chg S w w1) {p : Addr} {v : Value} (hc : w.cell? p = some v) (hS : ¬ S p.block) : w1.cell? p = some v :=
  (World.cell?_of_block (h.block p.block (World.block_lt_of_cell? w p hc) hS)).trans hc
theorem cellF (h : Chg (fun _ => False) w w1) {p : Addr} {v : Value} (hc : w.cell? p = some v) : w1.cell? p = some v := h.cell hc (fun hf => hf)
end Chg

theorem lt_of_block {w : World} {k : Nat} {o : Obj} (h : w.heap[k]? = some o) : k < w.heap.size := (Array.getElem?_eq_some_iff.1 h).1
theorem cell_of_blk {w : World} {g t : Nat} {cs : Array Value} (h : w.heap[g]? = some (.cells cs t (0, 0))) (i : Nat) : w.cell? ⟨g, i, none⟩ = cs[i]? := cell_of_row w g i cs t (0, 0) h
theorem frozen_of_blk {w : World} {g t : Nat} {cs : Array Value} (h : w.heap[g]? = some (.cells cs t (0, 0))) (i : Nat) : w.frozen? ⟨g, i, none⟩ = false := by
  simp [World.frozen?, h]
theorem set_blk {w : World} {g t : Nat} {cs : Array Value} (h : w.heap[g]? = some (.cells cs t (0, 0))) (i : Nat) (u : Value) :
    (w.setCell ⟨g, i, none⟩ u).heap[g]? = some (.cells (cs.setIfInBounds i u) t (0, 0)) := by
  simp only [World.setCell]
  rw [Array.getElem?_modify]
  simp [h]

/-- The block that a slice's cells lie in, where it has room for any. -/
def rowBlk : Value → List Nat
  | .slice (some a) _ (_ + 1) => [a.block]
  | _ => []

theorem mem_rowBlk {a : Addr} {n c k : Nat} (h : k ∈ rowBlk (.slice (some a) n c)) : k = a.block := by
  cases c <;> simp [rowBlk] at h
  exact h
theorem mem_rowBlk_mk {a : Addr} {n c : Nat} (h : 0 < c) : a.block ∈ rowBlk (.slice (some a) n c) := by
  obtain ⟨c, rfl⟩ : ∃ d, c = d + 1 := ⟨c - 1, by omega⟩
  simp [rowBlk]
theorem rowBlk_zero (A : Option Addr) (n : Nat) : rowBlk (.slice A n 0) = [] := by cases A <;> rfl
theorem rowBlk_nil (n c : Nat) : rowBlk (.slice none n c) = [] := rfl

/-- A row of one-cell elements of type e, with room behind it, that nobody else has. -/
def Row1 (w : World) (e : TypeId) (v : Value) (xs : List Value) : Prop :=
  (∃ A, v = .slice A 0 0 ∧ xs = []) ∨
  ∃ g cap cur, v = .slice (some ⟨g, 0, none⟩) xs.length cap ∧ 0 < cap ∧ xs.length ≤ cap ∧ cap ≤ maxLen ∧ w.heap[g]? = some (.cells cur e (0, 0)) ∧ cap ≤ cur.size ∧ cur.toList.take xs.length = xs

namespace Row1
variable {w w' : World} {e : TypeId} {v : Value} {xs : List Value}
theorem keep (h : Row1 w e v xs) (hk : ∀ k ∈ rowBlk v, w'.heap[k]? = w.heap[k]?) : Row1 w' e v xs := by
  rcases h with h | ⟨g, cap, cur, rfl, h0, h1, h2, h3, h4, h5⟩
  · exact .inl h
  · obtain ⟨c, rfl⟩ : ∃ c, cap = c + 1 := ⟨cap - 1, by omega⟩
    exact .inr ⟨g, _, cur, rfl, h0, h1, h2, (hk g (by simp [rowBlk])).trans h3, h4, h5⟩
theorem lt (h : Row1 w e v xs) : ∀ k ∈ rowBlk v, k < w.heap.size := by
  intro k hk
  rcases h with ⟨A, rfl, rfl⟩ | ⟨g, cap, cur, rfl, h0, h1, h2, h3, h4, h5⟩
  · cases A <;> simp [rowBlk] at hk
  · obtain ⟨c, rfl⟩ : ∃ c, cap = c + 1 := ⟨cap - 1, by omega⟩
    simp [rowBlk] at hk
    subst hk
    exact lt_of_block h3
theorem none_ (w : World) (e : TypeId) (A : Option Addr) : Row1 w e (.slice A 0 0) [] := .inl ⟨A, rfl, rfl⟩
theorem shape (h : Row1 w e v xs) : ∃ A c, v = .slice A xs.length c ∧ xs.length ≤ c ∧ c ≤ maxLen ∧ (0 < xs.length → ∃ g, A = some ⟨g, 0, none⟩ ∧ ∀ j u, xs[j]? = some u → w.cell? ⟨g, j, none⟩ = some u) := by
  rcases h with ⟨A, rfl, rfl⟩ | ⟨g, cap, cur, rfl, h0, h1, h2, h3, h4, h5⟩
  · exact ⟨A, 0, rfl, Nat.le_refl _, by unfold maxLen; omega, fun h => by simp at h⟩
  · refine ⟨_, cap, rfl, h1, h2, fun _ => ⟨g, rfl, fun j u hu => ?_⟩⟩
    rw [cell_of_blk h3, ← Array.getElem?_toList]
    rw [← h5] at hu
    rw [List.getElem?_take] at hu
    split at hu
    · exact hu
    · cases hu
theorem cell (h : Row1 w e v xs) {g n c : Nat} (hv : v = .slice (some ⟨g, 0, none⟩) n c) {j : Nat} {u : Value} (hu : xs[j]? = some u) : w.cell? ⟨g, j, none⟩ = some u := by
  obtain ⟨A, c', rfl, _, _, hc⟩ := h.shape
  have hj := (List.getElem?_eq_some_iff.1 hu).1
  obtain ⟨g', e', hcc⟩ := hc (by omega)
  rw [e'] at hv
  injection hv with h1 h2 h3
  injection h1 with h1
  injection h1 with h1
  subst h1
  exact hcc j u hu
end Row1

/-- What append leaves of such a row, the new elements behind it. -/
theorem run_append_row1 {P : Program} (w : World) (t ty e : TypeId) (i : TypeInfo) (z : Value) (bytes : Nat) (ht : P.underlying t = some (.slice e)) (hi : P.info? e = some i) (hz : i.zero = some z)
    (hsize : i.size = 1) (hby : i.bytes = bytes) (hzs : z.cells.size = 1)
    (v : Value) (xs : List Value) (hown : Row1 w e v xs) (A : Option Addr) (c : Nat) (news : List Value)
    (hnews : 0 < news.length → ∃ ad, A = some ad ∧ ∀ j u, news[j]? = some u → w.cell? (ad.add j) = some u) (h1 : ∀ u ∈ news, u.oneCell' = true)
    (hbytes : (xs.length + news.length) * bytes ≤ 140737488355328) (h63 : xs.length + news.length ≤ 140737488355328) :
    ∃ v' w', (Builtin.append_ #[t, t] ty #[v, .slice A news.length c]).run P w = .ok v' w' ∧ Row1 w' e v' (xs ++ news) ∧ Chg (fun k => k ∈ rowBlk v) w w' ∧
      (∀ k ∈ rowBlk v', k ∈ rowBlk v ∨ w.heap.size ≤ k) := by
  have h63' : xs.length + news.length ≤ maxLen := by unfold maxLen; omega
  subst hby
  rcases Nat.eq_zero_or_pos news.length with hn | hn
  · have hnil : news = [] := List.eq_nil_of_length_eq_zero hn
    subst hnil
    refine ⟨v, w, ?_, by simpa using hown, Chg.refl _ _, fun k hk => .inl hk⟩
    obtain ⟨A', c', rfl, hl, hm, _⟩ := hown.shape
    cases A' <;> cases A <;>
      simp [Builtin.append_, run_underlying ht, sizeOf, typeInfo, hi, Builtin.lenOf, Builtin.firstCells, loadCells, loadCellsFrom, storeCells, hl]
  · obtain ⟨ad, rfl, hcell⟩ := hnews hn
    have grown : ∀ (old : Nat), old < xs.length + news.length →
        Row1 (w.drew.alloc (.cells (xs.toArray ++ news.toArray ++ Builtin.zeroCells z.cells (grownCap w (xs.length + news.length) old e - (xs.length + news.length))) e)) e
          (.slice (some ⟨w.heap.size, 0, none⟩) (xs.length + news.length) (grownCap w (xs.length + news.length) old e)) (xs ++ news) ∧
        Chg (fun k => k ∈ rowBlk v) w (w.drew.alloc (.cells (xs.toArray ++ news.toArray ++ Builtin.zeroCells z.cells (grownCap w (xs.length + news.length) old e - (xs.length + news.length))) e)) := by
      intro old ho
      have hge := grownCap_ge w (xs.length + news.length) old e
      have hcm : grownCap w (xs.length + news.length) old e ≤ maxLen := grownCap_le_maxLen w _ old e h63'
      refine ⟨.inr ⟨w.heap.size, _, _, by rw [List.length_append], by omega, by rw [List.length_append]; exact hge, hcm, heap_alloc_new w.drew _, ?_, ?_⟩, ((Chg.refl _ w).drew).alloc _⟩
      · simp only [Array.size_append, List.size_toArray, size_zeroCells, hzs]
        omega
      · simp only [Array.toList_append, List.append_assoc]
        rw [← List.append_assoc]
        exact List.take_left
    rcases hown with ⟨A', rfl, rfl⟩ | ⟨g, cap, cur, rfl, hc0, hlc, hcm, hg, hcs, htake⟩
    · cases A' with
      | none =>
        have hr := run_append_nil (P := P) w t ty e i z ht hi hz ad news.length c news (by rw [hsize]; simp) hcell hn (by unfold maxLen at h63'; simp at h63'; omega) (by simp at hbytes; omega)
        have hgr := grown 0 (by omega)
        simp only [Nat.zero_add, List.nil_append, Array.empty_append, List.length_nil] at hgr ⊢
        exact ⟨_, _, hr, hgr.1, hgr.2, fun k hk => .inr (by rw [mem_rowBlk hk]; exact Nat.le_refl _)⟩
      | some b =>
        have hr := run_append_grow (P := P) w t ty e i z ht hi hz b 0 0 [] (by simp) (by simp) ad news.length c news (by rw [hsize]; simp) hcell (by omega) (by unfold maxLen at h63'; simp at h63' ⊢; omega) (growslice_fits (by omega) (by simpa using hbytes))
        have hgr := grown 0 (by omega)
        simp only [Nat.zero_add, List.nil_append, Array.empty_append, List.length_nil] at hgr hr ⊢
        exact ⟨_, _, hr, hgr.1, hgr.2, fun k hk => .inr (by rw [mem_rowBlk hk]; exact Nat.le_refl _)⟩
    · by_cases hroom : xs.length + news.length ≤ cap
      · have hr := run_append_room (P := P) w t ty e i ht hi g xs.length cap cur hg ad news.length c news (by rw [hsize]; simp) hcell h1 hroom (by rw [hsize]; omega)
        rw [hsize, Nat.mul_one] at hr
        refine ⟨_, _, hr, .inr ⟨g, cap, _, by rw [List.length_append], hc0, by rw [List.length_append]; exact hroom, hcm, setRow_heap w g cur _ e _ hg, ?_, ?_⟩,
          ⟨rfl, rfl, rfl, by simp, fun k _ hk => setRow_other w g k _ (fun e => hk (by subst e; obtain ⟨c, rfl⟩ : ∃ c, cap = c + 1 := ⟨cap - 1, by omega⟩; simp [rowBlk]))⟩, fun k hk => .inl ?_⟩
        · simp only [List.size_toArray, List.length_append, List.length_take, List.length_drop, Array.length_toList]
          omega
        · rw [htake, List.append_assoc, ← List.append_assoc]
          exact List.take_left
        · obtain ⟨c, rfl⟩ : ∃ c, cap = c + 1 := ⟨cap - 1, by omega⟩
          simpa [rowBlk] using hk
      · have holds : ∀ j u, xs[j]? = some u → w.cell? ((⟨g, 0, none⟩ : Addr).add j) = some u := fun j u hu => by
          have := (Row1.shape (.inr ⟨g, cap, cur, rfl, hc0, hlc, hcm, hg, hcs, htake⟩ : Row1 w e _ xs))
          obtain ⟨A, c, he, _, _, h⟩ := this
          injection he with e1 e2 e3
          have hj := (List.getElem?_eq_some_iff.1 hu).1
          obtain ⟨g', e4, h⟩ := h (by omega)
          rw [e4] at e1
          injection e1 with e1
          injection e1 with e1
          subst e1
          rw [show ((⟨g, 0, none⟩ : Addr).add j) = ⟨g, j, none⟩ from by unfold Addr.add; split <;> simp_all]
          exact h j u hu
        have hr := run_append_grow (P := P) w t ty e i z ht hi hz ⟨g, 0, none⟩ xs.length cap xs (by rw [hsize]; simp) holds ad news.length c news (by rw [hsize]; simp) hcell (by omega) (by unfold maxLen at h63'; simp at h63' ⊢; omega) (growslice_fits (by omega) hbytes)
        have hgr := grown cap (by omega)
        exact ⟨_, _, hr, hgr.1, hgr.2, fun k hk => .inr (by rw [mem_rowBlk hk]; exact Nat.le_refl _)⟩

end Go.Proofs.Ytoflmhdgojenpaa
