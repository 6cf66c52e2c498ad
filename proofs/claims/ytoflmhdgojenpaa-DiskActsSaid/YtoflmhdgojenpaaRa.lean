/- From an argument as it is read to what the walks ask: slices of numbers, slices of acts. -/
import Derived.Test.YtoflmhdgojenpaaRows
import Derived.Test.YtoflmhdgojenpaaDs
import Derived.ProofKit
import Derived.SizedLaws
import Derived.Deep.Slices
import Derived.ChangeSlices
import Derived.ChangeArms
import Derived.ChangeShapes
import Derived.OpenShut
namespace Go.Proofs.Ytoflmhdgojenpaa
open Go.ChangeShapes Go.WideShapes Go.ChangeAt Go.RowKit Go.Deep

section
variable {H : Type} {enc : TypeId × Value → H} {w : World} {base : Nat} {held : Bool}

theorem weightsAll_mem {P : Program} {e : TypeId} : ∀ {l : List (DataW H)} {d : DataW H}, d ∈ l → ∀ n ∈ d.weights P e, n ∈ DataW.weightsAll P e l
  | x :: r, d, hd, n, hn => by
    unfold DataW.weightsAll
    rcases List.mem_cons.1 hd with rfl | hd
    · exact List.mem_append.2 (.inl hn)
    · exact List.mem_append.2 (.inr (weightsAll_mem hd n hn))
theorem weights_elem {P : Program} {t e : TypeId} (ht : P.underlying t = some (.slice e)) {elems spare : List (DataW H)} {d : DataW H} (hd : d ∈ elems) : ∀ n ∈ d.weights P e, n ∈ (DataW.slice elems spare).weights P t := by
  intro n hn
  unfold DataW.weights
  rw [ht]
  exact List.mem_cons_of_mem _ (List.mem_append.2 (.inl (weightsAll_mem hd n hn)))
theorem weights_self {P : Program} {t e : TypeId} (ht : P.underlying t = some (.slice e)) (elems spare : List (DataW H)) : (elems.length + spare.length) * P.bytesOf e ∈ (DataW.slice elems spare).weights P t := by
  unfold DataW.weights
  rw [ht]
  exact List.mem_cons_self

/-- A slice of numbers that came in. -/
structure IntsIn (w : World) (k : IntKind) (B : Nat) (v : Value) (zs : List Int) : Prop where
  rd : SlR w v (zs.map (.int k))
  sl : ∃ A c, v = .slice A zs.length c ∧ c ≤ 9223372036854775807
  small : zs.length * B ≤ 140737488351232
  wf : ∀ n ∈ zs, (Lit.int k n).wf = true

theorem ints_in {P : Program} {t e : TypeId} {k : IntKind} {B fuel : Nat} {v : Value} {x : DataW H × List MemPlace} (ht : P.underlying t = some (.slice e)) (he : P.underlying e = some (.int k)) (hc : P.cellsOf e = 1) (hB : P.bytesOf e = B)
    (h : DataW.trod enc P w base (fun _ => true) held fuel t [v] = some x) (hw : ∀ n ∈ x.1.weights P t, n ≤ 140737488351232) : ∃ zs, IntsIn w k B v zs := by
  rcases open_ints ht he hc h with ⟨hcs, hx⟩ | ⟨a, len, cap, zs, hcs, _, hl, hm, hz, hx, hcell, hwf⟩
  · simp at hcs
    subst hcs
    exact ⟨[], ⟨none, 0, rfl, Nat.le_refl _, fun h => by simp at h⟩, ⟨none, 0, rfl, by omega⟩, by simp, by simp⟩
  · simp at hcs
    subst hcs
    simp at hz
    have hlen : (zs.take len).length = len := by rw [List.length_take]; omega
    unfold maxLen at hm
    refine ⟨zs.take len, ⟨some a, cap, by rw [List.length_map, hlen], by rw [List.length_map, hlen]; exact hl, fun _ => ⟨a, rfl, fun j u hu => ?_⟩⟩, ⟨some a, cap, by rw [hlen], by omega⟩, ?_, fun n hn => hwf n (List.mem_of_mem_take hn)⟩
    · have hj := (List.getElem?_eq_some_iff.1 hu).1
      rw [List.length_map, hlen] at hj
      rw [hcell j (by omega)]
      rw [List.getElem?_map, List.getElem?_take_of_lt hj, List.getElem?_eq_getElem (by omega)] at hu
      simp at hu
      rw [← hu]
      simp [List.getD, show j < zs.length by omega]
    · subst hx
      have := hw _ (weights_self ht _ _)
      rw [hB] at this
      have h1 : (lits (H := H) k (zs.take len)).length = len := by simp [lits]; omega
      rw [h1] at this
      rw [hlen]
      exact Nat.le_trans (Nat.mul_le_mul_right _ (Nat.le_add_right _ _)) this

theorem cells_get {w : World} {a : Addr} {n : Nat} {cs : List Value} (h : w.cells? base a n = some cs) : cs.length = n ∧ ∀ j u, cs[j]? = some u → w.cell? (a.add j) = some u := by
  obtain ⟨_, h1, h2⟩ := World.cells?_some h
  refine ⟨h1, fun j u hu => ?_⟩
  have hj := (List.getElem?_eq_some_iff.1 hu).1
  rw [h2 j (by omega)]
  exact hu

theorem six {α : Type} {l : List α} (h : l.length = 6) : ∃ c0 c1 c2 c3 c4 c5, l = [c0, c1, c2, c3, c4, c5] := by
  match l, h with
  | [c0, c1, c2, c3, c4, c5], _ => exact ⟨c0, c1, c2, c3, c4, c5, rfl⟩

set_option maxRecDepth 100000 in
theorem act_in {fuel : Nat} {cs : List Value} {x : DataW H × List MemPlace} (h : DataW.trod enc Try.prog w base (fun _ => true) held fuel 38 cs = some x)
    (hw : ∀ n ∈ x.1.weights Try.prog 38, n ≤ 140737488351232) : ∃ y : ActE, cs = y.cells ∧ ActAt w y := by
  have hu := Try.underlying38
  obtain ⟨xs, n, rfl, rfl, hl, hxs, hf⟩ := DataW.trod_struct hu h
  have hl6 : cs.length = 6 := hl.trans (by kernel_rfl)
  obtain ⟨c0, c1, c2, c3, c4, c5, rfl⟩ := six hl6
  have hx6 : xs.length = 6 := hxs
  obtain ⟨x0, x1, x2, x3, x4, x5, rfl⟩ := six hx6
  have e3 : Try.prog.cellsOf 3 = 1 := by kernel_rfl
  have e9 : Try.prog.cellsOf 9 = 1 := by kernel_rfl
  have e22 : Try.prog.cellsOf 22 = 1 := by kernel_rfl
  have e36 : Try.prog.cellsOf 36 = 1 := by kernel_rfl
  have f0 : DataW.trod enc Try.prog w base (fun _ => true) held n 3 (([c0, c1, c2, c3, c4, c5].drop 0).take (Try.prog.cellsOf 3)) = some x0 := hf 0 _ rfl
  rw [e3] at f0
  replace f0 : DataW.trod enc Try.prog w base (fun _ => true) held n 3 [c0] = some x0 := f0
  have f1 : DataW.trod enc Try.prog w base (fun _ => true) held n 9 (([c0, c1, c2, c3, c4, c5].drop 1).take (Try.prog.cellsOf 9)) = some x1 := hf 1 _ rfl
  rw [e9] at f1
  replace f1 : DataW.trod enc Try.prog w base (fun _ => true) held n 9 [c1] = some x1 := f1
  have f2 : DataW.trod enc Try.prog w base (fun _ => true) held n 9 (([c0, c1, c2, c3, c4, c5].drop 2).take (Try.prog.cellsOf 9)) = some x2 := hf 2 _ rfl
  rw [e9] at f2
  replace f2 : DataW.trod enc Try.prog w base (fun _ => true) held n 9 [c2] = some x2 := f2
  have f3 : DataW.trod enc Try.prog w base (fun _ => true) held n 22 (([c0, c1, c2, c3, c4, c5].drop 3).take (Try.prog.cellsOf 22)) = some x3 := hf 3 _ rfl
  rw [e22] at f3
  replace f3 : DataW.trod enc Try.prog w base (fun _ => true) held n 22 [c3] = some x3 := f3
  have f4 : DataW.trod enc Try.prog w base (fun _ => true) held n 3 (([c0, c1, c2, c3, c4, c5].drop 4).take (Try.prog.cellsOf 3)) = some x4 := hf 4 _ rfl
  rw [e3] at f4
  replace f4 : DataW.trod enc Try.prog w base (fun _ => true) held n 3 [c4] = some x4 := f4
  have f5 : DataW.trod enc Try.prog w base (fun _ => true) held n 36 (([c0, c1, c2, c3, c4, c5].drop 5).take (Try.prog.cellsOf 36)) = some x5 := hf 5 _ rfl
  rw [e36] at f5
  replace f5 : DataW.trod enc Try.prog w base (fun _ => true) held n 36 [c5] = some x5 := f5
  obtain ⟨n0, h0, _, w0⟩ := DataW.trod_int Try.underlying3 f0
  obtain ⟨s1, h1, _, w1⟩ := DataW.trod_string Try.underlying9 f1
  obtain ⟨s2, h2, _, w2⟩ := DataW.trod_string Try.underlying9 f2
  obtain ⟨n4, h4, _, w4⟩ := DataW.trod_int Try.underlying3 f4
  have hwt : ∀ (j : Nat) (t : TypeId) (d : DataW H), [3, 9, 9, 22, 3, 36][j]? = some t → [x0.1, x1.1, x2.1, x3.1, x4.1, x5.1][j]? = some d → ∀ m ∈ d.weights Try.prog t, m ≤ 140737488351232 := by
    intro j t d ht hd m hm
    refine hw m ?_
    unfold DataW.weights
    rw [hu]
    exact DataW.weights_mem_each (ts := [3, 9, 9, 22, 3, 36]) (ds := [x0.1, x1.1, x2.1, x3.1, x4.1, x5.1]) ht hd m hm
  obtain ⟨zs, hz⟩ := ints_in (B := 1) Try.underlying22 Try.underlying5 (by kernel_rfl) (by kernel_rfl) f3 (hwt 3 _ _ rfl rfl)
  obtain ⟨ks, hk⟩ := ints_in (B := 8) Try.underlying36 Try.underlying3 (by kernel_rfl) (by kernel_rfl) f5 (hwt 5 _ _ rfl rfl)
  simp at h0 h1 h2 h4
  subst h0; subst h1; subst h2; subst h4
  have wi : ∀ n : Int, (Lit.int .i64 n).wf = true → I64 n := fun n h => by
    have := bounds_i64 h
    unfold I64
    omega
  refine ⟨⟨n0, s1, s2, c3, zs, n4, c5, ks⟩, rfl, ⟨hz.rd, hk.rd, ?_, by have := hk.small; show ks.length ≤ _; omega, ?_, fun n hn => wi n (hk.wf n hn), w1, w2, wi n4 w4⟩⟩
  · obtain ⟨A, c, hv, hc⟩ := hk.sl
    exact ⟨A, c, hv, hc⟩
  · have := hz.small
    show zs.length ≤ _
    omega

theorem acts_in {fuel : Nat} {v : Value} {x : DataW H × List MemPlace} (h : DataW.trod enc Try.prog w base (fun _ => true) held fuel 33 [v] = some x)
    (hw : ∀ n ∈ x.1.weights Try.prog 33, n ≤ 140737488351232) : ∃ l : List ActE, ActsAt w v l := by
  rcases open_slice Try.underlying33 h with ⟨hcs, hx⟩ | ⟨a, len, cap, m, n, D, Pl, hcs, _, hl, hm, hmm, hx, hel⟩
  · simp at hcs
    subst hcs
    exact ⟨[], ⟨none, 0, rfl, Nat.le_refl _, by omega, fun h => by simp at h⟩, by simp⟩
  · simp at hcs
    subst hcs
    simp at hmm
    subst hx
    have e6 : Try.prog.cellsOf 38 = 6 := by kernel_rfl
    have hall : ∀ i, i < len → ∃ y : ActE, ActAt w y ∧ ∀ (j : Nat) (u : Value), y.cells[j]? = some u → w.cell? ((a.add (i * 6)).add j) = some u := by
      intro i hi
      obtain ⟨cs, hc, ht⟩ := hel i (by omega)
      rw [e6] at hc
      obtain ⟨y, rfl, hy⟩ := act_in ht (fun k hk => hw k (weights_elem Try.underlying33 (List.mem_map.2 ⟨i, by simpa using hi, rfl⟩) k hk))
      exact ⟨y, hy, (cells_get hc).2⟩
    unfold maxLen at hm
    let f : Nat → ActE := fun i => if h : i < len then (hall i h).choose else ⟨0, ByteArray.empty, ByteArray.empty, undef, [], 0, undef, []⟩
    have hf : ∀ i, i < len → ActAt w (f i) ∧ ∀ (j : Nat) (u : Value), (f i).cells[j]? = some u → w.cell? ((a.add (i * 6)).add j) = some u := fun i hi => by
      have := (hall i hi).choose_spec
      simp only [f, hi, dite_true]
      exact this
    refine ⟨(List.range len).map f, ⟨some a, cap, by simp, by simpa using hl, by omega, fun _ => ⟨a, rfl, fun i y hy => ?_⟩⟩, fun y hy => ?_⟩
    · have hi := (List.getElem?_eq_some_iff.1 hy).1
      simp at hi
      rw [List.getElem?_map, List.getElem?_range hi] at hy
      simp at hy
      subst hy
      exact (hf i hi).2
    · obtain ⟨i, hi, rfl⟩ := List.mem_map.1 hy
      exact (hf i (by simpa using hi)).1
end

end Go.Proofs.Ytoflmhdgojenpaa
