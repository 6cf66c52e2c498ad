/- What the answer's files are, as a disk's user sees them: no walk. -/
import Derived.Test.YtoflmhdgojenpaaNc
namespace Go.Proofs.Ytoflmhdgojenpaa
open Go.RowKit Go.Maps Go.WideMaps Go.WideElems

theorem before_asymm {a b : ByteArray} (h : before a b = true) : before b a = false := by
  cases hb : before b a with
  | false => rfl
  | true =>
    have := WideShapes.bytes_trans _ _ _ h hb
    rw [WideAt.bytes_irrefl] at this
    cases this
theorem before_total {a b : ByteArray} (h : a ≠ b) (hb : before a b = false) : before b a = true := by
  rcases WideAt.bytes_total a.data.toList b.data.toList (fun e => h (key_ext.1 e)) with h1 | h1
  · have : before a b = true := h1
    rw [this] at hb; cases hb
  · exact h1
theorem before_ne {a b : ByteArray} (h : before a b = true) : a ≠ b := by
  intro e
  subst e
  have : bytesBefore a.data.toList a.data.toList = true := h
  rw [WideAt.bytes_irrefl] at this
  cases this

def SortR (l : List RE) : Prop := l.Pairwise fun x y => before x.name y.name = true
theorem SortR.of_map {l : List RE} (h : (l.map RE.abs).Pairwise fun x y => before x.name y.name = true) : SortR l := List.pairwise_map.1 h
theorem SortR.to_map {l : List RE} (h : SortR l) : (l.map RE.abs).Pairwise fun x y => before x.name y.name = true := List.pairwise_map.2 h

/-- One more, of a new name. -/
theorem putR_new {x : RE} : ∀ {l : List RE}, (∀ y ∈ l, y.name ≠ x.name) → (putR x l).map RE.abs = insL x.abs (l.map RE.abs)
  | [], _ => rfl
  | y :: r, h => by
    have hy := h y (by simp)
    by_cases hb : before y.name x.name = true
    · have hb' : ¬ before x.abs.name y.abs.name = true := by
        rw [show before x.abs.name y.abs.name = before x.name y.name from rfl, before_asymm hb]; simp
      rw [putR, if_pos hb, List.map_cons, putR_new (fun z hz => h z (by simp [hz])), List.map_cons, insL, if_neg hb']
    · have hb' : before x.abs.name y.abs.name = true := before_total hy (Bool.eq_false_iff.2 hb)
      rw [putR, if_neg hb, List.map_cons, List.map_cons, insL, if_pos hb']

theorem cut_at {l : List RE} (hs : SortR l) {k : Nat} (hk : k < l.length) :
    (∀ y ∈ l.take k, before y.name (l[k]).name = true) ∧ (∀ y ∈ l.drop (k + 1), before (l[k]).name y.name = true) := by
  have h : l = l.take k ++ l[k] :: l.drop (k + 1) := by rw [List.getElem_cons_drop, List.take_append_drop]
  unfold SortR at hs
  rw [h] at hs
  obtain ⟨-, h2, h3⟩ := List.pairwise_append.1 hs
  exact ⟨fun y hy => h3 y hy _ (List.mem_cons_self ..), (List.pairwise_cons.1 h2).1⟩

theorem putR_mid {x : RE} {B : List RE} (hB : ∀ y ∈ B, before x.name y.name = true) : ∀ {A : List RE}, (∀ y ∈ A, before y.name x.name = true) → putR x (A ++ B) = A ++ x :: B
  | [], _ => by
    cases B with
    | nil => rfl
    | cons b r =>
      have := before_asymm (hB b (by simp))
      simp [putR, this]
  | a :: r, h => by
    rw [List.cons_append, putR, if_pos (h a (by simp)), putR_mid hB (fun y hy => h y (by simp [hy]))]
    rfl

theorem setL_mid {x f : FR} {A B : List FR} (hA : ∀ y ∈ A, y.name ≠ x.name) (hB : ∀ y ∈ B, y.name ≠ x.name) (hf : f.name = x.name) : setL x (A ++ f :: B) = A ++ x :: B := by
  have e : ∀ C : List FR, (∀ y ∈ C, y.name ≠ x.name) → C.map (fun e => if e.name = x.name then x else e) = C := fun C hC => by
    conv => rhs; rw [← List.map_id C]
    exact List.map_congr_left fun z hz => if_neg (hC z hz)
  unfold setL
  rw [List.map_append, List.map_cons, e A hA, e B hB, if_pos hf]
theorem delL_mid {n : ByteArray} {f : FR} {A B : List FR} (hA : ∀ y ∈ A, y.name ≠ n) (hB : ∀ y ∈ B, y.name ≠ n) (hf : f.name = n) : delL n (A ++ f :: B) = A ++ B := by
  have e : ∀ C : List FR, (∀ y ∈ C, y.name ≠ n) → C.filter (fun e => !decide (e.name = n)) = C := fun C hC => List.filter_eq_self.2 fun z hz => by simp [hC z hz]
  unfold delL
  rw [List.filter_append, List.filter_cons, e A hA, e B hB]
  simp [hf]
theorem split_map {l : List RE} {k : Nat} (hk : k < l.length) : l.map RE.abs = (l.take k).map RE.abs ++ (l[k]).abs :: (l.drop (k + 1)).map RE.abs := by
  rw [← List.map_cons, ← List.map_append, List.getElem_cons_drop, List.take_append_drop]

/-- The file at k, in another state. -/
theorem putR_set {l : List RE} (hs : SortR l) {k : Nat} (hk : k < l.length) {x : RE} (hx : x.name = (l[k]).name) :
    (putR x (l.take k ++ l.drop (k + 1))).map RE.abs = setL x.abs (l.map RE.abs) := by
  obtain ⟨h1, h2⟩ := cut_at hs hk
  rw [putR_mid (fun y hy => by rw [hx]; exact h2 y hy) (fun y hy => by rw [hx]; exact h1 y hy), split_map hk]
  rw [setL_mid]
  · simp
  · intro y hy
    obtain ⟨z, hz, rfl⟩ := List.mem_map.1 hy
    exact fun e => before_ne (h1 z hz) ((show z.name = x.name from e).trans hx)
  · intro y hy
    obtain ⟨z, hz, rfl⟩ := List.mem_map.1 hy
    exact fun e => before_ne (h2 z hz) ((show z.name = x.name from e).trans hx).symm
  · exact hx.symm
/-- .. away. -/
theorem without_del {l : List RE} (hs : SortR l) {k : Nat} (hk : k < l.length) : (l.take k ++ l.drop (k + 1)).map RE.abs = delL (l[k]).name (l.map RE.abs) := by
  obtain ⟨h1, h2⟩ := cut_at hs hk
  rw [split_map hk, delL_mid]
  · simp
  · intro y hy
    obtain ⟨z, hz, rfl⟩ := List.mem_map.1 hy
    exact before_ne (h1 z hz)
  · intro y hy
    obtain ⟨z, hz, rfl⟩ := List.mem_map.1 hy
    exact fun e => before_ne (h2 z hz) e.symm
  · rfl
theorem SortR.without {l : List RE} (hs : SortR l) {k : Nat} (hk : k < l.length) : SortR (l.take k ++ l.drop (k + 1)) := by
  refine List.Pairwise.sublist ?_ hs
  conv => rhs; rw [← List.take_append_drop k l]
  refine List.Sublist.append (List.Sublist.refl _) ?_
  rw [← List.getElem_cons_drop (h := hk)]
  exact List.sublist_cons_self _ _
theorem look_place {l : List RE} {n : ByteArray} {k : Nat} (hk : k < l.length) (h1 : (l[k]).name = n) (h2 : ∀ j (hj : j < k), (l[j]'(by omega)).name ≠ n) : lookL n (l.map RE.abs) = some (l[k]).abs := by
  unfold lookL
  rw [split_map hk, List.find?_append, List.find?_eq_none.2, Option.none_or, List.find?_cons_of_pos]
  · exact decide_eq_true (show (l[k]).name = n from h1)
  · intro y hy
    obtain ⟨z, hz, rfl⟩ := List.mem_map.1 hy
    obtain ⟨j, hj, rfl⟩ := List.getElem_of_mem hz
    rw [List.length_take] at hj
    have := h2 j (by omega)
    rw [List.getElem_take]
    exact fun e => this (of_decide_eq_true e)
theorem look_none {l : List RE} {n : ByteArray} (h : ∀ x ∈ l, x.name ≠ n) : lookL n (l.map RE.abs) = none := by
  unfold lookL
  rw [List.find?_eq_none]
  intro y hy
  obtain ⟨z, hz, rfl⟩ := List.mem_map.1 hy
  exact fun e => h z hz (of_decide_eq_true e)

end Go.Proofs.Ytoflmhdgojenpaa
