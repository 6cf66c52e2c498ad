/- The files of the document's answer (shardlogref07): in memory; Find, Named, Used. -/
import Derived.Test.YtoflmhdgojenpaaNa
import Derived.Test.YtoflmhdgojenpaaDv
namespace Go.Proofs.Ytoflmhdgojenpaa
open Go.RowKit Go.Maps Go.WideMaps Go.WideElems

/-- A file of the answer's, with its slice. -/
structure RE where
  name : ByteArray
  v : Value
  bs : List Int
  sy : Nat
def RE.abs (x : RE) : FR := ⟨x.name, x.bs, x.sy⟩
def RE.cells (x : RE) : List Value := [.string x.name, x.v, .int .i64 x.sy]
def cellsR (l : List RE) : List Value := l.flatMap RE.cells
structure REok (w : World) (x : RE) : Prop where
  rd : SlR w x.v (u8s x.bs)
  sy : x.sy ≤ x.bs.length
  len : x.bs.length ≤ 65536
  name : x.name.size ≤ maxLen
structure Fs (w : World) (v : Value) (l : List RE) : Prop where
  sl : SlN w 3 v l.length (cellsR l)
  cap : ∃ A c, v = .slice A l.length c ∧ c ≤ maxLen
  few : l.length ≤ 1000
  all : ∀ x ∈ l, REok w x

theorem cellsR_length (l : List RE) : (cellsR l).length = l.length * 3 := by
  induction l with
  | nil => rfl
  | cons x r ih => simp only [cellsR, List.flatMap_cons, List.length_append, List.length_cons] at *; rw [ih]; simp [RE.cells]; omega
theorem cellsR_get {l : List RE} {k : Nat} {x : RE} (h : l[k]? = some x) {j : Nat} {u : Value} (hu : x.cells[j]? = some u) : (cellsR l)[k * 3 + j]? = some u := by
  induction l generalizing k with
  | nil => simp at h
  | cons y r ih =>
    simp only [cellsR, List.flatMap_cons] at *
    cases k with
    | zero =>
      simp at h
      subst h
      have : j < y.cells.length := (List.getElem?_eq_some_iff.1 hu).1
      rw [Nat.zero_mul, Nat.zero_add, List.getElem?_append_left this, hu]
    | succ k =>
      have h3 : y.cells.length = 3 := rfl
      rw [List.getElem?_append_right (by omega), show (k + 1) * 3 + j - y.cells.length = k * 3 + j by omega]
      exact ih (by simpa using h)
theorem REok.none_ {w w' : World} {x : RE} (h : REok w x) (hc : Chg (fun _ => False) w w') : REok w' x := ⟨h.rd.none_ hc, h.sy, h.len, h.name⟩
namespace Fs
variable {w w' : World} {v : Value} {l : List RE}
theorem none_ (h : Fs w v l) (hc : Chg (fun _ => False) w w') : Fs w' v l := ⟨h.sl.none_ (by omega) hc, h.cap, h.few, fun x hx => (h.all x hx).none_ hc⟩
theorem get {A : Option Addr} {c : Nat} (h : Fs w (.slice A l.length c) l) {k : Nat} (hk : k < l.length) : ∃ ad, A = some ad ∧ REok w l[k] ∧ ∀ (j : Nat) (u : Value), (l[k]).cells[j]? = some u → w.cell? ((ad.add (k * 3)).add j) = some u := by
  obtain ⟨hl, A', c', he, h1, h2⟩ := h.sl
  injection he with e1 e2 e3
  subst e1
  obtain ⟨ad, rfl, hc⟩ := h2 (by omega)
  refine ⟨ad, rfl, h.all _ (List.getElem_mem hk), fun j u hu => ?_⟩
  rw [add_add]
  exact hc _ _ (cellsR_get (List.getElem?_eq_getElem hk) hu)
end Fs

def RetIntI (w : World) (n : Int) (e : Ending) (w' : World) : Prop := e = .returned (.int .i64 n) ∧ Chg (fun _ => False) w w'

theorem str_ne {a b : ByteArray} (h : a ≠ b) : (a.toList == b.toList) = false := by
  rw [beq_eq_false_iff_ne, ByteArray.toList_eq, ByteArray.toList_eq]
  exact fun e => h (key_ext.1 e)

/-- A name's place among files; -1: none. -/
def placeR (n : ByteArray) : List RE → Int
  | [] => -1
  | x :: r => if x.name = n then 0 else if placeR n r < 0 then -1 else placeR n r + 1

theorem placeR_spec (n : ByteArray) : ∀ l : List RE, (placeR n l = -1 ∧ ∀ x ∈ l, x.name ≠ n) ∨ ∃ (k : Nat) (h : k < l.length), placeR n l = k ∧ (l[k]).name = n ∧ ∀ j (hj : j < k), (l[j]'(by omega)).name ≠ n
  | [] => .inl ⟨rfl, by simp⟩
  | x :: r => by
    by_cases hx : x.name = n
    · exact .inr ⟨0, by simp, by simp [placeR, hx], by simpa using hx, by simp⟩
    · rcases placeR_spec n r with ⟨h1, h2⟩ | ⟨k, hk, h1, h2, h3⟩
      · exact .inl ⟨by simp [placeR, hx, h1], by simpa [hx] using h2⟩
      · refine .inr ⟨k + 1, by simp; omega, ?_, by simpa using h2, fun j hj => ?_⟩
        · simp only [placeR, if_neg hx, h1]
          rw [if_neg (by omega)]
          simp
        · cases j with
          | zero => simpa using hx
          | succ j => simpa using h3 j (by omega)
theorem placeR_none {n : ByteArray} {l : List RE} (h : ∀ x ∈ l, x.name ≠ n) : placeR n l = -1 := by
  rcases placeR_spec n l with ⟨h1, _⟩ | ⟨k, hk, _, h2, _⟩
  · exact h1
  · exact absurd h2 (h _ (List.getElem_mem hk))
theorem placeR_some {n : ByteArray} {l : List RE} {k : Nat} (hk : k < l.length) (h2 : (l[k]).name = n) (h3 : ∀ j (hj : j < k), (l[j]'(by omega)).name ≠ n) : placeR n l = k := by
  rcases placeR_spec n l with ⟨_, h⟩ | ⟨j, hj, h4, h5, h6⟩
  · exact absurd h2 (h _ (List.getElem_mem hk))
  · rcases Nat.lt_trichotomy j k with h | h | h
    · exact absurd h5 (h3 j h)
    · rw [h4, h]
    · exact absurd h2 (h6 k h)

set_option maxRecDepth 100000 in
set_option maxHeartbeats 4000000 in
theorem find_calls (v : Value) (l : List RE) (n : ByteArray) (w : World) (h : Fs w v l) : Calls Try.prog 24 #[v, .string n] w (RetIntI w (placeR n l)) := by
  have HA := Lib.hid h
  obtain ⟨A, c, rfl, h1⟩ := h.cap
  have h2 := h.few
  clear h
  go_enter Try.func24, Try.ntmps24
  go_wp2
  go_loopw [5] (fun iv wr => ∃ (k : Nat), iv = .int .i64 k ∧ k ≤ l.length ∧ (∀ j (hj : j < k) (hl : j < l.length), (l[j]).name ≠ n) ∧ Chg (fun _ => False) w wr)
    (fun iv _ => l.length - (intOf iv).toNat)
  case atStart => exact ⟨0, rfl, Nat.zero_le _, by simp, Chg.refl _ _⟩
  case round =>
    obtain ⟨k, rfl, hk, hall, hc⟩ := hrel
    have HALL := Lib.hid hall
    have HC := Lib.hid hc
    clear hall hc
    by_cases hlt : k < l.length
    · obtain ⟨ad, rfl, hx, hcell⟩ := (HA.out.none_ HC.out).get hlt
      have HXE := Lib.hid (rfl : l[k] = l[k])
      have q0 := hcell 0 (.string (l[k]).name) rfl
      rw [show (ad.add (k * 3)).add 0 = ad.add (k * 3) from rfl] at q0
      have hk0 : (k : Int) < (l.length : Int) := by omega
      clear hcell hx
      by_cases hn : (l[k]).name = n
      · rw [hn] at q0
        have HP := Lib.hid (placeR_some hlt hn fun j hj => HALL.out j hj (by omega))
        clear hn HXE
        go_wp2
        go_ret
        exact ⟨by rw [HP.out]; rfl, HC.out⟩
      · have HALL2 : Hid (∀ j (hj : j < k + 1) (hl : j < l.length), (l[j]).name ≠ n) := Lib.hid (by
          intro j hj hl
          rcases Nat.lt_or_ge j k with h | h
          · exact HALL.out j h hl
          · have : j = k := by omega
            subst this
            exact hn)
        generalize (l[k]).name = m at *
        have hne := str_ne hn
        clear HXE
        go_wp2
        go_roundw
        case rel => exact ⟨k + 1, by go_num, hlt, HALL2.out, HC.out⟩
        case measure => simp [intOf]; omega
    · have hk0 : ¬ (k : Int) < (l.length : Int) := by omega
      have HP := Lib.hid (placeR_none (n := n) (l := l) fun x hx => by
        obtain ⟨j, hj, rfl⟩ := List.getElem_of_mem hx
        exact HALL.out j (by omega) hj)
      go_wp2
      go_ret
      exact ⟨by rw [HP.out]; rfl, HC.out⟩

set_option maxRecDepth 100000 in
theorem named07_calls (n : ByteArray) (w : World) (hn : n.size ≤ maxLen) : Calls Try.prog 50 #[.string n] w (RetBool w (namedB n)) := by
  have hn' : n.size ≤ 9223372036854775807 := by unfold maxLen at hn; omega
  by_cases h1 : 0 < n.size
  · by_cases h2 : n.size ≤ 24
    · have H : namedB n = true := by simp [namedB]; omega
      rw [H]
      clear H
      go_enter Try.func50, Try.ntmps50
      go_wp2
      go_ret
      exact ⟨by simp; omega, Chg.refl _ _⟩
    · have H : namedB n = false := by simp [namedB]; omega
      rw [H]
      clear H
      go_enter Try.func50, Try.ntmps50
      go_wp2
      go_ret
      exact ⟨by simp; omega, Chg.refl _ _⟩
  · have H : namedB n = false := by simp [namedB]; omega
    rw [H]
    clear H
    go_enter Try.func50, Try.ntmps50
    go_wp2
    go_ret
    exact ⟨by simp; try omega, Chg.refl _ _⟩

def usedR (l : List RE) : Nat := usedL (l.map RE.abs)

set_option maxRecDepth 100000 in
set_option maxHeartbeats 4000000 in
theorem used07_calls (v : Value) (l : List RE) (w : World) (h : Fs w v l) (hu : usedR l ≤ 1000000000) : Calls Try.prog 51 #[v] w (fun e w' => e = .returned (.int .i64 (usedR l)) ∧ w' = w) := by
  have HA := Lib.hid h
  obtain ⟨A, c, rfl, h1⟩ := h.cap
  have h2 := h.few
  clear h
  go_enter Try.func51, Try.ntmps51
  go_wp2
  go_loopw [3, 4] (fun nv iv wr => ∃ (k : Nat), nv = .int .i64 (usedR (l.take k)) ∧ iv = .int .i64 k ∧ k ≤ l.length ∧ w = wr)
    (fun _ iv _ => l.length - (intOf iv).toNat)
  case atStart => exact ⟨0, by simp [usedR, usedL], rfl, Nat.zero_le _, rfl⟩
  case round =>
    obtain ⟨k, rfl, rfl, hk, rfl⟩ := hrel
    by_cases hlt : k < l.length
    · obtain ⟨ad, rfl, hx, hcell⟩ := HA.out.get hlt
      have hs : usedR (l.take (k + 1)) = usedR (l.take k) + (l[k]).bs.length := by
        rw [List.take_succ_eq_append_getElem hlt]
        simp only [usedR, usedL, List.map_append, List.sum_append, List.map_cons, List.map_nil, List.sum_cons, List.sum_nil, Nat.add_zero]
        rfl
      have hle : usedR (l.take (k + 1)) ≤ usedR l := by
        conv => rhs; rw [← List.take_append_drop (k + 1) l]
        simp only [usedR, usedL, List.map_append, List.sum_append]
        omega
      have q1 := hcell 1 (l[k]).v rfl
      rw [add_pos _ (by omega)] at q1
      obtain ⟨Ab, cb, hbv, -, -⟩ := hx.rd
      rw [hbv, u8s_length] at q1
      have hk0 : (k : Int) < (l.length : Int) := by omega
      clear hcell hx hbv
      generalize (l[k]).bs.length = m at *
      generalize hU : usedR (l.take k) = U at *
      have HS := Lib.hid hs
      have HU := Lib.hid hU
      have hw1 : IntKind.i64.wrap ((U : Int) + (m : Int)) = (U : Int) + (m : Int) := IntWalk.i64_in _ (by omega)
      clear hs hU hle
      go_wp2
      go_roundw
      case rel => exact ⟨k + 1, by rw [HS.out]; go_num, by go_num, hlt, by first | rfl | trivial⟩
      case measure => simp [intOf]; omega
    · have hk0 : ¬ (k : Int) < (l.length : Int) := by omega
      have hkl : k = l.length := by omega
      have HP := Lib.hid (show usedR (l.take k) = usedR l by rw [hkl, List.take_length])
      clear hkl
      go_wp2
      go_ret
      exact ⟨by rw [HP.out]; rfl, rfl⟩

end Go.Proofs.Ytoflmhdgojenpaa
