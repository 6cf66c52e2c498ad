/- Acts, as the laws of package disk take them; shardlogref07.Few. -/
import Derived.Test.YtoflmhdgojenpaaDr
namespace Go.Proofs.Ytoflmhdgojenpaa
open Go.RowKit Go.Maps Go.WideMaps Go.WideElems

/-- An act, with the two slices' values. -/
structure ActE where
  d : Int
  name : ByteArray
  other : ByteArray
  bv : Value
  b : List Int
  i : Int
  kv : Value
  keep : List Int
def ActE.cells (x : ActE) : List Value := [.int .i64 x.d, .string x.name, .string x.other, x.bv, .int .i64 x.i, x.kv]

def I64 (n : Int) : Prop := -9223372036854775808 ≤ n ∧ n ≤ 9223372036854775807
structure ActAt (w : World) (x : ActE) : Prop where
  b : SlR w x.bv (u8s x.b)
  keep : SlR w x.kv (i64s x.keep)
  kcap : ∃ A c, x.kv = .slice A x.keep.length c ∧ c ≤ 9223372036854775807
  klen : x.keep.length ≤ 140737488355328
  bcap : x.b.length ≤ 140737488355328
  rng : ∀ k ∈ x.keep, I64 k
  name : x.name.size ≤ maxLen
  other : x.other.size ≤ maxLen
  i : I64 x.i
structure ActsAt (w : World) (v : Value) (l : List ActE) : Prop where
  sl : ∃ A c, v = .slice A l.length c ∧ l.length ≤ c ∧ c ≤ 9223372036854775807 ∧ (0 < l.length → ∃ ad, A = some ad ∧ ∀ (i : Nat) (x : ActE), l[i]? = some x → ∀ (j : Nat) (u : Value), x.cells[j]? = some u → w.cell? ((ad.add (i * 6)).add j) = some u)
  all : ∀ x ∈ l, ActAt w x

theorem SlR.none_ {w w' : World} {v : Value} {xs : List Value} (h : SlR w v xs) (hc : Chg (fun _ => False) w w') : SlR w' v xs := h.chg hc (fun _ _ hf => hf)
theorem ActAt.none_ {w w' : World} {x : ActE} (h : ActAt w x) (hc : Chg (fun _ => False) w w') : ActAt w' x := ⟨h.b.none_ hc, h.keep.none_ hc, h.kcap, h.klen, h.bcap, h.rng, h.name, h.other, h.i⟩
theorem ActsAt.none_ {w w' : World} {v : Value} {l : List ActE} (h : ActsAt w v l) (hc : Chg (fun _ => False) w w') : ActsAt w' v l := by
  obtain ⟨⟨A, c, hv, h1, h2, h3⟩, h4⟩ := h
  refine ⟨⟨A, c, hv, h1, h2, fun h => ?_⟩, fun x hx => (h4 x hx).none_ hc⟩
  obtain ⟨ad, hA, hcell⟩ := h3 h
  exact ⟨ad, hA, fun i x hx j u hu => hc.cellF (hcell i x hx j u hu)⟩

theorem add_pos (a : Addr) {j : Nat} (hj : 0 < j) : a.add j = ⟨a.block, a.off + j, none⟩ := by
  unfold Addr.add
  rw [if_neg (by omega)]

/-- Acts that are few, and small. -/
structure FewP (l : List ActE) : Prop where
  len : l.length ≤ 100
  b : ∀ x ∈ l, x.b.length ≤ 5000 ∧ x.keep.length ≤ 5000
  name : ∀ x ∈ l, x.name.size ≤ 100 ∧ x.other.size ≤ 100
def RetFew (w : World) (l : List ActE) (e : Ending) (w' : World) : Prop := ∃ b, e = .returned (.bool b) ∧ (b = true → FewP l) ∧ Chg (fun _ => False) w w'

set_option maxRecDepth 100000 in
set_option maxHeartbeats 4000000 in
theorem few_calls (v : Value) (l : List ActE) (w : World) (h : ActsAt w v l) : Calls Try.prog 19 #[v] w (RetFew w l) := by
  have HA := Lib.hid h
  obtain ⟨⟨A, c, rfl, h1, h2, -⟩, -⟩ := h
  go_enter Try.func19, Try.ntmps19
  go_wp2
  go_loopw [3, 4] (fun nv iv wr => ∃ (k n : Nat), iv = .int .i64 k ∧ nv = .int .i64 n ∧ k ≤ l.length ∧ n ≤ 5000 ∧ k ≤ 200 ∧ (∀ x ∈ l.take k, x.b.length ≤ 5000 ∧ x.keep.length ≤ 5000 ∧ x.name.size ≤ 100 ∧ x.other.size ≤ 100) ∧ Chg (fun _ => False) w wr)
    (fun _ iv _ => l.length - (intOf iv).toNat)
  case atStart => exact ⟨0, 0, rfl, rfl, Nat.zero_le _, Nat.zero_le _, Nat.zero_le _, by simp, Chg.refl _ _⟩
  case round =>
    obtain ⟨k, n, rfl, rfl, hk, hn, hk2, hall, hc⟩ := hrel
    have HALL := Lib.hid hall
    have HC := Lib.hid hc
    clear hall hc
    by_cases hlt : k < l.length
    · by_cases h200 : k < 200
      · have HA2 := Lib.hid (HA.out.none_ HC.out)
        obtain ⟨⟨A', c', he, -, -, hcell⟩, hx⟩ := HA2.out
        injection he with e1 e2 e3
        subst e1
        obtain ⟨ad, rfl, hcell2⟩ := hcell (by omega)
        have hxl : l[k]? = some l[k] := List.getElem?_eq_getElem hlt
        have hmem : l[k] ∈ l := List.getElem_mem hlt
        generalize hxd : l[k] = x at *
        have HXD := Lib.hid hxd
        have hc3 := hcell2 k x hxl 3 x.bv rfl
        have hc5 := hcell2 k x hxl 5 x.kv rfl
        have hc1 := hcell2 k x hxl 1 (.string x.name) rfl
        have hc2 := hcell2 k x hxl 2 (.string x.other) rfl
        rw [add_pos _ (by omega)] at hc1 hc2 hc3 hc5
        have HX := Lib.hid (hx x hmem)
        obtain ⟨Ab, cb, hbv, -, -⟩ := HX.out.b
        obtain ⟨Ak, ck, hkv, -, -⟩ := HX.out.keep
        rw [hbv, u8s_length] at hc3
        rw [hkv, i64s_length] at hc5
        have hk0 : (k : Int) < (l.length : Int) := by omega
        have hk1 : (k : Int) < 200 := by omega
        clear hcell2 hcell hx hmem hxl hxd hbv hkv e2 e3
        have hbc := HX.out.bcap
        have hkc := HX.out.klen
        have hw1 : IntKind.i64.wrap ((n : Int) + (x.b.length : Int)) = (n : Int) + (x.b.length : Int) := IntWalk.i64_in _ (by omega)
        have hw2 : IntKind.i64.wrap ((n : Int) + (x.b.length : Int) + (x.keep.length : Int)) = (n : Int) + (x.b.length : Int) + (x.keep.length : Int) := IntWalk.i64_in _ (by omega)
        by_cases hs : n + x.b.length + x.keep.length ≤ 5000
        · have hs' : ¬ (5000 : Int) < (n : Int) + (x.b.length : Int) + (x.keep.length : Int) := by omega
          by_cases hn1 : x.name.size ≤ 100
          · by_cases hn2 : x.other.size ≤ 100
            · have HALL2 : Hid (∀ y ∈ l.take (k + 1), y.b.length ≤ 5000 ∧ y.keep.length ≤ 5000 ∧ y.name.size ≤ 100 ∧ y.other.size ≤ 100) := Lib.hid (by
                rw [List.take_succ_eq_append_getElem hlt, HXD.out]
                intro y hy
                rcases List.mem_append.1 hy with hy | hy
                · exact HALL.out y hy
                · rw [List.mem_singleton.1 hy]
                  exact ⟨by omega, by omega, hn1, hn2⟩)
              go_wp2
              go_quiet (fail)
              go_wp2
              go_roundw
              case rel => exact ⟨k + 1, n + x.b.length + x.keep.length, by go_num, by go_num, hlt, hs, by omega, HALL2.out, HC.out.drewN nq⟩
              case measure => simp [intOf]; omega
            · go_wp2
              go_quiet (fail)
              go_wp2
              go_ret
              exact ⟨false, rfl, by simp, HC.out.drewN nq⟩
          · go_wp2
            go_quiet (fail)
            go_wp2
            go_ret
            exact ⟨false, rfl, by simp, HC.out.drewN nq⟩
        · have hs' : (5000 : Int) < (n : Int) + (x.b.length : Int) + (x.keep.length : Int) := by omega
          go_wp2
          go_quiet (fail)
          go_wp2
          go_ret
          exact ⟨false, rfl, by simp, HC.out.drewN nq⟩
      · have hk0 : (k : Int) < (l.length : Int) := by omega
        have hk1 : ¬ (k : Int) < 200 := by omega
        have hbig : ¬ (l.length : Int) ≤ 100 := by omega
        go_wp2
        go_ret
        exact ⟨false, by simp, by simp, HC.out⟩
    · have hk0 : ¬ (k : Int) < (l.length : Int) := by omega
      have H : RetFew w l (.returned (.bool (decide ((l.length : Int) ≤ 100)))) wr := by
        refine ⟨_, rfl, fun hb => ?_, HC.out⟩
        have hkl : k = l.length := by omega
        have hall := HALL.out
        rw [hkl, List.take_length] at hall
        have hb' := of_decide_eq_true hb
        exact ⟨by omega, fun x hx => ⟨(hall x hx).1, (hall x hx).2.1⟩, fun x hx => (hall x hx).2.2⟩
      have HH := Lib.hid H
      clear H
      go_wp2
      go_ret
      exact HH.out

end Go.Proofs.Ytoflmhdgojenpaa
