/- What (*Disk).Turn and Trim do. -/
import Derived.Test.YtoflmhdgojenpaaDg
import Derived.BigQuiet
import Derived.Deep.QuietTactic
namespace Go.Proofs.Ytoflmhdgojenpaa
open Go.RowKit Go.Maps Go.WideMaps Go.WideElems

theorem Row1.set {w : World} {e : TypeId} {v : Value} {xs : List Value} (h : Row1 w e v xs) {g n c : Nat} (hv : v = .slice (some ⟨g, 0, none⟩) n c) {j : Nat} (hj : j < xs.length) (u : Value) :
    Row1 (w.setCell ⟨g, j, none⟩ u) e v (xs.set j u) := by
  rcases h with ⟨A, rfl, rfl⟩ | ⟨g', cap, cur, rfl, h0, h1, h2, h3, h4, h5⟩
  · simp at hj
  · injection hv with e1 e2 e3
    injection e1 with e1
    injection e1 with e1
    subst e1
    refine .inr ⟨g', cap, cur.setIfInBounds j u, by rw [List.length_set], h0, by rw [List.length_set]; exact h1, h2, set_blk h3 j u, by simpa using h4, ?_⟩
    rw [List.length_set, Array.toList_setIfInBounds, List.take_set, h5]

theorem Row1.at {w : World} {e : TypeId} {v : Value} {xs : List Value} (h : Row1 w e v xs) (hj : 0 < xs.length) : ∃ g c, v = .slice (some ⟨g, 0, none⟩) xs.length c ∧ xs.length ≤ c ∧ c ≤ maxLen ∧ g ∈ rowBlk v ∧ ∃ cur, w.heap[g]? = some (.cells cur e (0, 0)) ∧ cur.toList.take xs.length = xs := by
  rcases h with ⟨A, rfl, rfl⟩ | ⟨g', cap, cur, rfl, h0, h1, h2, h3, h4, h5⟩
  · simp at hj
  · exact ⟨g', cap, rfl, h1, h2, mem_rowBlk_mk (a := ⟨g', 0, none⟩) h0, cur, h3, h5⟩

/-- The byte x turned by another one. -/
def turnB (x y : Int) : Int := bits BinOp.xor IntKind.u8 x y
def turnL (n : ByteArray) (i y : Int) (L : List FR) : List FR × Int :=
  match lookL n L with
  | none => (L, 5)
  | some f => if i < 0 ∨ (f.bs.length : Int) ≤ i then (L, 1) else (setL { f with bs := f.bs.set i.toNat (turnB (f.bs.getD i.toNat 0) y) } L, 0)

set_option maxRecDepth 100000 in
set_option maxHeartbeats 400000 in
theorem turn_calls {w : World} {a most bm : Nat} {E : List FE} (hD : DiskAt w a most E bm) (n : ByteArray) (hn : n.size ≤ maxLen) (i y : Int) :
    Calls Try.prog 55 #[dptr a, .string n, .int .i64 i, .int .u8 y] w (Mut w a most bm E (turnL n i y (E.map FE.abs)).1 (codeV (turnL n i y (E.map FE.abs)).2)) := by
  have hl := look_run hD.map hn
  have h0 := hD.cell0
  unfold dptr
  unfold turnL
  rw [← abs_look]
  cases hlk : lookE n E with
  | none =>
    rw [ptrOf_none hlk] at hl
    have H : Mut w a most bm E (E.map FE.abs) (.int .i64 5) (.returned (.int .i64 5)) w := Mut.same hD _
    clear hlk hD
    show Calls _ _ _ _ (Mut w a most bm E (E.map FE.abs) (.int .i64 5))
    go_enter Try.func55, Try.ntmps55
    go_wp2
    go_ret
    exact H
  | some e =>
    rw [ptrOf_some hlk] at hl
    have hm := (lookE_mem hlk).1
    have hF := hD.files e hm
    have hnd := hD.blks_nodup hm
    have h1 := hF.cell0
    obtain ⟨A, c, hsl, hc, hcm, -⟩ := hF.row.shape
    rw [u8s_length] at hc
    unfold maxLen at hcm
    simp only [Option.map_some]
    by_cases hi : i < 0 ∨ (e.bs.length : Int) ≤ i
    · rw [if_pos (show i < 0 ∨ (e.abs.bs.length : Int) ≤ i from hi)]
      have H : Mut w a most bm E (E.map FE.abs) (.int .i64 1) (.returned (.int .i64 1)) w := Mut.same hD _
      rw [hsl, u8s_length] at h1
      clear hlk hD hF hsl hnd hm
      show Calls _ _ _ _ (Mut w a most bm E (E.map FE.abs) (.int .i64 1))
      by_cases hi0 : i < 0
      · clear hi
        go_enter Try.func55, Try.ntmps55
        go_wp2
        go_ret
        exact H
      · have hi1 : (e.bs.length : Int) ≤ i := by omega
        clear hi
        go_enter Try.func55, Try.ntmps55
        go_wp2
        go_ret
        exact H
    · rw [if_neg (show ¬ (i < 0 ∨ (e.abs.bs.length : Int) ≤ i) from hi)]
      obtain ⟨j, rfl⟩ : ∃ j : Nat, i = j := ⟨i.toNat, by omega⟩
      have hj : j < e.bs.length := by omega
      obtain ⟨g, c', hsl', hc', hcm', hg, cur, hcur, htake⟩ := hF.row.at (by rw [u8s_length]; omega)
      have hx : w.cell? ⟨g, j, none⟩ = some (.int .u8 (e.bs.getD j 0)) := hF.row.cell hsl' (by
        rw [u8s, List.getElem?_map, List.getElem?_eq_getElem hj]
        simp [List.getD, hj])
      have hf := frozen_of_blk hcur j
      have H : Mut w a most bm E (setL { e.abs with bs := e.bs.set j (turnB (e.bs.getD j 0) y) } (E.map FE.abs)) (.int .i64 0) (.returned (.int .i64 0)) (w.setCell ⟨g, j, none⟩ (.int .u8 (turnB (e.bs.getD j 0) y))) := by
        refine Mut.upd (x := { e with bs := e.bs.set j (turnB (e.bs.getD j 0) y) }) hD hlk rfl rfl ⟨?_, ?_, ?_, hF.key⟩ (fun k hk => .inl hk) ((Chg.refl _ w).set (fun _ => by simp [blks, hg]) _) ?_ _
        · exact (Below.heap_setCell w _ _ _ (Ne.symm (blks_ne hnd g hg))).trans hF.blk
        · have := hF.row.set hsl' (j := j) (by rw [u8s_length]; exact hj) (.int .u8 (turnB (e.bs.getD j 0) y))
          simpa [u8s, List.map_set] using this
        · show e.sy ≤ (e.bs.set j _).length
          rw [List.length_set]; exact hF.sy
        · have := hD.room
          have := len_le_used hm
          show used E - e.bs.length + (e.bs.set j _).length ≤ most
          rw [List.length_set]
          omega
      rw [hsl', u8s_length] at h1
      rw [u8s_length] at hc'
      unfold maxLen at hcm'
      clear hlk hD hF hsl hnd hm hi hcur htake hsl' hg
      show Calls _ _ _ _ (Mut w a most bm E (setL { e.abs with bs := e.bs.set j (turnB (e.bs.getD j 0) y) } (E.map FE.abs)) (.int .i64 0))
      generalize (setL { e.abs with bs := e.bs.set j (turnB (e.bs.getD j 0) y) } (E.map FE.abs)) = L' at *
      generalize e.bs.getD j 0 = x at *
      unfold turnB at H
      have H2 := Lib.hid H
      clear H
      go_enter Try.func55, Try.ntmps55
      go_wp2
      go_ret
      exact H2.out

end Go.Proofs.Ytoflmhdgojenpaa
