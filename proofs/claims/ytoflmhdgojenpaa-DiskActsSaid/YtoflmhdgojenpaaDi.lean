/- What (*Disk).Trim does. -/
import Derived.Test.YtoflmhdgojenpaaDh
import Derived.BigRegion
namespace Go.Proofs.Ytoflmhdgojenpaa
open Go.RowKit Go.Maps Go.WideMaps Go.WideElems

theorem max2_i' (k k' : IntKind) (x y : Int) : Builtin.max2 (.int k x) (.int k' y) = pure (.int k (if x < y then y else x)) := max2_i k k' x y
attribute [local go_sem] max2_i min2_i max_2 min_2

def trimL (n : ByteArray) (i : Int) (L : List FR) : List FR × Int :=
  match lookL n L with
  | none => (L, 5)
  | some f => if i < 0 ∨ (f.bs.length : Int) < i then (L, 1) else (setL { f with bs := f.bs.take i.toNat, sy := min f.sy i.toNat } L, 0)

theorem row_take {w : World} {e : TypeId} {A : Option Addr} {n c : Nat} {xs : List Value} (h : Row1 w e (.slice A n c) xs) {k : Nat} (hk : k ≤ xs.length) : Row1 w e (.slice A k k) (xs.take k) := by
  by_cases h0 : k = 0
  · subst h0; simp only [List.take_zero]; exact Row1.none_ _ _ _
  · rcases h with ⟨A', he, rfl⟩ | ⟨g', cap, cur, he, h0, h1, h2, h3, h4, h5⟩
    · simp at hk; omega
    · injection he with e1 e2 e3
      subst e1
      refine .inr ⟨g', k, cur, by rw [List.length_take, Nat.min_eq_left hk], by omega, by rw [List.length_take]; omega, by omega, h3, by omega, ?_⟩
      rw [List.length_take, Nat.min_eq_left hk, ← h5, List.take_take, Nat.min_eq_left hk]

theorem rowBlk_cut {A : Option Addr} {n c k m : Nat} (h : m ≤ c) : ∀ x ∈ rowBlk (.slice A k m), x ∈ rowBlk (.slice A n c) := by
  intro x hx
  cases A with
  | none => simp [rowBlk] at hx
  | some a => cases m with
    | zero => simp [rowBlk] at hx
    | succ m =>
      simp [rowBlk] at hx
      subst hx
      exact mem_rowBlk_mk (by omega)

set_option maxRecDepth 100000 in
set_option maxHeartbeats 1000000 in
theorem trim_calls {w : World} {a most bm : Nat} {E : List FE} (hD : DiskAt w a most E bm) (n : ByteArray) (hn : n.size ≤ maxLen) (i : Int) :
    Calls Try.prog 56 #[dptr a, .string n, .int .i64 i] w (Mut w a most bm E (trimL n i (E.map FE.abs)).1 (codeV (trimL n i (E.map FE.abs)).2)) := by
  have hl := look_run hD.map hn
  have h0 := hD.cell0
  unfold dptr
  unfold trimL
  rw [← abs_look]
  cases hlk : lookE n E with
  | none =>
    rw [ptrOf_none hlk] at hl
    have H : Mut w a most bm E (E.map FE.abs) (.int .i64 5) (.returned (.int .i64 5)) w := Mut.same hD _
    clear hlk hD
    show Calls _ _ _ _ (Mut w a most bm E (E.map FE.abs) (.int .i64 5))
    go_enter Try.func56, Try.ntmps56
    go_wp2
    go_ret
    exact H
  | some e =>
    rw [ptrOf_some hlk] at hl
    have hm := (lookE_mem hlk).1
    have hF := hD.files e hm
    have hnd := hD.blks_nodup hm
    have h1 := hF.cell0
    have h2 := hF.cell1
    have f1 := frozen_of_blk hF.blk 0
    have f2 := frozen_of_blk hF.blk 1
    obtain ⟨A, c, hsl, hc, hcm, -⟩ := hF.row.shape
    rw [u8s_length] at hc
    unfold maxLen at hcm
    simp only [Option.map_some]
    by_cases hi : i < 0 ∨ (e.bs.length : Int) < i
    · rw [if_pos (show i < 0 ∨ (e.abs.bs.length : Int) < i from hi)]
      have H : Mut w a most bm E (E.map FE.abs) (.int .i64 1) (.returned (.int .i64 1)) w := Mut.same hD _
      rw [hsl, u8s_length] at h1
      clear hlk hD hF hsl hnd hm
      show Calls _ _ _ _ (Mut w a most bm E (E.map FE.abs) (.int .i64 1))
      by_cases hi0 : i < 0
      · clear hi
        go_enter Try.func56, Try.ntmps56
        go_wp2
        go_ret
        exact H
      · have hi1 : (e.bs.length : Int) < i := by omega
        clear hi
        go_enter Try.func56, Try.ntmps56
        go_wp2
        go_ret
        exact H
    · rw [if_neg (show ¬ (i < 0 ∨ (e.abs.bs.length : Int) < i) from hi)]
      obtain ⟨j, rfl⟩ : ∃ j : Nat, i = j := ⟨i.toNat, by omega⟩
      have hj : (j : Int) ≤ e.bs.length := by omega
      have hj0 : (0 : Int) ≤ j := by omega
      have hjc : (j : Int) ≤ c := by omega
      have H : Mut w a most bm E (setL { e.abs with bs := e.bs.take j, sy := min e.sy j } (E.map FE.abs)) (.int .i64 0) (.returned (.int .i64 0)) ((w.setCell ⟨e.blk, 0, none⟩ (.slice A j j)).setCell ⟨e.blk, 1, none⟩ (.int .i64 (min e.sy j : Nat))).drew := by
        have hrow := hF.row
        rw [hsl] at hrow
        have hcut : ∀ k ∈ rowBlk (.slice A j j), k ∈ rowBlk e.sl := by rw [hsl]; exact rowBlk_cut (by omega)
        refine Mut.upd (x := { e with sl := .slice A j j, bs := e.bs.take j, sy := min e.sy j }) hD hlk rfl rfl ⟨?_, ?_, ?_, hF.key⟩ (fun k hk => .inl (hcut k hk)) ((((Chg.refl _ w).set (fun _ => by simp [blks]) _).set (fun _ => by simp [blks]) _).drew) ?_ _
        · have := set_blk (set_blk hF.blk 0 (.slice A j j)) 1 (.int .i64 (min e.sy j : Nat))
          have h4 : ((w.setCell ⟨e.blk, 0, none⟩ (.slice A j j)).setCell ⟨e.blk, 1, none⟩ (.int .i64 (min e.sy j : Nat))).heap[e.blk]? = some (.cells #[.slice A j j, .int .i64 (min e.sy j : Nat)] 87 (0, 0)) := by simpa using this
          exact h4
        · have h3 := row_take hrow (k := j) (by rw [u8s_length]; omega)
          rw [show (u8s e.bs).take j = u8s (e.bs.take j) from by simp [u8s]] at h3
          exact h3.keep fun k hk => (Below.heap_setCell _ _ _ k (blks_ne hnd k (hcut k hk))).trans (Below.heap_setCell w _ _ k (blks_ne hnd k (hcut k hk)))
        · show min e.sy j ≤ (e.bs.take j).length
          rw [List.length_take]
          have := hF.sy
          omega
        · have := hD.room
          have := len_le_used hm
          show used E - e.bs.length + (e.bs.take j).length ≤ most
          rw [List.length_take]
          omega
      rw [hsl, u8s_length] at h1
      have HH := Lib.hid H
      clear hlk hD hF hsl hnd hm hi H
      show Calls _ _ _ _ (Mut w a most bm E (setL { e.abs with bs := e.bs.take j, sy := min e.sy j } (E.map FE.abs)) (.int .i64 0))
      generalize (setL { e.abs with bs := e.bs.take j, sy := min e.sy j } (E.map FE.abs)) = L' at *
      generalize e.bs.length = len at *
      generalize e.sy = sy at *
      generalize e.blk = eb at *
      have HH' := HH.out
      clear HH
      by_cases hs : sy ≤ j
      · rw [Nat.min_eq_left hs] at HH'
        have HH := Lib.hid HH'
        have hs1 : ¬ (j : Int) < sy := by omega
        clear hs HH'
        go_enter Try.func56, Try.ntmps56
        go_wp2
        go_region
        go_wp2
        go_ret
        exact HH.out
      · have hs1 : (j : Int) < sy := by omega
        rw [Nat.min_eq_right (by omega)] at HH'
        have HH := Lib.hid HH'
        clear hs HH'
        go_enter Try.func56, Try.ntmps56
        go_wp2
        go_region
        go_wp2
        go_ret
        exact HH.out

end Go.Proofs.Ytoflmhdgojenpaa
