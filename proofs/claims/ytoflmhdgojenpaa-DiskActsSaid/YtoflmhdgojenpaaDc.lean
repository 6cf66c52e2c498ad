/- What disk.New, named, slices.Clone over bytes do. -/
import Derived.Test.YtoflmhdgojenpaaDb
namespace Go.Proofs.Ytoflmhdgojenpaa
open Go.RowKit Go.Maps Go.WideMaps Go.WideElems

theorem max2_i (k k' : IntKind) (x y : Int) : Builtin.max2 (.int k x) (.int k' y) = pure (.int k (if x < y then y else x)) := by simp only [Builtin.max2, gt_iff_lt]
theorem min2_i (k k' : IntKind) (x y : Int) : Builtin.min2 (.int k x) (.int k' y) = pure (.int k (if y < x then y else x)) := by simp only [Builtin.min2]
theorem max_2 (ats : Array TypeId) (ty : TypeId) (a b : Value) : Builtin.max_ ats ty #[a, b] = (Builtin.max2 a b >>= fun s => pure s) := by simp only [Builtin.max_, List.foldlM_cons, List.foldlM_nil]
theorem min_2 (ats : Array TypeId) (ty : TypeId) (a b : Value) : Builtin.min_ ats ty #[a, b] = (Builtin.min2 a b >>= fun s => pure s) := by simp only [Builtin.min_, List.foldlM_cons, List.foldlM_nil]
attribute [local go_sem] max2_i min2_i max_2 min_2

/-- A disk's capacity. -/
def capOf (c : Int) : Nat := if c < 0 then 0 else if 65536 < c then 65536 else c.toNat
theorem capOf_le (c : Int) : capOf c ≤ 65536 := by unfold capOf; split <;> (try split) <;> omega

/-- A new disk at block a. -/
def IsNew (w : World) (most : Nat) (e : Ending) (w' : World) : Prop :=
  ∃ a bm, e = .returned (.pointer (some ⟨a, 0, none⟩)) ∧ DiskAt w' a most [] bm ∧ Chg (fun _ => False) w w' ∧ w.heap.size ≤ a ∧ w.heap.size ≤ bm

theorem is_new (w : World) (c : Int) (most : Nat) (h : (most : Int) = c) (hm : most ≤ 65536) :
    IsNew w most (.returned (.pointer (some ⟨w.heap.size + 1, 0, none⟩))) ((w.alloc (.map #[] 0)).alloc (.cells #[.map (some w.heap.size), .int .i64 c] 83)) := by
  subst h
  refine ⟨w.heap.size + 1, w.heap.size, rfl, ⟨?_, ?_, by simp, ?_, hm, by simp [used]⟩, ((Chg.refl _ w).alloc _).alloc _, by omega, Nat.le_refl _⟩
  · have := heap_alloc_new (w.alloc (.map #[] 0)) (.cells #[.map (some w.heap.size), .int .i64 (most : Int)] 83)
    rw [World.size_alloc] at this
    exact this
  · exact (World.ownsMap_made w Try.prog 9 ptrR).alloc _
  · simp [foot]

set_option maxHeartbeats 400000 in
theorem new_calls (c : Int) (w : World) : Calls Try.prog 13 #[.int .i64 c] w (IsNew w (capOf c)) := by
  have hmm := @run_makeMap Try.prog
  by_cases h0 : c < 0
  · have H : capOf c = 0 := by unfold capOf; rw [if_pos h0]
    rw [H]
    have h0' : (if c < 0 then (0 : Int) else c) = 0 := if_pos h0
    go_enter Try.func13, Try.ntmps13
    go_wp2
    go_ret
    exact is_new w 0 0 rfl (by omega)
  · by_cases h1 : 65536 < c
    · have H : capOf c = 65536 := by unfold capOf; rw [if_neg h0, if_pos h1]
      rw [H]
      go_enter Try.func13, Try.ntmps13
      go_wp2
      go_ret
      exact is_new w 65536 65536 rfl (by omega)
    · have H : capOf c = c.toNat := by unfold capOf; rw [if_neg h0, if_neg h1]
      rw [H]
      have H1 := is_new w c c.toNat (by omega) (by omega)
      go_enter Try.func13, Try.ntmps13
      go_wp2
      go_ret
      exact H1

set_option maxHeartbeats 400000 in
theorem named_calls (s : ByteArray) (w : World) (b : Bool) (hb : decide (1 ≤ s.size ∧ s.size ≤ 24) = b) : Calls Try.prog 48 #[.string s] w fun e w' => e = .returned (.bool b) ∧ w = w' := by
  subst hb
  by_cases h1 : 1 ≤ s.size
  · by_cases h2 : s.size ≤ 24
    · go_enter Try.func48, Try.ntmps48
      go_wp2
      go_ret
      simp [h1, h2]
      omega
    · go_enter Try.func48, Try.ntmps48
      go_wp2
      go_ret
      simp [h1, h2]
      omega
  · go_enter Try.func48, Try.ntmps48
    go_wp2
    go_ret
    simp [h1]

end Go.Proofs.Ytoflmhdgojenpaa
