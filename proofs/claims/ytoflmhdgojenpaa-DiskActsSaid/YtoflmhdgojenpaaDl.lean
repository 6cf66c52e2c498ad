/- What (*Disk).Names does: all names, rising. -/
import Derived.Test.YtoflmhdgojenpaaDk
import Derived.Test.YtoflmhdgojenpaaKeys
namespace Go.Proofs.Ytoflmhdgojenpaa
open Go.RowKit Go.Maps Go.WideMaps Go.WideElems Go.Sort Go.Shelf

theorem before_lt : ∀ (a b : List UInt8), bytesBefore a b = true ↔ a < b
  | [], [] => by simp [bytesBefore]
  | _ :: _, [] => by simp [bytesBefore]
  | [], _ :: _ => by simp [bytesBefore]
  | x :: r, y :: s => by
    rw [List.cons_lt_cons_iff, ← before_lt r s]
    simp [bytesBefore]

theorem strKeys_dOf (E : List FE) : strKeys (dOf E) = E.map fun e => e.name.data.toList := by
  unfold dOf
  induction E with
  | nil => rfl
  | cons e r ih =>
    simp only [List.map_cons]
    rw [← ih]
    simp [strKeys, keyL, strOf]

theorem merge_names {E : List FE} (hs : E.Pairwise fun x y => before x.name y.name = true) {ss : List (List UInt8)} (hp : ss.Perm (strKeys (dOf E))) :
    ss.mergeSort (fun x y => decide (x ≤ y)) = E.map fun e => e.name.data.toList := by
  rw [strKeys_dOf] at hp
  have h1 : (ss.mergeSort (fun x y => decide (x ≤ y))).Pairwise (fun x y => decide (x ≤ y) = true) :=
    List.pairwise_mergeSort (fun a b c h1 h2 => by simp only [decide_eq_true_eq] at *; exact List.le_trans h1 h2) (fun a b => by
      simp only [Bool.or_eq_true, decide_eq_true_eq]; exact List.le_total a b) ss
  have h2 : (E.map fun e => e.name.data.toList).Pairwise (fun x y => decide (x ≤ y) = true) := by
    rw [List.pairwise_map]
    exact hs.imp fun h => by
      simp only [decide_eq_true_eq]
      exact List.le_of_lt ((before_lt _ _).1 h)
  have h3 : (ss.mergeSort (fun x y => decide (x ≤ y))).Perm (E.map fun e => e.name.data.toList) := (List.mergeSort_perm ss _).trans hp
  exact h3.eq_of_pairwise (fun a b _ _ h1 h2 => by simp only [decide_eq_true_eq] at h1 h2; exact List.le_antisymm h1 h2) h1 h2

theorem sortsS (m : Nat) : AnyZ.SortsIn Try.prog Try.sortedS_ren Fence.wide m :=
  ⟨fun blk off cap ss W hH hblk hsz => callsIn_wide.2 (AnyM.slices_Sort_string Try.sortS blk off cap ss W hH hblk hsz),
   fun p cap W => callsIn_wide.2 (AnyM.slices_Sort_string_none Try.sortS p cap W)⟩

theorem keysS_calls (mb : Option Nat) (W : World) : Calls Try.prog 59 #[.map mb] W fun e w' =>
    e = .returned (.func (.func 79) #[] #[.pointer (some ⟨W.heap.size, 0, none⟩)]) ∧ W.alloc (.cells #[.map mb] 81) = w' :=
  (callsIn_wide.1 (AnyZ.keys_in Try.keysS Fence.wide 5 trivial rfl mb W)).mono fun _ _ ⟨h1, h2⟩ => ⟨h1, h2.symm⟩

/-- Names of its own, in this order. -/
def strsV (l : List ByteArray) : List Value := l.map .string
def RetNames (w : World) (l : List ByteArray) (e : Ending) (w' : World) : Prop :=
  ∃ v, e = .returned v ∧ w'.ownsRow w.heap.size 9 1 v l.length (strsV l) ∧ Chg (fun _ => False) w w'

set_option maxHeartbeats 1000000 in
theorem sortedS_calls (b : Nat) (E : List FE) (w : World) (nn : Nat) (hown : w.ownsMap Try.prog 9 ptrR b nn (dOf E)) (hmax : E.length ≤ maxLen) (hbytes : E.length * 16 ≤ 140737488355328) (hs : E.Pairwise fun x y => before x.name y.name = true) :
    Calls Try.prog 58 #[.func (.func 79) #[] #[.pointer (some ⟨w.heap.size, 0, none⟩)]] (w.alloc (.cells #[.map (some b)] 81)) (RetNames w (E.map (·.name))) := by
  have hbl := hown.lt
  have hsz := dOf_size E
  have hseq : SeqGives Fence.wide 2 Try.prog 79 #[.pointer (some ⟨w.heap.size, 0, none⟩)] encStr (fun ss => ss.Perm (strKeys (dOf E))) (Maps.size (dOf E)) (w.alloc (.cells #[.map (some b)] 81)) :=
    AnyZ.keys_gives (ρ := Try.keysS_ren) { Try.keysS with } Fence.wide _ trivial rfl (by omega) w.heap.size b nn (dOf E) _ (by simp) (by simp) (by
      obtain ⟨es, clock, hb, Ft, hs, hD⟩ := hown
      exact ⟨es, clock, (Below.heap_alloc _ _ b hbl).trans hb, Ft, hs, hD⟩)
  have h := AnyZ.sorted_in Try.sortedS Fence.wide 5 trivial trivial trivial trivial rfl (by omega) (sortsS _) (enters_of Try.func78 (by kernel_rfl) rfl) 79 #[.pointer (some ⟨w.heap.size, 0, none⟩)] trivial (enters_of Try.func79 (by kernel_rfl) rfl) _ _ (by rw [hsz]; exact hmax) (by rw [hsz]; exact hbytes) _ hseq
  refine (callsIn_wide.1 h).mono ?_
  rintro e w' ⟨v, ss, rfl, hp, hrow, hnil, hb⟩
  refine ⟨v, rfl, ?_, ?_⟩
  · have hm := merge_names hs hp
    have hl : ss.length = (E.map (·.name)).length := by rw [← List.length_mergeSort (le := fun x y => decide (x ≤ y)), hm]; simp
    rw [hm, hl] at hrow
    have he : (E.map fun e => e.name.data.toList).map encStr = strsV (E.map (·.name)) := by
      unfold strsV
      rw [List.map_map, List.map_map]
      refine List.map_congr_left fun e _ => ?_
      simp [encStr]
    rw [he] at hrow
    have := ownsRow_base_a (base' := w.heap.size) hrow (by simp)
    exact this
  · exact ((Chg.refl _ w).alloc _).trans (Chg.of_below hb (S := fun _ => False)) (fun _ _ hf => hf)

set_option maxRecDepth 100000 in
set_option maxHeartbeats 1000000 in
theorem names_calls {w : World} {a most bm : Nat} {E : List FE} (hD : DiskAt w a most E bm) (hE : E.length ≤ 8796093022208) :
    Calls Try.prog 26 #[dptr a] w (RetNames w (E.map (·.name))) := by
  have h0 := hD.cell0
  have hmap := hD.map
  have hs := hD.sorted
  have hc := sortedS_calls bm E w _ hmap (by unfold maxLen; omega) (by omega) hs
  clear hmap hs hD
  unfold dptr
  generalize E.map (·.name) = L at *
  have HC := Lib.hid hc
  clear hc
  go_enter Try.func26, Try.ntmps26
  go_wp2_with fail
  refine (keysS_calls _ _).mono ?_
  rintro e w' ⟨rfl, rfl⟩
  go_wp2_with fail
  refine HC.out.mono ?_
  rintro e w' ⟨v, rfl, hv, hc⟩
  go_wp2
  go_ret
  exact ⟨v, rfl, hv, hc⟩

end Go.Proofs.Ytoflmhdgojenpaa
