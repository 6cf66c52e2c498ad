/- What (*Disk).Read and Synced do. -/
import Derived.Test.YtoflmhdgojenpaaDd
import Derived.Deep.RegionHeld3
import Derived.Deep.DeepCutAuto
namespace Go.Proofs.Ytoflmhdgojenpaa
open Go.RowKit Go.Maps Go.WideMaps Go.WideElems

def dptr (a : Nat) : Value := .pointer (some ⟨a, 0, none⟩)

/-- Bytes in memory of their own, and an error's number. -/
def RetBytesE (w : World) (bs : List Int) (c : Int) (e : Ending) (w' : World) : Prop := ∃ v, e = .returned (.tuple #[v, .int .i64 c]) ∧ IsBytes w bs v w'

/-- What Read answers. -/
def readOf (o : Option FE) : List Int := match o with | some e => e.bs | none => []
def syncedOf (o : Option FE) : List Int := match o with | some e => e.bs.take e.sy | none => []
def noneOf (o : Option FE) : Int := match o with | some _ => 0 | none => 5

theorem ptrOf_some {n : ByteArray} {E : List FE} {e : FE} (h : lookE n E = some e) : ptrOf n E = .pointer (some ⟨e.blk, 0, none⟩) := by unfold ptrOf; rw [h]
theorem ptrOf_none {n : ByteArray} {E : List FE} (h : lookE n E = none) : ptrOf n E = .pointer none := by unfold ptrOf; rw [h]
theorem lookE_mem {n : ByteArray} {E : List FE} {e : FE} (h : lookE n E = some e) : e ∈ E ∧ e.name = n :=
  ⟨List.mem_of_find?_eq_some h, by have := List.find?_some h; simpa using this⟩

theorem len_le_used {E : List FE} {e : FE} (he : e ∈ E) : e.bs.length ≤ used E := by
  unfold used
  induction E with
  | nil => cases he
  | cons x r ih =>
    simp only [List.map_cons, List.sum_cons]
    rcases List.mem_cons.1 he with rfl | h
    · omega
    · have := ih h; omega
theorem DiskAt.len {w : World} {a most bm : Nat} {E : List FE} (h : DiskAt w a most E bm) {e : FE} (he : e ∈ E) : e.bs.length ≤ 65536 :=
  Nat.le_trans (len_le_used he) (Nat.le_trans h.room h.small)

set_option maxHeartbeats 400000 in
theorem read_calls {w : World} {a most bm : Nat} {E : List FE} (hD : DiskAt w a most E bm) (n : ByteArray) (hn : n.size ≤ maxLen) :
    Calls Try.prog 16 #[dptr a, .string n] w (RetBytesE w (readOf (lookE n E)) (noneOf (lookE n E))) := by
  have hl := look_run hD.map hn
  have h0 := hD.cell0
  unfold dptr
  cases hlk : lookE n E with
  | none =>
    rw [ptrOf_none hlk] at hl
    have H : RetBytesE w (readOf none) (noneOf none) (.returned (.tuple #[.slice none 0 0, .int .i64 5])) w :=
      ⟨_, rfl, Row1.none_ _ _ _, Chg.refl _ _, by simp [rowBlk]⟩
    clear hlk hD
    go_enter Try.func16, Try.ntmps16
    go_wp2
    go_ret2
    exact H
  | some e =>
    rw [ptrOf_some hlk] at hl
    have hF := hD.files e (lookE_mem hlk).1
    have hlen := hD.len (lookE_mem hlk).1
    have h1 := hF.cell0
    have hrow := hF.row.slr
    clear hlk hD hF
    go_enter Try.func16, Try.ntmps16
    go_wp2_with (go_at_call 49; refine (clone_calls e.bs _ _ hrow (by omega)).mono ?_; rintro e' w' ⟨v, rfl, hv⟩)
    go_ret2
    exact ⟨v, rfl, hv⟩

theorem SlR.take {w : World} {A : Option Addr} {c : Nat} {xs : List Value} (h : SlR w (.slice A xs.length c) xs) {k : Nat} (hk : k ≤ xs.length) : SlR w (.slice A k c) (xs.take k) := by
  obtain ⟨A', c', he, hl, hc⟩ := h
  injection he with h1 h2 h3
  subst h1; subst h3
  refine ⟨A, c, by rw [List.length_take, Nat.min_eq_left hk], by rw [List.length_take]; omega, fun h0 => ?_⟩
  rw [List.length_take] at h0
  obtain ⟨ad, rfl, hcc⟩ := hc (by omega)
  refine ⟨ad, rfl, fun j u hu => hcc j u ?_⟩
  rw [List.getElem?_take] at hu
  split at hu
  · exact hu
  · cases hu

set_option maxHeartbeats 400000 in
theorem synced_calls {w : World} {a most bm : Nat} {E : List FE} (hD : DiskAt w a most E bm) (n : ByteArray) (hn : n.size ≤ maxLen) :
    Calls Try.prog 17 #[dptr a, .string n] w (RetBytesE w (syncedOf (lookE n E)) (noneOf (lookE n E))) := by
  have hl := look_run hD.map hn
  have h0 := hD.cell0
  unfold dptr
  cases hlk : lookE n E with
  | none =>
    rw [ptrOf_none hlk] at hl
    have H : RetBytesE w (readOf none) (noneOf none) (.returned (.tuple #[.slice none 0 0, .int .i64 5])) w :=
      ⟨_, rfl, Row1.none_ _ _ _, Chg.refl _ _, by simp [rowBlk]⟩
    clear hlk hD
    go_enter Try.func17, Try.ntmps17
    go_wp2
    go_ret2
    exact H
  | some e =>
    rw [ptrOf_some hlk] at hl
    have hF := hD.files e (lookE_mem hlk).1
    have hlen := hD.len (lookE_mem hlk).1
    have h1 := hF.cell0
    have h2 := hF.cell1
    have hsy := hF.sy
    have hrow := hF.row.slr
    obtain ⟨A, c, hsl, hc, hcm, -⟩ := hF.row.shape
    rw [hsl] at h1 hrow
    rw [u8s_length] at h1 hrow hc
    unfold maxLen at hcm
    have htk := SlR.take (xs := u8s e.bs) (c := c) (by rw [u8s_length]; exact hrow) (k := e.sy) (by rw [u8s_length]; exact hsy)
    rw [show (u8s e.bs).take e.sy = u8s (e.bs.take e.sy) from by simp [u8s]] at htk
    have hlt : (e.bs.take e.sy).length ≤ 70368744177664 := by rw [List.length_take]; omega
    have HS : syncedOf (some e) = e.bs.take e.sy := rfl
    rw [HS]
    clear hlk hD hF hsl HS
    generalize hbs : e.bs.take e.sy = bs at *
    clear hbs
    have hb0 : (0 : Int) ≤ (e.sy : Int) := by omega
    have hb1 : (e.sy : Int) ≤ (c : Int) := by omega
    go_enter Try.func17, Try.ntmps17
    go_wp2_with fail
    go_region_held3 (fun w' => w'.cell? ⟨e.blk, 0, none⟩ = some (.slice A e.bs.length c) ∧ w'.cell? ⟨e.blk, 1, none⟩ = some (.int .i64 e.sy)) (first | exact ⟨h1, h2⟩ | exact ⟨k1, k2⟩ | go_keep)
      (first | (go_at_call 49; refine (clone_calls bs _ _ (by first | exact htk | exact htk.drew) hlt).mono ?_; rintro e' w' ⟨v, rfl, hv⟩; have k1 := hv.2.1.cellF h1; have k2 := hv.2.1.cellF h2))
    go_wp2
    go_ret2
    exact ⟨v, by simp [noneOf], hv.from_drew⟩

end Go.Proofs.Ytoflmhdgojenpaa
