/- A disk in memory: its files by names, each in blocks of its own; what a look-up, a store, a delete and a range of its map do. -/
import Derived.Test.YtoflmhdgojenpaaProg
import Derived.Test.YtoflmhdgojenpaaDa
namespace Go.Proofs.Ytoflmhdgojenpaa
open Go.RowKit Go.Maps Go.WideMaps Go.WideElems

/-- A file: its name, its block, the slice of its bytes, the bytes, how many are synced. -/
structure FE where
  name : ByteArray
  blk : Nat
  sl : Value
  bs : List Int
  sy : Nat

/-- A file as a disk's user sees it. -/
structure FR where
  name : ByteArray
  bs : List Int
  sy : Nat

def FE.abs (e : FE) : FR := ⟨e.name, e.bs, e.sy⟩

def keyL (s : ByteArray) : Lit := .string s.data.toList
def blkD (b : Nat) : DataW Unit := .lit (.int .i64 b)
/-- How a map's pointers are read: by their blocks. -/
def ptrR : Value → Option (DataW Unit × List MemPlace)
  | .pointer none => some (.lit .nil, [])
  | .pointer (some ⟨b, 0, none⟩) => some (blkD b, [])
  | _ => none
theorem ptrR_mk (b : Nat) : ptrR (.pointer (some ⟨b, 0, none⟩)) = some (blkD b, []) := rfl
theorem ptrR_inv {v : Value} {b : Nat} {ps : List MemPlace} (h : ptrR v = some (blkD b, ps)) : v = .pointer (some ⟨b, 0, none⟩) := by
  unfold ptrR at h
  split at h
  · simp [blkD] at h
  · simp [blkD] at h
    obtain ⟨h, _⟩ := h
    rw [show _ = b from Int.ofNat.inj h]
  · cases h
theorem ptrR_nil_inv {v : Value} {ps : List MemPlace} (h : ptrR v = some (.lit .nil, ps)) : v = .pointer none := by
  unfold ptrR at h
  split at h
  · rfl
  · simp [blkD] at h
  · cases h

def dOf (E : List FE) : DataW Unit := .map (E.map fun e => (keyL e.name, blkD e.blk))

theorem key_ext {a b : ByteArray} : a.data.toList = b.data.toList ↔ a = b := by
  constructor
  · intro h
    cases a; cases b
    simp only [ByteArray.mk.injEq]
    exact Array.toList_inj.1 h
  · intro h; rw [h]
theorem sameKey_key (a b : ByteArray) : (keyL a).sameKey (keyL b) = decide (a = b) := by
  simp only [keyL, Lit.sameKey]
  rw [Bool.eq_iff_iff, beq_iff_eq, decide_eq_true_iff, key_ext]

def lookE (n : ByteArray) (E : List FE) : Option FE := E.find? fun e => decide (e.name = n)
def lookL (n : ByteArray) (L : List FR) : Option FR := L.find? fun e => decide (e.name = n)
def before (a b : ByteArray) : Bool := bytesBefore a.data.toList b.data.toList
def delE (n : ByteArray) (E : List FE) : List FE := E.filter fun e => !decide (e.name = n)
def delL (n : ByteArray) (L : List FR) : List FR := L.filter fun e => !decide (e.name = n)
def insE (x : FE) : List FE → List FE
  | [] => [x]
  | y :: r => if before x.name y.name then x :: y :: r else y :: insE x r
def insL (x : FR) : List FR → List FR
  | [] => [x]
  | y :: r => if before x.name y.name then x :: y :: r else y :: insL x r
def setE (x : FE) (E : List FE) : List FE := E.map fun e => if e.name = x.name then x else e
def setL (x : FR) (L : List FR) : List FR := L.map fun e => if e.name = x.name then x else e

theorem abs_look (n : ByteArray) (E : List FE) : (lookE n E).map FE.abs = lookL n (E.map FE.abs) := by
  unfold lookE lookL
  rw [List.find?_map]
  rfl
theorem abs_del (n : ByteArray) (E : List FE) : (delE n E).map FE.abs = delL n (E.map FE.abs) := by
  unfold delE delL
  rw [List.filter_map]
  rfl
theorem abs_ins (x : FE) : ∀ E : List FE, (insE x E).map FE.abs = insL x.abs (E.map FE.abs)
  | [] => rfl
  | y :: r => by
    simp only [insE, List.map_cons, insL]
    by_cases h : before x.name y.name = true
    · rw [if_pos h, if_pos (show before x.abs.name y.abs.name = true from h)]; rfl
    · rw [if_neg h, if_neg (show ¬ before x.abs.name y.abs.name = true from h), List.map_cons, abs_ins x r]
theorem abs_set (x : FE) (E : List FE) : (setE x E).map FE.abs = setL x.abs (E.map FE.abs) := by
  unfold setE setL
  rw [List.map_map, List.map_map]
  refine List.map_congr_left fun e _ => ?_
  simp only [Function.comp]
  by_cases h : e.name = x.name
  · rw [if_pos h, if_pos (show e.abs.name = x.abs.name from h)]
  · rw [if_neg h, if_neg (show ¬ e.abs.name = x.abs.name from h)]
theorem mem_ins {x y : FE} : ∀ {E : List FE}, y ∈ insE x E ↔ y = x ∨ y ∈ E
  | [] => by simp [insE]
  | z :: r => by
    simp only [insE]
    split
    · simp
    · simp only [List.mem_cons, mem_ins]
      constructor
      · rintro (h | h | h)
        · exact .inr (.inl h)
        · exact .inl h
        · exact .inr (.inr h)
      · rintro (h | h | h)
        · exact .inr (.inl h)
        · exact .inl h
        · exact .inr (.inr h)
theorem ins_perm (x : FE) : ∀ E : List FE, (insE x E).Perm (x :: E)
  | [] => .refl _
  | y :: r => by
    simp only [insE]
    split
    · exact .refl _
    · exact ((ins_perm x r).cons y).trans (.swap x y r)
theorem len_ins (x : FE) (E : List FE) : (insE x E).length = E.length + 1 := by
  rw [(ins_perm x E).length_eq]; rfl

theorem dOf_at (n : ByteArray) (E : List FE) (z : DataW Unit) : (dOf E).atKey (keyL n) z = match lookE n E with | some e => blkD e.blk | none => z := by
  unfold dOf DataW.atKey lookE
  simp only [List.find?_map]
  have : ((fun p : Lit × DataW Unit => p.1.sameKey (keyL n)) ∘ fun e : FE => (keyL e.name, blkD e.blk)) = fun e => decide (e.name = n) := by
    funext e; simp only [Function.comp]; exact sameKey_key _ _
  rw [this]
  cases List.find? (fun e => decide (e.name = n)) E <;> rfl
theorem dOf_has (n : ByteArray) (E : List FE) : Maps.has (dOf E) (keyL n) = (lookE n E).isSome := by
  unfold dOf lookE
  rw [Maps.has_eq, List.any_map, List.isSome_find?]
  congr 1
  funext e
  exact sameKey_key _ _
theorem dOf_del (n : ByteArray) (E : List FE) : (dOf E).del (keyL n) = dOf (delE n E) := by
  unfold dOf DataW.del delE
  simp only [List.filter_map]
  congr 2
  apply List.filter_congr
  intro e _
  simp only [Function.comp]
  rw [sameKey_key]
theorem dOf_ins (x : FE) : ∀ E : List FE, DataW.insert (keyL x.name, blkD x.blk) (E.map fun e => (keyL e.name, blkD e.blk)) = (insE x E).map fun e => (keyL e.name, blkD e.blk)
  | [] => rfl
  | y :: r => by
    simp only [List.map_cons, DataW.insert, insE]
    have h : Lit.before (keyL x.name) (keyL y.name) = before x.name y.name := rfl
    rw [h]
    by_cases hb : before x.name y.name = true
    · rw [if_pos hb, if_pos hb]; rfl
    · rw [if_neg hb, if_neg hb, List.map_cons, dOf_ins x r]
theorem dOf_put (x : FE) (E : List FE) : (dOf E).put (keyL x.name) (blkD x.blk) = dOf (insE x (delE x.name E)) := by
  unfold DataW.put
  show DataW.map (DataW.insert _ _) = _
  have := dOf_del x.name E
  unfold dOf DataW.del at this
  injection this with this
  rw [this, dOf_ins]
  rfl
theorem dOf_set (x : FE) (E : List FE) (h : ∀ e ∈ E, e.name = x.name → e.blk = x.blk) : dOf (setE x E) = dOf E := by
  unfold dOf setE
  rw [List.map_map]
  congr 1
  refine List.map_congr_left fun e he => ?_
  simp only [Function.comp]
  by_cases hn : e.name = x.name
  · rw [if_pos hn, h e he hn, hn]
  · rw [if_neg hn]
theorem dOf_size (E : List FE) : Maps.size (dOf E) = E.length := by simp [dOf, Maps.size]
theorem World.ownsMap.tight {P : Program} {k : TypeId} {R : Value → Option (DataW Unit × List MemPlace)} {w : World} {b n : Nat} {D : DataW Unit} (h : w.ownsMap P k R b n D) : w.ownsMap P k R b (Maps.size D) D := by
  obtain ⟨es, clock, hb, F, hs, rfl⟩ := h
  refine ⟨es, clock, hb, F, ?_, rfl⟩
  simp [Maps.size, length_sorted]

/-- The blocks of a disk. -/
def foot (a bm : Nat) (E : List FE) : List Nat := a :: bm :: E.flatMap fun e => e.blk :: rowBlk e.sl

def u8s (bs : List Int) : List Value := bs.map (.int .u8)
@[simp] theorem u8s_length (bs : List Int) : (u8s bs).length = bs.length := by simp [u8s]

structure FileAt (w : World) (e : FE) : Prop where
  blk : w.heap[e.blk]? = some (.cells #[e.sl, .int .i64 e.sy] 87 (0, 0))
  row : Row1 w 5 e.sl (u8s e.bs)
  sy : e.sy ≤ e.bs.length
  key : e.name.size ≤ maxLen

def used (E : List FE) : Nat := (E.map fun e => e.bs.length).sum

structure DiskAt (w : World) (a : Nat) (most : Nat) (E : List FE) (bm : Nat) : Prop where
  self : w.heap[a]? = some (.cells #[.map (some bm), .int .i64 most] 83 (0, 0))
  map : w.ownsMap Try.prog 9 ptrR bm E.length (dOf E)
  files : ∀ e ∈ E, FileAt w e
  apart : (foot a bm E).Nodup
  small : most ≤ 65536
  room : used E ≤ most

theorem FileAt.keep {w w' : World} {e : FE} (h : FileAt w e) (hk : ∀ k ∈ e.blk :: rowBlk e.sl, w'.heap[k]? = w.heap[k]?) : FileAt w' e :=
  ⟨(hk _ List.mem_cons_self).trans h.blk, h.row.keep fun k hm => hk k (List.mem_cons_of_mem _ hm), h.sy, h.key⟩
theorem ownsMap_keep {P : Program} {k : TypeId} {R : Value → Option (DataW Unit × List MemPlace)} {w w' : World} {b n : Nat} {D : DataW Unit} (h : w.ownsMap P k R b n D) (hk : w'.heap[b]? = w.heap[b]?) : w'.ownsMap P k R b n D := by
  obtain ⟨es, clock, hb, F, hs, hD⟩ := h
  exact ⟨es, clock, hk.trans hb, F, hs, hD⟩
theorem ownsMap_lt {P : Program} {k : TypeId} {R : Value → Option (DataW Unit × List MemPlace)} {w : World} {b n : Nat} {D : DataW Unit} (h : w.ownsMap P k R b n D) : b < w.heap.size := by
  obtain ⟨es, clock, hb, _⟩ := h
  exact lt_of_block hb

namespace DiskAt
variable {w w' : World} {a bm most : Nat} {E : List FE}
theorem mem_foot {k : Nat} : k ∈ foot a bm E ↔ k = a ∨ k = bm ∨ ∃ e ∈ E, k = e.blk ∨ k ∈ rowBlk e.sl := by
  simp only [foot, List.mem_cons, List.mem_flatMap]
theorem keep (h : DiskAt w a most E bm) (hk : ∀ k ∈ foot a bm E, w'.heap[k]? = w.heap[k]?) : DiskAt w' a most E bm :=
  ⟨(hk _ (mem_foot.2 (.inl rfl))).trans h.self, ownsMap_keep h.map (hk _ (mem_foot.2 (.inr (.inl rfl)))),
    fun e he => (h.files e he).keep fun k hm => hk k (mem_foot.2 (.inr (.inr ⟨e, he, List.mem_cons.1 hm⟩))), h.apart, h.small, h.room⟩
theorem lt (h : DiskAt w a most E bm) : ∀ k ∈ foot a bm E, k < w.heap.size := by
  intro k hk
  rcases mem_foot.1 hk with rfl | rfl | ⟨e, he, rfl | hm⟩
  · exact lt_of_block h.self
  · exact ownsMap_lt h.map
  · exact lt_of_block (h.files e he).blk
  · exact (h.files e he).row.lt k hm
theorem chg {S : Nat → Prop} (h : DiskAt w a most E bm) (hc : Chg S w w') (hS : ∀ k ∈ foot a bm E, ¬ S k) : DiskAt w' a most E bm :=
  h.keep fun k hk => hc.block k (h.lt k hk) (hS k hk)
theorem none_ (h : DiskAt w a most E bm) (hc : Chg (fun _ => False) w w') : DiskAt w' a most E bm := h.chg hc fun _ _ hf => hf
theorem cell0 (h : DiskAt w a most E bm) : w.cell? ⟨a, 0, none⟩ = some (.map (some bm)) := (cell_of_blk h.self 0).trans rfl
theorem cell1 (h : DiskAt w a most E bm) : w.cell? ⟨a, 1, none⟩ = some (.int .i64 most) := (cell_of_blk h.self 1).trans rfl
end DiskAt
theorem FileAt.cell0 {w : World} {e : FE} (h : FileAt w e) : w.cell? ⟨e.blk, 0, none⟩ = some e.sl := (cell_of_blk h.blk 0).trans rfl
theorem FileAt.cell1 {w : World} {e : FE} (h : FileAt w e) : w.cell? ⟨e.blk, 1, none⟩ = some (.int .i64 e.sy) := (cell_of_blk h.blk 1).trans rfl

theorem strKeyed : Keyed Try.prog 9 := string_keyed Try.underlying9
theorem mapT : Try.prog.underlying 81 = some (.map 9 85) := Try.underlying81
theorem zeroP (w : World) : (zeroValue 85).run Try.prog w = .ok (.pointer none) w := by kernel_rfl

/-- What a look-up hands back: the file's pointer, or nil. -/
def ptrOf (n : ByteArray) (E : List FE) : Value := match lookE n E with | some e => .pointer (some ⟨e.blk, 0, none⟩) | none => .pointer none

theorem look_run {w : World} {b m : Nat} {E : List FE} (h : w.ownsMap Try.prog 9 ptrR b m (dOf E)) {n : ByteArray} (hn : n.size ≤ maxLen) :
    (Instr.lookup 81 (.map (some b)) (.string n) false).run Try.prog w = .ok (ptrOf n E) w := by
  obtain ⟨v, ps, hr, hv⟩ := h.lookup strKeyed mapT (zeroP w) (zd := .lit .nil) (zp := []) rfl (keyOf_string_mk Try.underlying9 hn)
  rw [hr]
  have hv' := hv.trans (by rw [show (Lit.string n.data.toList) = keyL n from rfl, dOf_at])
  unfold ptrOf
  cases hl : lookE n E with
  | none => rw [hl] at hv'; rw [ptrR_nil_inv hv']
  | some e => rw [hl] at hv'; rw [ptrR_inv hv']

end Go.Proofs.Ytoflmhdgojenpaa
