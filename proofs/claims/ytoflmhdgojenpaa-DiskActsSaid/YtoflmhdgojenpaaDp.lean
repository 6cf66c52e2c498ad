/- A disk by its files alone: the contracts of package disk, as its user needs them. -/
import Derived.Test.YtoflmhdgojenpaaDo
namespace Go.Proofs.Ytoflmhdgojenpaa
open Go.RowKit Go.Maps Go.WideMaps Go.WideElems

/-- At block a lies a disk with the files L, in the blocks F. -/
def Dk (w : World) (a most : Nat) (L : List FR) (F : List Nat) : Prop := ∃ bm E, DiskAt w a most E bm ∧ E.map FE.abs = L ∧ foot a bm E = F

/-- .. behind a call that answers ret. -/
def MutL (w : World) (a most : Nat) (F : List Nat) (L : List FR) (ret : Value) (e : Ending) (w' : World) : Prop :=
  ∃ F', e = .returned ret ∧ Dk w' a most L F' ∧ Chg (fun k => k ∈ F) w w' ∧ ∀ k ∈ F', k ∈ F ∨ w.heap.size ≤ k

namespace Dk
variable {w w' : World} {a most : Nat} {L : List FR} {F : List Nat}
theorem keep (h : Dk w a most L F) (hk : ∀ k ∈ F, w'.heap[k]? = w.heap[k]?) : Dk w' a most L F := by
  obtain ⟨bm, E, hD, rfl, rfl⟩ := h
  exact ⟨bm, E, hD.keep hk, rfl, rfl⟩
theorem chg {S : Nat → Prop} (h : Dk w a most L F) (hc : Chg S w w') (hS : ∀ k ∈ F, ¬ S k) : Dk w' a most L F := by
  obtain ⟨bm, E, hD, rfl, rfl⟩ := h
  exact ⟨bm, E, hD.chg hc hS, rfl, rfl⟩
theorem none_ (h : Dk w a most L F) (hc : Chg (fun _ => False) w w') : Dk w' a most L F := h.chg hc fun _ _ hf => hf
theorem drew (h : Dk w a most L F) : Dk w.drew a most L F := h.keep fun _ _ => rfl
theorem lt (h : Dk w a most L F) : ∀ k ∈ F, k < w.heap.size := by
  obtain ⟨bm, E, hD, rfl, rfl⟩ := h
  exact hD.lt
theorem self (h : Dk w a most L F) : a ∈ F := by
  obtain ⟨bm, E, hD, rfl, rfl⟩ := h
  exact DiskAt.mem_foot.2 (.inl rfl)
theorem room (h : Dk w a most L F) : usedL L ≤ most ∧ most ≤ 65536 := by
  obtain ⟨bm, E, hD, rfl, rfl⟩ := h
  rw [abs_used]
  exact ⟨hD.room, hD.small⟩
theorem sorted (h : Dk w a most L F) : L.Pairwise fun x y => before x.name y.name = true := by
  obtain ⟨bm, E, hD, rfl, rfl⟩ := h
  rw [List.pairwise_map]
  exact hD.sorted
theorem names (h : Dk w a most L F) : L.Pairwise fun x y => x.name ≠ y.name := by
  obtain ⟨bm, E, hD, rfl, rfl⟩ := h
  rw [List.pairwise_map]
  exact hD.names
theorem sy (h : Dk w a most L F) : ∀ f ∈ L, f.sy ≤ f.bs.length ∧ f.name.size ≤ maxLen := by
  obtain ⟨bm, E, hD, rfl, rfl⟩ := h
  intro f hf
  obtain ⟨e, he, rfl⟩ := List.mem_map.1 hf
  exact ⟨(hD.files e he).sy, (hD.files e he).key⟩
end Dk

theorem Mut.toL {w w' : World} {a most bm : Nat} {E : List FE} {L : List FR} {ret : Value} {e : Ending} (h : Mut w a most bm E L ret e w') : MutL w a most (foot a bm E) L ret e w' := by
  obtain ⟨E', h1, h2, h3, h4, h5⟩ := h
  exact ⟨_, h1, ⟨bm, E', h2, h3, rfl⟩, h4, h5⟩

/-- A new disk. -/
def NewL (w : World) (most : Nat) (e : Ending) (w' : World) : Prop :=
  ∃ a F, e = .returned (dptr a) ∧ Dk w' a most [] F ∧ Chg (fun _ => False) w w' ∧ ∀ k ∈ F, w.heap.size ≤ k
theorem new_L (c : Int) (w : World) : Calls Try.prog 13 #[.int .i64 c] w (NewL w (capOf c)) := by
  refine (new_calls c w).mono ?_
  rintro e w' ⟨a, bm, rfl, h1, h2, h3, h4⟩
  refine ⟨a, _, rfl, ⟨bm, [], h1, rfl, rfl⟩, h2, fun k hk => ?_⟩
  rcases DiskAt.mem_foot.1 hk with rfl | rfl | ⟨z, hz, _⟩
  · exact h3
  · exact h4
  · cases hz

variable {w : World} {a most : Nat} {L : List FR} {F : List Nat}
theorem append_L (h : Dk w a most L F) (n : ByteArray) (bv : Value) (bs : List Int) (hb : ArgOk w bv bs F) (hL : L.length < maxLen) (hbs : bs.length ≤ 35184372088832) :
    Calls Try.prog 14 #[dptr a, .string n, bv] w (MutL w a most F (appL most n bs L).1 (codeV (appL most n bs L).2)) := by
  obtain ⟨bm, E, hD, rfl, rfl⟩ := h
  exact (append_calls hD n bv bs hb (by simpa using hL) hbs).mono fun _ _ h => h.toL
theorem sync_L (h : Dk w a most L F) (n : ByteArray) (hn : n.size ≤ maxLen) :
    Calls Try.prog 15 #[dptr a, .string n] w (MutL w a most F (syncL n L) (codeV (thereL n L))) := by
  obtain ⟨bm, E, hD, rfl, rfl⟩ := h
  exact (sync_calls hD n hn).mono fun _ _ h => h.toL
theorem delete_L (h : Dk w a most L F) (n : ByteArray) (hn : n.size ≤ maxLen) :
    Calls Try.prog 47 #[dptr a, .string n] w (MutL w a most F (deleteL n L) (codeV (thereL n L))) := by
  obtain ⟨bm, E, hD, rfl, rfl⟩ := h
  exact (delete_calls hD n hn).mono fun _ _ h => h.toL
theorem turn_L (h : Dk w a most L F) (n : ByteArray) (hn : n.size ≤ maxLen) (i y : Int) :
    Calls Try.prog 55 #[dptr a, .string n, .int .i64 i, .int .u8 y] w (MutL w a most F (turnL n i y L).1 (codeV (turnL n i y L).2)) := by
  obtain ⟨bm, E, hD, rfl, rfl⟩ := h
  exact (turn_calls hD n hn i y).mono fun _ _ h => h.toL
theorem trim_L (h : Dk w a most L F) (n : ByteArray) (hn : n.size ≤ maxLen) (i : Int) :
    Calls Try.prog 56 #[dptr a, .string n, .int .i64 i] w (MutL w a most F (trimL n i L).1 (codeV (trimL n i L).2)) := by
  obtain ⟨bm, E, hD, rfl, rfl⟩ := h
  exact (trim_calls hD n hn i).mono fun _ _ h => h.toL
theorem rename_L (h : Dk w a most L F) (x y : ByteArray) (hx : x.size ≤ maxLen) (hL : L.length < maxLen) :
    Calls Try.prog 54 #[dptr a, .string x, .string y] w (MutL w a most F (renL x y L).1 (codeV (renL x y L).2)) := by
  obtain ⟨bm, E, hD, rfl, rfl⟩ := h
  exact (rename_calls hD x y hx (by simpa using hL)).mono fun _ _ h => h.toL
theorem crash_L (h : Dk w a most L F) (hL : L.length ≤ 8796093022208) (kv : Value) (ks : List Int) (hk : KeepAt w kv ks F) :
    Calls Try.prog 25 #[dptr a, kv] w (MutL w a most F (crashL L ks).1 (.tuple #[])) := by
  obtain ⟨bm, E, hD, rfl, rfl⟩ := h
  exact (crash_calls hD (by simpa using hL) kv ks hk).mono fun _ _ h => h.toL

def readL (n : ByteArray) (L : List FR) : List Int := match lookL n L with | some f => f.bs | none => []
def syncedL (n : ByteArray) (L : List FR) : List Int := match lookL n L with | some f => f.bs.take f.sy | none => []
theorem read_L (h : Dk w a most L F) (n : ByteArray) (hn : n.size ≤ maxLen) : Calls Try.prog 16 #[dptr a, .string n] w (RetBytesE w (readL n L) (thereL n L)) := by
  obtain ⟨bm, E, hD, rfl, rfl⟩ := h
  have := read_calls hD n hn
  unfold readL thereL
  rw [← abs_look]
  cases hl : lookE n E <;> rw [hl] at this <;> exact this
theorem synced_L (h : Dk w a most L F) (n : ByteArray) (hn : n.size ≤ maxLen) : Calls Try.prog 17 #[dptr a, .string n] w (RetBytesE w (syncedL n L) (thereL n L)) := by
  obtain ⟨bm, E, hD, rfl, rfl⟩ := h
  have := synced_calls hD n hn
  unfold syncedL thereL
  rw [← abs_look]
  cases hl : lookE n E <;> rw [hl] at this <;> exact this
theorem used_L (h : Dk w a most L F) : Calls Try.prog 46 #[dptr a] w (RetIntF w (usedL L)) := by
  obtain ⟨bm, E, hD, rfl, rfl⟩ := h
  rw [abs_used]
  exact used_calls hD
theorem names_L (h : Dk w a most L F) (hL : L.length ≤ 8796093022208) : Calls Try.prog 26 #[dptr a] w (RetNames w (L.map (·.name))) := by
  obtain ⟨bm, E, hD, rfl, rfl⟩ := h
  have := names_calls hD (by simpa using hL)
  rwa [List.map_map]
def CopyL (w : World) (most : Nat) (L : List FR) (e : Ending) (w' : World) : Prop :=
  ∃ a F, e = .returned (dptr a) ∧ Dk w' a most L F ∧ Chg (fun _ => False) w w' ∧ ∀ k ∈ F, w.heap.size ≤ k
theorem copy_L (h : Dk w a most L F) (hL : L.length ≤ 8796093022208) : Calls Try.prog 20 #[dptr a] w (CopyL w most L) := by
  obtain ⟨bm, E, hD, rfl, rfl⟩ := h
  refine (copy_calls hD (by simpa using hL)).mono ?_
  rintro e w' ⟨a2, bm2, E2, rfl, h1, h2, h3, h4⟩
  exact ⟨a2, _, rfl, ⟨bm2, E2, h1, h2, rfl⟩, h3, h4⟩

/-- The text that bytes are. -/
def strOf (bs : List Int) : ByteArray := ⟨(bs.map fun n => UInt8.ofNat n.toNat).toArray⟩
theorem foldl_push (bs : List Int) : ∀ s : ByteArray, bs.foldl (fun r n => r.push (UInt8.ofNat n.toNat)) s = ⟨s.data ++ (bs.map fun n => UInt8.ofNat n.toNat).toArray⟩ := by
  induction bs with
  | nil => intro s; simp
  | cons b r ih =>
    intro s
    rw [List.foldl_cons, ih]
    simp [ByteArray.push]
theorem str_run {w : World} {v : Value} {bs : List Int} (h : SlR w v (u8s bs)) : (convert 22 9 v).run Try.prog w = .ok (.string (strOf bs)) w := by
  obtain ⟨A, c, rfl, hl, hc⟩ := h
  rw [u8s_length] at *
  rw [run_convert_bytes_string w 22 9 5 _ _ _ Try.underlying22 Try.underlying5 Try.underlying9]
  cases A with
  | none =>
    have h0 : bs = [] := by
      rcases Nat.eq_zero_or_pos bs.length with h | h
      · exact List.eq_nil_of_length_eq_zero h
      · obtain ⟨_, h', _⟩ := hc h
        cases h'
    subst h0
    rfl
  | some ad =>
    have hl : (loadCells ad bs.length).run Try.prog w = .ok (u8s bs).toArray w := by
      have := run_loadCells_list (P := Try.prog) w ad (u8s bs) (fun j u hu => by
        have hj := (List.getElem?_eq_some_iff.1 hu).1
        obtain ⟨ad', he, hcc⟩ := hc (by rw [u8s_length] at hj; omega)
        injection he with he
        subst he
        exact hcc j u hu)
      simpa using this
    rw [run_bytesToString w ad bs.length c bs hl, foldl_push]
    unfold strOf
    simp [ByteArray.empty, ByteArray.emptyWithCapacity]
    rfl

end Go.Proofs.Ytoflmhdgojenpaa
