/- What becomes of a disk in memory when one file changes, goes, or comes. -/
import Derived.Test.YtoflmhdgojenpaaDe
namespace Go.Proofs.Ytoflmhdgojenpaa
open Go.RowKit Go.Maps Go.WideMaps Go.WideElems

def blks (e : FE) : List Nat := e.blk :: rowBlk e.sl
theorem foot_eq (a bm : Nat) (E : List FE) : foot a bm E = a :: bm :: E.flatMap blks := rfl

theorem nodup_swap {A G G' F : List Nat} {B : Nat} (h : (A ++ (G ++ F)).Nodup) (hG' : G'.Nodup) (hsub : ∀ k ∈ G', k ∈ G ∨ B ≤ k) (hlt : ∀ k ∈ A ++ (G ++ F), k < B) : (A ++ (G' ++ F)).Nodup := by
  rw [List.nodup_append] at h ⊢
  obtain ⟨h1, h2, h3⟩ := h
  rw [List.nodup_append] at h2
  obtain ⟨h4, h5, h6⟩ := h2
  refine ⟨h1, ?_, ?_⟩
  · rw [List.nodup_append]
    refine ⟨hG', h5, fun x hx y hy => ?_⟩
    rcases hsub x hx with h | h
    · exact h6 x h y hy
    · have := hlt y (by simp [hy]); omega
  · intro x hx y hy
    rcases List.mem_append.1 hy with hy | hy
    · rcases hsub y hy with h | h
      · exact h3 x hx y (List.mem_append.2 (.inl h))
      · have := hlt x (by simp [hx]); omega
    · exact h3 x hx y (List.mem_append.2 (.inr hy))

theorem sub_flatMap {l l' : List FE} (h : l.Sublist l') : (l.flatMap blks).Sublist (l'.flatMap blks) := by
  induction h with
  | slnil => exact List.Sublist.refl _
  | cons x _ ih => rw [List.flatMap_cons]; exact ih.trans (List.sublist_append_right _ _)
  | cons_cons x _ ih => rw [List.flatMap_cons, List.flatMap_cons]; exact (List.Sublist.refl _).append ih
theorem rowBlk_nodup (v : Value) : (rowBlk v).Nodup := by
  unfold rowBlk
  split <;> simp

theorem used_app (E1 E2 : List FE) : used (E1 ++ E2) = used E1 + used E2 := by simp [used]
theorem used_cons (e : FE) (E : List FE) : used (e :: E) = e.bs.length + used E := by simp [used]
theorem used_perm {E E' : List FE} (h : E.Perm E') : used E = used E' := (h.map _).sum_nat

namespace DiskAt
variable {w w' : World} {a bm most : Nat} {E : List FE}

theorem names (h : DiskAt w a most E bm) : E.Pairwise fun x y => x.name ≠ y.name := by
  obtain ⟨es, he, hp⟩ := h.map.tidy strKeyed
  unfold dOf at he
  injection he with he
  subst he
  rw [List.pairwise_map] at hp
  exact hp.imp fun h e => h (by rw [e])

theorem sorted (h : DiskAt w a most E bm) : E.Pairwise fun x y => before x.name y.name = true := by
  obtain ⟨es, he, hp, _⟩ := h.map.canon strKeyed
  unfold dOf at he
  injection he with he
  subst he
  rw [List.pairwise_map] at hp
  exact hp

theorem split {n : ByteArray} {e : FE} (h : DiskAt w a most E bm) (hl : lookE n E = some e) : ∃ E1 E2, E = E1 ++ e :: E2 ∧ (∀ x ∈ E1, x.name ≠ n) ∧ (∀ x ∈ E2, x.name ≠ n) := by
  obtain ⟨hm, hn⟩ := lookE_mem hl
  obtain ⟨E1, E2, rfl⟩ := List.append_of_mem hm
  have hp := h.names
  rw [List.pairwise_append] at hp
  obtain ⟨_, h2, h3⟩ := hp
  rw [List.pairwise_cons] at h2
  subst hn
  exact ⟨E1, E2, rfl, fun x hx => h3 x hx e (by simp), fun x hx he => h2.1 x hx he.symm⟩
end DiskAt

theorem setE_split {E1 E2 : List FE} {e x : FE} (h1 : ∀ y ∈ E1, y.name ≠ x.name) (h2 : ∀ y ∈ E2, y.name ≠ x.name) (he : e.name = x.name) : setE x (E1 ++ e :: E2) = E1 ++ x :: E2 := by
  unfold setE
  rw [List.map_append, List.map_cons, if_pos he]
  congr 1
  · conv => rhs; rw [← List.map_id E1]
    exact List.map_congr_left fun y hy => if_neg (h1 y hy)
  · congr 1
    conv => rhs; rw [← List.map_id E2]
    exact List.map_congr_left fun y hy => if_neg (h2 y hy)
theorem delE_split {E1 E2 : List FE} {e : FE} {n : ByteArray} (h1 : ∀ y ∈ E1, y.name ≠ n) (h2 : ∀ y ∈ E2, y.name ≠ n) (he : e.name = n) : delE n (E1 ++ e :: E2) = E1 ++ E2 := by
  unfold delE
  rw [List.filter_append, List.filter_cons, if_neg (by simp [he])]
  rw [List.filter_eq_self.2 (fun y hy => by simp [h1 y hy]), List.filter_eq_self.2 (fun y hy => by simp [h2 y hy])]
theorem delE_none {E : List FE} {n : ByteArray} (h : lookE n E = none) : delE n E = E := by
  unfold delE lookE at *
  rw [List.filter_eq_self]
  intro y hy
  have := List.find?_eq_none.1 h y hy
  simpa using this

namespace DiskAt
variable {w w' : World} {a bm most : Nat} {E : List FE}

/-- One file changes, in its own blocks and new ones. -/
theorem upd {n : ByteArray} {e x : FE} (h : DiskAt w a most E bm) (hl : lookE n E = some e) (hn : x.name = e.name) (hb : x.blk = e.blk) (hF : FileAt w' x)
    (hrow : ∀ k ∈ rowBlk x.sl, k ∈ rowBlk e.sl ∨ w.heap.size ≤ k) (hc : Chg (fun k => k ∈ blks e) w w') (hroom : used E - e.bs.length + x.bs.length ≤ most) : DiskAt w' a most (setE x E) bm := by
  obtain ⟨E1, E2, rfl, h1, h2⟩ := h.split hl
  obtain ⟨_, hen⟩ := lookE_mem hl
  have hxn : x.name = n := hn.trans hen
  have hset : setE x (E1 ++ e :: E2) = E1 ++ x :: E2 := setE_split (fun y hy => by rw [hxn]; exact h1 y hy) (fun y hy => by rw [hxn]; exact h2 y hy) hn.symm
  have hd : dOf (setE x (E1 ++ e :: E2)) = dOf (E1 ++ e :: E2) := by
    rw [hset]
    simp only [dOf, List.map_append, List.map_cons, hn, hb]
  have hap := h.apart
  rw [foot_eq, List.flatMap_append, List.flatMap_cons] at hap
  have hap' : ((a :: bm :: E1.flatMap blks) ++ (blks e ++ E2.flatMap blks)).Nodup := by simpa using hap
  have hlt : ∀ k ∈ (a :: bm :: E1.flatMap blks) ++ (blks e ++ E2.flatMap blks), k < w.heap.size := fun k hk => h.lt k (by rw [foot_eq, List.flatMap_append, List.flatMap_cons]; simpa using hk)
  have hout : ∀ k ∈ (a :: bm :: E1.flatMap blks) ++ E2.flatMap blks, k ∉ blks e := by
    intro k hk hke
    rw [List.nodup_append] at hap'
    obtain ⟨_, h5, h6⟩ := hap'
    rw [List.nodup_append] at h5
    rcases List.mem_append.1 hk with hk | hk
    · exact h6 k hk k (List.mem_append.2 (.inl hke)) rfl
    · exact h5.2.2 k hke k hk rfl
  have hkeep : ∀ k ∈ (a :: bm :: E1.flatMap blks) ++ E2.flatMap blks, w'.heap[k]? = w.heap[k]? := fun k hk =>
    hc.block k (hlt k ((List.mem_append.1 hk).elim (fun h => List.mem_append.2 (.inl h)) (fun h => List.mem_append.2 (.inr (List.mem_append.2 (.inr h)))))) (hout k hk)
  refine ⟨?_, ?_, ?_, ?_, h.small, ?_⟩
  · exact (hkeep a (by simp)).trans h.self
  · rw [hd, hset]
    have := ownsMap_keep h.map (hkeep bm (by simp))
    simpa using this
  · intro y hy
    rw [hset] at hy
    rcases List.mem_append.1 hy with hy | hy
    · exact (h.files y (by simp [hy])).keep fun k hk => hkeep k (List.mem_append.2 (.inl (by simp only [List.mem_cons, List.mem_flatMap]; exact .inr (.inr ⟨y, hy, hk⟩))))
    · rcases List.mem_cons.1 hy with rfl | hy
      · exact hF
      · exact (h.files y (by simp [hy])).keep fun k hk => hkeep k (List.mem_append.2 (.inr (List.mem_flatMap.2 ⟨y, hy, hk⟩)))
  · rw [hset, foot_eq, List.flatMap_append, List.flatMap_cons]
    have := nodup_swap (G' := blks x) hap' (by
      unfold blks
      rw [List.nodup_cons]
      refine ⟨fun hk => ?_, rowBlk_nodup _⟩
      rw [hb] at hk
      rcases hrow _ hk with hk | hk
      · rw [List.nodup_append] at hap'
        have h5 := hap'.2.1
        rw [List.nodup_append] at h5
        have h6 := h5.1
        unfold blks at h6
        rw [List.nodup_cons] at h6
        exact h6.1 hk
      · have := hlt e.blk (by simp [blks]); omega) (fun k hk => by
      unfold blks at hk
      rcases List.mem_cons.1 hk with hk | hk
      · exact .inl (by rw [hk, hb]; simp [blks])
      · rcases hrow k hk with hk | hk
        · exact .inl (by simp [blks, hk])
        · exact .inr hk) hlt
    simpa using this
  · rw [hset]
    rw [used_app, used_cons] at hroom ⊢
    omega

/-- A file goes: its map's block alone changes. -/
theorem del {n : ByteArray} {e : FE} (h : DiskAt w a most E bm) (hl : lookE n E = some e) (hm : w'.ownsMap Try.prog 9 ptrR bm E.length ((dOf E).del (keyL n))) (hc : Chg (fun k => k = bm) w w') :
    DiskAt w' a most (delE n E) bm ∧ (∀ k ∈ blks e, k ∉ foot a bm (delE n E)) ∧ FileAt w' e := by
  obtain ⟨E1, E2, rfl, h1, h2⟩ := h.split hl
  obtain ⟨_, hen⟩ := lookE_mem hl
  have hdel := delE_split h1 h2 hen
  have hap := h.apart
  rw [foot_eq, List.flatMap_append, List.flatMap_cons] at hap
  have hap' : ((a :: bm :: E1.flatMap blks) ++ (blks e ++ E2.flatMap blks)).Nodup := by simpa using hap
  have hlt : ∀ k ∈ (a :: bm :: E1.flatMap blks) ++ (blks e ++ E2.flatMap blks), k < w.heap.size := fun k hk => h.lt k (by rw [foot_eq, List.flatMap_append, List.flatMap_cons]; simpa using hk)
  have hne : ∀ k ∈ (E1.flatMap blks) ++ (blks e ++ E2.flatMap blks), k ≠ bm := by
    intro k hk e0
    subst e0
    have : (a :: k :: ((E1.flatMap blks) ++ (blks e ++ E2.flatMap blks))).Nodup := by simpa using hap'
    rw [List.nodup_cons, List.nodup_cons] at this
    exact this.2.1 hk
  have hab : a ≠ bm := by
    intro e0
    have : (a :: bm :: ((E1.flatMap blks) ++ (blks e ++ E2.flatMap blks))).Nodup := by simpa using hap'
    rw [List.nodup_cons] at this
    exact this.1 (by simp [e0])
  have hkeep : ∀ k ∈ (a :: E1.flatMap blks) ++ (blks e ++ E2.flatMap blks), w'.heap[k]? = w.heap[k]? := fun k hk =>
    hc.block k (hlt k (by simp at hk ⊢; rcases hk with h | h | h | h <;> simp [h])) (by
      rcases List.mem_append.1 hk with hk | hk
      · rcases List.mem_cons.1 hk with rfl | hk
        · exact hab
        · exact hne k (List.mem_append.2 (.inl hk))
      · exact hne k (List.mem_append.2 (.inr hk)))
  have hout : ∀ k ∈ blks e, k ∉ (a :: bm :: E1.flatMap blks) ++ E2.flatMap blks := by
    intro k hke hk
    rw [List.nodup_append] at hap'
    obtain ⟨_, h5, h6⟩ := hap'
    rw [List.nodup_append] at h5
    rcases List.mem_append.1 hk with hk | hk
    · exact h6 k hk k (List.mem_append.2 (.inl hke)) rfl
    · exact h5.2.2 k hke k hk rfl
  refine ⟨⟨?_, ?_, ?_, ?_, h.small, ?_⟩, ?_, ?_⟩
  · exact (hkeep a (by simp)).trans h.self
  · have := World.ownsMap.tight hm
    rw [dOf_del, dOf_size] at this
    exact this
  · intro y hy
    rw [hdel] at hy
    rcases List.mem_append.1 hy with hy | hy
    · exact (h.files y (by simp [hy])).keep fun k hk => hkeep k (List.mem_append.2 (.inl (List.mem_cons_of_mem _ (List.mem_flatMap.2 ⟨y, hy, hk⟩))))
    · exact (h.files y (by simp [hy])).keep fun k hk => hkeep k (List.mem_append.2 (.inr (List.mem_append.2 (.inr (List.mem_flatMap.2 ⟨y, hy, hk⟩)))))
  · rw [hdel, foot_eq, List.flatMap_append]
    refine List.Nodup.sublist ?_ hap'
    rw [show a :: bm :: (E1.flatMap blks ++ E2.flatMap blks) = (a :: bm :: E1.flatMap blks) ++ E2.flatMap blks from rfl]
    exact List.Sublist.append (List.Sublist.refl _) (List.sublist_append_right _ _)
  · rw [hdel]
    have := h.room
    rw [used_app, used_cons] at this
    rw [used_app]
    omega
  · intro k hk
    rw [hdel, foot_eq, List.flatMap_append]
    exact hout k hk
  · exact (h.files e (by simp)).keep fun k hk => hkeep k (List.mem_append.2 (.inr (List.mem_append.2 (.inl hk))))

/-- A file comes, in the place of whichever had its name. -/
theorem put {x : FE} {m : Nat} (h : DiskAt w a most E bm) (hm : w'.ownsMap Try.prog 9 ptrR bm m ((dOf E).put (keyL x.name) (blkD x.blk))) (hc : Chg (fun k => k = bm) w w')
    (hF : FileAt w' x) (hx : (blks x).Nodup) (hout : ∀ k ∈ blks x, k ∉ foot a bm (delE x.name E)) (hroom : used (delE x.name E) + x.bs.length ≤ most) : DiskAt w' a most (insE x (delE x.name E)) bm := by
  have hab : a ≠ bm := by
    intro e0
    have := h.apart
    rw [foot_eq, List.nodup_cons] at this
    exact this.1 (by simp [e0])
  have hne : ∀ e ∈ E, ∀ k ∈ blks e, k ≠ bm := by
    intro e he k hk e0
    subst e0
    have := h.apart
    rw [foot_eq, List.nodup_cons, List.nodup_cons] at this
    exact this.2.1 (List.mem_flatMap.2 ⟨e, he, hk⟩)
  have hlt := h.lt
  have hsub : (delE x.name E).Sublist E := List.filter_sublist
  have hapart : (foot a bm (delE x.name E)).Nodup := by
    refine List.Nodup.sublist ?_ h.apart
    rw [foot_eq, foot_eq]
    refine List.Sublist.cons_cons _ (List.Sublist.cons_cons _ ?_)
    exact sub_flatMap hsub
  refine ⟨?_, ?_, ?_, ?_, h.small, ?_⟩
  · exact (hc.block a (lt_of_block h.self) hab).trans h.self
  · have := World.ownsMap.tight hm
    rw [dOf_put, dOf_size] at this
    exact this
  · intro y hy
    rcases mem_ins.1 hy with rfl | hy
    · exact hF
    · have hy := hsub.subset hy
      exact (h.files y hy).keep fun k hk => hc.block k (hlt k (DiskAt.mem_foot.2 (.inr (.inr ⟨y, hy, List.mem_cons.1 hk⟩)))) (hne y hy k hk)
  · rw [foot_eq]
    have hp : (a :: bm :: (insE x (delE x.name E)).flatMap blks).Perm (blks x ++ (a :: bm :: (delE x.name E).flatMap blks)) := by
      have h1 : ((insE x (delE x.name E)).flatMap blks).Perm (blks x ++ (delE x.name E).flatMap blks) := by
        have := (ins_perm x (delE x.name E)).flatMap_right blks
        simpa using this
      refine ((h1.cons bm).cons a).trans ?_
      rw [show blks x ++ (a :: bm :: (delE x.name E).flatMap blks) = blks x ++ ([a, bm] ++ (delE x.name E).flatMap blks) from rfl, ← List.append_assoc]
      rw [show a :: bm :: (blks x ++ (delE x.name E).flatMap blks) = ([a, bm] ++ blks x) ++ (delE x.name E).flatMap blks from rfl]
      exact List.Perm.append_right _ List.perm_append_comm
    rw [hp.nodup_iff, List.nodup_append]
    exact ⟨hx, hapart, fun k hk y hy e0 => hout k hk (by rw [e0]; exact hy)⟩
  · rw [used_perm (ins_perm x (delE x.name E)), used_cons]
    omega
end DiskAt

end Go.Proofs.Ytoflmhdgojenpaa
