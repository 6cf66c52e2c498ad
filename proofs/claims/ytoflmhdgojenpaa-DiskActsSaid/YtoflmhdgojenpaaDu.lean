/- Plain laws on crashes; shardlogref01.Strings over like lists. -/
import Derived.Test.YtoflmhdgojenpaaDt
namespace Go.Proofs.Ytoflmhdgojenpaa
open Go.RowKit Go.Maps Go.WideMaps Go.WideElems

theorem len_insL (x : FR) : ∀ L : List FR, (insL x L).length = L.length + 1
  | [] => rfl
  | y :: r => by
    simp only [insL]
    split
    · rfl
    · simp [len_insL x r]
theorem len_setL (x : FR) (L : List FR) : (setL x L).length = L.length := by simp [setL]
theorem len_delL (n : ByteArray) (L : List FR) : (delL n L).length ≤ L.length := List.length_filter_le _ _
theorem len_doL (most : Nat) (x : ActE) (L : List FR) : (doL most x L).1.length ≤ L.length + 1 := by
  unfold doL
  split
  · unfold appL
    split
    · exact Nat.le_succ _
    · split
      · exact Nat.le_succ _
      · split
        · simp [len_insL]
        · simp [len_setL]
  · split
    · simp only [syncL]
      split
      · exact Nat.le_succ _
      · simp [len_setL]
    · split
      · unfold renL
        split
        · split
          · exact Nat.le_succ _
          · rw [len_insL]
            have h1 := len_delL x.other (delL x.name L)
            have h2 := len_delL x.name L
            omega
        · exact Nat.le_succ _
      · split
        · simp only [deleteL]
          split
          · exact Nat.le_succ _
          · exact Nat.le_trans (len_delL _ _) (Nat.le_succ _)
        · split
          · unfold turnL
            split
            · exact Nat.le_succ _
            · split
              · exact Nat.le_succ _
              · simp [len_setL]
          · split
            · unfold trimL
              split
              · exact Nat.le_succ _
              · split
                · exact Nat.le_succ _
                · simp [len_setL]
            · rw [crashL_len]
              exact Nat.le_succ _

/-- What a crash leaves of a file. -/
structure Left (f g : FR) : Prop where
  name : g.name = f.name
  bs : g.bs = f.bs.take g.bs.length
  lo : f.sy ≤ g.bs.length
  hi : g.bs.length ≤ f.bs.length
  all : g.sy = g.bs.length
theorem crash1_left (f : FR) (ks : List Int) (h : f.sy ≤ f.bs.length) : Left f (crash1 f ks).1 := by
  unfold crash1
  split
  · rename_i he
    exact ⟨rfl, List.take_length.symm, h, Nat.le_refl _, he.symm⟩
  · split
    · refine ⟨rfl, ?_, ?_, ?_, ?_⟩ <;> simp [List.length_take, Nat.min_eq_left h]
      exact h
    · rename_i k r
      have hm : k.natAbs % (f.bs.length - f.sy + 1) < f.bs.length - f.sy + 1 := Nat.mod_lt _ (by omega)
      have hle : f.sy + k.natAbs % (f.bs.length - f.sy + 1) ≤ f.bs.length := by omega
      refine ⟨rfl, ?_, ?_, ?_, ?_⟩
      · simp [List.length_take, Nat.min_eq_left hle]
      · simp [List.length_take, Nat.min_eq_left hle]
      · simp [List.length_take]
        omega
      · simp [List.length_take, Nat.min_eq_left hle]

theorem crash_get : ∀ (L : List FR) (ks : List Int), (∀ f ∈ L, f.sy ≤ f.bs.length) → ∀ (k : Nat) (f : FR), L[k]? = some f → ∃ g, (crashL L ks).1[k]? = some g ∧ Left f g
  | [], _, _, k, f, h => by simp at h
  | x :: r, ks, hs, k, f, h => by
    cases k with
    | zero =>
      simp at h
      subst h
      exact ⟨_, rfl, crash1_left x ks (hs x (by simp))⟩
    | succ k =>
      simp at h
      obtain ⟨g, h1, h2⟩ := crash_get r (crash1 x ks).2 (fun f hf => hs f (by simp [hf])) k f h
      exact ⟨g, by simpa [crashL] using h1, h2⟩
theorem crash_names (L : List FR) (ks : List Int) (hs : ∀ f ∈ L, f.sy ≤ f.bs.length) : (crashL L ks).1.map (·.name) = L.map (·.name) := by
  induction L generalizing ks with
  | nil => rfl
  | cons x r ih =>
    simp only [crashL, List.map_cons]
    rw [ih _ (fun f hf => hs f (by simp [hf])), (crash1_left x ks (hs x (by simp))).name]
theorem crash_synced (L : List FR) (ks : List Int) (hs : ∀ f ∈ L, f.sy ≤ f.bs.length) : ∀ g ∈ (crashL L ks).1, g.sy = g.bs.length := by
  intro g hg
  obtain ⟨k, hk⟩ := List.mem_iff_getElem?.1 hg
  have hkl : k < L.length := by
    have := (List.getElem?_eq_some_iff.1 hk).1
    rwa [crashL_len] at this
  obtain ⟨g', h1, h2⟩ := crash_get L ks hs k L[k] (List.getElem?_eq_getElem hkl)
  rw [h1] at hk
  injection hk with hk
  subst hk
  exact h2.all
theorem crash_again (L : List FR) (ks : List Int) (h : ∀ g ∈ L, g.sy = g.bs.length) : (crashL L ks).1 = L := by
  induction L generalizing ks with
  | nil => rfl
  | cons x r ih =>
    have hx : crash1 x ks = (x, ks) := by unfold crash1; exact if_pos (h x (by simp)).symm
    simp only [crashL, hx]
    rw [ih _ (fun g hg => h g (by simp [hg]))]
theorem lookL_get {L : List FR} (hp : L.Pairwise fun x y => x.name ≠ y.name) {k : Nat} {f : FR} (h : L[k]? = some f) : lookL f.name L = some f := by
  obtain ⟨hk, he⟩ := List.getElem?_eq_some_iff.1 h
  have hm : f ∈ L := by rw [← he]; exact List.getElem_mem hk
  unfold lookL
  cases hl : L.find? (fun e => decide (e.name = f.name)) with
  | none =>
    have := List.find?_eq_none.1 hl f hm
    simp at this
  | some y =>
    have h1 := List.mem_of_find?_eq_some hl
    have h2 := List.find?_some hl
    simp at h2
    obtain ⟨E1, E2, rfl⟩ := List.append_of_mem hm
    rw [List.pairwise_append] at hp
    obtain ⟨_, h3, h4⟩ := hp
    rw [List.pairwise_cons] at h3
    rcases List.mem_append.1 h1 with h1 | h1
    · exact absurd h2 (h4 y h1 f (by simp))
    · rcases List.mem_cons.1 h1 with rfl | h1
      · rfl
      · exact absurd h2.symm (h3.1 y h1)

theorem ownsRow_slr {w : World} {base e n : Nat} {v : Value} {xs : List Value} (h : w.ownsRow base e 1 v n xs) : SlR w v xs := by
  have hn : xs.length = n := by simpa using h.1
  rcases h.2 with ⟨rfl, h0⟩ | ⟨g, cap, cur, rfl, h1, h2, h3, _⟩
  · refine ⟨none, 0, by rw [hn, h0], by omega, fun h => by omega⟩
  · refine ⟨_, cap, by rw [hn], by omega, fun _ => ⟨_, rfl, fun j u hu => h.cells (g := g) rfl j u hu⟩⟩

theorem strs_at {w : World} {ad : Addr} {l : List ByteArray} (hc : ∀ j u, (strsV l)[j]? = some u → w.cell? (ad.add j) = some u) {k : Nat} (hk : k < l.length) : w.cell? (ad.add k) = some (.string (l.getD k ByteArray.empty)) :=
  hc k _ (by unfold strsV; rw [List.getElem?_map, List.getElem?_eq_getElem hk]; simp [List.getD, hk])

set_option maxRecDepth 100000 in
set_option maxHeartbeats 2000000 in
theorem strings_calls (x y : Value) (l : List ByteArray) (w : World) (hx : SlR w x (strsV l)) (hy : SlR w y (strsV l)) (hlm : l.length ≤ 9223372036854775807) : Calls Try.prog 27 #[x, y] w (RetBool w true) := by
  have hl : (strsV l).length = l.length := by simp [strsV]
  obtain ⟨A, c, rfl, h1, h2⟩ := hx
  obtain ⟨B, d, rfl, h3, h4⟩ := hy
  rw [hl] at *
  have H2 := Lib.hid h2
  have H4 := Lib.hid h4
  have hneq : ((l.length : Int) != (l.length : Int)) = false := by simp
  clear h2 h4 hl
  go_enter Try.func27, Try.ntmps27
  go_wp2
  go_loopw [5] (fun iv wr => ∃ k : Nat, iv = .int .i64 k ∧ k ≤ l.length ∧ Chg (fun _ => False) w wr) (fun iv _ => l.length - (intOf iv).toNat)
  case atStart => exact ⟨0, rfl, Nat.zero_le _, Chg.refl _ _⟩
  case round =>
    obtain ⟨k, rfl, hk, hc⟩ := hrel
    have HC := Lib.hid hc
    clear hc
    by_cases hlt : k < l.length
    · obtain ⟨ad, hA, hca⟩ := H2.out (by omega)
      obtain ⟨bd, hB, hcb⟩ := H4.out (by omega)
      subst hA
      subst hB
      have ca := HC.out.cellF (strs_at hca hlt)
      have cb := HC.out.cellF (strs_at hcb hlt)
      generalize l.getD k ByteArray.empty = s at ca cb
      have hk0 : (k : Int) < (l.length : Int) := by omega
      have hs : (!(s.toList == s.toList)) = false := by simp
      clear hca hcb
      go_wp2
      go_quiet (fail)
      go_wp2
      go_roundw
      case rel => exact ⟨k + 1, by go_num, hlt, HC.out.drewN nq⟩
      case measure => simp [intOf]; omega
    · have hk0 : ¬ (k : Int) < (l.length : Int) := by omega
      go_wp2
      go_ret
      exact ⟨rfl, HC.out⟩

end Go.Proofs.Ytoflmhdgojenpaa
