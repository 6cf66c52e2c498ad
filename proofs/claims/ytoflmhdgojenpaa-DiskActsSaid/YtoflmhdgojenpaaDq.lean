/- The law's awake, over disks, and shardlogref01.Same. -/
import Derived.Test.YtoflmhdgojenpaaDp
import Derived.Lib.SlBytesConst
namespace Go.Proofs.Ytoflmhdgojenpaa
open Go.RowKit Go.Maps Go.WideMaps Go.WideElems

theorem cell_new (w : World) (C : Array Value) (t : Nat) (m : Nat × Nat) (j : Nat) : (w.alloc (.cells C t m)).cell? ⟨w.heap.size, j, none⟩ = C[j]? :=
  cell_of_row (w.alloc (.cells C t m)) w.heap.size j C t m (heap_alloc_new w _)
theorem arg_new {w : World} {F : List Nat} (hF : ∀ k ∈ F, k < w.heap.size) (bs : List Int) (t : Nat) (m : Nat × Nat) (c : Nat) (hc : bs.length ≤ c) : ArgOk (w.alloc (.cells (u8s bs).toArray t m)) (.slice (some ⟨w.heap.size, 0, none⟩) bs.length c) bs F := by
  refine ⟨⟨some ⟨w.heap.size, 0, none⟩, c, by rw [u8s_length], by rw [u8s_length]; exact hc, fun h => ⟨_, rfl, fun j u hu => ?_⟩⟩, fun k hk hF' => ?_⟩
  · rw [show ((⟨w.heap.size, 0, none⟩ : Addr).add j) = ⟨w.heap.size, j, none⟩ from by unfold Addr.add; split <;> simp_all, cell_new]
    simpa using hu
  · have := hF k hF'
    cases hb : bs.length with
    | zero => rw [hb] at hk; simp [rdBlk] at hk
    | succ n => rw [hb] at hk; simp [rdBlk] at hk; omega
theorem keep_new {w : World} {F : List Nat} (hF : ∀ k ∈ F, k < w.heap.size) (ks : List Int) (t : Nat) (m : Nat × Nat) (hk : ∀ k ∈ ks, -9223372036854775808 ≤ k ∧ k ≤ 9223372036854775807) (hl : ks.length ≤ 9223372036854775807) :
    KeepAt (w.alloc (.cells (i64s ks).toArray t m)) (.slice (some ⟨w.heap.size, 0, none⟩) ks.length ks.length) ks F := by
  refine ⟨_, _, rfl, Nat.le_refl _, hl, hk, fun h => ⟨_, rfl, fun h => Nat.lt_irrefl _ (hF _ h), fun j u hu => ?_⟩⟩
  rw [show ((⟨w.heap.size, 0, none⟩ : Addr).add j) = ⟨w.heap.size, j, none⟩ from by unfold Addr.add; split <;> simp_all, cell_new]
  simpa using hu

def RetBool (w : World) (b : Bool) (e : Ending) (w' : World) : Prop := e = .returned (.bool b) ∧ Chg (fun _ => False) w w'

set_option maxHeartbeats 400000 in
theorem same_calls (x y : Value) (bs cs : List Int) (w : World) (hx : SlR w x (u8s bs)) (hy : SlR w y (u8s cs)) :
    Calls Try.prog 18 #[x, y] w fun e w' => e = .returned (.bool ((strOf bs).toList == (strOf cs).toList)) ∧ w = w' := by
  have h1 := str_run hx
  have h2 := str_run hy
  go_enter Try.func18, Try.ntmps18
  go_wp2
  go_ret
  exact ⟨rfl, rfl⟩

/-- What a call that changes a disk leaves, seen from the world in which all began: the disk is of its own since then. -/
theorem MutL.own {w0 w w' : World} {a most : Nat} {F : List Nat} {L : List FR} {ret : Value} {e : Ending} (h : MutL w a most F L ret e w') (hc : Chg (fun _ => False) w0 w) (hF : ∀ k ∈ F, w0.heap.size ≤ k) :
    e = .returned ret ∧ ∃ F', Dk w' a most L F' ∧ Chg (fun _ => False) w0 w' ∧ (∀ k ∈ F', w0.heap.size ≤ k) ∧ Chg (fun k => k ∈ F) w w' ∧ (∀ k ∈ F', k ∈ F ∨ w.heap.size ≤ k) := by
  obtain ⟨F', he, hD, h1, h2⟩ := h
  refine ⟨he, F', hD, hc.trans h1 (fun k hk hkF => by have := hF k hkF; omega), fun k hk => ?_, h1, h2⟩
  rcases h2 k hk with h | h
  · exact hF k h
  · exact Nat.le_trans hc.size h

def nA : ByteArray := ⟨#[97]⟩
def nB : ByteArray := ⟨#[98]⟩
def nQ : ByteArray := ⟨#[113]⟩

set_option maxRecDepth 100000 in
set_option maxHeartbeats 4000000 in
theorem awake07_calls (w : World) : Calls Try.prog 12 #[] w (RetBool w true) := by
  have kc := fun (w : World) (C : Array Value) (n c : Nat) => Lib.run_convert_bytes_const (P := Try.prog) w 22 5 C n c Try.underlying22 Try.underlying5
  have e1 : appL 10 nA [120, 121, 122] [] = ([⟨nA, [120, 121, 122], 0⟩], 0) := rfl
  have e2 : (syncL nA [⟨nA, [120, 121, 122], 0⟩] = [⟨nA, [120, 121, 122], 3⟩]) := rfl
  have e3 : (thereL nA [⟨nA, [120, 121, 122], 0⟩] = 0) := rfl
  have e4 : appL 10 nA [109, 111, 114, 101] [⟨nA, [120, 121, 122], 3⟩] = ([⟨nA, [120, 121, 122, 109, 111, 114, 101], 3⟩], 0) := rfl
  have e5 : appL 10 nB [109, 111, 114, 101] [⟨nA, [120, 121, 122, 109, 111, 114, 101], 3⟩] = ([⟨nA, [120, 121, 122, 109, 111, 114, 101], 3⟩], 4) := rfl
  have e6 : syncedL nA [⟨nA, [120, 121, 122, 109, 111, 114, 101], 3⟩] = [120, 121, 122] := rfl
  have e7 : (crashL [⟨nA, [120, 121, 122, 109, 111, 114, 101], 3⟩] [2]).1 = [⟨nA, [120, 121, 122, 109, 111], 5⟩] := rfl
  have e8 : readL nA [⟨nA, [120, 121, 122, 109, 111], 5⟩] = [120, 121, 122, 109, 111] := rfl
  have e9 : thereL nA [⟨nA, [120, 121, 122, 109, 111], 5⟩] = 0 := rfl
  have e10 : thereL nQ [⟨nA, [120, 121, 122, 109, 111], 5⟩] = 5 := rfl
  have E1 := Lib.hid e1
  have E2 := Lib.hid e2
  have E3 := Lib.hid e3
  have E4 := Lib.hid e4
  have E5 := Lib.hid e5
  have E6 := Lib.hid e6
  have E7 := Lib.hid e7
  have E8 := Lib.hid e8
  have E9 := Lib.hid e9
  have E10 := Lib.hid e10
  clear e1 e2 e3 e4 e5 e6 e7 e8 e9 e10
  have hn : (1 : Nat) ≤ maxLen := by unfold maxLen; omega
  go_enter Try.func12, Try.ntmps12
  go_wp2_with fail
  refine (new_L _ _).mono ?_
  rintro e w1 ⟨a, F, rfl, hD, hc, hF⟩
  unfold dptr
  have HC := Lib.hid hc
  have HD := Lib.hid hD
  have HF := Lib.hid hF
  clear hc hD hF
  go_wp2_with fail
  have A1 := append_L (HD.out.none_ ((Chg.refl _ _).alloc _)) nA _ [120, 121, 122] (arg_new HD.out.lt [120, 121, 122] 5 (3, 4) 3 (by decide)) (by decide) (by decide)
  rw [show capOf 10 = 10 from rfl, E1.out] at A1
  refine A1.mono ?_
  intro e w2 h
  obtain ⟨rfl, F2, hD2, hc2, hF2, _, _⟩ := h.own (HC.out.alloc _) HF.out
  clear A1 h
  have HC2 := Lib.hid hc2
  have HD2 := Lib.hid hD2
  have HF2 := Lib.hid hF2
  clear hc2 hD2 hF2
  unfold codeV
  go_wp2_with fail
  have A2 := sync_L HD2.out nA hn
  rw [E2.out, E3.out] at A2
  refine A2.mono ?_
  intro e w3 h
  obtain ⟨rfl, F3, hD3, hc3, hF3, _, _⟩ := h.own HC2.out HF2.out
  clear A2 h
  have HC3 := Lib.hid hc3
  have HD3 := Lib.hid hD3
  have HF3 := Lib.hid hF3
  clear hc3 hD3 hF3
  unfold codeV
  go_wp2_with fail
  have A3 := append_L (HD3.out.none_ ((Chg.refl _ _).alloc _)) nA _ [109, 111, 114, 101] (arg_new HD3.out.lt [109, 111, 114, 101] 5 (4, 5) 4 (by decide)) (by decide) (by decide)
  rw [E4.out] at A3
  refine A3.mono ?_
  intro e w4 h
  obtain ⟨rfl, F4, hD4, hc4, hF4, _, _⟩ := h.own (HC3.out.alloc _) HF3.out
  clear A3 h
  have HC4 := Lib.hid hc4
  have HD4 := Lib.hid hD4
  have HF4 := Lib.hid hF4
  clear hc4 hD4 hF4
  unfold codeV
  go_wp2_with fail
  have A4 := append_L (HD4.out.none_ ((Chg.refl _ _).alloc _)) nB _ [109, 111, 114, 101] (arg_new HD4.out.lt [109, 111, 114, 101] 5 (4, 5) 4 (by decide)) (by decide) (by decide)
  rw [E5.out] at A4
  refine A4.mono ?_
  intro e w5 h
  obtain ⟨rfl, F5, hD5, hc5, hF5, _, _⟩ := h.own (HC4.out.alloc _) HF4.out
  clear A4 h
  have HC5 := Lib.hid hc5
  have HD5 := Lib.hid hD5
  have HF5 := Lib.hid hF5
  clear hc5 hD5 hF5
  unfold codeV
  go_wp2_with fail
  have A5 := synced_L HD5.out nA hn
  rw [E6.out, show thereL nA [⟨nA, [120, 121, 122, 109, 111, 114, 101], 3⟩] = 0 from rfl] at A5
  refine A5.mono ?_
  rintro e w6 ⟨v, rfl, hv⟩
  have HD6 := Lib.hid (HD5.out.none_ hv.2.1)
  have HC6 := Lib.hid (HC5.out.trans hv.2.1 (fun _ _ h => h))
  have HV := Lib.hid hv
  clear A5 hv
  go_wp2_with fail
  have A6 := crash_L (HD6.out.none_ ((Chg.refl _ _).alloc _)) (by decide) _ [2] (keep_new HD6.out.lt [2] 3 (0, 0) (by decide) (by decide))
  rw [E7.out] at A6
  refine A6.mono ?_
  intro e w7 h
  obtain ⟨rfl, F7, hD7, hc7, hF7, hd7, _⟩ := h.own (HC6.out.alloc _) HF5.out
  clear A6 h
  have HC7 := Lib.hid hc7
  have HD7 := Lib.hid hD7
  have HF7 := Lib.hid hF7
  have hvr : ∀ k ∈ rowBlk v, w5.heap.size ≤ k := HV.out.2.2
  have hv7 : Row1 w7 5 v (u8s [120, 121, 122]) := HV.out.1.keep fun k hk => by
    have h1 := HV.out.1.lt k hk
    refine (hd7.block k (by simp; omega) (fun hkF => ?_)).trans (Below.heap_alloc w6 _ k h1)
    have := HD5.out.lt k hkF
    have := hvr k hk
    omega
  have HV7 := Lib.hid hv7
  clear hc7 hD7 hF7 hd7 hvr hv7
  go_wp2_with fail
  have A7 := read_L HD7.out nA hn
  rw [E8.out, E9.out] at A7
  refine A7.mono ?_
  rintro e w8 ⟨u, rfl, hu⟩
  have HD8 := Lib.hid (HD7.out.none_ hu.2.1)
  have HC8 := Lib.hid (HC7.out.trans hu.2.1 (fun _ _ h => h))
  have hv8 : Row1 w8 5 v (u8s [120, 121, 122]) := HV7.out.keep fun k hk => hu.2.1.block k (HV7.out.lt k hk) (fun h => h)
  have s1 : (convert 22 9 v).run Try.prog w8 = .ok (.string ⟨#[120, 121, 122]⟩) w8 := str_run hv8.slr
  have s2 : (convert 22 9 u).run Try.prog w8 = .ok (.string ⟨#[120, 121, 122, 109, 111]⟩) w8 := str_run hu.1.slr
  have t1 : ((⟨#[120, 121, 122]⟩ : ByteArray).toList == (⟨#[120, 121, 122]⟩ : ByteArray).toList) = true := by simp
  have t2 : ((⟨#[120, 121, 122, 109, 111]⟩ : ByteArray).toList == (⟨#[120, 121, 122, 109, 111]⟩ : ByteArray).toList) = true := by simp
  clear A7 hu hv8
  go_wp2_with fail
  refine (used_L HD8.out).mono ?_
  rintro e w9 ⟨rfl, h9⟩
  have HD9 := Lib.hid (HD8.out.none_ h9)
  have HC9 := Lib.hid (HC8.out.trans h9 (fun _ _ h => h))
  have hu5 : ((usedL [⟨nA, [120, 121, 122, 109, 111], 5⟩] : Nat) : Int) = 5 := rfl
  rw [hu5]
  clear h9 s1 s2 hu5
  go_wp2_with fail
  refine (names_L HD9.out (by decide)).mono ?_
  rintro e w10 ⟨nv, rfl, hnv, h10⟩
  obtain ⟨A, c, hnn⟩ : ∃ A c, nv = .slice A 1 c := by
    rcases hnv.2 with ⟨rfl, h⟩ | ⟨g, cap, cur, h, _⟩
    · simp at h
    · exact ⟨_, _, h⟩
  subst hnn
  have HD10 := Lib.hid (HD9.out.none_ h10)
  have HC10 := Lib.hid (HC9.out.trans h10 (fun _ _ h => h))
  clear h10 hnv
  go_wp2_with fail
  have A9 := delete_L HD10.out nQ hn
  rw [E10.out] at A9
  refine A9.mono ?_
  intro e w11 h
  obtain ⟨rfl, F11, hD11, hc11, hF11, _, _⟩ := h.own HC10.out HF7.out
  have HC11 := Lib.hid hc11
  clear A9 h hc11 hD11 hF11
  unfold codeV
  go_wp2
  go_ret
  exact ⟨rfl, HC11.out⟩

end Go.Proofs.Ytoflmhdgojenpaa
