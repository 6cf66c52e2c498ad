/- The law DiskActs, walked (printed by wip/gen-xnl.py). -/
import Derived.Test.YtoflmhdgojenpaaNk
namespace Go.Proofs.Ytoflmhdgojenpaa
open Go.RowKit Go.Maps Go.WideMaps Go.WideElems

theorem FsBlk.nil_ (y : Nat) : ¬ FsBlk (.slice none 0 0) [] y := by
  rintro (h | ⟨z, hz, -⟩)
  · simp [rdBlkN] at h
  · cases hz
theorem Fs.nil_ (w : World) : Fs w (.slice none 0 0) [] := ⟨SlN.empty _ _ _ _, ⟨none, 0, rfl, by unfold maxLen; omega⟩, by simp, by simp⟩
theorem Fs.chg {S : Nat → Prop} {w w' : World} {v : Value} {l : List RE} (h : Fs w v l) (hc : Chg S w w') (hS : ∀ y, FsBlk v l y → ¬ S y) : Fs w' v l :=
  ⟨h.sl.chg (by omega) hc (fun y hy => hS y (.inl hy)), h.cap, h.few, fun z hz => ⟨(h.all z hz).rd.chg hc (fun y hy => hS y (.inr ⟨z, hz, hy⟩)), (h.all z hz).sy, (h.all z hz).len, (h.all z hz).name⟩⟩
theorem Fs.lt {w : World} {v : Value} {l : List RE} (h : Fs w v l) (y : Nat) (hy : FsBlk v l y) : y < w.heap.size := by
  rcases hy with hy | ⟨z, hz, hy⟩
  · exact h.sl.lt (by omega) y hy
  · exact (h.all z hz).rd.lt y hy

set_option maxRecDepth 100000 in
set_option maxHeartbeats 8000000 in
theorem acts_law (av : Value) (c : Int) (l : List ActE) (w : World) (h : ActsAt w av l) :
    Calls Try.prog 4 #[av, .int .i64 c] w (RetBool w true) := by
  have HA := Lib.hid h
  obtain ⟨⟨A, ca, rfl, h1, h2, -⟩, -⟩ := h
  by_cases hneg : c < 0
  · have HCAP : Hid (capOf c = 0) := Lib.hid (by unfold capOf; rw [if_pos hneg])
    go_enter Try.func4, Try.ntmps4
    go_wp2_with fail
    refine (awake07_calls _).mono ?_
    rintro e w1 ⟨rfl, hc1⟩
    have HC1 := Lib.hid hc1
    clear hc1
    go_wp2_with fail
    refine (few_calls _ l _ (HA.out.none_ HC1.out)).mono ?_
    rintro e w2 ⟨fb, rfl, hfb, hc2⟩
    have HC2 := Lib.hid (HC1.out.trans hc2 (fun _ _ h => h))
    have HFB := Lib.hid hfb
    clear hc2 hfb
    cases fb with
    | false =>
      go_wp2_with fail
      refine (awake07_calls _).mono ?_
      rintro e w3 ⟨rfl, hc3⟩
      have HC3 := Lib.hid (HC2.out.trans hc3 (fun _ _ h => h))
      clear hc3
      go_wp2
      go_ret
      exact ⟨rfl, HC3.out⟩
    | true =>
      have HFEW := Lib.hid (HFB.out rfl)
      go_wp2_with fail
      refine (new_L _ _).mono ?_
      rintro e w3 ⟨a, F, rfl, hD, hc, hF⟩
      rw [HCAP.out] at hD
      have HC3 := Lib.hid (HC2.out.trans hc (fun _ _ h => h))
      have HD3 := Lib.hid hD
      have HF3 := Lib.hid (fun k hk => Nat.le_trans HC2.out.size (hF k hk) : ∀ k ∈ F, w.heap.size ≤ k)
      clear hc hD hF
      unfold dptr
      go_wp2
      go_loopw [7, 8] (fun mv iv wr => ∃ (k : Nat) (m : List RE) (F : List Nat), iv = .int .i64 k ∧ k ≤ l.length ∧ m.length ≤ k ∧ Fs wr mv m ∧ Dk wr a 0 (m.map RE.abs) F ∧ Chg (fun _ => False) w wr ∧ (∀ x ∈ F, w.heap.size ≤ x) ∧ ∀ y, FsBlk mv m y → y ∉ F)
        (fun _ iv _ => l.length - (intOf iv).toNat)
      case atStart => exact ⟨0, [], F, rfl, Nat.zero_le _, Nat.le_refl _, Fs.nil_ _, HD3.out, HC3.out, HF3.out, fun y h => absurd h (FsBlk.nil_ y)⟩
      case round =>
        obtain ⟨k, m, F', rfl, hkl, hmk, hFs, hDr, hcr, hFr, hsep⟩ := hrel
        have HD := Lib.hid hDr
        have HM := Lib.hid hFs
        have HC := Lib.hid hcr
        have HF := Lib.hid hFr
        have HSEP := Lib.hid hsep
        have HMK := Lib.hid hmk
        obtain ⟨Am, cm, rfl, -⟩ := hFs.cap
        clear hDr hcr hFr hsep hmk hFs
        by_cases hlt : k < l.length
        · obtain ⟨ad, hA⟩ : ∃ ad, A = some ad := by
            obtain ⟨⟨A', c', he, _, _, hcc⟩, _⟩ := HA.out
            injection he with e1
            obtain ⟨ad, h, _⟩ := hcc (by omega)
            exact ⟨ad, e1.trans h⟩
          subst hA
          obtain ⟨hx0, hcell⟩ := (HA.out.none_ HC.out).get hlt
          have hxm : l[k] ∈ l := List.getElem_mem hlt
          have hx00 := HA.out.all _ hxm
          generalize l[k] = x at *
          have q0 := hcell 0 (.int .i64 x.d) rfl
          have q1 := hcell 1 (.string x.name) rfl
          have q2 := hcell 2 (.string x.other) rfl
          have q3 := hcell 3 x.bv rfl
          have q4 := hcell 4 (.int .i64 x.i) rfl
          have q5 := hcell 5 x.kv rfl
          rw [add_pos _ (by omega)] at q1 q2 q3 q4 q5
          rw [show (ad.add (k * 6)).add 0 = ad.add (k * 6) from rfl] at q0
          obtain ⟨Ab, cb, hbv, -, -⟩ := hx0.b
          obtain ⟨Ak, ck, hkv, -, -⟩ := hx0.keep
          rw [hbv] at q3
          rw [hkv] at q5
          have hk0 : (k : Int) < (l.length : Int) := by omega
          have hk1 : (0 : Int) ≤ (k : Int) := by omega
          have HBV := Lib.hid hbv
          have HKV := Lib.hid hkv
          have HX := Lib.hid hx0
          have HX0 := Lib.hid hx00
          have HXM := Lib.hid hxm
          clear hcell hx0 hx00 hxm hbv hkv
          by_cases hd0 : x.d < 0
          · go_wp2
            go_ret
            exact ⟨rfl, HC.out⟩
          · by_cases hd6 : 6 < x.d
            · go_wp2
              go_ret
              exact ⟨rfl, HC.out⟩
            · have HD0 : Hid (0 ≤ x.d ∧ x.d ≤ 6) := Lib.hid (by omega)
              go_wp2_with fail
              refine (copy_L HD.out (by have := HMK.out; have := HFEW.out.len; simp; omega)).mono ?_
              rintro e w5 ⟨a2, F2, rfl, hD2, hc5, hF2⟩
              have HD5 := Lib.hid (HD.out.none_ hc5)
              have HC5 := Lib.hid (HC.out.trans hc5 (fun _ _ h => h))
              have HE5 := Lib.hid hD2
              have HDIS : Hid (∀ y ∈ F2, y ∉ F') := Lib.hid fun y hy h => by have h1 := HD.out.lt y h; have h2 := hF2 y hy; omega
              have HM5 := Lib.hid (HM.out.none_ hc5)
              have HX5 := Lib.hid (HX.out.none_ hc5)
              replace q0 := hc5.cellF q0
              replace q1 := hc5.cellF q1
              replace q2 := hc5.cellF q2
              replace q3 := hc5.cellF q3
              replace q4 := hc5.cellF q4
              replace q5 := hc5.cellF q5
              have hin : DoIn w5 (.slice Am m.length cm) m 0 x := ⟨HM5.out, HX5.out, SortR.of_map HD.out.sorted, by have := HMK.out; have := HFEW.out.len; omega, HD.out.room.1, HD.out.room.2, (HFEW.out.b x HXM.out).1, (HFEW.out.b x HXM.out).2⟩
              have hdo := do07_calls hin HD0.out.1 HD0.out.2
              unfold actV at hdo
              rw [HBV.out, HKV.out, u8s_length, i64s_length] at hdo
              have HDO := Lib.hid hdo
              clear hD2 hc5 hF2 hin hdo
              unfold dptr
              go_wp2_with fail
              refine HDO.out.mono ?_
              rintro e w6 ⟨v6, m6, rfl, hfs6, habs6, hc6, hbl6⟩
              have HABS := Lib.hid habs6
              have HM6 := Lib.hid hfs6
              have HC6 := Lib.hid (HC5.out.trans hc6 (fun _ _ h => h))
              have HD6 := Lib.hid (HD5.out.none_ hc6)
              have HE6 := Lib.hid (HE5.out.none_ hc6)
              have HW6 := Lib.hid (HM5.out.none_ hc6)
              have HX6 := Lib.hid (HX5.out.none_ hc6)
              have HSEP6 : Hid (∀ y, FsBlk v6 m6 y → y ∉ F') := Lib.hid fun y hy h => by
                rcases hbl6 y hy with h1 | h1
                · exact HSEP.out y h1 h
                · have := HD5.out.lt y h; omega
              have HL6 : Hid (m6.length ≤ k + 1) := Lib.hid (by
                have h1 := congrArg List.length habs6
                have h2 := len_doL 0 x (m.map RE.abs)
                rw [List.length_map] at h1 h2
                have := HMK.out
                omega)
              obtain ⟨A6, c6, hv6, -⟩ := hfs6.cap
              subst hv6
              replace q0 := hc6.cellF q0
              replace q1 := hc6.cellF q1
              replace q2 := hc6.cellF q2
              replace q3 := hc6.cellF q3
              replace q4 := hc6.cellF q4
              replace q5 := hc6.cellF q5
              have hdo := do_calls HD6.out x HX6.out (fun y hy hyF => by
                have h1 := HF.out y hyF
                rcases List.mem_append.1 hy with hy | hy
                · have := HX0.out.b.lt y hy; omega
                · have := HX0.out.keep.lt y hy; omega) (by have := HMK.out; have := HFEW.out.len; simp; omega) (HFEW.out.b x HXM.out).1
              unfold actV dptr codeV at hdo
              rw [HBV.out, HKV.out, u8s_length, i64s_length] at hdo
              have HDO2 := Lib.hid hdo
              clear hfs6 habs6 hc6 hbl6 HDO hdo
              generalize hcd : (doL 0 x (m.map RE.abs)).2 = cd at *
              have hcc : (cd != cd) = false := by simp
              have HCD := Lib.hid hcd
              clear hcd
              go_wp2_with fail
              refine HDO2.out.mono ?_
              intro e w7 h
              obtain ⟨rfl, F7, hD7, hc7, hF7, hd7, he7⟩ := h.own HC6.out HF.out
              have HD7 := Lib.hid hD7
              have HC7 := Lib.hid hc7
              have HF7 := Lib.hid hF7
              have HM7 := Lib.hid (HM6.out.chg hd7 HSEP6.out)
              have HW7 := Lib.hid (HW6.out.chg hd7 HSEP.out)
              have HE7 := Lib.hid (HE6.out.chg hd7 (fun y hy => HDIS.out y hy))
              have HSEP7 : Hid (∀ y, FsBlk (.slice A6 m6.length c6) m6 y → y ∉ F7) := Lib.hid fun y hy h => by
                rcases he7 y h with h1 | h1
                · exact HSEP6.out y hy h1
                · have := HM6.out.lt y hy; omega
              rw [← HABS.out] at hD7
              have HDM7 := Lib.hid hD7
              clear h hD7 hc7 hF7 hd7 he7 HDO2 q0 q1 q2 q3 q4 q5
              have S8 := same07_calls HDM7.out HM7.out
              unfold dptr at S8
              have HS8 := Lib.hid S8
              clear S8
              go_wp2_with fail
              refine HS8.out.mono ?_
              rintro e w8 ⟨rfl, hc8⟩
              have HC8 := Lib.hid (HC7.out.trans hc8 (fun _ _ h => h))
              have HD8 := Lib.hid (HDM7.out.none_ hc8)
              have HM8 := Lib.hid (HM7.out.none_ hc8)
              have S9 := same07_calls (HE7.out.none_ hc8) (HW7.out.none_ hc8)
              unfold dptr at S9
              have HS9 := Lib.hid S9
              clear hc8 HS8 S9
              go_wp2_with fail
              refine HS9.out.mono ?_
              rintro e w9 ⟨rfl, hc9⟩
              have HC9 := Lib.hid (HC8.out.trans hc9 (fun _ _ h => h))
              have HD9 := Lib.hid (HD8.out.none_ hc9)
              have HM9 := Lib.hid (HM8.out.none_ hc9)
              clear hc9 HS9
              go_wp2
              go_roundw
              case rel => exact ⟨k + 1, m6, F7, by go_num, hlt, HL6.out, HM9.out, HD9.out, HC9.out, HF7.out, HSEP7.out⟩
              case measure => simp [intOf]; omega
        · have hk0 : ¬ (k : Int) < (l.length : Int) := by omega
          have hnq : (⟨#[63]⟩ : ByteArray).size ≤ maxLen := by unfold maxLen; decide
          have HNQ := Lib.hid hnq
          clear hnq hlt
          have R1 := read_L HD.out _ HNQ.out
          unfold dptr at R1
          have HR1 := Lib.hid R1
          clear R1
          go_wp2_with fail
          refine HR1.out.mono ?_
          rintro e w5 ⟨v5, rfl, hv5⟩
          have HC5 := Lib.hid (HC.out.trans hv5.2.1 (fun _ _ h => h))
          have HM5 := Lib.hid (HM.out.none_ hv5.2.1)
          have R2 := synced_L (HD.out.none_ hv5.2.1) _ HNQ.out
          unfold dptr at R2
          have HR2 := Lib.hid R2
          clear R2 hv5 HR1
          go_wp2_with fail
          refine HR2.out.mono ?_
          rintro e w6 ⟨v6, rfl, hv6⟩
          have HC6 := Lib.hid (HC5.out.trans hv6.2.1 (fun _ _ h => h))
          have HM6 := Lib.hid (HM5.out.none_ hv6.2.1)
          clear hv6 HR2
          rcases placeR_spec (⟨#[63]⟩ : ByteArray) m with ⟨hp, hnone⟩ | ⟨j, hj, hp, -, -⟩
          · have ht : thereL (⟨#[63]⟩ : ByteArray) (m.map RE.abs) = 5 := by unfold thereL; rw [look_none hnone]
            rw [ht]
            have HFC := Lib.hid (find_calls _ m (⟨#[63]⟩ : ByteArray) _ HM6.out)
            clear hnone ht
            go_wp2_with fail
            refine HFC.out.mono ?_
            rintro e w7 ⟨rfl, hc7⟩
            have HC7 := Lib.hid (HC6.out.trans hc7 (fun _ _ h => h))
            rw [hp]
            clear hc7 HFC hp
            go_wp2
            go_ret
            exact ⟨rfl, HC7.out⟩
          · have HFC := Lib.hid (find_calls _ m (⟨#[63]⟩ : ByteArray) _ HM6.out)
            generalize thereL (⟨#[63]⟩ : ByteArray) (m.map RE.abs) = tt
            have hj0 : (0 : Int) ≤ (j : Int) := by omega
            clear hj
            go_wp2_with fail
            refine HFC.out.mono ?_
            rintro e w7 ⟨rfl, hc7⟩
            have HC7 := Lib.hid (HC6.out.trans hc7 (fun _ _ h => h))
            rw [hp]
            clear hc7 HFC hp
            go_wp2
            go_ret
            exact ⟨rfl, HC7.out⟩
  · by_cases hbig : 65536 < c
    · have HCAP : Hid (capOf c = 65536) := Lib.hid (by unfold capOf; rw [if_neg hneg, if_pos hbig])
      go_enter Try.func4, Try.ntmps4
      go_wp2_with fail
      refine (awake07_calls _).mono ?_
      rintro e w1 ⟨rfl, hc1⟩
      have HC1 := Lib.hid hc1
      clear hc1
      go_wp2_with fail
      refine (few_calls _ l _ (HA.out.none_ HC1.out)).mono ?_
      rintro e w2 ⟨fb, rfl, hfb, hc2⟩
      have HC2 := Lib.hid (HC1.out.trans hc2 (fun _ _ h => h))
      have HFB := Lib.hid hfb
      clear hc2 hfb
      cases fb with
      | false =>
        go_wp2_with fail
        refine (awake07_calls _).mono ?_
        rintro e w3 ⟨rfl, hc3⟩
        have HC3 := Lib.hid (HC2.out.trans hc3 (fun _ _ h => h))
        clear hc3
        go_wp2
        go_ret
        exact ⟨rfl, HC3.out⟩
      | true =>
        have HFEW := Lib.hid (HFB.out rfl)
        go_wp2_with fail
        refine (new_L _ _).mono ?_
        rintro e w3 ⟨a, F, rfl, hD, hc, hF⟩
        rw [HCAP.out] at hD
        have HC3 := Lib.hid (HC2.out.trans hc (fun _ _ h => h))
        have HD3 := Lib.hid hD
        have HF3 := Lib.hid (fun k hk => Nat.le_trans HC2.out.size (hF k hk) : ∀ k ∈ F, w.heap.size ≤ k)
        clear hc hD hF
        unfold dptr
        go_wp2
        go_loopw [7, 8] (fun mv iv wr => ∃ (k : Nat) (m : List RE) (F : List Nat), iv = .int .i64 k ∧ k ≤ l.length ∧ m.length ≤ k ∧ Fs wr mv m ∧ Dk wr a 65536 (m.map RE.abs) F ∧ Chg (fun _ => False) w wr ∧ (∀ x ∈ F, w.heap.size ≤ x) ∧ ∀ y, FsBlk mv m y → y ∉ F)
          (fun _ iv _ => l.length - (intOf iv).toNat)
        case atStart => exact ⟨0, [], F, rfl, Nat.zero_le _, Nat.le_refl _, Fs.nil_ _, HD3.out, HC3.out, HF3.out, fun y h => absurd h (FsBlk.nil_ y)⟩
        case round =>
          obtain ⟨k, m, F', rfl, hkl, hmk, hFs, hDr, hcr, hFr, hsep⟩ := hrel
          have HD := Lib.hid hDr
          have HM := Lib.hid hFs
          have HC := Lib.hid hcr
          have HF := Lib.hid hFr
          have HSEP := Lib.hid hsep
          have HMK := Lib.hid hmk
          obtain ⟨Am, cm, rfl, -⟩ := hFs.cap
          clear hDr hcr hFr hsep hmk hFs
          by_cases hlt : k < l.length
          · obtain ⟨ad, hA⟩ : ∃ ad, A = some ad := by
              obtain ⟨⟨A', c', he, _, _, hcc⟩, _⟩ := HA.out
              injection he with e1
              obtain ⟨ad, h, _⟩ := hcc (by omega)
              exact ⟨ad, e1.trans h⟩
            subst hA
            obtain ⟨hx0, hcell⟩ := (HA.out.none_ HC.out).get hlt
            have hxm : l[k] ∈ l := List.getElem_mem hlt
            have hx00 := HA.out.all _ hxm
            generalize l[k] = x at *
            have q0 := hcell 0 (.int .i64 x.d) rfl
            have q1 := hcell 1 (.string x.name) rfl
            have q2 := hcell 2 (.string x.other) rfl
            have q3 := hcell 3 x.bv rfl
            have q4 := hcell 4 (.int .i64 x.i) rfl
            have q5 := hcell 5 x.kv rfl
            rw [add_pos _ (by omega)] at q1 q2 q3 q4 q5
            rw [show (ad.add (k * 6)).add 0 = ad.add (k * 6) from rfl] at q0
            obtain ⟨Ab, cb, hbv, -, -⟩ := hx0.b
            obtain ⟨Ak, ck, hkv, -, -⟩ := hx0.keep
            rw [hbv] at q3
            rw [hkv] at q5
            have hk0 : (k : Int) < (l.length : Int) := by omega
            have hk1 : (0 : Int) ≤ (k : Int) := by omega
            have HBV := Lib.hid hbv
            have HKV := Lib.hid hkv
            have HX := Lib.hid hx0
            have HX0 := Lib.hid hx00
            have HXM := Lib.hid hxm
            clear hcell hx0 hx00 hxm hbv hkv
            by_cases hd0 : x.d < 0
            · go_wp2
              go_ret
              exact ⟨rfl, HC.out⟩
            · by_cases hd6 : 6 < x.d
              · go_wp2
                go_ret
                exact ⟨rfl, HC.out⟩
              · have HD0 : Hid (0 ≤ x.d ∧ x.d ≤ 6) := Lib.hid (by omega)
                go_wp2_with fail
                refine (copy_L HD.out (by have := HMK.out; have := HFEW.out.len; simp; omega)).mono ?_
                rintro e w5 ⟨a2, F2, rfl, hD2, hc5, hF2⟩
                have HD5 := Lib.hid (HD.out.none_ hc5)
                have HC5 := Lib.hid (HC.out.trans hc5 (fun _ _ h => h))
                have HE5 := Lib.hid hD2
                have HDIS : Hid (∀ y ∈ F2, y ∉ F') := Lib.hid fun y hy h => by have h1 := HD.out.lt y h; have h2 := hF2 y hy; omega
                have HM5 := Lib.hid (HM.out.none_ hc5)
                have HX5 := Lib.hid (HX.out.none_ hc5)
                replace q0 := hc5.cellF q0
                replace q1 := hc5.cellF q1
                replace q2 := hc5.cellF q2
                replace q3 := hc5.cellF q3
                replace q4 := hc5.cellF q4
                replace q5 := hc5.cellF q5
                have hin : DoIn w5 (.slice Am m.length cm) m 65536 x := ⟨HM5.out, HX5.out, SortR.of_map HD.out.sorted, by have := HMK.out; have := HFEW.out.len; omega, HD.out.room.1, HD.out.room.2, (HFEW.out.b x HXM.out).1, (HFEW.out.b x HXM.out).2⟩
                have hdo := do07_calls hin HD0.out.1 HD0.out.2
                unfold actV at hdo
                rw [HBV.out, HKV.out, u8s_length, i64s_length] at hdo
                have HDO := Lib.hid hdo
                clear hD2 hc5 hF2 hin hdo
                unfold dptr
                go_wp2_with fail
                refine HDO.out.mono ?_
                rintro e w6 ⟨v6, m6, rfl, hfs6, habs6, hc6, hbl6⟩
                have HABS := Lib.hid habs6
                have HM6 := Lib.hid hfs6
                have HC6 := Lib.hid (HC5.out.trans hc6 (fun _ _ h => h))
                have HD6 := Lib.hid (HD5.out.none_ hc6)
                have HE6 := Lib.hid (HE5.out.none_ hc6)
                have HW6 := Lib.hid (HM5.out.none_ hc6)
                have HX6 := Lib.hid (HX5.out.none_ hc6)
                have HSEP6 : Hid (∀ y, FsBlk v6 m6 y → y ∉ F') := Lib.hid fun y hy h => by
                  rcases hbl6 y hy with h1 | h1
                  · exact HSEP.out y h1 h
                  · have := HD5.out.lt y h; omega
                have HL6 : Hid (m6.length ≤ k + 1) := Lib.hid (by
                  have h1 := congrArg List.length habs6
                  have h2 := len_doL 65536 x (m.map RE.abs)
                  rw [List.length_map] at h1 h2
                  have := HMK.out
                  omega)
                obtain ⟨A6, c6, hv6, -⟩ := hfs6.cap
                subst hv6
                replace q0 := hc6.cellF q0
                replace q1 := hc6.cellF q1
                replace q2 := hc6.cellF q2
                replace q3 := hc6.cellF q3
                replace q4 := hc6.cellF q4
                replace q5 := hc6.cellF q5
                have hdo := do_calls HD6.out x HX6.out (fun y hy hyF => by
                  have h1 := HF.out y hyF
                  rcases List.mem_append.1 hy with hy | hy
                  · have := HX0.out.b.lt y hy; omega
                  · have := HX0.out.keep.lt y hy; omega) (by have := HMK.out; have := HFEW.out.len; simp; omega) (HFEW.out.b x HXM.out).1
                unfold actV dptr codeV at hdo
                rw [HBV.out, HKV.out, u8s_length, i64s_length] at hdo
                have HDO2 := Lib.hid hdo
                clear hfs6 habs6 hc6 hbl6 HDO hdo
                generalize hcd : (doL 65536 x (m.map RE.abs)).2 = cd at *
                have hcc : (cd != cd) = false := by simp
                have HCD := Lib.hid hcd
                clear hcd
                go_wp2_with fail
                refine HDO2.out.mono ?_
                intro e w7 h
                obtain ⟨rfl, F7, hD7, hc7, hF7, hd7, he7⟩ := h.own HC6.out HF.out
                have HD7 := Lib.hid hD7
                have HC7 := Lib.hid hc7
                have HF7 := Lib.hid hF7
                have HM7 := Lib.hid (HM6.out.chg hd7 HSEP6.out)
                have HW7 := Lib.hid (HW6.out.chg hd7 HSEP.out)
                have HE7 := Lib.hid (HE6.out.chg hd7 (fun y hy => HDIS.out y hy))
                have HSEP7 : Hid (∀ y, FsBlk (.slice A6 m6.length c6) m6 y → y ∉ F7) := Lib.hid fun y hy h => by
                  rcases he7 y h with h1 | h1
                  · exact HSEP6.out y hy h1
                  · have := HM6.out.lt y hy; omega
                rw [← HABS.out] at hD7
                have HDM7 := Lib.hid hD7
                clear h hD7 hc7 hF7 hd7 he7 HDO2 q0 q1 q2 q3 q4 q5
                have S8 := same07_calls HDM7.out HM7.out
                unfold dptr at S8
                have HS8 := Lib.hid S8
                clear S8
                go_wp2_with fail
                refine HS8.out.mono ?_
                rintro e w8 ⟨rfl, hc8⟩
                have HC8 := Lib.hid (HC7.out.trans hc8 (fun _ _ h => h))
                have HD8 := Lib.hid (HDM7.out.none_ hc8)
                have HM8 := Lib.hid (HM7.out.none_ hc8)
                have S9 := same07_calls (HE7.out.none_ hc8) (HW7.out.none_ hc8)
                unfold dptr at S9
                have HS9 := Lib.hid S9
                clear hc8 HS8 S9
                go_wp2_with fail
                refine HS9.out.mono ?_
                rintro e w9 ⟨rfl, hc9⟩
                have HC9 := Lib.hid (HC8.out.trans hc9 (fun _ _ h => h))
                have HD9 := Lib.hid (HD8.out.none_ hc9)
                have HM9 := Lib.hid (HM8.out.none_ hc9)
                clear hc9 HS9
                go_wp2
                go_roundw
                case rel => exact ⟨k + 1, m6, F7, by go_num, hlt, HL6.out, HM9.out, HD9.out, HC9.out, HF7.out, HSEP7.out⟩
                case measure => simp [intOf]; omega
          · have hk0 : ¬ (k : Int) < (l.length : Int) := by omega
            have hnq : (⟨#[63]⟩ : ByteArray).size ≤ maxLen := by unfold maxLen; decide
            have HNQ := Lib.hid hnq
            clear hnq hlt
            have R1 := read_L HD.out _ HNQ.out
            unfold dptr at R1
            have HR1 := Lib.hid R1
            clear R1
            go_wp2_with fail
            refine HR1.out.mono ?_
            rintro e w5 ⟨v5, rfl, hv5⟩
            have HC5 := Lib.hid (HC.out.trans hv5.2.1 (fun _ _ h => h))
            have HM5 := Lib.hid (HM.out.none_ hv5.2.1)
            have R2 := synced_L (HD.out.none_ hv5.2.1) _ HNQ.out
            unfold dptr at R2
            have HR2 := Lib.hid R2
            clear R2 hv5 HR1
            go_wp2_with fail
            refine HR2.out.mono ?_
            rintro e w6 ⟨v6, rfl, hv6⟩
            have HC6 := Lib.hid (HC5.out.trans hv6.2.1 (fun _ _ h => h))
            have HM6 := Lib.hid (HM5.out.none_ hv6.2.1)
            clear hv6 HR2
            rcases placeR_spec (⟨#[63]⟩ : ByteArray) m with ⟨hp, hnone⟩ | ⟨j, hj, hp, -, -⟩
            · have ht : thereL (⟨#[63]⟩ : ByteArray) (m.map RE.abs) = 5 := by unfold thereL; rw [look_none hnone]
              rw [ht]
              have HFC := Lib.hid (find_calls _ m (⟨#[63]⟩ : ByteArray) _ HM6.out)
              clear hnone ht
              go_wp2_with fail
              refine HFC.out.mono ?_
              rintro e w7 ⟨rfl, hc7⟩
              have HC7 := Lib.hid (HC6.out.trans hc7 (fun _ _ h => h))
              rw [hp]
              clear hc7 HFC hp
              go_wp2
              go_ret
              exact ⟨rfl, HC7.out⟩
            · have HFC := Lib.hid (find_calls _ m (⟨#[63]⟩ : ByteArray) _ HM6.out)
              generalize thereL (⟨#[63]⟩ : ByteArray) (m.map RE.abs) = tt
              have hj0 : (0 : Int) ≤ (j : Int) := by omega
              clear hj
              go_wp2_with fail
              refine HFC.out.mono ?_
              rintro e w7 ⟨rfl, hc7⟩
              have HC7 := Lib.hid (HC6.out.trans hc7 (fun _ _ h => h))
              rw [hp]
              clear hc7 HFC hp
              go_wp2
              go_ret
              exact ⟨rfl, HC7.out⟩
    · obtain ⟨mm, rfl⟩ : ∃ mm : Nat, c = (mm : Int) := ⟨c.toNat, by omega⟩
      have HCAP : Hid (capOf (mm : Int) = mm) := Lib.hid (by unfold capOf; rw [if_neg hneg, if_neg hbig]; rfl)
      go_enter Try.func4, Try.ntmps4
      go_wp2_with fail
      refine (awake07_calls _).mono ?_
      rintro e w1 ⟨rfl, hc1⟩
      have HC1 := Lib.hid hc1
      clear hc1
      go_wp2_with fail
      refine (few_calls _ l _ (HA.out.none_ HC1.out)).mono ?_
      rintro e w2 ⟨fb, rfl, hfb, hc2⟩
      have HC2 := Lib.hid (HC1.out.trans hc2 (fun _ _ h => h))
      have HFB := Lib.hid hfb
      clear hc2 hfb
      cases fb with
      | false =>
        go_wp2_with fail
        refine (awake07_calls _).mono ?_
        rintro e w3 ⟨rfl, hc3⟩
        have HC3 := Lib.hid (HC2.out.trans hc3 (fun _ _ h => h))
        clear hc3
        go_wp2
        go_ret
        exact ⟨rfl, HC3.out⟩
      | true =>
        have HFEW := Lib.hid (HFB.out rfl)
        go_wp2_with fail
        refine (new_L _ _).mono ?_
        rintro e w3 ⟨a, F, rfl, hD, hc, hF⟩
        rw [HCAP.out] at hD
        have HC3 := Lib.hid (HC2.out.trans hc (fun _ _ h => h))
        have HD3 := Lib.hid hD
        have HF3 := Lib.hid (fun k hk => Nat.le_trans HC2.out.size (hF k hk) : ∀ k ∈ F, w.heap.size ≤ k)
        clear hc hD hF
        unfold dptr
        go_wp2
        go_loopw [7, 8] (fun mv iv wr => ∃ (k : Nat) (m : List RE) (F : List Nat), iv = .int .i64 k ∧ k ≤ l.length ∧ m.length ≤ k ∧ Fs wr mv m ∧ Dk wr a mm (m.map RE.abs) F ∧ Chg (fun _ => False) w wr ∧ (∀ x ∈ F, w.heap.size ≤ x) ∧ ∀ y, FsBlk mv m y → y ∉ F)
          (fun _ iv _ => l.length - (intOf iv).toNat)
        case atStart => exact ⟨0, [], F, rfl, Nat.zero_le _, Nat.le_refl _, Fs.nil_ _, HD3.out, HC3.out, HF3.out, fun y h => absurd h (FsBlk.nil_ y)⟩
        case round =>
          obtain ⟨k, m, F', rfl, hkl, hmk, hFs, hDr, hcr, hFr, hsep⟩ := hrel
          have HD := Lib.hid hDr
          have HM := Lib.hid hFs
          have HC := Lib.hid hcr
          have HF := Lib.hid hFr
          have HSEP := Lib.hid hsep
          have HMK := Lib.hid hmk
          obtain ⟨Am, cm, rfl, -⟩ := hFs.cap
          clear hDr hcr hFr hsep hmk hFs
          by_cases hlt : k < l.length
          · obtain ⟨ad, hA⟩ : ∃ ad, A = some ad := by
              obtain ⟨⟨A', c', he, _, _, hcc⟩, _⟩ := HA.out
              injection he with e1
              obtain ⟨ad, h, _⟩ := hcc (by omega)
              exact ⟨ad, e1.trans h⟩
            subst hA
            obtain ⟨hx0, hcell⟩ := (HA.out.none_ HC.out).get hlt
            have hxm : l[k] ∈ l := List.getElem_mem hlt
            have hx00 := HA.out.all _ hxm
            generalize l[k] = x at *
            have q0 := hcell 0 (.int .i64 x.d) rfl
            have q1 := hcell 1 (.string x.name) rfl
            have q2 := hcell 2 (.string x.other) rfl
            have q3 := hcell 3 x.bv rfl
            have q4 := hcell 4 (.int .i64 x.i) rfl
            have q5 := hcell 5 x.kv rfl
            rw [add_pos _ (by omega)] at q1 q2 q3 q4 q5
            rw [show (ad.add (k * 6)).add 0 = ad.add (k * 6) from rfl] at q0
            obtain ⟨Ab, cb, hbv, -, -⟩ := hx0.b
            obtain ⟨Ak, ck, hkv, -, -⟩ := hx0.keep
            rw [hbv] at q3
            rw [hkv] at q5
            have hk0 : (k : Int) < (l.length : Int) := by omega
            have hk1 : (0 : Int) ≤ (k : Int) := by omega
            have HBV := Lib.hid hbv
            have HKV := Lib.hid hkv
            have HX := Lib.hid hx0
            have HX0 := Lib.hid hx00
            have HXM := Lib.hid hxm
            clear hcell hx0 hx00 hxm hbv hkv
            by_cases hd0 : x.d < 0
            · go_wp2
              go_ret
              exact ⟨rfl, HC.out⟩
            · by_cases hd6 : 6 < x.d
              · go_wp2
                go_ret
                exact ⟨rfl, HC.out⟩
              · have HD0 : Hid (0 ≤ x.d ∧ x.d ≤ 6) := Lib.hid (by omega)
                go_wp2_with fail
                refine (copy_L HD.out (by have := HMK.out; have := HFEW.out.len; simp; omega)).mono ?_
                rintro e w5 ⟨a2, F2, rfl, hD2, hc5, hF2⟩
                have HD5 := Lib.hid (HD.out.none_ hc5)
                have HC5 := Lib.hid (HC.out.trans hc5 (fun _ _ h => h))
                have HE5 := Lib.hid hD2
                have HDIS : Hid (∀ y ∈ F2, y ∉ F') := Lib.hid fun y hy h => by have h1 := HD.out.lt y h; have h2 := hF2 y hy; omega
                have HM5 := Lib.hid (HM.out.none_ hc5)
                have HX5 := Lib.hid (HX.out.none_ hc5)
                replace q0 := hc5.cellF q0
                replace q1 := hc5.cellF q1
                replace q2 := hc5.cellF q2
                replace q3 := hc5.cellF q3
                replace q4 := hc5.cellF q4
                replace q5 := hc5.cellF q5
                have hin : DoIn w5 (.slice Am m.length cm) m mm x := ⟨HM5.out, HX5.out, SortR.of_map HD.out.sorted, by have := HMK.out; have := HFEW.out.len; omega, HD.out.room.1, HD.out.room.2, (HFEW.out.b x HXM.out).1, (HFEW.out.b x HXM.out).2⟩
                have hdo := do07_calls hin HD0.out.1 HD0.out.2
                unfold actV at hdo
                rw [HBV.out, HKV.out, u8s_length, i64s_length] at hdo
                have HDO := Lib.hid hdo
                clear hD2 hc5 hF2 hin hdo
                unfold dptr
                go_wp2_with fail
                refine HDO.out.mono ?_
                rintro e w6 ⟨v6, m6, rfl, hfs6, habs6, hc6, hbl6⟩
                have HABS := Lib.hid habs6
                have HM6 := Lib.hid hfs6
                have HC6 := Lib.hid (HC5.out.trans hc6 (fun _ _ h => h))
                have HD6 := Lib.hid (HD5.out.none_ hc6)
                have HE6 := Lib.hid (HE5.out.none_ hc6)
                have HW6 := Lib.hid (HM5.out.none_ hc6)
                have HX6 := Lib.hid (HX5.out.none_ hc6)
                have HSEP6 : Hid (∀ y, FsBlk v6 m6 y → y ∉ F') := Lib.hid fun y hy h => by
                  rcases hbl6 y hy with h1 | h1
                  · exact HSEP.out y h1 h
                  · have := HD5.out.lt y h; omega
                have HL6 : Hid (m6.length ≤ k + 1) := Lib.hid (by
                  have h1 := congrArg List.length habs6
                  have h2 := len_doL mm x (m.map RE.abs)
                  rw [List.length_map] at h1 h2
                  have := HMK.out
                  omega)
                obtain ⟨A6, c6, hv6, -⟩ := hfs6.cap
                subst hv6
                replace q0 := hc6.cellF q0
                replace q1 := hc6.cellF q1
                replace q2 := hc6.cellF q2
                replace q3 := hc6.cellF q3
                replace q4 := hc6.cellF q4
                replace q5 := hc6.cellF q5
                have hdo := do_calls HD6.out x HX6.out (fun y hy hyF => by
                  have h1 := HF.out y hyF
                  rcases List.mem_append.1 hy with hy | hy
                  · have := HX0.out.b.lt y hy; omega
                  · have := HX0.out.keep.lt y hy; omega) (by have := HMK.out; have := HFEW.out.len; simp; omega) (HFEW.out.b x HXM.out).1
                unfold actV dptr codeV at hdo
                rw [HBV.out, HKV.out, u8s_length, i64s_length] at hdo
                have HDO2 := Lib.hid hdo
                clear hfs6 habs6 hc6 hbl6 HDO hdo
                generalize hcd : (doL mm x (m.map RE.abs)).2 = cd at *
                have hcc : (cd != cd) = false := by simp
                have HCD := Lib.hid hcd
                clear hcd
                go_wp2_with fail
                refine HDO2.out.mono ?_
                intro e w7 h
                obtain ⟨rfl, F7, hD7, hc7, hF7, hd7, he7⟩ := h.own HC6.out HF.out
                have HD7 := Lib.hid hD7
                have HC7 := Lib.hid hc7
                have HF7 := Lib.hid hF7
                have HM7 := Lib.hid (HM6.out.chg hd7 HSEP6.out)
                have HW7 := Lib.hid (HW6.out.chg hd7 HSEP.out)
                have HE7 := Lib.hid (HE6.out.chg hd7 (fun y hy => HDIS.out y hy))
                have HSEP7 : Hid (∀ y, FsBlk (.slice A6 m6.length c6) m6 y → y ∉ F7) := Lib.hid fun y hy h => by
                  rcases he7 y h with h1 | h1
                  · exact HSEP6.out y hy h1
                  · have := HM6.out.lt y hy; omega
                rw [← HABS.out] at hD7
                have HDM7 := Lib.hid hD7
                clear h hD7 hc7 hF7 hd7 he7 HDO2 q0 q1 q2 q3 q4 q5
                have S8 := same07_calls HDM7.out HM7.out
                unfold dptr at S8
                have HS8 := Lib.hid S8
                clear S8
                go_wp2_with fail
                refine HS8.out.mono ?_
                rintro e w8 ⟨rfl, hc8⟩
                have HC8 := Lib.hid (HC7.out.trans hc8 (fun _ _ h => h))
                have HD8 := Lib.hid (HDM7.out.none_ hc8)
                have HM8 := Lib.hid (HM7.out.none_ hc8)
                have S9 := same07_calls (HE7.out.none_ hc8) (HW7.out.none_ hc8)
                unfold dptr at S9
                have HS9 := Lib.hid S9
                clear hc8 HS8 S9
                go_wp2_with fail
                refine HS9.out.mono ?_
                rintro e w9 ⟨rfl, hc9⟩
                have HC9 := Lib.hid (HC8.out.trans hc9 (fun _ _ h => h))
                have HD9 := Lib.hid (HD8.out.none_ hc9)
                have HM9 := Lib.hid (HM8.out.none_ hc9)
                clear hc9 HS9
                go_wp2
                go_roundw
                case rel => exact ⟨k + 1, m6, F7, by go_num, hlt, HL6.out, HM9.out, HD9.out, HC9.out, HF7.out, HSEP7.out⟩
                case measure => simp [intOf]; omega
          · have hk0 : ¬ (k : Int) < (l.length : Int) := by omega
            have hnq : (⟨#[63]⟩ : ByteArray).size ≤ maxLen := by unfold maxLen; decide
            have HNQ := Lib.hid hnq
            clear hnq hlt
            have R1 := read_L HD.out _ HNQ.out
            unfold dptr at R1
            have HR1 := Lib.hid R1
            clear R1
            go_wp2_with fail
            refine HR1.out.mono ?_
            rintro e w5 ⟨v5, rfl, hv5⟩
            have HC5 := Lib.hid (HC.out.trans hv5.2.1 (fun _ _ h => h))
            have HM5 := Lib.hid (HM.out.none_ hv5.2.1)
            have R2 := synced_L (HD.out.none_ hv5.2.1) _ HNQ.out
            unfold dptr at R2
            have HR2 := Lib.hid R2
            clear R2 hv5 HR1
            go_wp2_with fail
            refine HR2.out.mono ?_
            rintro e w6 ⟨v6, rfl, hv6⟩
            have HC6 := Lib.hid (HC5.out.trans hv6.2.1 (fun _ _ h => h))
            have HM6 := Lib.hid (HM5.out.none_ hv6.2.1)
            clear hv6 HR2
            rcases placeR_spec (⟨#[63]⟩ : ByteArray) m with ⟨hp, hnone⟩ | ⟨j, hj, hp, -, -⟩
            · have ht : thereL (⟨#[63]⟩ : ByteArray) (m.map RE.abs) = 5 := by unfold thereL; rw [look_none hnone]
              rw [ht]
              have HFC := Lib.hid (find_calls _ m (⟨#[63]⟩ : ByteArray) _ HM6.out)
              clear hnone ht
              go_wp2_with fail
              refine HFC.out.mono ?_
              rintro e w7 ⟨rfl, hc7⟩
              have HC7 := Lib.hid (HC6.out.trans hc7 (fun _ _ h => h))
              rw [hp]
              clear hc7 HFC hp
              go_wp2
              go_ret
              exact ⟨rfl, HC7.out⟩
            · have HFC := Lib.hid (find_calls _ m (⟨#[63]⟩ : ByteArray) _ HM6.out)
              generalize thereL (⟨#[63]⟩ : ByteArray) (m.map RE.abs) = tt
              have hj0 : (0 : Int) ≤ (j : Int) := by omega
              clear hj
              go_wp2_with fail
              refine HFC.out.mono ?_
              rintro e w7 ⟨rfl, hc7⟩
              have HC7 := Lib.hid (HC6.out.trans hc7 (fun _ _ h => h))
              rw [hp]
              clear hc7 HFC hp
              go_wp2
              go_ret
              exact ⟨rfl, HC7.out⟩

end Go.Proofs.Ytoflmhdgojenpaa
