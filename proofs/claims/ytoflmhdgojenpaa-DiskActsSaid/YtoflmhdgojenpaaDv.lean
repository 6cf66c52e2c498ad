/- The law DiskSynced, walked. -/
import Derived.Test.YtoflmhdgojenpaaDu
namespace Go.Proofs.Ytoflmhdgojenpaa
open Go.RowKit Go.Maps Go.WideMaps Go.WideElems

theorem ActsAt.get {w : World} {ad : Addr} {c : Nat} {l : List ActE} (h : ActsAt w (.slice (some ad) l.length c) l) {k : Nat} (hk : k < l.length) : ActAt w l[k] ∧ (∀ (j : Nat) (u : Value), (l[k]).cells[j]? = some u → w.cell? ((ad.add (k * 6)).add j) = some u) := by
  obtain ⟨⟨A, c', he, _, _, hc⟩, hall⟩ := h
  injection he with e1 e2 e3
  subst e1
  obtain ⟨ad', hA, hcc⟩ := hc (by omega)
  injection hA with hA
  subst hA
  exact ⟨hall _ (List.getElem_mem hk), hcc k l[k] (List.getElem?_eq_getElem hk)⟩

theorem rdBlk_own {v : Value} {y : Nat} (h : y ∈ rdBlk v) : v.ownBlock = some y := by
  unfold rdBlk at h
  split at h
  · simp at h; subst h; rfl
  · cases h
theorem le_usedL {L : List FR} {f : FR} (h : f ∈ L) : f.bs.length ≤ usedL L := by
  unfold usedL
  induction L with
  | nil => cases h
  | cons x r ih =>
    simp only [List.map_cons, List.sum_cons]
    rcases List.mem_cons.1 h with rfl | h
    · omega
    · have := ih h; omega

set_option maxRecDepth 100000 in
set_option maxHeartbeats 8000000 in
theorem synced_law (av kv : Value) (l : List ActE) (ks : List Int) (w : World) (h : ActsAt w av l) (hk : SlR w kv (i64s ks)) (hkc : ∃ A c, kv = .slice A ks.length c ∧ c ≤ 9223372036854775807) (hkr : ∀ k ∈ ks, I64 k) :
    Calls Try.prog 5 #[av, kv] w (RetBool w true) := by
  have HA := Lib.hid h
  have HK := Lib.hid hk
  have HKR := Lib.hid hkr
  obtain ⟨⟨A, c, rfl, h1, h2, -⟩, -⟩ := h
  obtain ⟨B, d, rfl, h3⟩ := hkc
  obtain ⟨B', d', he, h4, -⟩ := hk
  injection he with e1 e2 e3
  subst e3
  rw [i64s_length] at h4
  clear e1 e2 hkr
  go_enter Try.func5, Try.ntmps5
  go_wp2_with fail
  refine (awake07_calls _).mono ?_
  rintro e w1 ⟨rfl, hc1⟩
  have HC1 := Lib.hid hc1
  clear hc1
  go_wp2_with fail
  refine (few_calls _ l _ (HA.out.none_ HC1.out)).mono ?_
  rintro e w2 ⟨fb, rfl, hfb, hc2⟩
  have HC2 := Lib.hid (HC1.out.trans hc2 (fun _ _ h => h))
  have HFB := Lib.hid hfb
  clear hc2 hfb
  cases fb with
  | false =>
    go_wp2_with fail
    refine (awake07_calls _).mono ?_
    rintro e w3 ⟨rfl, hc3⟩
    have HC3 := Lib.hid (HC2.out.trans hc3 (fun _ _ h => h))
    clear hc3
    go_wp2
    go_ret
    exact ⟨rfl, HC3.out⟩
  | true =>
    have HFEW := Lib.hid (HFB.out rfl)
    by_cases hbig : 100 < ks.length
    · go_wp2_with fail
      refine (awake07_calls _).mono ?_
      rintro e w3 ⟨rfl, hc3⟩
      have HC3 := Lib.hid (HC2.out.trans hc3 (fun _ _ h => h))
      clear hc3
      go_wp2
      go_ret
      exact ⟨rfl, HC3.out⟩
    · go_wp2_with fail
      refine (new_L _ _).mono ?_
      rintro e w3 ⟨a, F, rfl, hD, hc, hF⟩
      rw [show capOf 60000 = 60000 from rfl] at hD
      have HC3 := Lib.hid (HC2.out.trans hc (fun _ _ h => h))
      have HD3 := Lib.hid hD
      have HF3 := Lib.hid (fun k hk => Nat.le_trans HC2.out.size (hF k hk) : ∀ k ∈ F, w.heap.size ≤ k)
      clear hc hD hF
      unfold dptr
      go_wp2
      go_loopw [6] (fun iv wr => ∃ (k : Nat) (L : List FR) (F : List Nat), iv = .int .i64 k ∧ k ≤ l.length ∧ L.length ≤ k ∧ Dk wr a 60000 L F ∧ Chg (fun _ => False) w wr ∧ ∀ x ∈ F, w.heap.size ≤ x)
        (fun iv _ => l.length - (intOf iv).toNat)
      case atStart => exact ⟨0, [], F, rfl, Nat.zero_le _, Nat.le_refl _, HD3.out, HC3.out, HF3.out⟩
      case round =>
        obtain ⟨k, L, F', rfl, hkl, hLk, hDr, hcr, hFr⟩ := hrel
        have HD := Lib.hid hDr
        have HC := Lib.hid hcr
        have HF := Lib.hid hFr
        clear hDr hcr hFr
        by_cases hlt : k < l.length
        · obtain ⟨ad, hA⟩ : ∃ ad, A = some ad := by
            obtain ⟨⟨A', c', he, _, _, hcc⟩, _⟩ := HA.out
            injection he with e1
            obtain ⟨ad, h, _⟩ := hcc (by omega)
            exact ⟨ad, e1.trans h⟩
          subst hA
          obtain ⟨hx0, hcell⟩ := (HA.out.none_ HC.out).get hlt
          have hxm : l[k] ∈ l := List.getElem_mem hlt
          have hx00 := HA.out.all _ hxm
          generalize l[k] = x at *
          have q0 := hcell 0 (.int .i64 x.d) rfl
          have q1 := hcell 1 (.string x.name) rfl
          have q2 := hcell 2 (.string x.other) rfl
          have q3 := hcell 3 x.bv rfl
          have q4 := hcell 4 (.int .i64 x.i) rfl
          have q5 := hcell 5 x.kv rfl
          rw [add_pos _ (by omega)] at q1 q2 q3 q4 q5
          rw [show (ad.add (k * 6)).add 0 = ad.add (k * 6) from rfl] at q0
          obtain ⟨Ab, cb, hbv, -, -⟩ := hx0.b
          obtain ⟨Ak, ck, hkv, -, -⟩ := hx0.keep
          rw [hbv] at q3
          rw [hkv] at q5
          have hk0 : (k : Int) < (l.length : Int) := by omega
          have HBV := Lib.hid hbv
          have HKV := Lib.hid hkv
          have HX := Lib.hid hx0
          have HX0 := Lib.hid hx00
          have HXM := Lib.hid hxm
          clear hcell hx0 hx00 hxm hbv hkv
          go_wp2_with fail
          have hdo := do_calls HD.out x HX.out (fun y hy hyF => by
            have h1 := HF.out y hyF
            rcases List.mem_append.1 hy with hy | hy
            · have := HX0.out.b.lt y hy; omega
            · have := HX0.out.keep.lt y hy; omega) (by have := HFEW.out.len; omega) (HFEW.out.b x HXM.out).1
          unfold actV dptr at hdo
          rw [HBV.out, HKV.out, u8s_length, i64s_length] at hdo
          refine hdo.mono ?_
          intro e w5 h
          obtain ⟨rfl, F5, hD5, hc5, hF5, -, -⟩ := h.own HC.out HF.out
          have HD5 := Lib.hid hD5
          have HC5 := Lib.hid hc5
          have HF5 := Lib.hid hF5
          have hL5 := len_doL 60000 x L
          have HL5 := Lib.hid (show (doL 60000 x L).1.length ≤ k + 1 by omega)
          clear hdo h hD5 hc5 hF5 hL5
          unfold codeV
          go_wp2
          go_roundw
          case rel => exact ⟨k + 1, _, F5, by go_num, hlt, HL5.out, HD5.out, HC5.out, HF5.out⟩
          case measure => simp [intOf]; omega
        · have hk0 : ¬ (k : Int) < (l.length : Int) := by omega
          have hL : L.length ≤ 100 := by have := HFEW.out.len; omega
          clear hlt hLk
          go_wp2_with fail
          refine (copy_L HD.out (by omega)).mono ?_
          rintro e w5 ⟨a2, F2, rfl, hD2, hc5, hF2⟩
          have HD5 := Lib.hid (HD.out.none_ hc5)
          have HC5 := Lib.hid (HC.out.trans hc5 (fun _ _ h => h))
          have HE5 := Lib.hid hD2
          have HDIS : Hid (∀ y ∈ F2, y ∉ F' ∧ w.heap.size ≤ y) := Lib.hid fun y hy => ⟨fun h => by have h1 := HD.out.lt y h; have h2 := hF2 y hy; omega, Nat.le_trans HC.out.size (hF2 y hy)⟩
          have hsy : ∀ f ∈ L, f.sy ≤ f.bs.length := fun f hf => (HD.out.sy f hf).1
          have HSY := Lib.hid hsy
          clear hD2 hc5 hF2 hsy
          unfold dptr
          go_wp2_with fail
          have hkeep5 : KeepAt w5 (.slice B ks.length d) ks F' := by
            obtain ⟨B9, d9, he, h5, h6⟩ := HK.out.none_ HC5.out
            injection he with e1 e2 e3
            subst e1; subst e3
            rw [i64s_length] at h5 h6
            refine ⟨B, d, rfl, h5, by omega, HKR.out, fun h0 => ?_⟩
            obtain ⟨kd, hB, hcell⟩ := h6 h0
            refine ⟨kd, hB, fun hF => ?_, hcell⟩
            have h7 := HF.out _ hF
            have h8 := HK.out.lt kd.block (by
              rw [hB]
              obtain ⟨m, hm⟩ : ∃ m, ks.length = m + 1 := ⟨ks.length - 1, by omega⟩
              rw [hm]; simp [rdBlk])
            omega
          have A6 := crash_L HD5.out (by omega) _ ks hkeep5
          refine A6.mono ?_
          intro e w6 h
          obtain ⟨rfl, F6, hD6, hc6, hF6, hd6, he6⟩ := h.own HC5.out HF.out
          have HD6 := Lib.hid hD6
          have HC6 := Lib.hid hc6
          have HF6 := Lib.hid hF6
          have HE6 := Lib.hid (HE5.out.chg hd6 (fun y hy => (HDIS.out y hy).1))
          have HDI6 : Hid (∀ y ∈ F2, y ∉ F6 ∧ w.heap.size ≤ y) := Lib.hid fun y hy => ⟨fun h => (he6 y h).elim (HDIS.out y hy).1 (fun h => by have := HE5.out.lt y hy; omega), (HDIS.out y hy).2⟩
          have HNM : Hid ((crashL L ks).1.map (·.name) = L.map (·.name)) := Lib.hid (crash_names L ks HSY.out)
          have HLN : Hid ((crashL L ks).1.length ≤ 100) := Lib.hid (by rw [crashL_len]; exact hL)
          clear A6 h hD6 hc6 hF6 hd6 he6 hkeep5
          go_wp2_with fail
          refine (names_L HE6.out (by omega)).mono ?_
          rintro e w7 ⟨nv, rfl, hnv, hc7⟩
          have HNV := Lib.hid (ownsRow_slr hnv)
          have hnv2 := HNV.out
          obtain ⟨An, cn, hnn, -, -⟩ := hnv2
          have HD7 := Lib.hid (HD6.out.none_ hc7)
          have HE7 := Lib.hid (HE6.out.none_ hc7)
          have HC7 := Lib.hid (HC6.out.trans hc7 (fun _ _ h => h))
          have hsl : (strsV (L.map (·.name))).length = L.length := by simp [strsV]
          rw [hsl] at hnn
          subst hnn
          have HNW : Hid (∀ y ∈ rdBlk (.slice An L.length cn), y ∉ F6) := Lib.hid fun y hy h => by
            have h1 := HD6.out.lt y h
            have h2 := hnv.lt y (rdBlk_own hy)
            have h3 := h2.1
            omega
          clear hnv hc7 hsl
          go_wp2_with fail
          refine (names_L HD7.out (by have := HLN.out; omega)).mono ?_
          rw [HNM.out]
          rintro e w8 ⟨nv2, rfl, hnv, hc8⟩
          have HNV8 := Lib.hid (HNV.out.none_ hc8)
          have HNW8 := Lib.hid (ownsRow_slr hnv)
          have HD8 := Lib.hid (HD7.out.none_ hc8)
          have HE8 := Lib.hid (HE7.out.none_ hc8)
          have HC8 := Lib.hid (HC7.out.trans hc8 (fun _ _ h => h))
          clear hnv hc8
          go_wp2_with fail
          refine (strings_calls _ _ _ _ HNV8.out HNW8.out (by rw [List.length_map]; omega)).mono ?_
          rintro e w9 ⟨rfl, hc9⟩
          have HNV9 := Lib.hid (HNV8.out.none_ hc9)
          have HD9 := Lib.hid (HD8.out.none_ hc9)
          have HE9 := Lib.hid (HE8.out.none_ hc9)
          have HC9 := Lib.hid (HC8.out.trans hc9 (fun _ _ h => h))
          clear hc9
          go_wp2
          go_loopw [9] (fun iv wr => ∃ j : Nat, iv = .int .i64 j ∧ j ≤ L.length ∧ Chg (fun _ => False) w9 wr) (fun iv _ => L.length - (intOf iv).toNat)
          case atStart => exact ⟨0, rfl, Nat.zero_le _, Chg.refl _ _⟩
          case round =>
            obtain ⟨j, rfl, hj, hcj⟩ := hrel
            have HCJ := Lib.hid hcj
            clear hcj
            by_cases hlt : j < L.length
            · obtain ⟨nd, hA, hnc⟩ : ∃ nd, An = some nd ∧ ∀ i u, (strsV (L.map (·.name)))[i]? = some u → w9.cell? (nd.add i) = some u := by
                obtain ⟨A9, c9, he, -, h6⟩ := HNV9.out
                have hsl : (strsV (L.map (·.name))).length = L.length := by simp [strsV]
                rw [hsl] at he h6
                injection he with e1
                obtain ⟨nd, hA, hcc⟩ := h6 (by omega)
                exact ⟨nd, e1.trans hA, hcc⟩
              subst hA
              have hfl : L[j]? = some L[j] := List.getElem?_eq_getElem hlt
              have hnm : (L.map (·.name)).getD j ByteArray.empty = L[j].name := by simp [List.getD, hlt]
              have hcell := HCJ.out.cellF (strs_at hnc (k := j) (by simpa using hlt))
              rw [hnm] at hcell
              generalize L[j] = f at *
              have hfm : f ∈ L := List.mem_of_getElem? hfl
              obtain ⟨g, hgl, hleft⟩ := crash_get L ks HSY.out j f hfl
              have hlkf : lookL f.name L = some f := lookL_get HD.out.names hfl
              have hlkg : lookL f.name (crashL L ks).1 = some g := by
                have := lookL_get HD6.out.names hgl
                rwa [hleft.name] at this
              have hnsz : f.name.size ≤ maxLen := (HD.out.sy f hfm).2
              have r1 : readL f.name L = f.bs := by unfold readL; rw [hlkf]
              have r2 : syncedL f.name L = f.bs.take f.sy := by unfold syncedL; rw [hlkf]
              have r3 : readL f.name (crashL L ks).1 = g.bs := by unfold readL; rw [hlkg]
              have r4 : syncedL f.name (crashL L ks).1 = g.bs := by
                unfold syncedL
                rw [hlkg]
                show g.bs.take g.sy = g.bs
                rw [hleft.all]
                exact List.take_length
              have t1 : thereL f.name L = 0 := by unfold thereL; rw [hlkf]
              have t2 : thereL f.name (crashL L ks).1 = 0 := by unfold thereL; rw [hlkg]
              have HR := Lib.hid (⟨r1, r2, r3, r4, t1, t2⟩ : readL f.name L = f.bs ∧ syncedL f.name L = f.bs.take f.sy ∧ readL f.name (crashL L ks).1 = g.bs ∧ syncedL f.name (crashL L ks).1 = g.bs ∧ thereL f.name L = 0 ∧ thereL f.name (crashL L ks).1 = 0)
              have HLF := Lib.hid hleft
              have HNS := Lib.hid hnsz
              have hj0 : (j : Int) < (L.length : Int) := by omega
              have hfs := HSY.out f hfm
              have hub : f.bs.length ≤ 65536 := by
                have h1 := HE9.out.room
                have h2 := le_usedL hfm
                omega
              have HDJ := Lib.hid (HD9.out.none_ HCJ.out)
              have HEJ := Lib.hid (HE9.out.none_ HCJ.out)
              clear hnc hnm hfm hgl hleft hlkf hlkg r1 r2 r3 r4 t1 t2 hfl hnsz
              go_wp2_with fail
              have B1 := read_L HEJ.out f.name HNS.out
              rw [HR.out.1, HR.out.2.2.2.2.1] at B1
              refine B1.mono ?_
              rintro e x1 ⟨v1, rfl, hv1⟩
              have HV1 := Lib.hid hv1
              obtain ⟨A1, c1, hvv1, hl1, hm1, -⟩ := hv1.1.shape
              rw [u8s_length] at hvv1 hl1
              subst hvv1
              have HX1 := Lib.hid (HCJ.out.trans hv1.2.1 (fun _ _ h => h))
              have HDX := Lib.hid (HDJ.out.none_ hv1.2.1)
              have HEX := Lib.hid (HEJ.out.none_ hv1.2.1)
              have hcell1 := hv1.2.1.cellF hcell
              clear B1 hv1 hcell
              unfold maxLen at hm1
              go_wp2_with fail
              have B2 := synced_L HEX.out f.name HNS.out
              rw [HR.out.2.1, HR.out.2.2.2.2.1] at B2
              refine B2.mono ?_
              rintro e x2 ⟨v2, rfl, hv2⟩
              obtain ⟨A2, c2, hvv2, -⟩ := hv2.1.shape
              rw [u8s_length, List.length_take, Nat.min_eq_left hfs] at hvv2
              subst hvv2
              have HX2 := Lib.hid (HX1.out.trans hv2.2.1 (fun _ _ h => h))
              have HDX2 := Lib.hid (HDX.out.none_ hv2.2.1)
              have HV12 := Lib.hid (HV1.out.1.slr.none_ hv2.2.1)
              have hcell2 := hv2.2.1.cellF hcell1
              clear B2 hv2 hcell1
              go_wp2_with fail
              have B3 := read_L HDX2.out f.name HNS.out
              rw [HR.out.2.2.1, HR.out.2.2.2.2.2] at B3
              refine B3.mono ?_
              rintro e x3 ⟨v3, rfl, hv3⟩
              have HV3 := Lib.hid hv3.1.slr
              obtain ⟨A3, c3, hvv3, -⟩ := hv3.1.shape
              rw [u8s_length] at hvv3
              subst hvv3
              have HX3 := Lib.hid (HX2.out.trans hv3.2.1 (fun _ _ h => h))
              have HDX3 := Lib.hid (HDX2.out.none_ hv3.2.1)
              have HV13 := Lib.hid (HV12.out.none_ hv3.2.1)
              have hcell3 := hv3.2.1.cellF hcell2
              clear B3 hv3 hcell2
              go_wp2_with fail
              have B4 := synced_L HDX3.out f.name HNS.out
              rw [HR.out.2.2.2.1, HR.out.2.2.2.2.2] at B4
              refine B4.mono ?_
              rintro e x4 ⟨v4, rfl, hv4⟩
              have HV4 := Lib.hid hv4.1.slr
              have HX4 := Lib.hid (HX3.out.trans hv4.2.1 (fun _ _ h => h))
              have HV14 := Lib.hid (HV13.out.none_ hv4.2.1)
              have HV34 := Lib.hid (HV3.out.none_ hv4.2.1)
              clear B4 hv4 hcell3
              have hlo := HLF.out.lo
              have hhi := HLF.out.hi
              have n1 : ¬ (f.bs.length : Int) < (g.bs.length : Int) := by omega
              have n2 : ¬ (g.bs.length : Int) < (f.sy : Int) := by omega
              have n3 : (0 : Int) ≤ (g.bs.length : Int) := by omega
              have n4 : (g.bs.length : Int) ≤ (c1 : Int) := by omega
              have hsame : ((strOf g.bs).toList == (strOf g.bs).toList) = true := by simp
              have HCUT : Hid (SlR x4 (.slice A1 g.bs.length c1) (u8s g.bs)) := Lib.hid (by
                have := SlR.take (xs := u8s f.bs) (A := A1) (c := c1) (by rw [u8s_length]; exact HV14.out) (k := g.bs.length) (by rw [u8s_length]; exact hhi)
                rw [show (u8s f.bs).take g.bs.length = u8s g.bs from by rw [u8s, ← List.map_take, ← HLF.out.bs]; rfl] at this
                exact this)
              go_wp2_with fail
              refine (same_calls _ _ g.bs g.bs _ HV34.out HCUT.out).mono ?_
              rintro e x5 ⟨rfl, rfl⟩
              go_wp2_with fail
              refine (same_calls _ _ g.bs g.bs _ HV4.out HV34.out).mono ?_
              rintro e x5 ⟨rfl, rfl⟩
              go_wp2
              go_roundw
              case rel => exact ⟨j + 1, by go_num, hlt, HX4.out⟩
              case measure => simp [intOf]; omega
            · have hj0 : ¬ (j : Int) < (L.length : Int) := by omega
              have HD10 := Lib.hid (HD9.out.none_ HCJ.out)
              have HC10 := Lib.hid (HC9.out.trans HCJ.out (fun _ _ h => h))
              have hsy1 := crash_synced L ks HSY.out
              have hag := crash_again (crashL L ks).1 ks hsy1
              have HAG := Lib.hid hag
              have HN9 := Lib.hid (HNV9.out.none_ HCJ.out)
              clear hsy1 hag hlt
              go_wp2_with fail
              refine (copy_L HD10.out (by have := HLN.out; omega)).mono ?_
              rintro e y1 ⟨a3, F3, rfl, hE1, hc1, hF3⟩
              have HD11 := Lib.hid (HD10.out.none_ hc1)
              have HC11 := Lib.hid (HC10.out.trans hc1 (fun _ _ h => h))
              have HE11 := Lib.hid hE1
              have HDI3 : Hid (∀ y ∈ F3, y ∉ F6) := Lib.hid fun y hy h => by have h1 := HD10.out.lt y h; have h2 := hF3 y hy; omega
              have HN11 := Lib.hid (HN9.out.none_ hc1)
              clear hE1 hc1 hF3
              unfold dptr
              go_wp2_with fail
              have hkeep : KeepAt y1 (.slice B ks.length d) ks F6 := by
                obtain ⟨B9, d9, he, h5, h6⟩ := HK.out.none_ HC11.out
                injection he with e1 e2 e3
                subst e1; subst e3
                rw [i64s_length] at h5 h6
                refine ⟨B, d, rfl, h5, by omega, HKR.out, fun h0 => ?_⟩
                obtain ⟨kd, hB, hcell⟩ := h6 h0
                refine ⟨kd, hB, fun hF => ?_, hcell⟩
                have h7 := HF6.out _ hF
                have h8 := HK.out.lt kd.block (by
                  rw [hB]
                  obtain ⟨m, hm⟩ : ∃ m, ks.length = m + 1 := ⟨ks.length - 1, by omega⟩
                  rw [hm]; simp [rdBlk])
                omega
              have A6 := crash_L HD11.out (by have := HLN.out; omega) _ ks hkeep
              rw [HAG.out] at A6
              refine A6.mono ?_
              intro e y2 h
              obtain ⟨rfl, F7, hD7, hc7, hF7, hd7, -⟩ := h.own HC11.out HF6.out
              have HD12 := Lib.hid hD7
              have HC12 := Lib.hid hc7
              have HE12 := Lib.hid (HE11.out.chg hd7 HDI3.out)
              have HN12 := Lib.hid (HN11.out.chg hd7 (fun y hy h => by
                have h1 := HN9.out.lt y hy
                have h2 := HN9.out.lt
                have h3 := HNW.out y hy
                exact h3 h))
              clear A6 h hD7 hc7 hF7 hd7 hkeep
              go_wp2
              go_loopw [19] (fun iv wr => ∃ j : Nat, iv = .int .i64 j ∧ j ≤ L.length ∧ Chg (fun _ => False) y2 wr) (fun iv _ => L.length - (intOf iv).toNat)
              case atStart => exact ⟨0, rfl, Nat.zero_le _, Chg.refl _ _⟩
              case round =>
                obtain ⟨i, rfl, hi, hci⟩ := hrel
                have HCI := Lib.hid hci
                clear hci hj0
                by_cases hlt : i < L.length
                · obtain ⟨nd, hA, hnc⟩ : ∃ nd, An = some nd ∧ ∀ i u, (strsV (L.map (·.name)))[i]? = some u → y2.cell? (nd.add i) = some u := by
                    obtain ⟨A9, c9, he, -, h6⟩ := HN12.out
                    have hsl : (strsV (L.map (·.name))).length = L.length := by simp [strsV]
                    rw [hsl] at he h6
                    injection he with e1
                    obtain ⟨nd, hA, hcc⟩ := h6 (by omega)
                    exact ⟨nd, e1.trans hA, hcc⟩
                  subst hA
                  have hnm : (L.map (·.name)).getD i ByteArray.empty = L[i].name := by simp [List.getD, hlt]
                  have hcell := HCI.out.cellF (strs_at hnc (k := i) (by simpa using hlt))
                  rw [hnm] at hcell
                  have hnsz : (L[i].name).size ≤ maxLen := (HD.out.sy _ (List.getElem_mem hlt)).2
                  generalize L[i].name = nm at *
                  have HNS := Lib.hid hnsz
                  have hi0 : (i : Int) < (L.length : Int) := by omega
                  have HDI := Lib.hid (HD12.out.none_ HCI.out)
                  have HEI := Lib.hid (HE12.out.none_ HCI.out)
                  clear hnc hnm hnsz
                  go_wp2_with fail
                  refine (read_L HDI.out nm HNS.out).mono ?_
                  rintro e x1 ⟨v1, rfl, hv1⟩
                  have HV1 := Lib.hid hv1.1.slr
                  have HX1 := Lib.hid (HCI.out.trans hv1.2.1 (fun _ _ h => h))
                  have HEX := Lib.hid (HEI.out.none_ hv1.2.1)
                  have hcell1 := hv1.2.1.cellF hcell
                  clear hv1 hcell
                  go_wp2_with fail
                  refine (read_L HEX.out nm HNS.out).mono ?_
                  rintro e x2 ⟨v2, rfl, hv2⟩
                  have HV2 := Lib.hid hv2.1.slr
                  have HX2 := Lib.hid (HX1.out.trans hv2.2.1 (fun _ _ h => h))
                  have HV12 := Lib.hid (HV1.out.none_ hv2.2.1)
                  clear hv2 hcell1
                  generalize readL nm (crashL L ks).1 = bs at *
                  have hsame : ((strOf bs).toList == (strOf bs).toList) = true := by simp
                  go_wp2_with fail
                  refine (same_calls _ _ bs bs _ HV12.out HV2.out).mono ?_
                  rintro e x5 ⟨rfl, rfl⟩
                  go_wp2
                  go_roundw
                  case rel => exact ⟨i + 1, by go_num, hlt, HX2.out⟩
                  case measure => simp [intOf]; omega
                · have hi0 : ¬ (i : Int) < (L.length : Int) := by omega
                  have HC13 := Lib.hid (HC12.out.trans HCI.out (fun _ _ h => h))
                  go_wp2
                  go_ret
                  exact ⟨rfl, HC13.out⟩

end Go.Proofs.Ytoflmhdgojenpaa
