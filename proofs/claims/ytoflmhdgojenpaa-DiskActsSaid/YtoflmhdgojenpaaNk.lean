/- Do of the document's answer, whole; the law's same: a disk has these files. -/
import Derived.Test.YtoflmhdgojenpaaNj
import Derived.BigQuiet
import Derived.Deep.QuietTactic
namespace Go.Proofs.Ytoflmhdgojenpaa
open Go.RowKit Go.Maps Go.WideMaps Go.WideElems

theorem do07_calls {w : World} {v : Value} {l : List RE} {most : Nat} {x : ActE} (h : DoIn w v l most x) (h0 : 0 ≤ x.d) (h6 : x.d ≤ 6) : Calls Try.prog 21 #[v, .int .i64 most, actV x] w (RetDo w v l (doL most x (l.map RE.abs))) := by
  unfold doL
  by_cases h1 : x.d = 0
  · rw [if_pos h1]; exact do_app h h1
  rw [if_neg h1]
  by_cases h2 : x.d = 1
  · rw [if_pos h2]; exact do_sync h h2
  rw [if_neg h2]
  by_cases h3 : x.d = 2
  · rw [if_pos h3]; exact do_ren h h3
  rw [if_neg h3]
  by_cases h4 : x.d = 3
  · rw [if_pos h4]; exact do_del h h4
  rw [if_neg h4]
  by_cases h5 : x.d = 4
  · rw [if_pos h5]; exact do_turn h h5
  rw [if_neg h5]
  by_cases h7 : x.d = 6
  · rw [if_pos h7]; exact do_trim h h7
  rw [if_neg h7]
  exact do_crash h (by omega)

theorem str_refl (a : ByteArray) : (!(a.toList == a.toList)) = false := by simp
theorem same_calls' (x y : Value) (bs : List Int) (w : World) (hx : SlR w x (u8s bs)) (hy : SlR w y (u8s bs)) :
    Calls Try.prog 18 #[x, y] w fun e w' => e = .returned (.bool true) ∧ w' = w :=
  (same_calls x y bs bs w hx hy).mono fun e w' h => ⟨by rw [h.1]; simp, h.2.symm⟩

set_option maxRecDepth 100000 in
set_option maxHeartbeats 8000000 in
theorem same07_calls {w : World} {a most : Nat} {F : List Nat} {v : Value} {l : List RE} (hD : Dk w a most (l.map RE.abs) F) (hF : Fs w v l) : Calls Try.prog 23 #[dptr a, v] w (RetBool w true) := by
  have HD := Lib.hid hD
  have HF := Lib.hid hF
  obtain ⟨A, c, rfl, hcm⟩ := hF.cap
  have hfew := hF.few
  have hll : (l.map RE.abs).length = l.length := List.length_map _
  have hu : usedR l ≤ 1000000000 := by have := hD.room; unfold usedR; omega
  have HU := Lib.hid hu
  clear hD hF
  unfold dptr
  go_enter Try.func23, Try.ntmps23
  go_wp2_with fail
  refine (names_L HD.out (by omega)).mono ?_
  rintro e w1 ⟨nv, rfl, hnv, hc1⟩
  have HNV := Lib.hid (ownsRow_slr hnv)
  have hnv2 := HNV.out
  obtain ⟨An, cn, hnn, -, -⟩ := hnv2
  have hsl : (strsV ((l.map RE.abs).map (·.name))).length = l.length := by simp [strsV]
  rw [hsl] at hnn
  subst hnn
  have HC1 := Lib.hid hc1
  have HD1 := Lib.hid (HD.out.none_ hc1)
  have HF1 := Lib.hid (HF.out.none_ hc1)
  clear hnv hc1 hsl
  have hneq : ((l.length : Int) != (l.length : Int)) = false := by simp
  go_wp2_with fail
  refine (used_L HD1.out).mono ?_
  rintro e w2 ⟨rfl, hc2⟩
  have HC2 := Lib.hid (HC1.out.trans hc2 (fun _ _ h => h))
  have HD2 := Lib.hid (HD1.out.none_ hc2)
  have HF2 := Lib.hid (HF1.out.none_ hc2)
  have HNV2 := Lib.hid (HNV.out.none_ hc2)
  clear hc2 HNV
  go_wp2_with fail
  refine (used07_calls _ l _ HF2.out HU.out).mono ?_
  rintro e w3 ⟨rfl, rfl⟩
  rw [show usedL (l.map RE.abs) = usedR l from rfl]
  have hneu : ((usedR l : Int) != (usedR l : Int)) = false := by simp
  go_wp2
  go_loopw [6] (fun iv wr => ∃ j : Nat, iv = .int .i64 j ∧ j ≤ l.length ∧ Chg (fun _ => False) w3 wr) (fun iv _ => l.length - (intOf iv).toNat)
  case atStart => exact ⟨0, rfl, Nat.zero_le _, Chg.refl _ _⟩
  case round =>
    obtain ⟨j, rfl, hj, hcj⟩ := hrel
    have HCJ := Lib.hid hcj
    clear hcj
    by_cases hlt : j < l.length
    · obtain ⟨nd, hA, hnc⟩ : ∃ nd, An = some nd ∧ ∀ i u, (strsV ((l.map RE.abs).map (·.name)))[i]? = some u → w3.cell? (nd.add i) = some u := by
        obtain ⟨A9, c9, he, -, h6⟩ := HNV2.out
        have hsl : (strsV ((l.map RE.abs).map (·.name))).length = l.length := by simp [strsV]
        rw [hsl] at he h6
        injection he with e1
        obtain ⟨nd, hA, hcc⟩ := h6 (by omega)
        exact ⟨nd, e1.trans hA, hcc⟩
      subst hA
      have hfl : (l.map RE.abs)[j]? = some (l[j]).abs := by rw [List.getElem?_map, List.getElem?_eq_getElem hlt]; rfl
      have hnm : ((l.map RE.abs).map (·.name)).getD j ByteArray.empty = (l[j]).name := by simp [List.getD, hlt, RE.abs]
      have hcell := HCJ.out.cellF (strs_at hnc (k := j) (by simpa using hlt))
      rw [hnm] at hcell
      have HFJ := Lib.hid ((HF2.out.none_ HCJ.out))
      obtain ⟨ad, hA, hx, hxc⟩ := HFJ.out.get hlt
      subst hA
      have hlk : lookL (l[j]).name (l.map RE.abs) = some (l[j]).abs := lookL_get HD.out.names hfl
      generalize l[j] = f at *
      have q0 := hxc 0 (.string f.name) rfl
      have q1 := hxc 1 f.v rfl
      have q2 := hxc 2 (.int .i64 f.sy) rfl
      rw [show (ad.add (j * 3)).add 0 = ad.add (j * 3) from rfl] at q0
      rw [add_pos _ (by omega)] at q1 q2
      obtain ⟨Ak, ck, hkv', hck, -⟩ := hx.rd
      rw [u8s_length] at hkv' hck
      have HKV' := Lib.hid hkv'
      rw [hkv'] at q1
      have HX := Lib.hid hx
      have hnsz := hx.name
      have hsy := hx.sy
      have HNS := Lib.hid hnsz
      have r1 : readL f.name (l.map RE.abs) = f.bs := by unfold readL; rw [hlk]; rfl
      have r2 : syncedL f.name (l.map RE.abs) = f.bs.take f.sy := by unfold syncedL; rw [hlk]; rfl
      have t1 : thereL f.name (l.map RE.abs) = 0 := by unfold thereL; rw [hlk]
      have HR := Lib.hid (⟨r1, r2, t1⟩ : readL f.name (l.map RE.abs) = f.bs ∧ syncedL f.name (l.map RE.abs) = f.bs.take f.sy ∧ thereL f.name (l.map RE.abs) = 0)
      have HDJ := Lib.hid (HD2.out.none_ HCJ.out)
      have hj0 : (j : Int) < (l.length : Int) := by omega
      have hj1 : (0 : Int) ≤ (j : Int) := by omega
      have hs0 : (0 : Int) ≤ (f.sy : Int) := by omega
      have hs1 : (f.sy : Int) ≤ (ck : Int) := by omega
      have hst := str_refl f.name
      clear hnc hnm hfl hx hxc hlk r1 r2 t1 hkv' hnsz
      go_wp2_with fail
      have B1 := read_L HDJ.out f.name HNS.out
      rw [HR.out.1, HR.out.2.2] at B1
      refine B1.mono ?_
      rintro e x1 ⟨v1, rfl, hv1⟩
      have HV1 := Lib.hid hv1.1.slr
      obtain ⟨A1, c1, hvv1, -⟩ := hv1.1.shape
      rw [u8s_length] at hvv1
      subst hvv1
      have HX1 := Lib.hid (HCJ.out.trans hv1.2.1 (fun _ _ h => h))
      have HDX := Lib.hid (HDJ.out.none_ hv1.2.1)
      have HXX := Lib.hid (HX.out.none_ hv1.2.1)
      replace hcell := hv1.2.1.cellF hcell
      replace q0 := hv1.2.1.cellF q0
      replace q1 := hv1.2.1.cellF q1
      replace q2 := hv1.2.1.cellF q2
      clear B1 hv1
      go_wp2_with fail
      have B2 := synced_L HDX.out f.name HNS.out
      rw [HR.out.2.1, HR.out.2.2] at B2
      refine B2.mono ?_
      rintro e x2 ⟨v2, rfl, hv2⟩
      have HV2 := Lib.hid hv2.1.slr
      have HX2 := Lib.hid (HX1.out.trans hv2.2.1 (fun _ _ h => h))
      have HV12 := Lib.hid (HV1.out.none_ hv2.2.1)
      have HS1 : Hid (SlR x2 (.slice Ak f.bs.length ck) (u8s f.bs)) := Lib.hid (by have := (HXX.out.none_ hv2.2.1).rd; rw [HKV'.out] at this; exact this)
      have HS2 := Lib.hid (HS1.out.take1 (j := f.sy) hsy)
      replace hcell := hv2.2.1.cellF hcell
      replace q0 := hv2.2.1.cellF q0
      replace q1 := hv2.2.1.cellF q1
      replace q2 := hv2.2.1.cellF q2
      clear B2 hv2
      go_wp2_with fail
      go_quiet ((go_at_call 18; first
        | exact Calls.quiet_of_same (same_calls' _ _ f.bs _ (by first | exact HV12.out | exact HV12.out.none_ ((Chg.refl _ _).drewN _)) (by first | exact HS1.out | exact HS1.out.none_ ((Chg.refl _ _).drewN _)))
        | exact Calls.quiet_of_same (same_calls' _ _ (f.bs.take f.sy) _ (by first | exact HV2.out | exact HV2.out.none_ ((Chg.refl _ _).drewN _)) (by first | exact HS2.out | exact HS2.out.none_ ((Chg.refl _ _).drewN _)))))
      go_wp2
      go_roundw
      case rel => exact ⟨j + 1, by go_num, hlt, HX2.out.drewN nq⟩
      case measure => simp [intOf]; omega
    · have hj0 : ¬ (j : Int) < (l.length : Int) := by omega
      have HC9 := Lib.hid (HC2.out.trans HCJ.out (fun _ _ h => h))
      go_wp2
      go_ret
      exact ⟨rfl, HC9.out⟩

end Go.Proofs.Ytoflmhdgojenpaa
