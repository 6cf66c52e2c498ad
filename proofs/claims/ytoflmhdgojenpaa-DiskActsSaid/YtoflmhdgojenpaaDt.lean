/- The law's do: an act, done. -/
import Derived.Test.YtoflmhdgojenpaaDs
namespace Go.Proofs.Ytoflmhdgojenpaa
open Go.RowKit Go.Maps Go.WideMaps Go.WideElems

def doL (most : Nat) (x : ActE) (L : List FR) : List FR × Int :=
  if x.d = 0 then appL most x.name x.b L
  else if x.d = 1 then (syncL x.name L, thereL x.name L)
  else if x.d = 2 then renL x.name x.other L
  else if x.d = 3 then (deleteL x.name L, thereL x.name L)
  else if x.d = 4 then turnL x.name x.i (((x.b.length : Int) + 1) % 256) L
  else if x.d = 6 then trimL x.name x.i L
  else ((crashL L x.keep).1, 0)

theorem ActAt.keepAt {w : World} {x : ActE} {F : List Nat} (h : ActAt w x) (hF : ∀ k ∈ rdBlk x.kv, k ∉ F) : KeepAt w x.kv x.keep F := by
  obtain ⟨A, c, hv, h1, h2⟩ := h.keep
  obtain ⟨A', c', hv', hc⟩ := h.kcap
  rw [i64s_length] at hv h1 h2
  have e := hv.symm.trans hv'
  injection e with e1 e2 e3
  subst e3
  refine ⟨A, c, hv, h1, by omega, h.rng, fun h0 => ?_⟩
  obtain ⟨ad, hA, hcell⟩ := h2 h0
  refine ⟨ad, hA, hF ad.block ?_, hcell⟩
  rw [hv, hA]
  obtain ⟨m, hm⟩ : ∃ m, x.keep.length = m + 1 := ⟨x.keep.length - 1, by omega⟩
  rw [hm]
  simp [rdBlk]

def actV (x : ActE) : Value := .agg #[.int .i64 x.d, .string x.name, .string x.other, x.bv, .int .i64 x.i, x.kv]

theorem MutL.from {w w1 w' : World} {a most : Nat} {F : List Nat} {L : List FR} {ret : Value} {e : Ending} (h : MutL w1 a most F L ret e w') (hc : Chg (fun _ => False) w w1) : MutL w a most F L ret e w' := by
  obtain ⟨F', h1, h2, h3, h4⟩ := h
  exact ⟨F', h1, h2, (hc.mono (fun _ _ hf => hf.elim)).trans h3 (fun _ _ h => h), fun k hk => (h4 k hk).imp id (fun h => Nat.le_trans hc.size h)⟩

set_option maxRecDepth 100000 in
set_option maxHeartbeats 4000000 in
theorem do_calls {w : World} {a most : Nat} {L : List FR} {F : List Nat} (hD : Dk w a most L F) (x : ActE) (hx : ActAt w x) (ho : ∀ k ∈ rdBlk x.bv ++ rdBlk x.kv, k ∉ F) (hL : L.length ≤ 1000000) (hb : x.b.length ≤ 5000) :
    Calls Try.prog 22 #[dptr a, actV x] w (MutL w a most F (doL most x L).1 (codeV (doL most x L).2)) := by
  obtain ⟨A1, c1, hbv, -, -⟩ := hx.b
  obtain ⟨A2, c2, hkv, -, -⟩ := hx.keep
  rw [u8s_length] at hbv
  rw [i64s_length] at hkv
  have hal := fun o => (Chg.refl (fun _ => False) w).alloc o
  have HX := fun o => Lib.hid (hx.none_ (hal o))
  have HD := fun o => Lib.hid (hD.none_ (hal o))
  have HAL := Lib.hid hal
  have HO := Lib.hid ho
  have HBV := Lib.hid hbv
  have HKV := Lib.hid hkv
  have hLm : L.length < maxLen := by unfold maxLen; omega
  have HARG : Hid (∀ o, ArgOk (w.alloc o) x.bv x.b F) := Lib.hid fun o => ⟨(HX o).out.b, fun k hk => ho k (List.mem_append.2 (.inl hk))⟩
  have HKEEP : Hid (∀ o, KeepAt (w.alloc o) x.kv x.keep F) := Lib.hid fun o => (HX o).out.keepAt fun k hk => ho k (List.mem_append.2 (.inr hk))
  have HNM := Lib.hid hx.name
  have HOT := Lib.hid hx.other
  rw [hbv] at HARG
  rw [hkv] at HKEEP
  unfold actV dptr
  rw [hbv, hkv]
  clear hal hx hD ho hbv hkv
  unfold doL
  by_cases h0 : x.d = 0
  · rw [if_pos h0, h0]
    clear h0
    go_enter Try.func22, Try.ntmps22
    go_wp2_with fail
    refine (append_L (HD _).out x.name _ x.b (HARG.out _) hLm (by omega)).mono ?_
    intro e w1 h
    have hm := h.from (HAL.out _)
    obtain ⟨F', rfl, -⟩ := h
    have HM := Lib.hid hm
    clear hm
    unfold codeV at *
    go_wp2
    go_ret
    exact HM.out
  · rw [if_neg h0]
    have b0 : (x.d == 0) = false := by simpa using h0
    clear h0
    by_cases h1 : x.d = 1
    · rw [if_pos h1, h1]
      clear h1 b0
      go_enter Try.func22, Try.ntmps22
      go_wp2_with fail
      refine (sync_L (HD _).out x.name HNM.out).mono ?_
      intro e w1 h
      have hm := h.from (HAL.out _)
      obtain ⟨F', rfl, -⟩ := h
      have HM := Lib.hid hm
      clear hm
      unfold codeV at *
      go_wp2
      go_ret
      exact HM.out
    · rw [if_neg h1]
      have b1 : (x.d == 1) = false := by simpa using h1
      clear h1
      by_cases h2 : x.d = 2
      · rw [if_pos h2, h2]
        clear h2 b0 b1
        go_enter Try.func22, Try.ntmps22
        go_wp2_with fail
        refine (rename_L (HD _).out x.name x.other HNM.out hLm).mono ?_
        intro e w1 h
        have hm := h.from (HAL.out _)
        obtain ⟨F', rfl, -⟩ := h
        have HM := Lib.hid hm
        clear hm
        unfold codeV at *
        go_wp2
        go_ret
        exact HM.out
      · rw [if_neg h2]
        have b2 : (x.d == 2) = false := by simpa using h2
        clear h2
        by_cases h3 : x.d = 3
        · rw [if_pos h3, h3]
          clear h3 b0 b1 b2
          go_enter Try.func22, Try.ntmps22
          go_wp2_with fail
          refine (delete_L (HD _).out x.name HNM.out).mono ?_
          intro e w1 h
          have hm := h.from (HAL.out _)
          obtain ⟨F', rfl, -⟩ := h
          have HM := Lib.hid hm
          clear hm
          unfold codeV at *
          go_wp2
          go_ret
          exact HM.out
        · rw [if_neg h3]
          have b3 : (x.d == 3) = false := by simpa using h3
          clear h3
          by_cases h4 : x.d = 4
          · rw [if_pos h4, h4]
            clear h4 b0 b1 b2 b3
            have hby : IntKind.u8.wrap ((x.b.length : Int) + 1) = ((x.b.length : Int) + 1) % 256 := IntKind.wrap_u8 _
            go_enter Try.func22, Try.ntmps22
            go_wp2_with fail
            refine (turn_L (HD _).out x.name HNM.out x.i (((x.b.length : Int) + 1) % 256)).mono ?_
            intro e w1 h
            have hm := h.from (HAL.out _)
            obtain ⟨F', rfl, -⟩ := h
            have HM := Lib.hid hm
            clear hm
            unfold codeV at *
            go_wp2
            go_ret
            exact HM.out
          · rw [if_neg h4]
            have b4 : (x.d == 4) = false := by simpa using h4
            clear h4
            by_cases h6 : x.d = 6
            · rw [if_pos h6, h6]
              clear h6 b0 b1 b2 b3 b4
              go_enter Try.func22, Try.ntmps22
              go_wp2_with fail
              refine (trim_L (HD _).out x.name HNM.out x.i).mono ?_
              intro e w1 h
              have hm := h.from (HAL.out _)
              obtain ⟨F', rfl, -⟩ := h
              have HM := Lib.hid hm
              clear hm
              unfold codeV at *
              go_wp2
              go_ret
              exact HM.out
            · rw [if_neg h6]
              have b6 : (x.d == 6) = false := by simpa using h6
              clear h6
              go_enter Try.func22, Try.ntmps22
              go_wp2_with fail
              refine (crash_L (HD _).out (by omega) _ x.keep (HKEEP.out _)).mono ?_
              intro e w1 h
              have hm : MutL w a most F (crashL L x.keep).1 (codeV 0) (.returned (codeV 0)) w1 := by
                obtain ⟨F', -, h2⟩ := h.from (HAL.out _)
                exact ⟨F', rfl, h2⟩
              obtain ⟨F', rfl, -⟩ := h
              have HM := Lib.hid hm
              clear hm
              unfold codeV at *
              go_wp2
              go_ret
              exact HM.out

end Go.Proofs.Ytoflmhdgojenpaa
