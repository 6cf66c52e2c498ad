/- A range over a disk's map; what (*Disk).Used does. -/
import Derived.Test.YtoflmhdgojenpaaDj
namespace Go.Proofs.Ytoflmhdgojenpaa
open Go.RowKit Go.Maps Go.WideMaps Go.WideElems

abbrev Ranges (w : World) (b r : Nat) (n : Nat) (E : List FE) (left : Lit → Bool) (cnt : Nat) : Prop := w.ranges Try.prog 9 ptrR b r n (dOf E) left cnt

theorem wpList_range_files (w : World) {ops : Array Oper} {rest : List Oper} {o : Oper} {a : Act} {Q : Exit → Act → World → Prop} (hg : o.guard = none) (m : Operand) (hop : o.op = Op.range 81 m)
    (b n : Nat) (E : List FE) (hm : a.eval m = .map (some b)) (hown : w.ownsMap Try.prog 9 ptrR b n (dOf E))
    (hK : ∀ w', Ranges w' b w.heap.size n E (Maps.has (dOf E)) (Maps.size (dOf E)) → Chg (fun _ => False) w w' → w'.heap.size = w.heap.size + 1 → wpList Try.prog ops Q rest (a.put o.dst (.pointer (some ⟨w.heap.size, 0, none⟩))) w') :
    wpList Try.prog ops Q (o :: rest) a w :=
  wpList_range_own w hg m 81 hop 9 85 strKeyed mapT ptrR b n (dOf E) hm hown
    fun w' h1 h2 h3 => hK w' h1 ((Chg.of_grown h2).mono fun k _ hk => by cases hk) h3

theorem keyOf_string_inv {key : Value} {kl : Lit} (h : keyOf Try.prog 9 key = some kl) : ∃ x : ByteArray, key = .string x ∧ kl = keyL x := by
  simp only [keyOf, Try.underlying9] at h
  cases key <;> simp [mapKey, Try.underlying9] at h
  rename_i s
  exact ⟨s, rfl, by first | exact h.2.symm | exact h.symm⟩

theorem ptrR_shape (v : Value) (y : DataW Unit × List MemPlace) (h : ptrR v = some y) : ∃ c, v = .pointer c := by
  unfold ptrR at h
  split at h
  · exact ⟨_, rfl⟩
  · exact ⟨_, rfl⟩
  · cases h

set_option maxRecDepth 100000 in
theorem wpList_next_files (w : World) {ops : Array Oper} {rest : List Oper} {o : Oper} {a : Act} {Q : Exit → Act → World → Prop} (hg : o.guard = none) (it : Operand) (hop : o.op = Op.next it false)
    (b r n : Nat) (E : List FE) (left : Lit → Bool) (cnt : Nat) (hit : a.eval it = .pointer (some ⟨r, 0, none⟩)) (h : Ranges w b r n E left cnt)
    (hDone : cnt = 0 → (∀ kl, left kl = false) → wpList Try.prog ops Q rest (a.put o.dst (.tuple #[.bool false])) w)
    (hMore : ∀ (e : FE) (w' : World) (cnt' : Nat), e ∈ E → left (keyL e.name) = true → Ranges w' b r n E (fun z => left z && !z.sameKey (keyL e.name)) cnt' → cnt' < cnt → Chg (fun k => k = r) w w' → w'.heap.size = w.heap.size →
      (Instr.entry (.pointer (some ⟨r, 0, none⟩))).run Try.prog w' = .ok (.tuple #[.string e.name, .pointer (some ⟨e.blk, 0, none⟩)]) w' →
      wpList Try.prog ops Q rest (a.put o.dst (.tuple #[.bool true, .string e.name, .pointer (some ⟨e.blk, 0, none⟩)])) w') :
    wpList Try.prog ops Q (o :: rest) a w := by
  refine wpList_next_ranges w hg it hop 9 strKeyed ptrR (fun x : ByteArray => Value.string x) (fun c : Option Addr => Value.pointer c) (fun key kl hk => by obtain ⟨x, hx, _⟩ := keyOf_string_inv hk; exact ⟨x, hx⟩) ptrR_shape b r n (dOf E) left cnt hit h hDone ?_
  intro x c kl y w' cnt' hk hl hv hat hr hlt hgr hsz hen
  obtain ⟨x', hx', rfl⟩ := keyOf_string_inv hk
  injection hx' with hx'
  subst hx'
  have hhas := Maps.has_true_of_atKey hat
  rw [dOf_has] at hhas
  cases hlk : lookE x E with
  | none => rw [hlk] at hhas; cases hhas
  | some e =>
    have hat' := hat (.lit .nil)
    rw [dOf_at, hlk] at hat'
    obtain ⟨hm, hn⟩ := lookE_mem hlk
    have hat2 : blkD e.blk = y.1 := hat'
    have hc := ptrR_inv (v := .pointer c) (b := e.blk) (ps := y.2) (hv.trans (by rw [hat2]))
    injection hc with hc
    subst hn
    subst hc
    exact hMore e w' cnt' hm hl hr hlt ((Chg.of_grown hgr).mono fun k _ hk => by injection hk with hk; exact hk.symm) hsz hen

/-- The files that have come. -/
def doneE (left : Lit → Bool) (E : List FE) : List FE := E.filter fun e => !left (keyL e.name)
theorem doneE_start (E : List FE) : doneE (Maps.has (dOf E)) E = [] := by
  unfold doneE
  rw [List.filter_eq_nil_iff]
  intro e he
  have : (lookE e.name E).isSome = true := by
    unfold lookE
    rw [List.find?_isSome]
    exact ⟨e, he, by simp⟩
  rw [dOf_has, this]
  simp
theorem doneE_end {left : Lit → Bool} (h : ∀ kl, left kl = false) (E : List FE) : doneE left E = E := by
  unfold doneE
  rw [List.filter_eq_self]
  intro e _
  simp [h]
theorem doneE_step {left : Lit → Bool} {E : List FE} (hp : E.Pairwise fun x y => x.name ≠ y.name) {e : FE} (he : e ∈ E) (hl : left (keyL e.name) = true) :
    (doneE (fun z => left z && !z.sameKey (keyL e.name)) E).Perm (e :: doneE left E) := by
  obtain ⟨E1, E2, rfl⟩ := List.append_of_mem he
  rw [List.pairwise_append] at hp
  obtain ⟨_, h2, h3⟩ := hp
  rw [List.pairwise_cons] at h2
  have f1 : doneE (fun z => left z && !z.sameKey (keyL e.name)) E1 = doneE left E1 := by
    unfold doneE
    refine List.filter_congr fun x hx => ?_
    have := h3 x hx e (by simp)
    simp [sameKey_key, this]
  have f2 : doneE (fun z => left z && !z.sameKey (keyL e.name)) E2 = doneE left E2 := by
    unfold doneE
    refine List.filter_congr fun x hx => ?_
    have := h2.1 x hx
    simp [sameKey_key, Ne.symm this]
  have e1 : doneE (fun z => left z && !z.sameKey (keyL e.name)) (E1 ++ e :: E2) = doneE left E1 ++ e :: doneE left E2 := by
    have : doneE (fun z => left z && !z.sameKey (keyL e.name)) (E1 ++ e :: E2) = doneE (fun z => left z && !z.sameKey (keyL e.name)) E1 ++ e :: doneE (fun z => left z && !z.sameKey (keyL e.name)) E2 := by
      unfold doneE
      rw [List.filter_append, List.filter_cons, if_pos (by simp [sameKey_key])]
    rw [this, f1, f2]
  have e2 : doneE left (E1 ++ e :: E2) = doneE left E1 ++ doneE left E2 := by
    unfold doneE
    rw [List.filter_append, List.filter_cons, if_neg (by simp [hl])]
  rw [e1, e2]
  exact List.perm_middle

theorem doneE_le (left : Lit → Bool) (E : List FE) : used (doneE left E) ≤ used E := by
  unfold doneE
  induction E with
  | nil => simp [used]
  | cons e r ih =>
    rw [List.filter_cons]
    split
    · rw [used_cons, used_cons]; omega
    · rw [used_cons]; omega

def RetIntF (w : World) (n : Int) (e : Ending) (w' : World) : Prop := e = .returned (.int .i64 n) ∧ Chg (fun _ => False) w w'

set_option maxRecDepth 100000 in
set_option maxHeartbeats 1000000 in
theorem used_calls {w : World} {a most bm : Nat} {E : List FE} (hD : DiskAt w a most E bm) :
    Calls Try.prog 46 #[dptr a] w (RetIntF w (used E)) := by
  have h0 := hD.cell0
  have hmap := hD.map
  have hroom := hD.room
  have hsmall := hD.small
  have hnames := Lib.hid hD.names
  unfold dptr
  have HD := Lib.hid hD
  clear hD
  go_enter Try.func46, Try.ntmps46
  go_wp2_with (at_range; refine wpList_range_files _ rfl _ rfl bm E.length E rfl hmap ?_; intro w0 hrg0 hc0 hs0)
  go_frame
  go_loopw [3] (fun v wr => ∃ (left : Lit → Bool) (cnt : Nat), v = .int .i64 (used (doneE left E)) ∧ Ranges wr bm w.heap.size E.length E left cnt ∧ Chg (fun _ => False) w wr)
    (fun _ wr => wr.rangeLeft bm w.heap.size)
  case atStart => exact ⟨_, _, by rw [doneE_start]; rfl, hrg0, hc0⟩
  case round =>
    obtain ⟨left, cnt, rfl, hrg, hcw⟩ := hrel
    clear h0 hmap hrg0
    go_wp2_with (at_next; refine wpList_next_files _ rfl _ rfl bm w.heap.size E.length E left cnt rfl hrg ?_ ?_)
    · intro _ hl0
      rw [doneE_end hl0]
      clear hl0
      go_wp2
      go_ret
      exact ⟨rfl, hcw⟩
    · intro e w1 cnt1 he hle hrg1 hlt hc1 hs1 hen
      have hcw1 : Chg (fun _ => False) w w1 := hcw.trans hc1 (fun k hk e0 => by omega)
      have hD1 := HD.out.none_ hcw1
      have hF := hD1.files e he
      have h1 := hF.cell0
      obtain ⟨A, c, hsl, hc, hcm, -⟩ := hF.row.shape
      rw [hsl, u8s_length] at h1
      have hst := doneE_step hnames.out he hle
      have hu := used_perm hst
      rw [used_cons] at hu
      have hle2 := doneE_le (fun z => left z && !z.sameKey (keyL e.name)) E
      generalize hud' : used (doneE (fun z => left z && !z.sameKey (keyL e.name)) E) = ud' at *
      generalize hud : used (doneE left E) = ud at *
      have Hud' := Lib.hid hud'
      have Hu : Hid ((ud' : Int) = ud + e.bs.length) := Lib.hid (by omega)
      have hb1 : (ud : Int) + e.bs.length ≤ 65536 := by omega
      have hb2 : (0 : Int) ≤ ud := by omega
      have HC := Lib.hid hcw1
      clear hst hu hle2 hud hud' hsl hF hD1 hcw hc1 hle hs1 hcw1
      go_wp2
      go_roundw
      case rel => exact ⟨_, cnt1, by rw [Hud'.out, Hu.out], hrg1, HC.out⟩
      case measure => rw [hrg1.left_eq, hrg.left_eq]; exact hlt

end Go.Proofs.Ytoflmhdgojenpaa
