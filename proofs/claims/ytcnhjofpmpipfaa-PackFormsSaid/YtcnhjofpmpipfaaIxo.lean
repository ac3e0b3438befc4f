/- The interpreter's calls; what it returns, the machine returns. -/
import Derived.Test.YtcnhjofpmpipfaaIxn
set_option linter.unusedVariables false
namespace Go.Ix
open Go Go.Sx Go.RowKit
universe u

structure FI where
  nt : Nat
  res : List ResultVar
  body : Code
def FT (P : Program) (ft : Nat → Option FI) : Prop := ∀ f fi, ft f = some fi → ∃ fn, P.funcs[f]? = some fn ∧ fn.body = some fi.body ∧ fn.ntmps = fi.nt ∧ fn.results = fi.res.toArray ∧ (fn.name == "runtime.NumGoroutine") = false ∧ codeOK fi.body = true

/-! ### Arguments -/
def argGo : List IV → Nat → PT IV → PT IV
  | [], _, fr => fr
  | v :: vs, i, fr => argGo vs (i + 1) (fr.set v i)
theorem argGo_slot : ∀ (vs : List IV) (i : Nat) (fr : PT IV) (t : Nat), slot (argGo vs i fr) t = if t < i then slot fr t else if t < i + vs.length then vs.getD (t - i) (.tup []) else slot fr t
  | [], i, fr, t => by
    simp only [argGo, List.length_nil, Nat.add_zero]
    by_cases h : t < i
    · rw [if_pos h]
    · rw [if_neg h, if_neg h]
  | v :: vs, i, fr, t => by
    unfold argGo
    rw [argGo_slot vs (i + 1)]
    simp only [List.length_cons]
    by_cases h1 : t < i
    · rw [if_pos (by omega), if_pos h1, slot_set, if_neg (by omega)]
    · rw [if_neg h1]
      by_cases h2 : t = i
      · subst h2
        rw [if_pos (by omega), if_pos (by omega), slot_set, if_pos rfl]
        simp
      · rw [if_neg (by omega)]
        by_cases h3 : t < i + 1 + vs.length
        · rw [if_pos h3, if_pos (by omega)]
          have : t - i = (t - (i + 1)) + 1 := by omega
          rw [this]; simp
        · rw [if_neg h3, if_neg (by omega), slot_set, if_neg h2]
theorem FR.enter {E : Env} {nt : Nat} {vs : List IV} {us : List Value} (h : VRs E vs us) (hl : vs.length ≤ nt) : FR E nt (argGo vs 0 .leaf) (us.toArray ++ Array.replicate (nt - us.toArray.size) undef) := by
  have hl2 := h.1
  refine ⟨by simp; omega, fun t ht => ?_⟩
  rw [argGo_slot, if_neg (by omega), Nat.zero_add, Nat.sub_zero]
  by_cases hv : t < vs.length
  · rw [if_pos hv]
    have := h.2 t hv (by omega)
    have e1 : vs.getD t (.tup []) = vs[t] := by simp [List.getD_eq_getElem?_getD, hv]
    have e2 : (us.toArray ++ Array.replicate (nt - us.toArray.size) undef).getD t undef = us[t]'(by omega) := by
      rw [Array.getD_eq_getD_getElem?, Array.getElem?_append_left (by simp; omega)]
      simp [show t < us.length by omega]
    rw [e1, e2]; exact this
  · rw [if_neg hv]
    have e2 : (us.toArray ++ Array.replicate (nt - us.toArray.size) undef).getD t undef = undef := by
      rw [Array.getD_eq_getD_getElem?, Array.getElem?_append_right (by simp; omega)]
      rw [Array.getElem?_replicate]
      split <;> rfl
    rw [e2]
    show VR E (.tup []) (.tuple #[])
    exact .tup (us := []) rfl (fun i h => by simp at h)

/-! ### Results -/
section
variable {P : Program} {tt : Nat → Option TI} {T : TW} {E : Env} {S : IS} {nt : Nat} {fr : PT IV}
theorem iload_run {ty : TypeId} {x : IV} {ux : Value} {r : Res} (htt : TT P tt) (p : Pre T E S) (h : iload tt S ty x = some r) (hr : tin T.r r.rd) (hx : VR E x ux) : ∃ u, (do loadVar ty (← asAddr ux)).run P E.w = .ok u E.w ∧ VR E r.v u := by
  unfold iload at h
  split at h <;> try cases h
  rename_i id off
  cases hx with
  | ptr hA =>
  have hconv : ∀ u, (Instr.loadAt ty (.pointer (some ⟨E.ρ id, off, none⟩))).run P E.w = .ok u E.w → (do loadVar ty (← asAddr (.pointer (some ⟨E.ρ id, off, none⟩)))).run P E.w = .ok u E.w := fun u hu => by
    simp only [Instr.loadAt, Instr.sureAddr, Sem.run_bind, Sem.run_pure, Result.andThen_ok] at hu
    simp only [asAddr, Sem.run_bind, Sem.run_pure, Result.andThen_ok, hu]
  split at h
  · cases h
  rename_i ti hti
  have hty := htt _ _ hti
  split at h <;> try cases h
  rename_i cs hcs
  cases hag : notAgg ti.und with
  | true =>
    rw [hag, cond_true] at h
    split at h <;> cases h
    rename_i v hv
    obtain ⟨cells, t, h1, h2, h3, h4⟩ := row_of p (tin_bit hr) hA hcs
    obtain ⟨u, h5, h6⟩ := row_cell h1 h4 hv
    exact ⟨u, hconv u (run_load1 hty hag h5), h6⟩
  | false =>
    rw [hag, cond_false] at h
    cases hb : Nat.ble (off + ti.sz) cs.length with
    | false => rw [hb] at h; cases h
    | true =>
      rw [hb, cond_true] at h
      cases h
      have hle := Nat.le_of_ble_eq_true hb
      obtain ⟨cells, t, h1, h2, h3, h4⟩ := row_of p (tin_bit hr) hA hcs
      have h5 := (h4.drop off).take ti.sz
      have hlen : (((cells.toList.take cs.length).drop off).take ti.sz).length = ti.sz := by simp; omega
      refine ⟨.agg (((cells.toList.take cs.length).drop off).take ti.sz).toArray, hconv _ (run_loadAgg hty hag rfl hlen fun j hj => ?_), .agg h5.1 h5.2⟩
      have hc : E.w.cell? ⟨E.ρ id, off + j, none⟩ = cells.toList[off + j]? := by simp [World.cell?, h1]
      rw [hc, List.getElem?_take, if_pos hj, List.getElem?_drop, List.getElem?_take, if_pos (show off + j < cs.length by omega)]
def ires (tt : Nat → Option TI) (nt : Nat) (fr : PT IV) (S : IS) : List ResultVar → Option (List IV × Nat)
  | [] => some ([], 0)
  | .tmp t :: l => cond (Nat.blt t nt) (match ires tt nt fr S l with
    | some (vs, rd) => some (slot fr t :: vs, rd)
    | none => none) none
  | .cell t ty :: l => cond (Nat.blt t nt) (match iload tt S ty (slot fr t) with
    | some r => match ires tt nt fr S l with
      | some (vs, rd) => some (r.v :: vs, r.rd ||| rd)
      | none => none
    | none => none) none
theorem ires_run (htt : TT P tt) (p : Pre T E S) {tmps : Array Value} (hf : FR E nt fr tmps) : ∀ {l : List ResultVar} {vs : List IV} {rd : Nat}, ires tt nt fr S l = some (vs, rd) → tin T.r rd → ∃ us, (l.mapM (oneRes tmps)).run P E.w = .ok us E.w ∧ VRs E vs us
  | [], vs, rd, h, hr => by cases h; exact ⟨[], rfl, VRs.nil⟩
  | .tmp t :: l, vs, rd, h, hr => by
    unfold ires at h
    cases hb : Nat.blt t nt with
    | false => rw [hb] at h; cases h
    | true =>
    rw [hb, cond_true] at h
    split at h <;> cases h
    rename_i vs rd hvs
    obtain ⟨us, h1, h2⟩ := ires_run htt p hf hvs hr
    refine ⟨tmps.getD t undef :: us, ?_, VRs.cons (hf.get t (by simpa using hb)) h2⟩
    simp only [List.mapM_cons, Sem.run_bind, oneRes, Sem.run_pure, Result.andThen_ok, h1]
  | .cell t ty :: l, vs, rd, h, hr => by
    unfold ires at h
    cases hb : Nat.blt t nt with
    | false => rw [hb] at h; cases h
    | true =>
    rw [hb, cond_true] at h
    split at h <;> try cases h
    rename_i r hl
    split at h <;> cases h
    rename_i vs rd hvs
    obtain ⟨t1, t2⟩ := tin_or hr
    obtain ⟨us, h1, h2⟩ := ires_run htt p hf hvs t2
    obtain ⟨u, k1, k2⟩ := iload_run htt p hl t1 (hf.get t (by simpa using hb))
    refine ⟨u :: us, ?_, VRs.cons k2 h2⟩
    have k1' : (oneRes tmps (.cell t ty)).run P E.w = .ok u E.w := k1
    simp only [List.mapM_cons, Sem.run_bind, k1', Result.andThen_ok, h1, Sem.run_pure]
def tupI : List IV → IV
  | [v] => v
  | vs => .tup vs
theorem results_run {fn : Func} {rs : List ResultVar} {tmps : Array Value} {us : List Value} {w : World} (hr : fn.results = rs.toArray) (h : (rs.mapM (oneRes tmps)).run P w = .ok us w) : (results fn tmps).run P w = .ok (tupOf us) w := by
  have e : results fn tmps = (do
      let vs ← rs.toArray.mapM (oneRes tmps)
      pure (if h : vs.size = 1 then vs[0] else .tuple vs)) := by
    unfold results; rw [hr]; rfl
  rw [e, List.mapM_toArray]
  simp only [Sem.run_bind, run_map, h, Result.andThen_ok, Sem.run_pure]
  cases us with
  | nil => simp [tupOf]
  | cons v vs => cases vs <;> simp [tupOf]
theorem tup_rel {vs : List IV} {us : List Value} (h : VRs E vs us) : VR E (tupI vs) (tupOf us) := by
  cases vs with
  | nil => have := h.1; cases us <;> simp at this; exact .tup (us := []) rfl (fun i h => by simp at h)
  | cons v vs =>
    obtain ⟨u, us, rfl, h1, h2⟩ := h.inv
    cases vs with
    | nil => have := h2.1; cases us <;> simp at this; exact h1
    | cons v2 vs =>
      obtain ⟨u2, us, rfl, h3, h4⟩ := h2.inv
      exact .tup h.1 h.2

/-! ### Marks -/
def imarks : List Nat → IS → Option (IS × Nat)
  | [], S => some (S, 0)
  | D :: ds, S => match S.heap.get D with
    | some (.defs true) => match imarks ds (S.set D (.defs false)) with
      | some (S', wr) => some (S', 2 ^ D ||| wr)
      | none => none
    | _ => none
theorem marks_sound {fn : Func} {tmps : Array Value} {R : Ending → World → Prop} : ∀ {ds : List Nat} {S S' : IS} {E : Env} {dl : List Deferred} {wr : Nat}, Pre T E S → DS E ds dl → imarks ds S = some (S', wr) → tin T.w wr →
    (∀ E', Post T E S E' S' → Fresh E S E' → LeavesInM Fence.wide 0 P fn tmps R [] .returning E'.w) → LeavesInM Fence.wide 0 P fn tmps R dl .returning E.w
  | [], S, S', E, dl, wr, p, hd, h, hw, hk => by
    cases h
    rw [hd.1]
    exact hk E (Post.refl p) (Fresh.refl E S)
  | D :: ds, S, S', E, dl, wr, p, hd, h, hw, hk => by
    unfold imarks at h
    split at h <;> try cases h
    rename_i hobj
    split at h <;> cases h
    rename_i S' wr hm
    obtain ⟨t1, t2⟩ := tin_or hw
    have hA := hd.2 D List.mem_cons_self
    have g1 : E.w.heap[E.ρ D]? = some (.deferred (some [])) := p.st.objs D (T.sub _ (tin_bit t1)) hA _ hobj
    obtain ⟨q1, q2⟩ := Post.write p (o' := .defs false) (tin_bit t1) hA ⟨_, hobj, rfl⟩ (Upd.putObj E.w (E.ρ D) (.deferred none)) (World.putObj_heap_same (heap_lt g1))
    rw [hd.1]
    refine ⟨by simp, .inl ⟨E.ρ D, _, rfl, run_takeDeferred g1, ?_⟩⟩
    exact marks_sound (E := E.at_ (E.w.putObj (E.ρ D) (.deferred none))) (q1.pre p) ⟨rfl, fun D' hD' => hd.2 D' (List.mem_cons_of_mem _ hD')⟩ hm t2 fun E' k1 k2 => hk E' (Post.trans p q1 q2 k1) (q2.trans k2 (Nat.le_refl _))

/-! ### What a call leaves -/
def flat (N : Nat) : IV → Bool
  | .bool _ => true
  | .int _ _ => true
  | .str _ => true
  | .nilsl => true
  | .nilptr => true
  | .nilmap => true
  | .nilfn => true
  | .nili => true
  | .sl id _ _ _ _ => Nat.blt id N
  | .ptr id _ => Nat.blt id N
  | .map id => Nat.blt id N
  | .yield id => Nat.blt id N
  | _ => false
def flat1 (N : Nat) : IV → Bool
  | .agg cs => cs.all (flat N)
  | v => flat N v
def below (N : Nat) : IV → Bool
  | .agg cs => cs.all (flat N)
  | .tup vs => vs.all (flat1 N)
  | v => flat N v
theorem flat_rel {E' E'' : Env} {N : Nat} (hA : ∀ id, E'.A id → id < N → E''.A id ∧ E''.ρ id = E'.ρ id ∧ E''.κ id = E'.κ id) {v : IV} {u : Value} (h : flat N v = true) (hv : VR E' v u) : VR E'' v u := by
  cases hv <;> try cases h
  · exact .bool _
  · exact .int _ _
  · exact .str _
  · exact .nilsl
  · rename_i id off len s c cap hA' h1 h2 h3 h4 h5
    obtain ⟨a, b, d⟩ := hA id hA' (by simpa [flat] using h)
    rw [← b]; exact .sl cap a h1 h2 (by rw [d]; exact h3) h4 (by rw [d]; exact h5)
  · exact .nilptr
  · rename_i id off hA'
    obtain ⟨a, b, d⟩ := hA id hA' (by simpa [flat] using h)
    rw [← b]; exact .ptr a
  · exact .nilmap
  · rename_i id hA'
    obtain ⟨a, b, d⟩ := hA id hA' (by simpa [flat] using h)
    rw [← b]; exact .map a
  · exact .nilfn
  · rename_i id hA'
    obtain ⟨a, b, d⟩ := hA id hA' (by simpa [flat] using h)
    rw [← b]; exact .yield a
  · exact .nili
theorem flat1_rel {E' E'' : Env} {N : Nat} (hA : ∀ id, E'.A id → id < N → E''.A id ∧ E''.ρ id = E'.ρ id ∧ E''.κ id = E'.κ id) {v : IV} {u : Value} (h : flat1 N v = true) (hv : VR E' v u) : VR E'' v u := by
  cases v <;> first | exact flat_rel hA h hv | skip
  rename_i cs
  cases hv with
  | agg hl hh => exact .agg hl fun i a b => flat_rel hA ((List.all_eq_true.1 h) _ (List.getElem_mem a)) (hh i a b)
theorem below_rel {E' E'' : Env} {N : Nat} (hA : ∀ id, E'.A id → id < N → E''.A id ∧ E''.ρ id = E'.ρ id ∧ E''.κ id = E'.κ id) {v : IV} {u : Value} (h : below N v = true) (hv : VR E' v u) : VR E'' v u := by
  cases v <;> first | exact flat_rel hA h hv | skip
  · rename_i cs
    cases hv with
    | agg hl hh => exact .agg hl fun i a b => flat_rel hA ((List.all_eq_true.1 h) _ (List.getElem_mem a)) (hh i a b)
  · rename_i cs
    cases hv with
    | tup hl hh => exact .tup hl fun i a b => flat1_rel hA ((List.all_eq_true.1 h) _ (List.getElem_mem a)) (hh i a b)
def igc (S : IS) (q : Res) : Res :=
  cond (Nat.beq (q.wr % 2 ^ S.next) 0 && below S.next q.v) ⟨q.v, S, q.rd % 2 ^ S.next, 0⟩ ⟨q.v, q.S, q.rd % 2 ^ S.next, q.wr % 2 ^ S.next⟩
/-- The T for the body of a call whose own state is thrown away. -/
def Tgc (T : TW) (N : Nat) (h : ∀ id, N ≤ id → T.w id) : TW := ⟨T.r, fun id => N ≤ id, fun id hi => T.sub _ (h id hi)⟩
theorem tin_mod {T : Nat → Prop} {a N : Nat} (h : tin T (a % 2 ^ N)) (hn : ∀ id, N ≤ id → T id) : tin T a := fun j hj => by
  rcases Nat.lt_or_ge j N with h' | h'
  · exact h j (by rw [Nat.testBit_mod_two_pow]; simp [h', hj])
  · exact hn j h'
theorem tin_zero {a N : Nat} (h : a % 2 ^ N = 0) : tin (fun id => N ≤ id) a := fun j hj => by
  rcases Nat.lt_or_ge j N with h' | h'
  · have : (a % 2 ^ N).testBit j = true := by rw [Nat.testBit_mod_two_pow]; simp [h', hj]
    rw [h] at this; simp at this
  · exact h'
/-- Whatever T a call is asked for, the body may be walked with another. -/
theorem igc_sound {q : Res} (p : Pre T E S) (hrd : tin T.r (igc S q).rd) (hwr : tin T.w (igc S q).wr) : ∃ T' : TW, Pre T' E S ∧ tin T'.r q.rd ∧ tin T'.w q.wr ∧ ∀ e w', RetE T' E S q e w' → RetE T E S (igc S q) e w' := by
  cases hb : (Nat.beq (q.wr % 2 ^ S.next) 0 && below S.next q.v) with
  | true =>
    have e : igc S q = ⟨q.v, S, q.rd % 2 ^ S.next, 0⟩ := by unfold igc; rw [hb]; rfl
    rw [e] at hrd ⊢
    simp only [Bool.and_eq_true] at hb
    have hz := Nat.eq_of_beq_eq_true hb.1
    refine ⟨Tgc T S.next p.nw, ⟨p.st, p.bnd, fun id h => h⟩, tin_mod hrd (fun id h => T.sub _ (p.nw id h)), tin_zero hz, fun e w' hR => ?_⟩
    obtain ⟨u, E', rfl, rfl, k1, k2, k3⟩ := hR
    have hu : Upd [] E.w E'.w := ⟨k2.stp.os, k2.stp.tape, k2.stp.output, k2.stp.size, fun b hb _ => k2.stp.same b hb fun id ht ha _ => absurd (p.bnd id ha) (Nat.not_lt.2 ht)⟩
    obtain ⟨q1, q2⟩ := Post.idle p hu
    refine ⟨u, E.at_ E'.w, rfl, rfl, below_rel (fun id ha hlt => ?_) hb.2 k1, q1, q2⟩
    have hA : E.A id := Classical.byContradiction fun hn => absurd (k3.fr id ha hn) (by omega)
    obtain ⟨a, b, c⟩ := k2.stp.alw id hA
    exact ⟨hA, b.symm, c.symm⟩
  | false =>
    have e : igc S q = ⟨q.v, q.S, q.rd % 2 ^ S.next, q.wr % 2 ^ S.next⟩ := by unfold igc; rw [hb]; rfl
    rw [e] at hrd hwr ⊢
    exact ⟨T, p, tin_mod hrd (fun id h => T.sub _ (p.nw id h)), tin_mod hwr p.nw, fun e w' hR => hR⟩
theorem igc_fr {q : Res} (h : FrR S q) : FrR S (igc S q) := by
  unfold igc
  cases (Nat.beq (q.wr % 2 ^ S.next) 0 && below S.next q.v) with
  | true => exact ⟨Nat.le_refl _, fun _ _ _ => rfl⟩
  | false =>
    refine ⟨h.1, fun id hid hw => h.2 id hid ?_⟩
    have hw : (q.wr % 2 ^ S.next).testBit id = false := hw
    rw [Nat.testBit_mod_two_pow] at hw
    simpa [hid] using hw
end
end Go.Ix
