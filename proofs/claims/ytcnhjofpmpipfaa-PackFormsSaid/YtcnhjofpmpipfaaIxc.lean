/- The interpreter's operations: plain ones, loads and stores, new variables, literals, places. -/
import Derived.Test.YtcnhjofpmpipfaaIxb
set_option linter.unusedVariables false
namespace Go.Ix
open Go Go.Sx Go.RowKit
universe u

/-! ### Values of the machine that hold no address -/
def toV1 : IV → Option Value
  | .bool b => some (.bool b)
  | .int k n => some (.int k n)
  | .str s => some (.string s)
  | .nilsl => some (.slice none 0 0)
  | .nilptr => some (.pointer none)
  | .nilmap => some (.map none)
  | .nilfn => some .nilFunc
  | .nili => some .nilIface
  | _ => none
def toVs : List IV → Option (List Value)
  | [] => some []
  | v :: l => match toV1 v with
    | none => none
    | some u => match toVs l with
      | none => none
      | some us => some (u :: us)
def toV : IV → Option Value
  | .agg cs => match toVs cs with | some us => some (.agg us.toArray) | none => none
  | .tup cs => match toVs cs with | some us => some (.tuple us.toArray) | none => none
  | .iface t v => match toV1 v with | some u => some (.iface t u) | none => none
  | v => toV1 v
def ofV1 : Value → Option IV
  | .bool b => some (.bool b)
  | .int k n => some (.int k n)
  | .string s => some (.str s)
  | .slice none 0 0 => some .nilsl
  | .pointer none => some .nilptr
  | .map none => some .nilmap
  | .nilFunc => some .nilfn
  | .nilIface => some .nili
  | _ => none
def ofVs : List Value → Option (List IV)
  | [] => some []
  | v :: l => match ofV1 v with
    | none => none
    | some u => match ofVs l with
      | none => none
      | some us => some (u :: us)
def ofV : Value → Option IV
  | .agg cs => match ofVs cs.toList with | some us => some (.agg us) | none => none
  | .tuple cs => match ofVs cs.toList with | some us => some (.tup us) | none => none
  | .iface t v => match ofV1 v with | some u => some (.iface t u) | none => none
  | v => ofV1 v
theorem toV1_sound {E : Env} {x : IV} {u v : Value} (h : toV1 x = some v) (hx : VR E x u) : u = v := by
  cases hx <;> simp [toV1] at h <;> exact h
theorem toVs_sound {E : Env} : ∀ {l : List IV} {us vs : List Value}, toVs l = some vs → VRs E l us → us = vs
  | [], us, vs, h, hx => by
    have := hx.1; cases us <;> simp at this
    simp [toVs] at h; exact h.symm
  | x :: l, us, vs, h, hx => by
    obtain ⟨u, us, rfl, h1, h2⟩ := hx.inv
    unfold toVs at h
    split at h
    · cases h
    · rename_i a ha
      split at h
      · cases h
      · rename_i b hb
        cases h
        rw [toV1_sound ha h1, toVs_sound hb h2]
theorem toV_sound {E : Env} {x : IV} {u v : Value} (h : toV x = some v) (hx : VR E x u) : u = v := by
  cases hx with
  | agg hl hh =>
    simp only [toV] at h
    split at h
    · rename_i a ha; cases h; rw [toVs_sound ha ⟨hl, hh⟩]
    · cases h
  | tup hl hh =>
    simp only [toV] at h
    split at h
    · rename_i a ha; cases h; rw [toVs_sound ha ⟨hl, hh⟩]
    · cases h
  | iface hh =>
    simp only [toV] at h
    split at h
    · rename_i a ha; cases h; rw [toV1_sound ha hh]
    · cases h
  | _ => exact toV1_sound (E := E) (by simpa [toV] using h) (by constructor <;> assumption)
theorem ofV1_sound (E : Env) {v : Value} {x : IV} (h : ofV1 v = some x) : VR E x v := by
  unfold ofV1 at h
  split at h <;> cases h <;> constructor
theorem ofVs_sound (E : Env) : ∀ {l : List Value} {xs : List IV}, ofVs l = some xs → VRs E xs l
  | [], xs, h => by simp [ofVs] at h; subst h; exact VRs.nil
  | v :: l, xs, h => by
    unfold ofVs at h
    split at h
    · cases h
    · rename_i a ha
      split at h
      · cases h
      · rename_i b hb
        cases h
        exact VRs.cons (ofV1_sound E ha) (ofVs_sound E hb)
theorem ofV_sound (E : Env) {v : Value} {x : IV} (h : ofV v = some x) : VR E x v := by
  unfold ofV at h
  split at h
  · rename_i cs
    split at h
    · rename_i a ha; cases h; have := ofVs_sound E ha; exact .agg (us := cs.toList) this.1 this.2
    · cases h
  · rename_i cs
    split at h
    · rename_i a ha; cases h; have := ofVs_sound E ha; exact .tup (us := cs.toList) this.1 this.2
    · cases h
  · split at h
    · rename_i a ha; cases h; exact .iface (ofV1_sound E ha)
    · cases h
  · exact ofV1_sound E h
/-- A computation that asks the world for nothing. -/
def calm {α : Type} (P : Program) : Sem α → Option α
  | .pure a => some a
  | .program k => calm P (k P)
  | .mark _ k => calm P k
  | _ => none
theorem calm_sound {α : Type} {P : Program} : ∀ {e : Sem α} {a : α}, calm P e = some a → ∀ w, e.run P w = .ok a w
  | .pure a, b, h, w => by simp [calm] at h; subst h; rfl
  | .program k, b, h, w => by simp only [calm] at h; exact calm_sound (e := k P) h w
  | .mark _ k, b, h, w => by simp only [calm] at h; exact calm_sound (e := k) h w
  | .load .., b, h, w => by simp [calm] at h
  | .store .., b, h, w => by simp [calm] at h
  | .new .., b, h, w => by simp [calm] at h
  | .shape .., b, h, w => by simp [calm] at h
  | .freeze .., b, h, w => by simp [calm] at h
  | .frozen .., b, h, w => by simp [calm] at h
  | .getObj .., b, h, w => by simp [calm] at h
  | .setObj .., b, h, w => by simp [calm] at h
  | .choose .., b, h, w => by simp [calm] at h
  | .sys .., b, h, w => by simp [calm] at h
  | .halt .., b, h, w => by simp [calm] at h

/-! ### The table of types -/
structure TI where
  sz : Nat
  bytes : Nat
  und : TypeDesc
  zero : Value
def TT (P : Program) (tt : Nat → Option TI) : Prop := ∀ T ti, tt T = some ti → Ty P T ti.und ti.sz ti.bytes ti.zero

/-! ### Results -/
structure Res : Type 1 where
  v : IV
  S : IS
  rd : Nat
  wr : Nat
def tin (T : Nat → Prop) (r : Nat) : Prop := ∀ j, r.testBit j = true → T j
theorem tin_or {T : Nat → Prop} {a b : Nat} (h : tin T (a ||| b)) : tin T a ∧ tin T b :=
  ⟨fun j hj => h j (by simp [Nat.testBit_or, hj]), fun j hj => h j (by simp [Nat.testBit_or, hj])⟩
theorem tin_bit {T : Nat → Prop} {id : Nat} (h : tin T (2 ^ id)) : T id := h id (by simp [Nat.testBit_two_pow_self])
/-- What an operation that yields a value shows. -/
def Good (P : Program) (T : TW) (E : Env) (S : IS) (e : Sem Value) (r : Res) : Prop :=
  ∃ u E', e.run P E.w = .ok u E'.w ∧ VR E' r.v u ∧ Post T E S E' r.S ∧ Fresh E S E'
/-- What an operation that yields none shows. -/
def GoodU (P : Program) (T : TW) (E : Env) (S : IS) (e : Sem Unit) (r : Res) : Prop :=
  ∃ E', e.run P E.w = .ok () E'.w ∧ r.v = .tup [] ∧ Post T E S E' r.S ∧ Fresh E S E'
theorem Good.same {P : Program} {T : TW} {E : Env} {S : IS} {e : Sem Value} {v : IV} {u : Value} {rd wr : Nat} (p : Pre T E S) (h : e.run P E.w = .ok u E.w) (hv : VR E v u) : Good P T E S e ⟨v, S, rd, wr⟩ :=
  ⟨u, E, h, hv, Post.refl p, Fresh.refl E S⟩

section
variable {P : Program} {tt : Nat → Option TI} {T : TW} {E : Env} {S : IS}

/-! ### Loads -/
def iload (tt : Nat → Option TI) (S : IS) (ty : TypeId) : IV → Option Res
  | .ptr id off => match tt ty with
    | none => none
    | some ti => match S.heap.get id with
      | some (.row cs) => cond (notAgg ti.und) (match cs[off]? with | some v => some ⟨v, S, 2 ^ id, 0⟩ | none => none)
          (cond (Nat.ble (off + ti.sz) cs.length) (some ⟨.agg ((cs.drop off).take ti.sz), S, 2 ^ id, 0⟩) none)
      | _ => none
  | _ => none
theorem row_of {id : Nat} {cs : List IV} (p : Pre T E S) (hT : T.r id) (hA : E.A id) (h : S.heap.get id = some (.row cs)) :
    ∃ cells t, E.w.heap[E.ρ id]? = some (.cells cells t (0, 0)) ∧ cells.size = E.κ id ∧ cs.length ≤ cells.size ∧ VRs E cs (cells.toList.take cs.length) := p.st.objs id hT hA _ h
theorem row_cell {id : Nat} {cs : List IV} {cells : Array Value} {t : TypeId} (h1 : E.w.heap[E.ρ id]? = some (.cells cells t (0, 0))) (h2 : VRs E cs (cells.toList.take cs.length)) {off : Nat} {v : IV} (hv : cs[off]? = some v) :
    ∃ u, E.w.cell? ⟨E.ρ id, off, none⟩ = some u ∧ VR E v u := by
  obtain ⟨u, hu, hr⟩ := h2.get hv
  refine ⟨u, ?_, hr⟩
  have hlt := (List.getElem?_eq_some_iff.1 hv).1
  rw [List.getElem?_take, if_pos hlt] at hu
  simp only [World.cell?, h1]
  simpa using hu
theorem iload_sound {ty : TypeId} {x : IV} {ux : Value} {r : Res} (htt : TT P tt) (p : Pre T E S) (h : iload tt S ty x = some r) (hr : tin T.r r.rd) (hx : VR E x ux) : Good P T E S (Instr.loadAt ty ux) r := by
  unfold iload at h
  split at h <;> try cases h
  rename_i id off
  cases hx with
  | ptr hA =>
  split at h
  · cases h
  rename_i ti hti
  have hty := htt _ _ hti
  split at h <;> try cases h
  rename_i cs hcs
  cases hag : notAgg ti.und with
  | true =>
    rw [hag, cond_true] at h
    split at h <;> cases h
    rename_i v hv
    obtain ⟨cells, t, h1, h2, h3, h4⟩ := row_of p (tin_bit hr) hA hcs
    obtain ⟨u, h5, h6⟩ := row_cell h1 h4 hv
    exact Good.same p (run_load1 hty hag h5) h6
  | false =>
    rw [hag, cond_false] at h
    cases hb : Nat.ble (off + ti.sz) cs.length with
    | false => rw [hb] at h; cases h
    | true =>
      rw [hb, cond_true] at h
      cases h
      have hle := Nat.le_of_ble_eq_true hb
      obtain ⟨cells, t, h1, h2, h3, h4⟩ := row_of p (tin_bit hr) hA hcs
      have h5 := (h4.drop off).take ti.sz
      have hlen : (((cells.toList.take cs.length).drop off).take ti.sz).length = ti.sz := by simp; omega
      refine Good.same p (run_loadAgg hty hag rfl hlen fun j hj => ?_) (.agg h5.1 h5.2)
      have hc : E.w.cell? ⟨E.ρ id, off + j, none⟩ = cells.toList[off + j]? := by simp [World.cell?, h1]
      rw [hc, List.getElem?_take, if_pos hj, List.getElem?_drop, List.getElem?_take, if_pos (show off + j < cs.length by omega)]

/-! ### Stores -/
def putI : List IV → Nat → List IV → List IV
  | cs, _, [] => cs
  | cs, o, v :: vs => putI (cs.set o v) (o + 1) vs
theorem putI_length : ∀ (vs : List IV) (o : Nat) (cs : List IV), (putI cs o vs).length = cs.length
  | [], _, _ => rfl
  | v :: vs, o, cs => by simp [putI, putI_length vs]
theorem VRs.set {E : Env} {cs : List IV} {us : List Value} (h : VRs E cs us) (o : Nat) {v : IV} {u : Value} (hv : VR E v u) : VRs E (cs.set o v) (us.set o u) :=
  ⟨by simp [h.1], fun i a b => by
    simp only [List.length_set] at a b
    rw [List.getElem_set, List.getElem_set]
    by_cases e : o = i
    · rw [if_pos e, if_pos e]; exact hv
    · rw [if_neg e, if_neg e]; exact h.2 i a b⟩
theorem VRs.put {E : Env} : ∀ {vs : List IV} {uv : List Value} {cs : List IV} {us : List Value} (o : Nat), VRs E cs us → VRs E vs uv → VRs E (putI cs o vs) (putL us o uv)
  | [], uv, cs, us, o, h, k => by
    have := k.1; cases uv <;> simp at this
    exact h
  | v :: vs, uv, cs, us, o, h, k => by
    obtain ⟨u, uv, rfl, k1, k2⟩ := k.inv
    exact VRs.put (o + 1) (h.set o k1) k2
theorem take_putL : ∀ (vs : List Value) (o n : Nat) (cs : List Value), (putL cs o vs).take n = putL (cs.take n) o vs
  | [], _, _, _ => rfl
  | v :: vs, o, n, cs => by unfold putL; rw [take_putL vs, List.take_set]
def istore (tt : Nat → Option TI) (S : IS) (ty : TypeId) : IV → IV → Option Res
  | .ptr id off, v => match tt ty with
    | none => none
    | some ti => match S.heap.get id with
      | some (.row cs) => cond (Nat.beq (cellsOf v).length ti.sz && Nat.ble (off + ti.sz) cs.length && (cellsOf v).all one1) (some ⟨.tup [], S.set id (.row (putI cs off (cellsOf v))), 0, 2 ^ id⟩) none
      | _ => none
  | _, _ => none
theorem istore_sound {ty : TypeId} {x y : IV} {ux uy : Value} {r : Res} (htt : TT P tt) (p : Pre T E S) (h : istore tt S ty x y = some r) (hr : tin T.w r.wr) (hx : VR E x ux) (hy : VR E y uy) : GoodU P T E S (Instr.storeAt ty ux uy) r := by
  unfold istore at h
  split at h <;> try cases h
  rename_i id off
  cases hx with
  | ptr hA =>
  split at h
  · cases h
  rename_i ti hti
  have hty := htt _ _ hti
  split at h <;> try cases h
  rename_i cs hcs
  cases hb : (Nat.beq (cellsOf y).length ti.sz && Nat.ble (off + ti.sz) cs.length && (cellsOf y).all one1) with
  | false => rw [hb] at h; cases h
  | true =>
    rw [hb, cond_true] at h
    cases h
    simp only [Bool.and_eq_true] at hb
    have hs := Nat.eq_of_beq_eq_true hb.1.1
    have hle := Nat.le_of_ble_eq_true hb.1.2
    obtain ⟨cells, t, h1, h2, h3, h4⟩ := row_of p (T.sub _ (tin_bit hr)) hA hcs
    have hc := hy.cells
    have hsz : uy.cells.size = ti.sz := by have := hc.1; rw [hs] at this; simpa using this.symm
    obtain ⟨w', e1, e2, e3, e4⟩ := run_storeAt (P := P) (w := E.w) (β := E.ρ id) (o := off) (cs := cells.toList) hty ⟨t, by simpa using h1⟩ hsz (by simp; omega) (by rw [hc.ones]; exact hb.2)
    obtain ⟨t', e2⟩ := e2
    have hL : Live S.H id := ⟨_, hcs, rfl⟩
    obtain ⟨q1, q2⟩ := Post.write p (o' := .row (putI cs off (cellsOf y))) (tin_bit hr) hA hL e3 ⟨_, t', e2, by simp [putL_length, h2, Env.at_], by simp [putI_length, putL_length]; omega, by
      rw [putI_length]
      show VRs _ _ ((putL cells.toList off uy.cells.toList).take cs.length)
      rw [take_putL]
      exact VRs.mono (Env.at_le p.st (tin_bit hr) hA hL e3) (h4.put off hc)⟩
    exact ⟨_, e1, rfl, q1, q2⟩

/-! ### New rows -/
theorem new_row {cs : List IV} {us : List Value} {t : TypeId} (p : Pre T E S) (h : VRs E cs us) :
    ∃ E', E'.w = { E.w with heap := E.w.heap.push (.cells us.toArray t) } ∧ E'.ρ S.next = E.w.heap.size ∧ E'.κ S.next = us.length ∧ E'.A S.next ∧ Post T E S E' (S.new (.row cs)) ∧ Fresh E S E' := by
  have u : Upd [] E.w { E.w with heap := E.w.heap.push (.cells us.toArray t) } := Upd.push _ _
  have hA : ¬ E.A S.next := fun h => Nat.lt_irrefl _ (p.bnd _ h)
  obtain ⟨a, b⟩ := Post.new p (k := us.length) (o := .row cs) u (by simp) ⟨us.toArray, t, by simp only [Env.with_, up_self]; exact World.alloc_heap_new E.w _, by simp [Env.with_, up_self], by simp [h.1], by
    rw [h.1, List.take_of_length_le (by simp)]; exact h.mono (Env.with_le hA u)⟩
  exact ⟨_, rfl, up_self _ _ _, up_self _ _ _, (Or.inr rfl : E.A S.next ∨ S.next = S.next), a, b⟩
def ialloc (tt : Nat → Option TI) (S : IS) (ty : TypeId) : Option Res :=
  match tt ty with
  | none => none
  | some ti => match ofVs ti.zero.cells.toList with
    | none => none
    | some cs => some ⟨.ptr S.next 0, S.new (.row cs), 0, 0⟩
theorem ialloc_sound {ty : TypeId} {r : Res} (htt : TT P tt) (p : Pre T E S) (h : ialloc tt S ty = some r) : Good P T E S (Instr.alloc ty true (.tuple #[])) r := by
  unfold ialloc at h
  split at h
  · cases h
  rename_i ti hti
  have hty := htt _ _ hti
  split at h <;> cases h
  rename_i cs hcs
  obtain ⟨E', h1, h2, h3, h4, h5, h6⟩ := new_row (t := ty) p (ofVs_sound E hcs)
  refine ⟨.pointer (some ⟨E'.ρ S.next, 0, none⟩), E', ?_, .ptr h4, h5, h6⟩
  rw [h1, h2]
  simp only [Instr.alloc, Sem.run_bind, Sx.run_zeroValue hty, Result.andThen_ok, Sem.run_pure, newVar, newRow]
  rfl
def ibox (S : IS) (v : IV) : Option Res := some ⟨.ptr S.next 0, S.new (.row (cellsOf v)), 0, 0⟩
theorem ibox_sound {ty : TypeId} {v : IV} {u : Value} {r : Res} (p : Pre T E S) (h : ibox S v = some r) (hv : VR E v u) : Good P T E S (Instr.box ty u) r := by
  cases h
  obtain ⟨E', h1, h2, h3, h4, h5, h6⟩ := new_row (t := ty) p hv.cells
  refine ⟨.pointer (some ⟨E'.ρ S.next, 0, none⟩), E', ?_, .ptr h4, h5, h6⟩
  rw [h1, h2]
  simp only [Instr.box, Sem.run_bind, Result.andThen_ok, Sem.run_pure, newVar, newRow]
  rfl

/-! ### Literals -/
def fillI (pl : List (Nat × Nat)) : List IV → List (Nat × IV) → Option (List IV)
  | cells, [] => some cells
  | cells, (i, v) :: rest =>
    match pl[i]? with
    | none => none
    | some (off, size) => cond (Nat.beq (cellsOf v).length size && Nat.ble (off + size) cells.length) (fillI pl (putI cells off (cellsOf v)) rest) none
def VPs (E : Env) : List (Nat × IV) → List (Nat × Value) → Prop
  | [], [] => True
  | (i, v) :: l, (j, u) :: m => i = j ∧ VR E v u ∧ VPs E l m
  | _, _ => False
theorem fill_rel {pl : List (Nat × Nat)} : ∀ {ps : List (Nat × IV)} {qs : List (Nat × Value)} {cs r : List IV} {us : List Value}, VPs E ps qs → VRs E cs us → fillI pl cs ps = some r → ∃ ur, fillL pl us qs = some ur ∧ VRs E r ur
  | [], [], cs, r, us, _, hc, h => by simp [fillI] at h; subst h; exact ⟨us, rfl, hc⟩
  | [], _ :: _, _, _, _, h, _, _ => h.elim
  | (i, v) :: ps, [], _, _, _, h, _, _ => h.elim
  | (i, v) :: ps, (j, u) :: qs, cs, r, us, ⟨hij, hv, hp⟩, hc, h => by
    subst hij
    unfold fillI at h
    unfold fillL
    split at h
    · cases h
    rename_i off size he
    rw [he]
    have hcell := hv.cells
    cases hb : (Nat.beq (cellsOf v).length size && Nat.ble (off + size) cs.length) with
    | false => rw [hb] at h; cases h
    | true =>
      rw [hb, cond_true] at h
      rw [hcell.1, hc.1] at hb
      simp only [hb, cond_true]
      exact fill_rel hp (hc.put off hcell) h
def placesI (tt : Nat → Option TI) : List Field → Option (List (Nat × Nat))
  | [] => some []
  | f :: l => match tt f.type with
    | none => none
    | some ti => match placesI tt l with
      | none => none
      | some pl => some ((f.offset, ti.sz) :: pl)
theorem places_run (htt : TT P tt) : ∀ {l : List Field} {pl : List (Nat × Nat)}, placesI tt l = some pl → ∀ w, (l.mapM fun f => (do pure (f.offset, ← sizeOf f.type) : Sem (Nat × Nat))).run P w = .ok pl w
  | [], pl, h, w => by simp [placesI] at h; subst h; rfl
  | f :: l, pl, h, w => by
    unfold placesI at h
    split at h
    · cases h
    rename_i ti hti
    split at h <;> cases h
    rename_i pl' hpl
    simp only [List.mapM_cons, Sem.run_bind, Sx.run_sizeOf (w := w) (htt _ _ hti), Result.andThen_ok, Sem.run_pure, places_run htt hpl w]
theorem szs_of (htt : TT P tt) {ty : TypeId} {ti : TI} {fs : Array Field} {pl : List (Nat × Nat)} (hti : tt ty = some ti) (hf : ti.und = .struct fs) (hp : placesI tt fs.toList = some pl) : Szs P ty pl := by
  refine ⟨fs, by have := (htt _ _ hti).und; rw [hf] at this; exact this, fun w => ?_⟩
  have := places_run htt hp w
  rw [show fs = fs.toList.toArray from rfl, List.mapM_toArray, run_map, this]
  rfl
def ibuild (tt : Nat → Option TI) (S : IS) (ty : TypeId) (ps : List (Nat × IV)) : Option Res :=
  match tt ty with
  | none => none
  | some ti => match ti.und with
    | .struct fs => match placesI tt fs.toList with
      | none => none
      | some pl => match ofVs ti.zero.cells.toList with
        | none => none
        | some zs => match fillI pl zs ps with
          | none => none
          | some r => some ⟨.agg r, S, 0, 0⟩
    | _ => none
theorem ibuild_sound {ty : TypeId} {ps : List (Nat × IV)} {qs : List (Nat × Value)} {r : Res} (htt : TT P tt) (p : Pre T E S) (h : ibuild tt S ty ps = some r) (hp : VPs E ps qs) : Good P T E S (Instr.build ty qs.toArray) r := by
  unfold ibuild at h
  split at h
  · cases h
  rename_i ti hti
  have hty := htt _ _ hti
  split at h <;> try cases h
  rename_i fs hfs
  split at h
  · cases h
  rename_i pl hpl
  split at h
  · cases h
  rename_i zs hzs
  split at h <;> cases h
  rename_i r hr
  obtain ⟨fs', hs1, hs2⟩ := szs_of htt hti hfs hpl
  obtain ⟨ur, hu1, hu2⟩ := fill_rel hp (ofVs_sound E hzs) hr
  refine Good.same p (u := .agg ur.toArray) ?_ (.agg hu2.1 hu2.2)
  have h3 := fill_eq (fun i => pl.toArray[i]?) pl (by simp) _ _ _ hu1
  have h3' : Instr.fill (fun x => pl.toArray[x]?) ti.zero.cells qs = some ur.toArray := by simpa using h3
  simp only [Instr.build, Sem.run_bind, Sx.run_zeroValue hty, Result.andThen_ok, run_underlying hs1, hs2 E.w, h3', Sem.run_pure]
end
end Go.Ix
