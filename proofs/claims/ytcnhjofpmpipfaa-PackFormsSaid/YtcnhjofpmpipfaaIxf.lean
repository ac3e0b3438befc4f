/- The interpreter's operations: lengths, strings, maps, iterators, numbers, and whatever asks the world for nothing. -/
import Derived.Test.YtcnhjofpmpipfaaIxe
set_option linter.unusedVariables false
namespace Go.Ix
open Go Go.Sx Go.RowKit
universe u
section
variable {P : Program} {tt : Nat → Option TI} {T : TW} {E : Env} {S : IS}

/-! ### Lengths -/
def ilen (tt : Nat → Option TI) (S : IS) (ty : Nat) : IV → Option Res
  | .sl id off len s c => match tt ty with
    | some ti => match ti.und with
      | .slice _ => some ⟨.int .i64 len, S, 0, 0⟩
      | _ => none
    | none => none
  | .map id => match tt ty with
    | some ti => match ti.und with
      | .map _ _ => match S.heap.get id with
        | some (.map es) => some ⟨.int .i64 es.length, S, 2 ^ id, 0⟩
        | _ => none
      | _ => none
    | none => none
  | _ => none
theorem ilen_sound {ty tr : Nat} {x : IV} {ux : Value} {r : Res} (htt : TT P tt) (p : Pre T E S) (h : ilen tt S ty x = some r) (hr : tin T.r r.rd) (hx : VR E x ux) : Good P T E S (Builtin.len_ #[ty] tr #[ux]) r := by
  unfold ilen at h
  split at h <;> try cases h
  · cases hx with
    | sl cap hA h1 h2 h3 h4 h5 =>
    split at h <;> try cases h
    rename_i ti hti
    split at h <;> cases h
    rename_i e he
    have hty := (htt _ _ hti).und
    rw [he] at hty
    exact Good.same p (by simp only [Builtin.len_, Sem.run_bind, Sem.run_pure, Result.andThen_ok, List.getElem?_toArray, List.getElem?_cons_zero, run_underlying hty, goInt]) (.int _ _)
  · rename_i id
    cases hx with
    | map hA =>
    split at h <;> try cases h
    rename_i ti hti
    split at h <;> try cases h
    rename_i k e he
    have hty := (htt _ _ hti).und
    rw [he] at hty
    split at h <;> cases h
    rename_i es hes
    obtain ⟨ents, c, h1, h2, h3⟩ := p.st.objs id (tin_bit hr) hA _ hes
    have hl : ents.size = es.length := by have := h2.1; simpa using this.symm
    refine Good.same p (u := .int .i64 ents.size) ?_ (by rw [hl]; exact .int _ _)
    simp only [Builtin.len_, Sem.run_bind, Sem.run_pure, Result.andThen_ok, List.getElem?_toArray, List.getElem?_cons_zero, run_underlying hty, run_getMap h1, goInt]

/-! ### Bytes to a string -/
def toBytes : List IV → Option (List UInt8)
  | [] => some []
  | .int .u8 (.ofNat n) :: l => match toBytes l with
    | some r => some (UInt8.ofNat n :: r)
    | none => none
  | _ => none
theorem toBytes_rel : ∀ {l : List IV} {bs : List UInt8} {us : List Value}, toBytes l = some bs → VRs E l us → ∃ ns : List Int, us = ns.map (Value.int .u8) ∧ ns.map (fun n => UInt8.ofNat n.toNat) = bs
  | [], bs, us, h, hx => by
    have := hx.1; cases us <;> simp at this
    simp [toBytes] at h; subst h; exact ⟨[], rfl, rfl⟩
  | x :: l, bs, us, h, hx => by
    obtain ⟨u, us, rfl, h1, h2⟩ := hx.inv
    unfold toBytes at h
    split at h
    · rename_i he; cases he
    · rename_i n l' he
      cases he
      split at h <;> cases h
      rename_i r hr
      cases h1
      obtain ⟨ns, rfl, k⟩ := toBytes_rel hr h2
      exact ⟨Int.ofNat n :: ns, rfl, by simp [k]⟩
    · cases h
theorem foldl_push (ns : List Int) : ∀ (s : ByteArray), ns.foldl (fun r n => r.push (UInt8.ofNat n.toNat)) s = ⟨⟨s.data.toList ++ ns.map (fun n => UInt8.ofNat n.toNat)⟩⟩ := by
  induction ns with
  | nil => intro s; simp
  | cons n ns ih =>
    intro s
    rw [List.foldl_cons, ih]
    simp [ByteArray.push]
def istr (tt : Nat → Option TI) (S : IS) (src dst : Nat) : IV → Option Res
  | .sl id off len s c => match tt src, tt dst with
    | some ts, some td => match ts.und, td.und with
      | .slice e, .string => match tt e with
        | some te => match te.und with
          | .int .u8 => match S.heap.get id with
            | some (.row cs) => cond (Nat.beq te.sz 1 && Nat.ble (off + len) cs.length) (match toBytes ((cs.drop off).take len) with
                | some bs => some ⟨.str ⟨⟨bs⟩⟩, S, 2 ^ id, 0⟩
                | none => none) none
            | _ => none
          | _ => none
        | none => none
      | _, _ => none
    | _, _ => none
  | _ => none
theorem istr_sound {src dst : Nat} {x : IV} {ux : Value} {r : Res} (htt : TT P tt) (p : Pre T E S) (h : istr tt S src dst x = some r) (hr : tin T.r r.rd) (hx : VR E x ux) : Good P T E S (convert src dst ux) r := by
  unfold istr at h
  split at h <;> try cases h
  rename_i id off len s c
  cases hx with
  | sl cap hA h1 h2 h3 h4 h5 =>
  split at h <;> try cases h
  rename_i ts td hts htd
  split at h <;> try cases h
  rename_i e he hd
  split at h <;> try cases h
  rename_i te hte
  split at h <;> try cases h
  rename_i hu
  split at h <;> try cases h
  rename_i cs hcs
  cases hb : (Nat.beq te.sz 1 && Nat.ble (off + len) cs.length) with
  | false => rw [hb] at h; cases h
  | true =>
  rw [hb, cond_true] at h
  split at h <;> cases h
  rename_i bs hbs
  simp only [Bool.and_eq_true] at hb
  have b2 := Nat.le_of_ble_eq_true hb.2
  obtain ⟨cells, t, g1, g2, g3, g4⟩ := row_of p (tin_bit hr) hA hcs
  have e1 : List.take len (List.drop off (List.take cs.length cells.toList)) = List.take len (List.drop off cells.toList) := by
    apply List.ext_getElem?
    intro i
    rw [List.getElem?_take, List.getElem?_take]
    by_cases hi : i < len
    · rw [if_pos hi, if_pos hi, List.getElem?_drop, List.getElem?_drop, List.getElem?_take, if_pos (by omega)]
    · rw [if_neg hi, if_neg hi]
  have e2 := (g4.drop off).take len
  rw [e1] at e2
  obtain ⟨ns, n1, n2⟩ := toBytes_rel hbs e2
  have u1 := (htt _ _ hts).und
  rw [he] at u1
  have u2 := (htt _ _ htd).und
  rw [hd] at u2
  have u3 := (htt _ _ hte).und
  rw [hu] at u3
  refine Good.same p (u := .string ⟨⟨bs⟩⟩) ?_ (.str _)
  rw [run_convert_bytes_string _ _ _ _ _ _ _ u1 u3 u2, run_bytesToString E.w ⟨E.ρ id, off, none⟩ len cap ns]
  · rw [foldl_push, n2]; rfl
  · have := run_first (P := P) (o := off) (n := len) g1 (by omega)
    rw [this, n1]

/-! ### Maps -/
def sameKey : IV → IV → Option Bool
  | .int k a, .int k' b => cond (decide (k = k')) (some (decide (a = b))) none
  | .str a, .str b => some (decide (a = b))
  | .bool a, .bool b => some (decide (a = b))
  | _, _ => none
def ifind (k : IV) : List (IV × IV) → Option (Option IV)
  | [] => some none
  | e :: es => match sameKey k e.1 with
    | some true => some (some e.2)
    | some false => ifind k es
    | none => none
def keyDesc : TypeDesc → IV → Bool
  | .int _, .int _ _ => true
  | .string, .str _ => true
  | .bool, .bool _ => true
  | _, _ => false
theorem str_beq (a b : ByteArray) : (a == b) = decide (a = b) := by
  cases a with | mk x =>
  cases b with | mk y =>
  show (x == y) = _
  rw [Bool.eq_iff_iff]; simp
theorem sameNow_rel {D : TypeDesc} {k k' : IV} {u u' : Value} {b : Bool} (hd : keyDesc D k = true) (h : sameKey k k' = some b) (hk : VR E k u) (hk' : VR E k' u') : Instr.sameNow D u u' = some b := by
  unfold sameKey at h
  split at h <;> try cases h
  · rename_i k1 a k2 b
    cases hk; cases hk'
    cases D <;> try cases hd
    cases hkk : decide (k1 = k2) with
    | false => rw [hkk] at h; cases h
    | true =>
      rw [hkk, cond_true] at h; cases h
      have := of_decide_eq_true hkk
      subst this
      simp [Instr.sameNow]; rfl
  · cases hk; cases hk'
    cases D <;> try cases hd
    simp only [Instr.sameNow, str_beq]
  · cases hk; cases hk'
    cases D <;> try cases hd
    simp only [Instr.sameNow]
    rename_i a b
    cases a <;> cases b <;> rfl
theorem findNow_rel {D : TypeDesc} {k : IV} {u : Value} (hd : keyDesc D k = true) (hk : VR E k u) : ∀ {es : List (IV × IV)} {ents : List MapEntry} {r : Option IV} (i : Nat), ifind k es = some r → VRs E (es.map (·.1)) (ents.map (·.key)) → VRs E (es.map (·.2)) (ents.map (·.val)) →
    ∃ q : Option (Nat × Value), Instr.findNow D u ents i = some q ∧ (match r, q with | none, none => True | some v, some (_, uv) => VR E v uv | _, _ => False)
  | [], ents, r, i, h, h1, h2 => by
    simp only [ifind, Option.some.injEq] at h; subst h
    have := h1.1; cases ents <;> simp at this
    exact ⟨none, rfl, trivial⟩
  | e :: es, ents, r, i, h, h1, h2 => by
    cases ents with
    | nil => have := h1.1; simp at this
    | cons x ents =>
    obtain ⟨_, _, q1, k1, k2⟩ := h1.inv
    obtain ⟨_, _, q2, v1, v2⟩ := h2.inv
    simp only [List.map_cons, List.cons.injEq] at q1 q2
    obtain ⟨rfl, rfl⟩ := q1
    obtain ⟨rfl, rfl⟩ := q2
    unfold ifind at h
    unfold Instr.findNow
    split at h
    · rename_i hs
      cases h
      rw [sameNow_rel hd hs hk k1]
      exact ⟨some (i, x.val), rfl, v1⟩
    · rename_i hs
      rw [sameNow_rel hd hs hk k1]
      exact findNow_rel hd hk (i + 1) h k2 v2
    · cases h
theorem run_checkKeyD {w : World} {e : Bool} {K : TypeId} {D : TypeDesc} {k : IV} {u : Value} (hK : P.underlying K = some D) (hd : keyDesc D k = true) (hk : VR E k u) : (Instr.checkKey e 10000 K u).run P w = .ok () w := by
  have h : ∀ m, (Instr.checkKey e (m + 1) K u).run P w = .ok () w := fun m => by
    cases D <;> (try cases hd) <;> cases k <;> (try cases hd) <;> cases hk <;> simp only [Instr.checkKey, Sem.run_bind, run_underlying hK, Result.andThen_ok, Sem.run_pure]
  exact h 9999
def ilookup (tt : Nat → Option TI) (S : IS) (ty : Nat) (x k : IV) (ok : Bool) : Option Res :=
  match tt ty with
  | some ti => match ti.und with
    | .map K V => match tt K, tt V with
      | some tk, some tv => cond (keyDesc tk.und k) (match x with
        | .map id => match S.heap.get id with
          | some (.map es) => match ifind k es with
            | some (some v) => some ⟨cond ok (.tup [v, .bool true]) v, S, 2 ^ id, 0⟩
            | some none => match ofV tv.zero with
              | some z => some ⟨cond ok (.tup [z, .bool false]) z, S, 2 ^ id, 0⟩
              | none => none
            | none => none
          | _ => none
        | _ => none) none
      | _, _ => none
    | _ => none
  | none => none
theorem ilookup_sound {ty : Nat} {x k : IV} {ux uk : Value} {ok : Bool} {r : Res} (htt : TT P tt) (p : Pre T E S) (h : ilookup tt S ty x k ok = some r) (hr : tin T.r r.rd) (hx : VR E x ux) (hk : VR E k uk) : Good P T E S (Instr.lookup ty ux uk ok) r := by
  unfold ilookup at h
  split at h <;> try cases h
  rename_i ti hti
  split at h <;> try cases h
  rename_i K V hKV
  have hty := (htt _ _ hti).und
  rw [hKV] at hty
  split at h <;> try cases h
  rename_i tk tv htk htv
  cases hd : keyDesc tk.und k with
  | false => rw [hd] at h; cases h
  | true =>
  rw [hd, cond_true] at h
  split at h <;> try cases h
  rename_i id
  cases hx with
  | map hA =>
  split at h <;> try cases h
  rename_i es hes
  have hp : ∀ {v : IV} {u : Value} (b : Bool), VR E v u → VR E (cond ok (.tup [v, .bool b]) v) (if ok then .tuple #[u, .bool b] else u) := fun b hv => by
    cases ok
    · exact hv
    · have := VRs.cons hv (VRs.cons (.bool b) VRs.nil)
      exact .tup this.1 this.2
  split at h
  · rename_i v hf
    cases h
    obtain ⟨ents, c, h1, h2, h3⟩ := p.st.objs id (tin_bit hr) hA _ hes
    obtain ⟨q, q1, q2⟩ := findNow_rel hd hk 0 hf h2 h3
    cases q with
    | none => exact q2.elim
    | some q =>
    refine Good.same p (u := if ok then .tuple #[q.2, .bool true] else q.2) ?_ (hp true q2)
    have hfk : (Instr.findKey K uk ents.toList).run P E.w = .ok (some q) E.w := by simp only [Instr.findKey, Sem.run_bind, run_underlying (htt _ _ htk).und, Result.andThen_ok, q1, Sem.run_pure]
    simp only [Instr.lookup, Sem.run_bind, run_underlying hty, Result.andThen_ok, run_getMap h1, Sem.run_pure, run_checkKeyD (htt _ _ htk).und hd hk, hfk]
  · rename_i hf
    split at h <;> cases h
    rename_i z hz
    obtain ⟨ents, c, h1, h2, h3⟩ := p.st.objs id (tin_bit hr) hA _ hes
    obtain ⟨q, q1, q2⟩ := findNow_rel hd hk 0 hf h2 h3
    cases q with
    | some q => exact q2.elim
    | none =>
    refine Good.same p (u := if ok then .tuple #[tv.zero, .bool false] else tv.zero) ?_ (hp false (ofV_sound E hz))
    have hfk : (Instr.findKey K uk ents.toList).run P E.w = .ok none E.w := by simp only [Instr.findKey, Sem.run_bind, run_underlying (htt _ _ htk).und, Result.andThen_ok, q1, Sem.run_pure]
    simp only [Instr.lookup, Sem.run_bind, run_underlying hty, Result.andThen_ok, run_getMap h1, Sem.run_pure, run_checkKeyD (htt _ _ htk).und hd hk, hfk, Sx.run_zeroValue (htt _ _ htv)]
  · cases h
def imakeMap (S : IS) : Option Res := some ⟨.map S.next, S.new (.map []), 0, 0⟩
theorem imakeMap_sound {ty : Nat} {r : Res} (p : Pre T E S) (h : imakeMap S = some r) : Good P T E S (Instr.makeMap ty none) r := by
  cases h
  have u : Upd [] E.w (E.w.alloc (.map #[] 0)) := Upd.alloc _ _
  obtain ⟨a, b⟩ := Post.new p (k := 0) (o := .map []) u (by simp) ⟨#[], 0, by simp only [Env.with_, up_self]; exact World.alloc_heap_new E.w _, VRs.nil, VRs.nil⟩
  refine ⟨.map (some ((E.with_ S.next 0 (E.w.alloc (.map #[] 0))).ρ S.next)), _, ?_, .map (Or.inr rfl), a, b⟩
  rw [show (E.with_ S.next 0 (E.w.alloc (.map #[] 0))).ρ S.next = E.w.heap.size from up_self _ _ _]
  simp only [run_makeMap_plain]
  rfl
def setKey (k v : IV) : List (IV × IV) → Option (List (IV × IV))
  | [] => some [(k, v)]
  | e :: es => match sameKey k e.1 with
    | some true => some ((k, v) :: es)
    | some false => match setKey k v es with
      | some es' => some (e :: es')
      | none => none
    | none => none
def imapUpdate (tt : Nat → Option TI) (S : IS) (ty : Nat) (x k v : IV) : Option Res :=
  match tt ty with
  | some ti => match ti.und with
    | .map K V => match tt K with
      | some tk => cond (keyDesc tk.und k) (match x with
        | .map id => match S.heap.get id with
          | some (.map es) => match setKey k v es with
            | some es' => some ⟨.tup [], S.set id (.map es'), 0, 2 ^ id⟩
            | none => none
          | _ => none
        | _ => none) none
      | none => none
    | _ => none
  | none => none
theorem sameBits_key {D : TypeDesc} {k k' : IV} {u u' : Value} (hd : keyDesc D k = true) (h : sameKey k k' = some true) (hk : VR E k u) (hk' : VR E k' u') : Instr.sameBits 10000 u' u = true ∧ u' = u := by
  unfold sameKey at h
  split at h <;> try cases h
  · rename_i k1 a k2 b
    cases hk; cases hk'
    cases hkk : decide (k1 = k2) with
    | false => rw [hkk] at h; cases h
    | true =>
      rw [hkk, cond_true] at h
      have h1 := of_decide_eq_true hkk
      have h2 := of_decide_eq_true (Option.some.inj h)
      subst h1; subst h2
      exact ⟨by simp [Instr.sameBits], rfl⟩
  · cases hk; cases hk'
    have h2 := of_decide_eq_true (Option.some.inj h)
    subst h2
    exact ⟨by simp [Instr.sameBits, str_beq], rfl⟩
  · cases hk; cases hk'
    have h2 := of_decide_eq_true (Option.some.inj h)
    subst h2
    exact ⟨by simp [Instr.sameBits], rfl⟩
theorem setKey_rel {D : TypeDesc} {k v : IV} {uk uv : Value} (hd : keyDesc D k = true) (hk : VR E k uk) (hv : VR E v uv) : ∀ {es es' : List (IV × IV)} {ents : List MapEntry} (i : Nat), setKey k v es = some es' → VRs E (es.map (·.1)) (ents.map (·.key)) → VRs E (es.map (·.2)) (ents.map (·.val)) →
    ∃ q : Option (Nat × Value), Instr.findNow D uk ents i = some q ∧ (match q with
      | none => ∀ b, VRs E (es'.map (·.1)) ((ents ++ ([⟨uk, uv, b⟩] : List MapEntry)).map (·.key)) ∧ VRs E (es'.map (·.2)) ((ents ++ ([⟨uk, uv, b⟩] : List MapEntry)).map (·.val))
      | some (j, _) => ∃ n, j = i + n ∧ (∃ x, ents[n]? = some x ∧ Instr.sameBits 10000 x.key uk = true) ∧ VRs E (es'.map (·.1)) ((ents.modify n fun (e : MapEntry) => { e with key := uk, val := uv }).map (·.key)) ∧ VRs E (es'.map (·.2)) ((ents.modify n fun (e : MapEntry) => { e with key := uk, val := uv }).map (·.val)))
  | [], es', ents, i, h, h1, h2 => by
    simp only [setKey, Option.some.injEq] at h; subst h
    have := h1.1; cases ents <;> simp at this
    exact ⟨none, rfl, fun b => ⟨VRs.cons hk VRs.nil, VRs.cons hv VRs.nil⟩⟩
  | e :: es, es', ents, i, h, h1, h2 => by
    cases ents with
    | nil => have := h1.1; simp at this
    | cons x ents =>
    obtain ⟨_, _, q1, k1, k2⟩ := h1.inv
    obtain ⟨_, _, q2, v1, v2⟩ := h2.inv
    simp only [List.map_cons, List.cons.injEq] at q1 q2
    obtain ⟨rfl, rfl⟩ := q1
    obtain ⟨rfl, rfl⟩ := q2
    unfold setKey at h
    unfold Instr.findNow
    split at h
    · rename_i hs
      cases h
      rw [sameNow_rel hd hs hk k1]
      refine ⟨some (i, x.val), rfl, 0, rfl, ⟨x, rfl, (sameBits_key hd hs hk k1).1⟩, ?_, ?_⟩
      · simpa using VRs.cons hk k2
      · simpa using VRs.cons hv v2
    · rename_i hs
      rw [sameNow_rel hd hs hk k1]
      split at h <;> cases h
      rename_i es'' hes
      obtain ⟨q, g1, g2⟩ := setKey_rel hd hk hv (i + 1) hes k2 v2
      refine ⟨q, g1, ?_⟩
      cases q with
      | none => exact fun b => ⟨VRs.cons k1 (g2 b).1, VRs.cons v1 (g2 b).2⟩
      | some q =>
        obtain ⟨n, g3, ⟨y, g4, g5⟩, g6, g7⟩ := g2
        exact ⟨n + 1, by omega, ⟨y, by simpa using g4, g5⟩, by simpa using VRs.cons k1 g6, by simpa using VRs.cons v1 g7⟩
    · cases h
theorem imapUpdate_sound {ty : Nat} {x k v : IV} {ux uk uv : Value} {r : Res} (htt : TT P tt) (p : Pre T E S) (h : imapUpdate tt S ty x k v = some r) (hr : tin T.w r.wr) (hx : VR E x ux) (hk : VR E k uk) (hv : VR E v uv) : GoodU P T E S (Instr.mapUpdate ty ux uk uv) r := by
  unfold imapUpdate at h
  split at h <;> try cases h
  rename_i ti hti
  split at h <;> try cases h
  rename_i K V hKV
  have hty := (htt _ _ hti).und
  rw [hKV] at hty
  split at h <;> try cases h
  rename_i tk htk
  cases hd : keyDesc tk.und k with
  | false => rw [hd] at h; cases h
  | true =>
  rw [hd, cond_true] at h
  split at h <;> try cases h
  rename_i id
  cases hx with
  | map hA =>
  split at h <;> try cases h
  rename_i es hes
  split at h <;> cases h
  rename_i es' hes'
  obtain ⟨ents, c, h1, h2, h3⟩ := p.st.objs id (T.sub _ (tin_bit hr)) hA _ hes
  obtain ⟨q, q1, q2⟩ := setKey_rel hd hk hv 0 hes' h2 h3
  have hL : Live S.H id := ⟨_, hes, rfl⟩
  have hlt := heap_lt h1
  have fin : ∀ (o : Obj), (Instr.mapUpdate ty (.map (some (E.ρ id))) uk uv).run P E.w = .ok () (E.w.putObj (E.ρ id) o) → OR (E.at_ (E.w.putObj (E.ρ id) o)) id (.map es') → GoodU P T E S (Instr.mapUpdate ty (.map (some (E.ρ id))) uk uv) ⟨.tup [], S.set id (.map es'), 0, 2 ^ id⟩ := fun o hrun ho => by
    obtain ⟨a, b⟩ := Post.write p (tin_bit hr) hA hL (Upd.putObj _ _ _) ho
    exact ⟨_, hrun, rfl, a, b⟩
  cases q with
  | none =>
    have hfk : (Instr.findKey K uk ents.toList).run P E.w = .ok none E.w := by simp only [Instr.findKey, Sem.run_bind, run_underlying (htt _ _ htk).und, Result.andThen_ok, q1, Sem.run_pure]
    refine fin (.map (ents.push { key := uk, val := uv, born := c }) (c + 1)) ?_ ⟨_, _, World.putObj_heap_same hlt, ?_, ?_⟩
    · simp only [Instr.mapUpdate, Sem.run_bind, run_underlying hty, Result.andThen_ok, run_getMap h1, Sem.run_pure, run_checkKeyD (htt _ _ htk).und hd hk, hfk]
      simp [setObj, Sem.run, h1, World.putObj]
    · have := (q2 c).1.mono (Env.at_le p.st (tin_bit hr) hA hL (Upd.putObj E.w (E.ρ id) (.map (ents.push { key := uk, val := uv, born := c }) (c + 1))))
      simpa using this
    · have := (q2 c).2.mono (Env.at_le p.st (tin_bit hr) hA hL (Upd.putObj E.w (E.ρ id) (.map (ents.push { key := uk, val := uv, born := c }) (c + 1))))
      simpa using this
  | some q =>
    obtain ⟨n, e0, ⟨x0, e1, e2⟩, e3, e4⟩ := q2
    obtain ⟨j, vj⟩ := q
    simp only [Nat.zero_add] at e0
    subst e0
    have hfk : (Instr.findKey K uk ents.toList).run P E.w = .ok (some (j, vj)) E.w := by simp only [Instr.findKey, Sem.run_bind, run_underlying (htt _ _ htk).und, Result.andThen_ok, q1, Sem.run_pure]
    have e1' : ents[j]? = some x0 := by simpa using e1
    refine fin (.map (ents.modify j fun e => { e with key := uk, val := uv }) c) ?_ ⟨_, _, World.putObj_heap_same hlt, ?_, ?_⟩
    · simp only [Instr.mapUpdate, Sem.run_bind, run_underlying hty, Result.andThen_ok, run_getMap h1, Sem.run_pure, run_checkKeyD (htt _ _ htk).und hd hk, hfk, e1', Option.map_some, Option.getD_some, Instr.keyThatStays, e2, if_true]
      simp [setObj, Sem.run, h1, World.putObj]
    · have := e3.mono (Env.at_le p.st (tin_bit hr) hA hL (Upd.putObj E.w (E.ρ id) (.map (ents.modify j fun e => { e with key := uk, val := uv }) c)))
      simpa [Array.toList_modify] using this
    · have := e4.mono (Env.at_le p.st (tin_bit hr) hA hL (Upd.putObj E.w (E.ρ id) (.map (ents.modify j fun e => { e with key := uk, val := uv }) c)))
      simpa [Array.toList_modify] using this

/-! ### Ranging over a string -/
def irange (tt : Nat → Option TI) (S : IS) (ty : Nat) : IV → Option Res
  | .str s => match tt ty with
    | some ti => match ti.und with
      | .string => some ⟨.ptr S.next 0, S.new (.iter s 0), 0, 0⟩
      | _ => none
    | none => none
  | _ => none
theorem irange_sound {ty : Nat} {x : IV} {ux : Value} {r : Res} (htt : TT P tt) (p : Pre T E S) (h : irange tt S ty x = some r) (hx : VR E x ux) : Good P T E S (Instr.range ty ux) r := by
  unfold irange at h
  split at h <;> try cases h
  rename_i s
  cases hx
  split at h <;> try cases h
  rename_i ti hti
  split at h <;> cases h
  rename_i hu
  have hty := (htt _ _ hti).und
  rw [hu] at hty
  have u : Upd [] E.w (E.w.alloc (.stringIter s 0)) := Upd.alloc _ _
  obtain ⟨a, b⟩ := Post.new p (k := 0) (o := .iter s 0) u (by simp) (by
    show _ = _
    rw [show (E.with_ S.next 0 (E.w.alloc (.stringIter s 0))).ρ S.next = E.w.heap.size from up_self _ _ _]
    exact World.alloc_heap_new E.w _)
  refine ⟨.pointer (some ⟨(E.with_ S.next 0 (E.w.alloc (.stringIter s 0))).ρ S.next, 0, none⟩), _, ?_, .ptr (Or.inr rfl), a, b⟩
  rw [show (E.with_ S.next 0 (E.w.alloc (.stringIter s 0))).ρ S.next = E.w.heap.size from up_self _ _ _]
  simp only [Instr.range, Sem.run_bind, run_underlying hty, Result.andThen_ok, Sem.run_pure]
  rfl
def inext (S : IS) : IV → Bool → Option Res
  | .ptr id 0, true => match S.heap.get id with
    | some (.iter s p) => cond (Nat.blt p s.size)
      (match Utf8.decode s p with
      | (c, width) => some ⟨.tup [.bool true, .int .i64 p, .int .i32 c], S.set id (.iter s (p + width)), 0, 2 ^ id⟩)
      (some ⟨.tup [.bool false], S, 2 ^ id, 0⟩)
    | _ => none
  | _, _ => none
theorem inext_sound {ty : Nat} {x : IV} {ux : Value} {b : Bool} {r : Res} (p : Pre T E S) (h : inext S x b = some r) (hrd : tin T.r r.rd) (hwr : tin T.w r.wr) (hx : VR E x ux) : Good P T E S (Instr.next ux b ty) r := by
  unfold inext at h
  split at h <;> try cases h
  rename_i id
  cases hx with
  | ptr hA =>
  split at h <;> try cases h
  rename_i s q hq
  cases hb : Nat.blt q s.size with
  | true =>
    rw [hb, cond_true] at h
    have hlt : q < s.size := by simpa using hb
    cases hdec : Utf8.decode s q with
    | mk c width =>
    rw [hdec] at h
    cases h
    have h1 : E.w.heap[E.ρ id]? = some (.stringIter s q) := p.st.objs id (T.sub _ (tin_bit hwr)) hA _ hq
    have hL : Live S.H id := ⟨_, hq, rfl⟩
    obtain ⟨a, b⟩ := Post.write p (o' := .iter s (q + width)) (tin_bit hwr) hA hL (Upd.putObj E.w (E.ρ id) (.stringIter s (q + width))) (World.putObj_heap_same (heap_lt h1))
    refine ⟨.tuple #[.bool true, .int .i64 q, .int .i32 c], _, ?_, ?_, a, b⟩
    · simp only [Instr.next, Sem.run_bind, getObj, Sem.run, h1, Result.andThen_ok, hlt, if_true, setObj, Sem.run_pure, goInt, hdec]
      rfl
    · have := VRs.cons (E := E.at_ (E.w.putObj (E.ρ id) (.stringIter s (q + width)))) (.bool true) (VRs.cons (.int .i64 (q : Int)) (VRs.cons (.int .i32 (c : Int)) VRs.nil))
      exact .tup this.1 this.2
  | false =>
    rw [hb, cond_false] at h
    cases h
    have hge : ¬ q < s.size := fun hh => by
      have : Nat.blt q s.size = true := by simpa using hh
      rw [this] at hb; cases hb
    have h1 : E.w.heap[E.ρ id]? = some (.stringIter s q) := p.st.objs id (tin_bit hrd) hA _ hq
    have := VRs.cons (E := E) (.bool false) VRs.nil
    exact Good.same p (u := .tuple #[.bool false]) (by simp only [Instr.next, Sem.run_bind, getObj, Sem.run, h1, Result.andThen_ok, hge, if_false, Sem.run_pure]) (.tup this.1 this.2)

/-! ### Parts of tuples; interface values -/
def iextract (S : IS) (i : Nat) : IV → Option Res
  | .tup vs => match vs[i]? with
    | some v => some ⟨v, S, 0, 0⟩
    | none => none
  | _ => none
theorem iextract_sound {i : Nat} {x : IV} {ux : Value} {r : Res} (p : Pre T E S) (h : iextract S i x = some r) (hx : VR E x ux) : Good P T E S (Instr.extract ux i) r := by
  unfold iextract at h
  split at h <;> try cases h
  rename_i vs
  cases hx with
  | tup hl hh =>
  rename_i us
  split at h <;> cases h
  rename_i v hv
  have hr : VRs E vs us := ⟨hl, hh⟩
  obtain ⟨u, hu, hvu⟩ := hr.get hv
  exact Good.same p (by simp only [Instr.extract, List.getElem?_toArray, hu, Sem.run_pure]) hvu
def imakeIface (tt : Nat → Option TI) (S : IS) (ty : Nat) (v : IV) : Option Res :=
  match tt ty with
  | some ti => match ti.und with
    | .interface _ => none
    | _ => some ⟨.iface ty v, S, 0, 0⟩
  | none => none
theorem imakeIface_sound {ty : Nat} {x : IV} {ux : Value} {r : Res} (htt : TT P tt) (p : Pre T E S) (h : imakeIface tt S ty x = some r) (hx : VR E x ux) : Good P T E S (Instr.makeInterface ty ux) r := by
  unfold imakeIface at h
  split at h <;> try cases h
  rename_i ti hti
  have hty := (htt _ _ hti).und
  split at h <;> cases h
  rename_i hu
  refine Good.same p (u := .iface ty ux) ?_ (.iface hx)
  simp only [Instr.makeInterface, Sem.run_bind, run_underlying hty, Result.andThen_ok]
  cases hd : ti.und <;> first | exact absurd hd (hu _) | rfl
def iassert (tt : Nat → Option TI) (S : IS) (xT asserted : Nat) (ok : Bool) : IV → Option Res
  | .iface t v => match tt asserted with
    | some ti => match ti.und with
      | .interface _ => none
      | _ => cond (Nat.beq t asserted) (some ⟨cond ok (.tup [v, .bool true]) v, S, 0, 0⟩) (cond ok (match ofV ti.zero with
          | some z => some ⟨.tup [z, .bool false], S, 0, 0⟩
          | none => none) none)
    | none => none
  | _ => none
theorem iassert_sound {xT asserted : Nat} {ok : Bool} {x : IV} {ux : Value} {r : Res} (htt : TT P tt) (p : Pre T E S) (h : iassert tt S xT asserted ok x = some r) (hx : VR E x ux) : Good P T E S (Instr.typeAssert ux xT asserted ok) r := by
  unfold iassert at h
  split at h <;> try cases h
  rename_i t v
  cases hx with
  | iface hv =>
  rename_i u
  split at h <;> try cases h
  rename_i ti hti
  have hty := htt _ _ hti
  split at h
  · cases h
  · rename_i hu
    cases hb : Nat.beq t asserted with
    | true =>
      rw [hb, cond_true] at h; cases h
      have := Nat.eq_of_beq_eq_true hb
      subst this
      refine Good.same p (u := if ok then .tuple #[u, .bool true] else u) ?_ ?_
      · simp only [Instr.typeAssert, Sem.run_bind, run_underlying hty.und, Result.andThen_ok]
        cases hd : ti.und <;> first | exact absurd hd (hu _) | simp [Sem.run_pure]
      · cases ok
        · exact hv
        · have := VRs.cons hv (VRs.cons (.bool true) VRs.nil)
          exact .tup this.1 this.2
    | false =>
      rw [hb, cond_false] at h
      cases ok with
      | false => cases h
      | true =>
      rw [cond_true] at h
      split at h <;> cases h
      rename_i z hz
      have hne : ¬ t = asserted := fun e => by rw [beq_t e] at hb; cases hb
      have := VRs.cons (ofV_sound E hz) (VRs.cons (.bool false) VRs.nil)
      refine Good.same p (u := .tuple #[ti.zero, .bool false]) ?_ (.tup this.1 this.2)
      simp only [Instr.typeAssert, Sem.run_bind, run_underlying hty.und, Result.andThen_ok]
      cases hd : ti.und <;> first | exact absurd hd (hu _) | simp [Sem.run_pure, hne, Sem.run_bind, Sx.run_zeroValue hty]
end
end Go.Ix
