/- The interpreter's operations: append, strings, maps, iterators, and whatever asks the world for nothing. -/
import Derived.Test.YtcnhjofpmpipfaaIxd
import Derived.Test.YtcnhjofpmpipfaaElt
set_option linter.unusedVariables false
namespace Go.Ix
open Go Go.Sx Go.RowKit
universe u

theorem Post.kill {T : TW} {E : Env} {S : IS} {id : Nat} (p : Pre T E S) : Post T E S E (S.set id .dead) := by
  obtain ⟨a, b⟩ := p.st.kill (id := id)
  refine ⟨?_, ?_, p.bnd, Nat.le_refl _⟩
  · rw [IS.H_set]; exact a
  · rw [IS.H_set]; exact b
theorem Post.move {T : TW} {E : Env} {S : IS} {id : Nat} {o : IObj} {w' : World} (p : Pre T E S) (hT : T.w id) (hA : E.A id) (hL : Live S.H id) (u : Upd [E.ρ id] E.w w')
    (ho : OR (E.moved id S.next w') S.next o) : Post T E S (E.moved id S.next w') ((S.set id .dead).new o) ∧ Fresh E S (E.moved id S.next w') := by
  have hA' : ¬ E.A S.next := fun h => Nat.lt_irrefl _ (p.bnd _ h)
  obtain ⟨_, a, b⟩ := p.st.move hT hA hL hA' u ho
  have e : ((S.set id .dead).new o).H = up (up S.H id (some .dead)) S.next (some o) := by rw [IS.H_new, IS.H_set]; rfl
  refine ⟨⟨?_, ?_, fun j h => ?_, by simp [IS.new, IS.set]⟩, ⟨fun j h hn => ?_⟩⟩
  · rw [e]; exact a
  · rw [e]; exact b
  · show j < S.next + 1
    rcases h with h | h
    · have := p.bnd j h; omega
    · omega
  · rcases h with h | h
    · exact absurd h hn
    · omega
section
variable {P : Program} {tt : Nat → Option TI} {T : TW} {E : Env} {S : IS}

theorem new_row' {cs : List IV} {us rest : List Value} {t : TypeId} {w' : World} (p : Pre T E S) (h : VRs E cs us) (hw : w'.heap = E.w.heap.push (.cells (us ++ rest).toArray t)) (h1 : w'.os = E.w.os) (h2 : w'.tape = E.w.tape) (h3 : w'.output = E.w.output) :
    ∃ E', E'.w = w' ∧ E'.ρ S.next = E.w.heap.size ∧ E'.κ S.next = (us ++ rest).length ∧ E'.A S.next ∧ Post T E S E' (S.new (.row cs)) ∧ Fresh E S E' := by
  have u : Upd [] E.w w' := ⟨h1, h2, h3, by rw [hw]; simp, fun b hb _ => by rw [hw, Array.getElem?_push, if_neg (by omega)]⟩
  have hA : ¬ E.A S.next := fun h => Nat.lt_irrefl _ (p.bnd _ h)
  obtain ⟨a, b⟩ := Post.new p (k := (us ++ rest).length) (o := .row cs) u (by rw [hw]; simp) ⟨(us ++ rest).toArray, t, by simp only [Env.with_, up_self, hw]; simp, by simp [Env.with_, up_self], by simp [h.1], by
    have : ((us ++ rest).toArray.toList).take cs.length = us := by rw [h.1]; simp
    rw [this]; exact h.mono (Env.with_le hA u)⟩
  exact ⟨_, rfl, up_self _ _ _, up_self _ _ _, (Or.inr rfl : E.A S.next ∨ S.next = S.next), a, b⟩

/-! ### append -/
def bytesI : List UInt8 → List IV
  | [] => []
  | b :: l => .int .u8 b.toNat :: bytesI l
def srcCells (S : IS) (s : Nat) : IV → Option (Nat × List IV × Nat)
  | .nilsl => some (0, [], 0)
  | .sl id off len s' c => match S.heap.get id with
    | some (.row cs) => cond (Nat.beq s' s && Nat.ble (off + len * s) cs.length) (some (len, (cs.drop off).take (len * s), 2 ^ id)) none
    | _ => none
  | .str b => cond (Nat.beq s 1) (some (b.size, bytesI b.data.toList, 0)) none
  | _ => none
structure Src (P : Program) (E : Env) (s n : Nat) (cs : List IV) (u : Value) (fl : List Value) : Prop where
  rel : VRs E cs fl
  size : fl.length = n * s
  len : ∀ w1 : World, (Builtin.lenOf u).run P w1 = .ok n w1
  first : ∀ w1 : World, w1.heap = E.w.heap → (Builtin.firstCells s n u).run P w1 = .ok fl.toArray w1
theorem bytesI_rel (E : Env) : ∀ l : List UInt8, VRs E (bytesI l) (l.map fun b => .int .u8 b.toNat)
  | [] => VRs.nil
  | b :: l => VRs.cons (.int _ _) (bytesI_rel E l)
theorem run_first {w1 : World} {b o n : Nat} {cells : Array Value} {t : TypeId} {fz : Nat × Nat} (hh : w1.heap[b]? = some (.cells cells t fz)) (hl : o + n ≤ cells.size) :
    (loadCells ⟨b, o, none⟩ n).run P w1 = .ok ((cells.toList.drop o).take n).toArray w1 := by
  have hlen : ((cells.toList.drop o).take n).length = n := by simp; omega
  have := Sx.run_loadCellsFrom (P := P) (w := w1) (ad := ⟨b, o, none⟩) ((cells.toList.drop o).take n) 0 #[] (fun j hj => by
    rw [hlen] at hj
    rw [add_spot _ rfl, List.getElem?_take, if_pos hj, List.getElem?_drop]; simp [World.cell?, hh])
  rw [hlen] at this
  simpa [loadCells] using this
theorem src_sound {s n : Nat} {y : IV} {uy : Value} {cs : List IV} {rd : Nat} (p : Pre T E S) (h : srcCells S s y = some (n, cs, rd)) (hr : tin T.r rd) (hy : VR E y uy) : ∃ fl, Src P E s n cs uy fl := by
  unfold srcCells at h
  split at h <;> try cases h
  · cases hy
    exact ⟨[], VRs.nil, by simp, fun w1 => rfl, fun w1 hw => rfl⟩
  · rename_i id off len s' c
    cases hy with
    | sl cap hA h1 h2 h3 h4 h5 =>
    split at h <;> try cases h
    rename_i cs0 hcs
    cases hb : (Nat.beq s' s && Nat.ble (off + len * s) cs0.length) with
    | false => rw [hb] at h; cases h
    | true =>
      rw [hb, cond_true] at h; cases h
      simp only [Bool.and_eq_true] at hb
      have hle := Nat.le_of_ble_eq_true hb.2
      obtain ⟨cells, t, g1, g2, g3, g4⟩ := row_of p (tin_bit hr) hA hcs
      refine ⟨(cells.toList.drop off).take (n * s), ?_, by simp; omega, fun w1 => rfl, fun w1 hw => run_first (by rw [hw]; exact g1) (by omega)⟩
      have := (g4.drop off).take (n * s)
      have e : List.take (n * s) (List.drop off (List.take cs0.length cells.toList)) = List.take (n * s) (List.drop off cells.toList) := by
        apply List.ext_getElem?
        intro i
        rw [List.getElem?_take, List.getElem?_take]
        by_cases hi : i < n * s
        · rw [if_pos hi, if_pos hi, List.getElem?_drop, List.getElem?_drop, List.getElem?_take, if_pos (by omega)]
        · rw [if_neg hi, if_neg hi]
      rwa [e] at this
  · rename_i b
    cases hb : (Nat.beq s 1) with
    | false => rw [hb] at h; cases h
    | true =>
      rw [hb, cond_true] at h; cases h
      have hs := Nat.eq_of_beq_eq_true hb
      subst hs
      cases hy
      refine ⟨b.data.toList.map fun b => .int .u8 b.toNat, bytesI_rel E _, by simp, fun w1 => rfl, fun w1 hw => ?_⟩
      simp only [Builtin.firstCells, Sem.run_pure]
      congr 1
      have : b.extract 0 b.size = b := by simp
      rw [this]
      apply Array.ext
      · simp
      · intro i h1 h2; simp
theorem run_append_fit {w : World} {T T2 E ty : TypeId} {D2 E' : TypeDesc} {size bytes s b2 : Nat} {zero z2 : Value} {g o len n cap : Nat} {cells fl : List Value} {x : Value} (hT : Ty P T (.slice E) size bytes zero) (hT2 : P.underlying T2 = some D2) (hni : ∀ k, D2 ≠ .int k) (hE : Ty P E E' s b2 z2)
    (hlen : ∀ w1 : World, (Builtin.lenOf x).run P w1 = .ok n w1) (hfirst : (Builtin.firstCells s n x).run P w = .ok fl.toArray w) (hfl : fl.length = n * s) (hone : fl.all Sx.one = true) (hbox : Box w g cells) (hfit : len + n ≤ cap) (hroom : o + (len + n) * s ≤ cells.length) :
    ∃ w', (Builtin.append_ #[T, T2] ty #[.slice (some ⟨g, o, none⟩) len cap, x]).run P w = .ok (.slice (some ⟨g, o, none⟩) (len + n) cap) w' ∧ Box w' g (putL cells (o + len * s) fl) ∧ Upd [g] w w' ∧ w'.heap.size = w.heap.size := by
  have hm : (len + n) * s = len * s + n * s := Nat.add_mul _ _ _
  obtain ⟨w', h1, h2, h3, h4⟩ := Sx.run_store (P := P) fl (o + len * s) 0 hbox (by omega) hone
  refine ⟨w', ?_, h2, h3, h4⟩
  have hz : (match D2 with | TypeDesc.int k => true | _ => false) = false := by cases D2 <;> first | rfl | exact absurd rfl (hni _)
  simp only [Builtin.append_, List.getElem?_toArray, List.getElem?_cons_zero, List.getElem?_cons_succ, Sem.run_bind, run_underlying hT.und, run_underlying hT2, Result.andThen_ok, Sx.run_sizeOf hE, Sem.run_pure, hz, Bool.false_eq_true, if_false, hlen]
  simp only [hfit, if_true, Bool.not_false, Sem.run_bind, Sem.run_pure, Result.andThen_ok, hfirst]
  rw [show (⟨g, o, none⟩ : Addr).add (len * s) = ⟨g, o + len * s, none⟩ from by rw [add_spot _ rfl], h1]
  simp [Sem.run_pure]
theorem run_append_grow {w : World} {T T2 E ty : TypeId} {D2 E' : TypeDesc} {size bytes s b2 : Nat} {zero z2 : Value} {a : Option Addr} {len n cap : Nat} {fo fl : List Value} {x : Value} (hT : Ty P T (.slice E) size bytes zero) (hT2 : P.underlying T2 = some D2) (hni : ∀ k, D2 ≠ .int k) (hE : Ty P E E' s b2 z2) (hz : z2.cells.size = s)
    (hlen : ∀ w1 : World, (Builtin.lenOf x).run P w1 = .ok n w1) (hfirst : ∀ w1 : World, w1.heap = w.heap → (Builtin.firstCells s n x).run P w1 = .ok fl.toArray w1) (hfl : fl.length = n * s) (hold : ∀ w1 : World, w1.heap = w.heap → (Builtin.firstCells s len (.slice a len cap)).run P w1 = .ok fo.toArray w1) (hfo : fo.length = len * s)
    (hfit : ¬ len + n ≤ cap) (hroom : (len + n) * b2 ≤ 140737488355328) (hb2 : 0 < b2) :
    ∃ nc tl, len + n ≤ nc ∧ nc < 9223372036854775808 ∧ tl.length = (nc - (len + n)) * s ∧ (Builtin.append_ #[T, T2] ty #[.slice a len cap, x]).run P w = .ok (.slice (some ⟨w.heap.size, 0, none⟩) (len + n) nc) { w with drawn := w.drawn + 1, heap := w.heap.push (.cells (fo ++ fl ++ tl).toArray E) } := by
  obtain ⟨i, hi, his, hib, hiz⟩ := hE.inf
  have hnb : (len + n) * i.bytes ≤ 140737488355328 := by rw [hib]; exact hroom
  have h48 : ¬ (Builtin.nextslicecap (len + n) cap * i.bytes > 2 ^ 48) := by
    have := growslice_fits (need := len + n) (old := cap) (bytes := i.bytes) (by omega) hnb
    have e : (2 : Nat) ^ 48 = 281474976710656 := by decide
    rw [e]; omega
  have hti : ∀ w, (typeInfo E).run P w = .ok i w := fun w => by simp [typeInfo, go_sem, hi]
  have hov : ¬ (((len + n : Nat) : Int) > IntKind.i64.max ∧ (False ∨ i.bytes = 0)) := by
    rintro ⟨_, h | h⟩
    · exact h
    · omega
  let nc := (Question.appendCap (len + n) cap E).cut (w.tape w.drawn (Question.appendCap (len + n) cap E))
  have hnc : len + n ≤ nc := Nat.le_add_right _ _
  have hneed : len + n < 2 ^ 63 := by
    have : (len + n) * 1 ≤ (len + n) * i.bytes := Nat.mul_le_mul_left _ (by omega)
    have e : (2 : Nat) ^ 63 = 9223372036854775808 := by decide
    rw [e]; omega
  have hnc2 : nc < 9223372036854775808 := by
    have h1 : nc = len + n + (w.tape w.drawn (Question.appendCap (len + n) cap E)) % (2 ^ 63 - (len + n)) := rfl
    have h2 := Nat.mod_lt (w.tape w.drawn (Question.appendCap (len + n) cap E)) (show 2 ^ 63 - (len + n) > 0 by omega)
    have e : (2 : Nat) ^ 63 = 9223372036854775808 := by decide
    rw [e] at h1 h2 hneed; omega
  let tl := (Builtin.zeroCells z2.cells (nc - (len + n))).toList
  have htl : tl.length = (nc - (len + n)) * s := by simp [tl, Builtin.zeroCells, hz]
  refine ⟨nc, tl, hnc, hnc2, htl, ?_⟩
  have hch : (choose (Question.appendCap (len + n) cap E)).run P w = .ok nc { w with drawn := w.drawn + 1 } := rfl
  have ho1 := hold { w with drawn := w.drawn + 1 } rfl
  have hn1 := hfirst { w with drawn := w.drawn + 1 } rfl
  have hcat : fo.toArray ++ fl.toArray ++ Builtin.zeroCells z2.cells (nc - (len + n)) = (fo ++ fl ++ tl).toArray := by simp [tl]
  have hz : (match D2 with | TypeDesc.int k => true | _ => false) = false := by cases D2 <;> first | rfl | exact absurd rfl (hni _)
  simp only [Builtin.append_, List.getElem?_toArray, List.getElem?_cons_zero, List.getElem?_cons_succ, Sem.run_bind, run_underlying hT.und, run_underlying hT2, Result.andThen_ok, Sx.run_sizeOf hE, Sem.run_pure, hz, Bool.false_eq_true, if_false, hlen]
  simp only [hfit, Bool.not_false, Bool.false_eq_true, if_false, if_true, Sem.run_bind, Sem.run_pure, Result.andThen_ok, hti, hov, h48, hch, run_askRoom, ho1, hn1, Sx.run_zeroValue hE, newRow, hcat]
  rfl
theorem run_append_none {w : World} {T T2 E ty : TypeId} {D2 E' : TypeDesc} {size bytes s b2 : Nat} {zero z2 : Value} {x : Value} (hT : Ty P T (.slice E) size bytes zero) (hT2 : P.underlying T2 = some D2) (hni : ∀ k, D2 ≠ .int k) (hE : Ty P E E' s b2 z2) {fl : List Value}
    (hlen : ∀ w1 : World, (Builtin.lenOf x).run P w1 = .ok 0 w1) (hfirst : (Builtin.firstCells s 0 x).run P w = .ok fl.toArray w) :
    (Builtin.append_ #[T, T2] ty #[.slice none 0 0, x]).run P w = .ok (.slice none 0 0) w := by
  have hz : (match D2 with | TypeDesc.int k => true | _ => false) = false := by cases D2 <;> first | rfl | exact absurd rfl (hni _)
  simp only [Builtin.append_, List.getElem?_toArray, List.getElem?_cons_zero, List.getElem?_cons_succ, Sem.run_bind, run_underlying hT.und, run_underlying hT2, Result.andThen_ok, Sx.run_sizeOf hE, Sem.run_pure, hz, Bool.false_eq_true, if_false, hlen]
  simp only [Nat.add_zero, Nat.le_refl, if_true, Bool.not_false, Sem.run_bind, Sem.run_pure, Result.andThen_ok, hfirst]
def notInt : TypeDesc → Bool
  | .int _ => false
  | _ => true
def iappend (tt : Nat → Option TI) (S : IS) (ty ty2 : Nat) (x y : IV) : Option Res :=
  match tt ty, tt ty2 with
  | some ti, some t2 => match ti.und with
    | .slice e => match tt e with
      | none => none
      | some te => match srcCells S te.sz y with
        | none => none
        | some (n, xs, rd) => cond (notInt t2.und && Nat.blt 0 te.bytes && Nat.beq te.zero.cells.size te.sz && xs.all one1)
          (match x with
          | .nilsl => cond (Nat.beq n 0) (some ⟨.nilsl, S, rd, 0⟩) (cond (Nat.ble (n * te.bytes) 140737488355328) (some ⟨.sl S.next 0 n te.sz none, S.new (.row xs), rd, 0⟩) none)
          | .sl id off len s c => match S.heap.get id with
            | some (.row cs) => cond (Nat.beq s te.sz && Nat.ble (off + len * s) cs.length && Nat.ble ((len + n) * te.bytes) 140737488355328)
              (match c with
              | some c0 => cond (Nat.ble (len + n) c0)
                  (some ⟨.sl id off (len + n) s (some c0), S.set id (.row (cs.take (off + len * s) ++ xs ++ cs.drop (off + (len + n) * s))), rd, 2 ^ id⟩)
                  (some ⟨.sl S.next 0 (len + n) s none, S.new (.row ((cs.drop off).take (len * s) ++ xs)), rd ||| 2 ^ id, 0⟩)
              | none => cond (Nat.beq n 0) none (cond (Nat.beq off 0)
                  (some ⟨.sl S.next 0 (len + n) s none, (S.set id .dead).new (.row (cs.take (len * s) ++ xs)), rd, 2 ^ id⟩) none)) none
            | _ => none
          | _ => none) none
    | _ => none
  | _, _ => none
theorem iappend_sound {ty ty2 tr : Nat} {x y : IV} {ux uy : Value} {r : Res} (htt : TT P tt) (p : Pre T E S) (h : iappend tt S ty ty2 x y = some r) (hrd : tin T.r r.rd) (hwr : tin T.w r.wr) (hx : VR E x ux) (hy : VR E y uy) :
    Good P T E S (Builtin.append_ #[ty, ty2] tr #[ux, uy]) r := by
  unfold iappend at h
  split at h <;> try cases h
  rename_i ti t2 hti ht2
  have hty := htt _ _ hti
  have hT2 := (htt _ _ ht2).und
  split at h <;> try cases h
  rename_i e he
  rw [he] at hty
  split at h
  · cases h
  rename_i te hte
  have hE := htt _ _ hte
  split at h
  · cases h
  rename_i n xs rd hsrc
  cases hb : (notInt t2.und && Nat.blt 0 te.bytes && Nat.beq te.zero.cells.size te.sz && xs.all one1) with
  | false => rw [hb] at h; cases h
  | true =>
  rw [hb, cond_true] at h
  simp only [Bool.and_eq_true] at hb
  obtain ⟨⟨⟨b1, b2⟩, b3⟩, b4⟩ := hb
  have hni : ∀ k, t2.und ≠ .int k := fun k hk => by rw [hk] at b1; cases b1
  have hb2 : 0 < te.bytes := by simpa using b2
  have hz := Nat.eq_of_beq_eq_true b3
  split at h
  · -- onto nothing
    cases hx
    cases hn : Nat.beq n 0 with
    | true =>
      rw [hn, cond_true] at h; cases h
      have hn := Nat.eq_of_beq_eq_true hn
      subst hn
      obtain ⟨fl, hs⟩ := src_sound (P := P) p hsrc hrd hy
      exact Good.same p (run_append_none hty hT2 hni hE hs.len (hs.first _ rfl)) .nilsl
    | false =>
      rw [hn, cond_false] at h
      cases hr : Nat.ble (n * te.bytes) 140737488355328 with
      | false => rw [hr] at h; cases h
      | true =>
      rw [hr, cond_true] at h; cases h
      have hr := Nat.le_of_ble_eq_true hr
      have hn0 : n ≠ 0 := fun e => by subst e; cases hn
      obtain ⟨fl, hs⟩ := src_sound (P := P) p hsrc hrd hy
      obtain ⟨nc, tl, k1, k2, k3, k4⟩ := run_append_grow (w := E.w) (a := none) (len := 0) (cap := 0) (fo := []) (ty := tr) hty hT2 hni hE hz hs.len hs.first hs.size (fun w1 _ => rfl) (by simp) (by omega) (by simpa using hr) hb2
      simp only [Nat.zero_add, List.nil_append] at k1 k3 k4
      obtain ⟨E', g1, g2, g3, g4, g5, g6⟩ := new_row' (w' := { E.w with drawn := E.w.drawn + 1, heap := E.w.heap.push (.cells (fl ++ tl).toArray e) }) p hs.rel rfl rfl rfl rfl
      refine ⟨_, E', by rw [g1]; exact k4, ?_, g5, g6⟩
      rw [← g2]
      have hm : nc * te.sz = n * te.sz + (nc - n) * te.sz := by rw [← Nat.add_mul]; congr 1; omega
      have hk : E'.κ S.next = nc * te.sz := by rw [g3, List.length_append, hs.size, k3, hm]
      exact .sl nc g4 k1 k2 (by rw [hk]; omega) (fun x hx => by cases hx) (fun _ => by rw [hk]; omega)
  · rename_i id off len s c
    cases hx with
    | sl cap hA h1 h2 h3 h4 h5 =>
    split at h <;> try cases h
    rename_i cs hcs
    cases hb : (Nat.beq s te.sz && Nat.ble (off + len * s) cs.length && Nat.ble ((len + n) * te.bytes) 140737488355328) with
    | false => rw [hb] at h; cases h
    | true =>
    rw [hb, cond_true] at h
    simp only [Bool.and_eq_true] at hb
    obtain ⟨⟨d1, d2⟩, d3⟩ := hb
    have d1 := Nat.eq_of_beq_eq_true d1
    have d2 := Nat.le_of_ble_eq_true d2
    have d3 := Nat.le_of_ble_eq_true d3
    subst d1
    have hL : Live S.H id := ⟨_, hcs, rfl⟩
    have hmul : (len + n) * te.sz = len * te.sz + n * te.sz := Nat.add_mul _ _ _
    have hcapm : len * te.sz ≤ cap * te.sz := Nat.mul_le_mul_right _ h1
    -- what the two growing cases share
    have hgrow : ∀ (hT0 : T.r id) {fl : List Value}, Src P E te.sz n xs uy fl → ¬ len + n ≤ cap →
        ∃ nc tl fo, VRs E ((cs.drop off).take (len * te.sz)) fo ∧ fo.length = len * te.sz ∧ len + n ≤ nc ∧ nc < 9223372036854775808 ∧ tl.length = (nc - (len + n)) * te.sz ∧ (Builtin.append_ #[ty, ty2] tr #[.slice (some ⟨E.ρ id, off, none⟩) len cap, uy]).run P E.w = .ok (.slice (some ⟨E.w.heap.size, 0, none⟩) (len + n) nc) { E.w with drawn := E.w.drawn + 1, heap := E.w.heap.push (.cells (fo ++ fl ++ tl).toArray e) } := by
      intro hT0 fl hs hnf
      obtain ⟨cells, t, g1, g2, g3, g4⟩ := row_of p hT0 hA hcs
      have e1 : List.take (len * te.sz) (List.drop off (List.take cs.length cells.toList)) = List.take (len * te.sz) (List.drop off cells.toList) := by
        apply List.ext_getElem?
        intro i
        rw [List.getElem?_take, List.getElem?_take]
        by_cases hi : i < len * te.sz
        · rw [if_pos hi, if_pos hi, List.getElem?_drop, List.getElem?_drop, List.getElem?_take, if_pos (by omega)]
        · rw [if_neg hi, if_neg hi]
      have e2 := (g4.drop off).take (len * te.sz)
      rw [e1] at e2
      have e3 : ((cells.toList.drop off).take (len * te.sz)).length = len * te.sz := by simp; omega
      obtain ⟨nc, tl, k1, k2, k3, k4⟩ := run_append_grow (w := E.w) (a := some ⟨E.ρ id, off, none⟩) (len := len) (cap := cap) (fo := (cells.toList.drop off).take (len * te.sz)) (ty := tr) hty hT2 hni hE hz hs.len hs.first hs.size (fun w1 hw => run_first (by rw [hw]; exact g1) (by omega)) e3 hnf d3 hb2
      exact ⟨nc, tl, _, e2, e3, k1, k2, k3, k4⟩
    split at h
    · rename_i c0
      have hc := h4 _ rfl
      subst hc
      cases hf : Nat.ble (len + n) cap with
      | true =>
        rw [hf, cond_true] at h; cases h
        have hf := Nat.le_of_ble_eq_true hf
        obtain ⟨fl, hs⟩ := src_sound (P := P) p hsrc hrd hy
        obtain ⟨cells, t, g1, g2, g3, g4⟩ := row_of p (T.sub _ (tin_bit hwr)) hA hcs
        have hcm : (len + n) * te.sz ≤ cap * te.sz := Nat.mul_le_mul_right _ hf
        obtain ⟨w', k1, k2, k3, k4⟩ := run_append_fit (w := E.w) (g := E.ρ id) (o := off) (len := len) (cap := cap) (cells := cells.toList) (ty := tr) hty hT2 hni hE hs.len (hs.first _ rfl) hs.size (by rw [hs.rel.ones]; exact b4) ⟨t, by simpa using g1⟩ hf (by simp; omega)
        obtain ⟨t', k2⟩ := k2
        have hle := Env.at_le p.st (tin_bit hwr) hA hL k3
        have hxl : xs.length = n * te.sz := by rw [hs.rel.1, hs.size]
        obtain ⟨q1, q2⟩ := Post.write p (o' := .row (cs.take (off + len * te.sz) ++ xs ++ cs.drop (off + (len + n) * te.sz))) (tin_bit hwr) hA hL k3 ⟨_, t', k2, by simp [putL_length, g2, Env.at_], by simp [putL_length, hxl]; omega, by
          have e1 : (cs.take (off + len * te.sz) ++ xs ++ cs.drop (off + (len + n) * te.sz)).length = max cs.length (off + (len + n) * te.sz) := by simp [hxl]; omega
          rw [e1]
          have e2 : ((putL cells.toList (off + len * te.sz) fl).toArray.toList).take (max cs.length (off + (len + n) * te.sz)) = (cells.toList.take (off + len * te.sz)) ++ fl ++ ((cells.toList.take cs.length).drop (off + (len + n) * te.sz)) := by
            apply List.ext_getElem?
            intro i
            rw [List.getElem?_take]
            have hcl : cells.toList.length = cells.size := by simp
            by_cases hi : i < max cs.length (off + (len + n) * te.sz)
            · rw [if_pos hi]
              show (putL cells.toList (off + len * te.sz) fl)[i]? = _
              by_cases i1 : i < off + len * te.sz
              · rw [putL_lt _ _ _ _ i1, List.append_assoc, List.getElem?_append_left (by simp; omega), List.getElem?_take, if_pos i1]
              · by_cases i2 : i < off + (len + n) * te.sz
                · obtain ⟨j, rfl⟩ : ∃ j, i = off + len * te.sz + j := ⟨i - (off + len * te.sz), by omega⟩
                  have e3 : (cells.toList.take (off + len * te.sz)).length = off + len * te.sz := by simp; omega
                  rw [putL_in _ _ _ _ (by rw [hs.size]; omega) (by rw [hs.size]; omega), List.append_assoc, List.getElem?_append_right (by rw [e3]; omega), e3, List.getElem?_append_left (by rw [hs.size]; omega)]
                  congr 1; omega
                · have e3 : (cells.toList.take (off + len * te.sz) ++ fl).length = off + (len + n) * te.sz := by simp [hs.size]; omega
                  rw [putL_ge _ _ _ _ (by rw [hs.size]; omega), List.getElem?_append_right (by rw [e3]; omega), e3, List.getElem?_drop, List.getElem?_take, if_pos (by omega)]
                  congr 1; omega
            · rw [if_neg hi]
              symm
              apply List.getElem?_eq_none
              simp [hs.size]; omega
          rw [e2]
          have r1 := g4.take (off + len * te.sz)
          rw [List.take_take, Nat.min_eq_left d2] at r1
          exact VRs.mono hle ((r1.append hs.rel).append (g4.drop _))⟩
        exact ⟨_, E.at_ w', k1, .sl cap hA hf h2 h3 (fun x hx => by cases hx; rfl) (fun hx => by cases hx), q1, q2⟩
      | false =>
        rw [hf, cond_false] at h; cases h
        obtain ⟨t1, t2⟩ := tin_or hrd
        obtain ⟨fl, hs⟩ := src_sound (P := P) p hsrc t1 hy
        have hnf : ¬ len + n ≤ cap := fun hle => by rw [Nat.ble_eq_true_of_le hle] at hf; cases hf
        obtain ⟨nc, tl, fo, f1, f2, k1, k2, k3, k4⟩ := hgrow (tin_bit t2) hs hnf
        obtain ⟨E', g1, g2, g3, g4, g5, g6⟩ := new_row' (w' := { E.w with drawn := E.w.drawn + 1, heap := E.w.heap.push (.cells (fo ++ fl ++ tl).toArray e) }) p (f1.append hs.rel) rfl rfl rfl rfl
        refine ⟨_, E', by rw [g1]; exact k4, ?_, g5, g6⟩
        rw [← g2]
        have hm : nc * te.sz = (len + n) * te.sz + (nc - (len + n)) * te.sz := by rw [← Nat.add_mul]; congr 1; omega
        have hk : E'.κ S.next = nc * te.sz := by rw [g3, List.length_append, List.length_append, hs.size, f2, k3, hm]; omega
        exact .sl nc g4 k1 k2 (by rw [hk]; omega) (fun x hx => by cases hx) (fun _ => by rw [hk]; omega)
    · cases hn : Nat.beq n 0 with
      | true => rw [hn] at h; cases h
      | false =>
      rw [hn, cond_false] at h
      cases ho : Nat.beq off 0 with
      | false => rw [ho] at h; cases h
      | true =>
      rw [ho, cond_true] at h; cases h
      have ho := Nat.eq_of_beq_eq_true ho
      subst ho
      obtain ⟨fl, hs⟩ := src_sound (P := P) p hsrc hrd hy
      have hT0 := tin_bit hwr
      by_cases hfit : len + n ≤ cap
      · obtain ⟨cells, t, g1, g2, g3, g4⟩ := row_of p (T.sub _ hT0) hA hcs
        have hcm : (len + n) * te.sz ≤ cap * te.sz := Nat.mul_le_mul_right _ hfit
        obtain ⟨w', k1, k2, k3, k4⟩ := run_append_fit (w := E.w) (g := E.ρ id) (o := 0) (len := len) (cap := cap) (cells := cells.toList) (ty := tr) hty hT2 hni hE hs.len (hs.first _ rfl) hs.size (by rw [hs.rel.ones]; exact b4) ⟨t, by simpa using g1⟩ hfit (by simp; omega)
        obtain ⟨t', k2⟩ := k2
        have hA' : ¬ E.A S.next := fun h => Nat.lt_irrefl _ (p.bnd _ h)
        have hle0 := Env.at_le p.st hT0 hA hL k3
        have hle : E.Le (E.moved id S.next w') := ⟨fun j h => ⟨.inl h, up_ne _ _ fun e => hA' (e ▸ h), up_ne _ _ fun e => hA' (e ▸ h)⟩, hle0.tr⟩
        have hxl : xs.length = n * te.sz := by rw [hs.rel.1, hs.size]
        obtain ⟨q1, q2⟩ := Post.move p (o := .row (cs.take (len * te.sz) ++ xs)) hT0 hA hL k3 ⟨_, t', by simp only [Env.moved, up_self]; exact k2, by simp [putL_length, g2, Env.moved, up_self], by simp [putL_length, hxl]; omega, by
          have e1 : (cs.take (len * te.sz) ++ xs).length = (len + n) * te.sz := by simp [hxl]; omega
          rw [e1]
          have e2 : ((putL cells.toList (0 + len * te.sz) fl).toArray.toList).take ((len + n) * te.sz) = (cells.toList.take (len * te.sz)) ++ fl := by
            apply List.ext_getElem?
            intro i
            rw [List.getElem?_take]
            have hcl : cells.toList.length = cells.size := by simp
            have e3 : (cells.toList.take (len * te.sz)).length = len * te.sz := by simp; omega
            by_cases hi : i < (len + n) * te.sz
            · rw [if_pos hi]
              show (putL cells.toList (0 + len * te.sz) fl)[i]? = _
              rw [Nat.zero_add]
              by_cases i1 : i < len * te.sz
              · rw [putL_lt _ _ _ _ i1, List.getElem?_append_left (by rw [e3]; omega), List.getElem?_take, if_pos i1]
              · obtain ⟨j, rfl⟩ : ∃ j, i = len * te.sz + j := ⟨i - (len * te.sz), by omega⟩
                rw [putL_in _ _ _ _ (by rw [hs.size]; omega) (by rw [hs.size]; omega), List.getElem?_append_right (by rw [e3]; omega), e3]
                congr 1; omega
            · rw [if_neg hi]
              symm
              apply List.getElem?_eq_none
              simp [hs.size]; omega
          rw [e2]
          have r1 := g4.take (len * te.sz)
          rw [List.take_take, Nat.min_eq_left (by omega)] at r1
          exact VRs.mono hle (r1.append hs.rel)⟩
        refine ⟨_, E.moved id S.next w', k1, ?_, q1, q2⟩
        have e1 : (⟨E.ρ id, 0, none⟩ : Addr) = ⟨(E.moved id S.next w').ρ S.next, 0, none⟩ := by simp [Env.moved, up_self]
        rw [e1]
        have hk : (E.moved id S.next w').κ S.next = E.κ id := up_self _ _ _
        exact .sl cap (Or.inr rfl : E.A S.next ∨ S.next = S.next) hfit h2 (by rw [hk]; exact h3) (fun x hx => by cases hx) (fun _ => by rw [hk]; exact h5 rfl)
      · obtain ⟨nc, tl, fo, f1, f2, k1, k2, k3, k4⟩ := hgrow (T.sub _ hT0) hs hfit
        have pk := Post.kill (id := id) p
        have pp := pk.pre p
        obtain ⟨E', g1, g2, g3, g4, g5, g6⟩ := new_row' (S := S.set id .dead) (w' := { E.w with drawn := E.w.drawn + 1, heap := E.w.heap.push (.cells (fo ++ fl ++ tl).toArray e) }) pp (f1.append hs.rel) rfl rfl rfl rfl
        refine ⟨_, E', by rw [g1]; exact k4, ?_, Post.trans p pk (Fresh.refl E S) (by simpa using g5), ⟨g6.fr⟩⟩
        rw [← g2]
        have hm : nc * te.sz = (len + n) * te.sz + (nc - (len + n)) * te.sz := by rw [← Nat.add_mul]; congr 1; omega
        have hk : E'.κ S.next = nc * te.sz := by
          have : E'.κ S.next = E'.κ (S.set id .dead).next := rfl
          rw [this, g3, List.length_append, List.length_append, hs.size, f2, k3, hm]; omega
        exact .sl nc g4 k1 k2 (by rw [hk]; omega) (fun x hx => by cases hx) (fun _ => by rw [hk]; omega)
  · cases h
end
end Go.Ix
