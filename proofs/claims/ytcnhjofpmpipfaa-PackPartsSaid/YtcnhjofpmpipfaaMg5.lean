/- Texts: Jce, Jcf, Jcg, Jch, Jci, Jcj, Jck, Qri, Jcp, Qc1, Qgo, Qco, Qc2, Qc2p, Qc1p, Qcan, Qcanp, Lw6, Qsp2, Lw1, Lw2, Qsp3, Lw4, Lw7, Lw8, Lw9, Lw10, Lw11, Lw12, Lw13, Lw14, Qeq, Qeqp, Qeqf, Qeqfp, Qsm, Qe1, Qsmp, Qsm2, Qsm2p, Lw15, Lw16, Lw17, Lw18, Lw21, Lw22, Jcm, Rsc, Lsp, Rsj, Rgr, Rgj, Rg9, Qe2, Qe3, Rn1, Rg8, Rc1, Rc2, Rn2. -/
import Derived.Test.YtcnhjofpmpipfaaMg4
import Derived.Test.YtcnhjofpmpipfaaMg1
import Derived.Lib.AppendZerosOnto
/- Contracts with boxes out of runs. -/
section
set_option linter.unusedVariables false
namespace Go.Jx
open Go Go.Sx Go.RowKit
universe u

/-! ### Data that boxes may hold -/
def WfC : (c : CT) → ElC c → Prop
  | .dat c => fun x => WfE c x
  | .arr c => fun (l : List (El c)) => l.length * bsz c ≤ 140737488355328 ∧ ∀ x ∈ l, WfE c x
  | .map k v => fun (es : List (El k × El v)) => ∀ e ∈ es, WfE k e.1 ∧ WfE v e.2
def WfR : (r : List CT) → ElRow r → Prop
  | [], _ => True
  | c :: cs, x => WfC c x.1 ∧ WfR cs x.2
def WfK : (r : RK) → ElK r → Prop
  | .box r, x => WfR r x
  | .sl c, x => match x with
    | some l => l.length * bsz c ≤ 140737488355328 ∧ ∀ y ∈ l, WfE c y
    | none => True
def WfP : (l : List PK) → ElP l → Prop
  | [], _ => True
  | .dat c :: l, x => WfE c x.1 ∧ WfP l x.2
  | .fn _ :: l, x => WfP l x
  | .ref r :: l, x => WfK r x.1 ∧ WfP l x.2
section
variable {E : Env}
theorem wf_cel {c : TC} {x : El c} {us : List Value} (h : VRs E (cel c x) us) : WfE c x :=
  wf_cells (E := E) c x (fun j => us.getD j .nilFunc) fun j hj => by
    have hj2 : j < us.length := by rw [← h.1]; exact hj
    show VR E _ (us.getD j .nilFunc)
    rw [List.getD_eq_getElem?_getD, List.getElem?_eq_getElem hj2]
    exact h.2 j hj hj2
theorem wfC {H : Nat → Option IObj} {ι : Nat → Nat} (hH : ∀ id o, E.A id → H id = some o → OR E id o) : ∀ (c : CT) {n : Nat} {x : ElC c} {us : List Value}, VRs E (cellC c ι n x) us → (∀ j : Nat, j < nC c → H (ι (n + j)) = (subC c x)[j]?) → WfC c x
  | .dat c, n, x, us, h, _ => wf_cel h
  | .arr c, n, x, us, h, hs => by
    obtain ⟨u, us, rfl, a1, a2⟩ := VRs.inv (v := .arr (ι n)) (cs := []) h
    have hA : E.A (ι n) := by cases a1; assumption
    have h0 := hs 0 (Nat.one_pos)
    rw [Nat.add_zero] at h0
    obtain ⟨a, cap, h1, h2, h3, h4, h5⟩ := hH _ (.arr c x) hA h0
    refine ⟨h4, fun y hy => ?_⟩
    obtain ⟨i, hi, rfl⟩ := List.mem_iff_getElem.1 hy
    rcases h5 with ⟨_, h5⟩ | ⟨_, _, cells, t, _, _, us, _, h6⟩
    · omega
    · exact wf_cells c _ (us i) (h6 i hi)
  | .map k v, n, x, us, h, hs => by
    obtain ⟨u, us, rfl, a1, a2⟩ := VRs.inv (v := .map (ι n)) (cs := []) h
    have hA : E.A (ι n) := by cases a1; assumption
    have h0 := hs 0 (Nat.one_pos)
    rw [Nat.add_zero] at h0
    obtain ⟨ents, cl, h1, h2, h3⟩ := hH _ (.tmap k v x) hA h0
    intro e he
    obtain ⟨i, hi, rfl⟩ := List.mem_iff_getElem.1 he
    have hl : (tmEs k v x).length = List.length x := List.length_map _
    have hi1 : i < ((tmEs k v x).map (·.1)).length := by rw [List.length_map, hl]; exact hi
    have hi2 : i < ((tmEs k v x).map (·.2)).length := by rw [List.length_map, hl]; exact hi
    have q1 := h2.2 i hi1 (by rw [← h2.1]; exact hi1)
    have q2 := h3.2 i hi2 (by rw [← h3.1]; exact hi2)
    have e : (tmEs k v x)[i]'(by rw [hl]; exact hi) = (asIV k (List.get x ⟨i, hi⟩).1, asIV v (List.get x ⟨i, hi⟩).2) := List.getElem_map _
    rw [List.getElem_map, e] at q1
    rw [List.getElem_map, e] at q2
    exact ⟨wf_as q1, wf_as q2⟩
theorem wfArr {c : TC} {id : Nat} {l : List (El c)} (h : OR E id (.arr c l)) : l.length * bsz c ≤ 140737488355328 ∧ ∀ y ∈ l, WfE c y := by
  obtain ⟨a, cap, h1, h2, h3, h4, h5⟩ := h
  refine ⟨h4, fun y hy => ?_⟩
  obtain ⟨i, hi, rfl⟩ := List.mem_iff_getElem.1 hy
  rcases h5 with ⟨_, h5⟩ | ⟨_, _, cells, t, _, _, us, _, h6⟩
  · omega
  · exact wf_cells c _ (us i) (h6 i hi)
theorem wfR {H : Nat → Option IObj} {ι : Nat → Nat} (hH : ∀ id o, E.A id → H id = some o → OR E id o) : ∀ (r : List CT) {n : Nat} {x : ElRow r} {us : List Value}, VRs E (cellR r ι n x) us → (∀ j : Nat, j < nR r → H (ι (n + j)) = (subR r x)[j]?) → WfR r x
  | [], n, x, us, h, hs => trivial
  | c :: cs, n, x, us, h, hs => by
    obtain ⟨us1, us2, rfl, h1, h2⟩ := VRs.split (cs := cellC c ι n x.1) (ds := cellR cs ι (n + nC c) x.2) h
    refine ⟨wfC hH c h1 fun j hj => ?_, wfR hH cs h2 fun j hj => ?_⟩
    · rw [hs j (by simp only [nR]; omega)]
      simp only [subR]
      rw [List.getElem?_append_left (by rw [subC_len]; exact hj)]
    · have := hs (nC c + j) (by simp only [nR]; omega)
      rw [← Nat.add_assoc] at this
      rw [this]
      simp only [subR]
      rw [List.getElem?_append_right (by rw [subC_len]; omega), subC_len, Nat.add_sub_cancel_left]
theorem wfP {H : Nat → Option IObj} (hH : ∀ id o, E.A id → H id = some o → OR E id o) : ∀ (l : List PK) {k n : Nat} {x : ElP l} {us : List Value}, VRs E (argsP l idN k x) us →
    (∀ j : Nat, j < mP l → H (k + j) = (rowsP l idN n x)[j]?) → (∀ j : Nat, j < nP l → H (n + j) = (subsP l x)[j]?) → WfP l x
  | [], k, n, x, us, h, _, _ => trivial
  | .dat c :: l, k, n, x, us, h, h1, h2 => by
    obtain ⟨u, us, rfl, a1, a2⟩ := VRs.inv (v := asIV c x.1) (cs := argsP l idN k x.2) h
    exact ⟨wf_as a1, wfP hH l a2 h1 h2⟩
  | .fn f :: l, k, n, x, us, h, h1, h2 => by
    obtain ⟨u, us, rfl, a1, a2⟩ := VRs.inv (v := .fn f []) (cs := argsP l idN k x) h
    exact wfP (x := x) hH l a2 h1 h2
  | .ref r :: l, k, n, x, us, h, h1, h2 => by
    obtain ⟨u, us, rfl, a1, a2⟩ := VRs.inv (v := argK r (idN k)) (cs := argsP l idN (k + 1) x.2) h
    have hA : E.A k := argK_A a1
    have h0 := h1 0 (by simp only [mP]; omega)
    rw [Nat.add_zero] at h0
    have h0 : H k = some (objK r idN n x.1) := h0
    refine ⟨?_, wfP hH l (n := n + nK r) a2 (fun j hj => ?_) fun j hj => ?_⟩
    · match r, x, h0, h2 with
      | .box r, x, h0, h2 =>
        obtain ⟨cells, t, k1, k2, k3, k4⟩ := hH k _ hA (h0.trans (show _ = some (.row (cellR r idN n x.1)) from rfl))
        refine wfR (ι := idN) hH r k4 fun j hj => ?_
        have := h2 j (by simp only [nP, nK]; omega)
        show H (n + j) = _
        rw [this]
        exact List.getElem?_append_left (l₂ := subsP l x.2) (Nat.lt_of_lt_of_eq hj (subR_len r x.1).symm)
      | .sl c, (some l, x), h0, h2 => exact wfArr (c := c) (l := l) (hH k _ hA (h0.trans rfl))
      | .sl c, (none, x), h0, h2 => trivial
    · have := h1 (j + 1) (by simp only [mP]; omega)
      rw [show k + 1 + j = k + (j + 1) by omega, this]
      simp only [rowsP, List.getElem?_cons_succ]
    · have := h2 (nK r + j) (by simp only [nP]; omega)
      rw [← Nat.add_assoc] at this
      rw [this]
      simp only [subsP]
      rw [List.getElem?_append_right (by rw [subK_len]; omega), subK_len, Nat.add_sub_cancel_left]
end
theorem wf_Sc {l : List PK} {x : ElP l} {E : Env} {us : List Value} (p : Pre T0 E (Sc l x)) (h : VRs E (argsP l idN 0 x) us) : WfP l x := by
  refine wfP (H := (Sc l x).H) (n := mP l) (fun id o hA ho => p.st.objs id trivial hA o ho) l h (fun j hj => ?_) fun j hj => ?_
  · unfold Sc
    rw [Nat.zero_add, addO_H0, List.getElem?_append_left (by rw [rowsP_len]; exact hj)]
  · unfold Sc
    rw [addO_H0, List.getElem?_append_right (by rw [rowsP_len]; omega), rowsP_len, Nat.add_sub_cancel_left]

/-! ### A contract out of a run -/
def lastQ (tt : Nat → Option TI) (fi : FI) (s : SmR) (r : CRes) : Option (ElR s.rts × ElP (refs s.ps)) :=
  cond r.e.leaves (match imarks r.ds r.S with
    | none => none
    | some (S', _) => match ires tt fi.nt r.fr S' fi.res with
      | none => none
      | some (vs, _) => runQ s ⟨tupI vs, S', 0, 0⟩) none
section
variable {P : Program} {tt : Nat → Option TI} {ft : Nat → Option FI}
theorem bodyQ_ok {fi : FI} {f : Nat} {nm : Nat → Option Nm} {cl : Cl} {lf : Nat} {s : SmR} {x : ElP s.ps} {y : ElR s.rts} {z : ElP (refs s.ps)} {r1 : CRes} (hm : P.follows .mixedOrders = true) (htt : TT P tt)
    (hfi : ∃ fn, P.funcs[f]? = some fn ∧ fn.body = some fi.body ∧ fn.ntmps = fi.nt ∧ fn.results = fi.res.toArray ∧ (fn.name == "runtime.NumGoroutine") = false ∧ codeOK fi.body = true) (hcl : ClOK P cl) (hfr : ClFr cl)
    (hb : Nat.ble (argsP s.ps idN 0 x).length fi.nt = true) (hr1 : icode P tt nm (mP s.ps) fi.nt cl lf none fi.body (argGo (argsP s.ps idN 0 x) 0 .leaf) (Sc s.ps x) [] = some r1) (h : lastQ tt fi s r1 = some (y, z))
    {E : Env} {us : List Value} (p : Pre T0 E (Sc s.ps x)) (hv : VRs E (argsP s.ps idN 0 x) us) :
    CallsIn Fence.wide 0 P f us.toArray E.w (RetB (mP s.ps) T0 E (Sc s.ps x) ⟨vB s (mP s.ps) y, ScB s y z, 0, 0⟩) := by
  unfold lastQ at h
  cases hl : r1.e.leaves with
  | false => rw [hl] at h; cases h
  | true =>
  rw [hl, cond_true] at h
  split at h
  · cases h
  rename_i S' wr hmk
  split at h
  · cases h
  rename_i vs' rd' hres
  obtain ⟨fn, f1, f2, f3, f4, f5, f6⟩ := hfi
  refine callsIn_of_wp_marks f1 f2 trivial ?_
  refine icode_sound (T := T0) (E := E) (S := Sc s.ps x) (ds := []) (round := none) (B := mP s.ps) (fun _ _ => trivial) hm rfl hcl hfr htt fi.body f6 p (by rw [Sc_next]; omega) (fun _ _ => trivial) ?_ ⟨rfl, fun D hD => by cases hD⟩ (fun _ => rfl) hr1 (fun _ _ => trivial) (fun _ _ => trivial) ?_
  · have := FR.enter (nt := fi.nt) hv (Nat.le_of_ble_eq_true hb)
    rw [f3]; exact this
  intro E1 a1 k1 k2 kB
  have p1 := kB.pre (fun _ _ => trivial)
  have hlv : LeavesInM Fence.wide 0 P fn a1.tmps (RetB (mP s.ps) T0 E (Sc s.ps x) ⟨vB s (mP s.ps) y, ScB s y z, 0, 0⟩) a1.defers .returning E1.w := by
    refine marks_sound p1 k2 hmk (fun _ _ => trivial) fun E2 m1 m2 => ?_
    have p2 := m1.pre p1
    obtain ⟨us', h1, h2⟩ := ires_run htt p2 (k1.mono (m1.env p1)) hres (fun _ _ => trivial)
    have h3 := results_run (P := P) (w := E2.w) f4 h1
    refine ⟨tupOf us', h3, ?_⟩
    have hq := kB.trans (PostB.of kB.le (fun _ _ => trivial) m1 m2)
    obtain ⟨E3, e3, v3, q3⟩ := runQ_sound (r := ⟨tupI vs', S', 0, 0⟩) h p hv hq (tup_rel h2)
    exact ⟨_, E3, rfl, e3, v3, q3⟩
  cases he : r1.e with
  | normal => rw [he] at *; exact hlv
  | ret => exact hlv
  | exit i => rw [he] at hl; cases hl
  | goto l => rw [he] at hl; cases hl
theorem conTR {sml : List (Nat × Sm)} {hxl : List (Nat × Hx)} {f : Nat} {s : SmR} {fi : FI} {nmf : Nat → Option Nm} {st hd : Nat → Bool} (n : Nat) (hm : P.follows .mixedOrders = true) (htt : TT P tt) (hft : FT P ft) (hsm : SmOK P sml)
    (hhx : HxsOK P hxl) (hC : Callable P f) (h3 : ft f = some fi) (h4 : ∀ x, Nat.ble (argsP s.ps idN 0 x).length fi.nt = true) (hn : (regs fi.body).Nodup) (hl : okC nmf st hd fi.body none = true)
    (hrun : ∀ (x : ElP s.ps) (y : ElR s.rts) (z : ElP (refs s.ps)), WfP s.ps x → s.f x = some (y, z) → ∃ lf,
      icodeTB P tt nmf (mP s.ps) fi.nt (icallK P tt ft (fun _ _ => none) (smL sml) (hxL hxl) lf n (ElR s.rts × ElP (refs s.ps))) lf st
        (atNB P tt nmf (mP s.ps) fi.nt fi.body (icallK P tt ft (fun _ _ => none) (smL sml) (hxL hxl) lf n (ElR s.rts × ElP (refs s.ps))) lf hd (lastQ tt fi s)) fi.body [] (argGo (argsP s.ps idN 0 x) 0 .leaf) (Sc s.ps x) [] (lastQ tt fi s) = some (y, z))
    (hz : frzF nmf = true := by rfl) : ConR P f s := by
  have hB0 : mB nmf (mP s.ps) = 0 := by unfold mB; rw [hz]; rfl
  have hex : ExOK P (exH (smL sml) (hxL hxl)) := exH_ok (smL_ok hsm) (hxL_ok hhx)
  refine ⟨hC, fun E x us y z hy p hv => ?_⟩
  obtain ⟨lf, hr⟩ := hrun x y z (wf_Sc p hv) hy
  rw [← atB_in hB0 (icallK_eq n _) hn hl, icodeK_eq (icallK_eq n _)] at hr
  cases hr1 : icode P tt nmf (mP s.ps) fi.nt (icall P tt ft (fun _ _ => none) (exH (smL sml) (hxL hxl)) lf n) lf none fi.body (argGo (argsP s.ps idN 0 x) 0 .leaf) (Sc s.ps x) [] with
  | none => rw [hr1] at hr; cases hr
  | some r1 =>
    rw [hr1] at hr
    exact bodyQ_ok hm htt (hft f fi h3) (icall_ok hm htt hft hex n) (icall_fr hex n) (h4 x) hr1 hr p hv
end
end Go.Jx
end

/- Stops of functions with boxes. -/
section
set_option linter.unusedVariables false
namespace Go.Jx
open Go Go.Sx Go.RowKit
universe u

section
variable {P : Program} {tt : Nat → Option TI} {nm : Nat → Option Nm} {lf : Nat} {st hd : Nat → Bool} {cl : Cl}
def atQ (P : Program) (tt : Nat → Option TI) (nm : Nat → Option Nm) (fi : FI) (s : SmR) (clK : ClK (ElR s.rts × ElP (refs s.ps))) (lf : Nat) (hd : Nat → Bool) (k : Nat) (ns : List Nat) (x : NRes) : Option (ElR s.rts × ElP (refs s.ps)) :=
  atNB P tt nm (mP s.ps) fi.nt fi.body clK lf hd (lastQ tt fi s) k ns x
theorem mB_frz {B : Nat} (hz : frzF nm = true) : mB nm B = 0 := by unfold mB; rw [hz]; rfl
theorem atQ_eq (hz : frzF nm = true) {fi : FI} {s : SmR} {clK : ClK (ElR s.rts × ElP (refs s.ps))} (h : ClEq cl clK) (hn : (regs fi.body).Nodup) (hl : okC nm st hd fi.body none = true) (k : Nat) (ns ns' : List Nat) (hd' : dn (hd k) ns = some ns') (x : NRes) :
    atQ P tt nm fi s clK lf hd k ns x = icodeFTB P tt nm (mP s.ps) fi.nt clK lf st (atQ P tt nm fi s clK lf hd) k fi.body [] ns' x (lastQ tt fi s) := atNB_eq (mB_frz hz) h hn hl k ns ns' hd' x
theorem atQ_zero {fi : FI} {s : SmR} {clK : ClK (ElR s.rts × ElP (refs s.ps))} (k : Nat) (ns : List Nat) (hd' : dn (hd k) ns = none) (x : NRes) : atQ P tt nm fi s clK lf hd k ns x = none := atNB_zero k ns hd' x
end
end Go.Jx
end

/- Boxes that are held by a caller: run by themselves, and put back. -/
section
set_option linter.unusedVariables false
namespace Go.Jx
open Go Go.Sx Go.RowKit
universe u

def updP : (l : List PK) → ElP l → ElP (refs l) → ElP l
  | [], _, _ => ()
  | .dat _ :: l, x, z => (x.1, updP l x.2 z)
  | .fn _ :: l, x, z => updP l x z
  | .ref _ :: l, x, z => (z.1, updP l x.2 z.2)
theorem rowsP_upd : ∀ (l : List PK) (ι : Nat → Nat) (n : Nat) (x : ElP l) (z : ElP (refs l)), rowsP l ι n (updP l x z) = rowsP (refs l) ι n z
  | [], _, _, _, _ => rfl
  | .dat _ :: l, ι, n, x, z => rowsP_upd l ι n x.2 z
  | .fn _ :: l, ι, n, x, z => rowsP_upd l ι n x z
  | .ref r :: l, ι, n, x, z => by
    show objK r ι n z.1 :: rowsP l ι (n + nK r) (updP l x.2 z.2) = _
    rw [rowsP_upd l]; rfl
theorem subsP_upd : ∀ (l : List PK) (x : ElP l) (z : ElP (refs l)), subsP l (updP l x z) = subsP (refs l) z
  | [], _, _ => rfl
  | .dat _ :: l, x, z => subsP_upd l x.2 z
  | .fn _ :: l, x, z => subsP_upd l x z
  | .ref r :: l, x, z => by
    show subK r z.1 ++ subsP l (updP l x.2 z.2) = _
    rw [subsP_upd l]; rfl
theorem argsP_upd : ∀ (l : List PK) (ρ : Nat → Nat) (k : Nat) (x : ElP l) (z : ElP (refs l)), argsP l ρ k (updP l x z) = argsP l ρ k x
  | [], _, _, _, _ => rfl
  | .dat c :: l, ρ, k, x, z => congrArg (fun q => asIV c x.1 :: q) (argsP_upd l ρ k x.2 z)
  | .fn f :: l, ρ, k, x, z => congrArg (fun q => IV.fn f [] :: q) (argsP_upd l ρ k x z)
  | .ref r :: l, ρ, k, x, z => congrArg (fun q => argK r (ρ k) :: q) (argsP_upd l ρ (k + 1) x.2 z.2)
def sQ (l : List PK) : SmR := ⟨l, [], fun _ => none⟩
theorem ScB_upd (l : List PK) (x : ElP l) (z : ElP (refs l)) : ScB (sQ l) () z = Sc l (updP l x z) := by
  unfold ScB Sc newO
  rw [rowsP_upd, subsP_upd]
  show addO (rowsP (refs l) idN (mP l) z ++ (subsP (refs l) z ++ [])) S0 = _
  rw [List.append_nil]
structure Held (T : TW) (E : Env) (S : IS) (l : List PK) (x : ElP l) (rows subs : List Nat) : Prop where
  l1 : rows.length = mP l
  l2 : subs.length = nP l
  nd : (rows ++ subs).Nodup
  w : ∀ id ∈ rows ++ subs, T.w id
  A : ∀ id ∈ subs, E.A id
  at_ : ∀ ι, Nums ι (mP l) subs → RowsAt E rows (rowsP l ι (mP l) x)
  row : ∀ id ∈ rows, ∃ cs, S.H id = some (.row cs)
  sub : ∀ j : Nat, (subsP l x)[j]? = (subs[j]?).bind fun id => S.heap.get id
section
variable {T : TW} {E : Env} {S : IS} {l : List PK} {x : ElP l} {rows subs : List Nat}
theorem Held.num (h : Held T E S l x rows subs) : Nums (ol 0 (rows ++ subs)) 0 rows ∧ Nums (ol 0 (rows ++ subs)) (mP l) subs := by
  have hnq : Nums (ol 0 (rows ++ subs)) 0 (rows ++ subs) := fun j id hj => by
    rw [Nat.zero_add]
    unfold ol; rw [if_neg (by omega), Nat.sub_zero, List.getD_eq_getElem?_getD, hj]; rfl
  refine ⟨hnq.fst, ?_⟩
  have := hnq.snd
  rwa [Nat.zero_add, h.l1] at this
theorem Held.len (h : Held T E S l x rows subs) : (rows ++ subs).length = mP l + nP l := by rw [List.length_append, h.l1, h.l2]
theorem Held.rk (h : Held T E S l x rows subs) {k : Nat} (hk : k < mP l) : rows[k]? = some (ol 0 (rows ++ subs) k) := by
  have h1 : k < rows.length := by rw [h.l1]; exact hk
  rw [List.getElem?_eq_getElem h1, ← h.num.1 k _ (List.getElem?_eq_getElem h1), Nat.zero_add]
theorem Held.sk (h : Held T E S l x rows subs) {k : Nat} (h1 : mP l ≤ k) (h2 : k < (rows ++ subs).length) : subs[k - mP l]? = some (ol 0 (rows ++ subs) k) := by
  have h3 : k - mP l < subs.length := by rw [h.len] at h2; rw [h.l2]; omega
  rw [List.getElem?_eq_getElem h3, ← h.num.2 _ _ (List.getElem?_eq_getElem h3), Nat.add_sub_cancel' h1]
theorem Held.rowA (h : Held T E S l x rows subs) {k : Nat} (hk : k < mP l) : ∃ r nj xj, (∀ ι, (rowsP l ι (mP l) x)[k]? = some (objK r ι nj xj)) ∧ mP l ≤ nj ∧ nj + nK r ≤ (rows ++ subs).length ∧ E.A (ol 0 (rows ++ subs) k) ∧ ((objK r (ol 0 (rows ++ subs)) nj xj).blk = true → E.hb (ol 0 (rows ++ subs) k) = true) ∧ OR E (ol 0 (rows ++ subs) k) (objK r (ol 0 (rows ++ subs)) nj xj) := by
  have h1 : k < (rowsP l (ol 0 (rows ++ subs)) (mP l) x).length := by rw [rowsP_len]; exact hk
  obtain ⟨r, nj, xj, d1, d2, d3, d4⟩ := rowsP_get l (ol 0 (rows ++ subs)) (mP l) x k _ (List.getElem?_eq_getElem h1)
  obtain ⟨id, i1, i2, i3, i4⟩ := h.at_ _ h.num.2 k _ (d4 (ol 0 (rows ++ subs)))
  rw [h.rk hk] at i1
  cases i1
  exact ⟨r, nj, xj, d4, d2, by rw [h.len]; omega, i2, i3, i4⟩
theorem Held.allA (h : Held T E S l x rows subs) : ∀ id ∈ rows ++ subs, E.A id := fun id hid => by
  rcases List.mem_append.1 hid with hid | hid
  · obtain ⟨k, hk, rfl⟩ := List.mem_iff_getElem.1 hid
    obtain ⟨_, _, _, _, _, _, i2, _, _⟩ := h.rowA (k := k) (by rw [← h.l1]; exact hk)
    have := h.rk (k := k) (by rw [← h.l1]; exact hk)
    rw [List.getElem?_eq_getElem hk, Option.some.injEq] at this
    rw [this]; exact i2
  · exact h.A id hid
theorem Held.numTo (E : Env) (q : List Nat) {k : Nat} (hk : k < q.length) : NumTo E (renE 0 q E) (ol 0 q k) k := fun hA => ⟨⟨by omega, hA⟩, rfl, rfl, rfl, rfl⟩
theorem Held.obj (h : Held T E S l x rows subs) (p : Pre T E S) {k : Nat} {o : IObj} (hk : k < (rows ++ subs).length) (hAk : E.A (ol 0 (rows ++ subs) k)) (ho : (Sc l x).H k = some o) : ObjTo E S (renE 0 (rows ++ subs) E) (ol 0 (rows ++ subs) k) k o := by
  unfold Sc at ho
  rw [addO_H0] at ho
  have hnum : ∀ j, j < (rows ++ subs).length → NumTo E (renE 0 (rows ++ subs) E) (ol 0 (rows ++ subs) j) j := fun j hj => Held.numTo E _ hj
  by_cases hkm : k < mP l
  · rw [List.getElem?_append_left (by rw [rowsP_len]; exact hkm)] at ho
    obtain ⟨r, nj, xj, d1, d2, d3, d4, d5, d6⟩ := h.rowA hkm
    rw [d1 idN] at ho
    cases ho
    obtain ⟨cs, hcs⟩ := h.row _ (List.mem_of_getElem? (h.rk hkm))
    exact ⟨OR.objK_to (E := E) (E' := renE 0 (rows ++ subs) E) (fun _ h => h) rfl hAk (hnum k hk) (fun j a b => hnum j (by omega)) d6, fun _ => ⟨_, hcs, rfl⟩, fun hb => d5 (objK_blk.trans hb)⟩
  · rw [List.getElem?_append_right (by rw [rowsP_len]; omega), rowsP_len] at ho
    have hd := subsP_dat _ _ _ (List.mem_of_getElem? ho)
    rw [h.sub, h.sk (by omega) hk] at ho
    have hid := (ol_mem hk).1
    exact ⟨OR.dat_to (E := E) (E' := renE 0 (rows ++ subs) E) (fun _ h => h) rfl hAk (hnum k hk) hd (p.st.objs _ (T.sub _ (h.w _ hid)) hAk _ ho), fun hl => ⟨_, ho, hl⟩, fun hbk => p.st.blk _ (T.sub _ (h.w _ hid)) hAk _ ho hbk⟩
theorem Held.pre (h : Held T E S l x rows subs) (p : Pre T E S) : Pre T0 (renE 0 (rows ++ subs) E) (Sc l x) :=
  Pre.re p h.nd (fun id hi => T.sub _ (h.w id hi)) (by rw [Sc_next, h.len]) fun k o hk hAk ho => h.obj p hk hAk ho
theorem Held.back {s : SmR} {x : ElP s.ps} {y : ElR s.rts} {z : ElP (refs s.ps)} {Er : Env} (h : Held T E S s.ps x rows subs) (p : Pre T E S) (k2 : PostB (mP s.ps) T0 (renE 0 (rows ++ subs) E) (Sc s.ps x) Er (ScB s y z)) :
    Post T E S (mrgR E Er S.next (mP s.ps)) (backS s S.next rows subs y z S) ∧ Fresh E S (mrgR E Er S.next (mP s.ps)) := by
  have hA := h.allA
  have hlt : ∀ id, id ∈ rows ++ subs → id < S.next := fun id hi => p.bnd id (hA id hi)
  have hsb : ∀ k, k < (rows ++ subs).length → Live (renE 0 (rows ++ subs) E) (Sc s.ps x).H k → Live E S.H (ol 0 (rows ++ subs) k) := fun k hk ⟨h0, o, h1, h2⟩ => ⟨h0, (h.obj p hk (hA _ (ol_mem hk).1) h1).live h2⟩
  have hbn : (setL rows (rowsP (refs s.ps) (fun k => S.next + (k - mP s.ps)) (mP s.ps) z) (killL subs S)).next = S.next := by rw [setL_next, killL_next]
  have hndr : rows.Nodup := (List.nodup_append.1 h.nd).1
  have hrs : ∀ id, id ∈ rows → id ∉ subs := fun id h1 h2 => (List.nodup_append.1 h.nd).2.2 id h1 id h2 rfl
  have hScB : ∀ k, (ScB s y z).H k = (rowsP (refs s.ps) idN (mP s.ps) z ++ newO s y z)[k]? := fun k => addO_H0 _ k
  have hql := h.len
  have l1 := h.l1
  have hrk := fun k (hk : k < mP s.ps) => h.rk hk
  have hsk := fun k (h1 : mP s.ps ≤ k) (h2 : k < (rows ++ subs).length) => h.sk h1 h2
  have hrowA := fun k (hk : k < mP s.ps) => h.rowA hk
  have hnd := h.nd
  have hT := h.w
  have hinr : ∀ id, id ∈ rows → id ∈ rows ++ subs := fun id h => List.mem_append_left _ h
  have hins : ∀ id, id ∈ subs → id ∈ rows ++ subs := fun id h => List.mem_append_right _ h
  generalize hq : rows ++ subs = q at *
  have hEA : ∀ k, k < mP s.ps → Er.A k ∧ Er.ρ k = E.ρ (ol 0 q k) ∧ Er.κ k = E.κ (ol 0 q k) ∧ Er.hd k = E.hd (ol 0 q k) ∧ Er.hb k = E.hb (ol 0 q k) := fun k hk => by
    obtain ⟨a1, a2, a3, a4, a5⟩ := k2.alw k hk ⟨by omega, hA _ (ol_mem (by omega)).1⟩
    exact ⟨a1, a2, a3, a4, a5⟩
  exact merge_back (n := S.next) (m := mP s.ps) (S' := backS s S.next rows subs y z S) p hnd hT hA (by omega) rfl hsb k2 (by
      unfold backS ScB
      rw [addO_next, addO_next, hbn, List.length_append, rowsP_len, refs_m]
      have : S0.next = 0 := rfl
      omega) (fun id hid hnq => by
      unfold backS
      rw [addO_H, hbn, if_pos hid, setL_out (fun h => hnq (hinr _ h)), killL_out (fun h => hnq (hins _ h))]) (fun k o hk ho => by
      unfold backS at ho
      have hin := (ol_mem (q := q) (k := k) (by omega)).1
      rw [addO_H, hbn, if_pos (hlt _ hin), setL_in hndr (by rw [rowsP_len, refs_m, l1]) (hrk k hk)] at ho
      obtain ⟨r, nj, xj, rfl, d2, d3, d4⟩ := rowsP_get _ _ _ _ _ _ ho
      have hsr : (ScB s y z).H k = some (objK r idN nj xj) := by
        rw [hScB, List.getElem?_append_left (by rw [rowsP_len, refs_m]; exact hk)]; exact d4 idN
      obtain ⟨a1, a2, a3, a4, a5⟩ := hEA k hk
      obtain ⟨o1, o2, o3, o4⟩ := mrgR_old (E := E) (Er := Er) (n := S.next) (m := mP s.ps) (hlt _ hin)
      obtain ⟨_, _, _, _, _, _, i2, _⟩ := hrowA k hk
      exact ⟨OR.objK_to (E := Er) (E' := mrgR E Er S.next (mP s.ps)) (fun _ h => h) rfl a1 (fun _ => ⟨.inl ⟨hlt _ hin, i2⟩, o1.trans a2.symm, o2.trans a3.symm, o3.trans a4.symm, o4.trans a5.symm⟩) (fun j a b hAj => by
        obtain ⟨r1, r2, r3, r4, r5⟩ := mrgR_new (E := E) (Er := Er) (n := S.next) (m := mP s.ps) (k := j) (by omega)
        exact ⟨r5 hAj, r1, r2, r3, r4⟩) (k2.st.objs k trivial a1 _ hsr), fun hl => ⟨_, hsr, objK_live.trans hl⟩, fun hb => (o4.trans a5.symm).trans (k2.st.blk k trivial a1 _ hsr (objK_blk.trans hb))⟩) (fun k o h1 h2 ho => by
      unfold backS at ho
      have hin := (ol_mem (q := q) (k := k) h2).1
      have hin2 := List.mem_of_getElem? (hsk k h1 h2)
      rw [addO_H, hbn, if_pos (hlt _ hin), setL_out (fun h => hrs _ h hin2), killL_in hin2] at ho
      cases ho; rfl) (fun k o h1 hAk ho => by
      unfold backS at ho
      have hkb := k2.bnd k hAk
      unfold ScB at hkb
      rw [addO_next, List.length_append, rowsP_len, refs_m] at hkb
      have e0 : S0.next = 0 := rfl
      rw [addO_H, hbn, if_neg (by omega), if_pos (by omega), Nat.add_sub_cancel_left] at ho
      have hd := newO_dat (List.mem_of_getElem? ho)
      have hsr : (ScB s y z).H k = some o := by
        rw [hScB, List.getElem?_append_right (by rw [rowsP_len, refs_m]; exact h1), rowsP_len, refs_m]; exact ho
      obtain ⟨r1, r2, r3, r4, r5⟩ := mrgR_new (E := E) (Er := Er) (n := S.next) (m := mP s.ps) (k := k) h1
      exact ⟨OR.dat_to (E := Er) (E' := mrgR E Er S.next (mP s.ps)) (fun _ h => h) rfl hAk (fun hA => ⟨r5 hA, r1, r2, r3, r4⟩) hd (k2.st.objs k trivial hAk _ hsr), fun hl => ⟨_, hsr, hl⟩, fun hbk => r4.trans (k2.st.blk k trivial hAk _ hsr hbk)⟩)
end
end Go.Jx
end

/- A block of ours beside what a run sees. -/
section
set_option linter.unusedVariables false
namespace Go.Jx
open Go Go.Sx Go.RowKit
universe u

structure Beside (b : Nat) (w w' : World) : Prop where
  os : w'.os = w.os
  tape : w'.tape = w.tape
  output : w'.output = w.output
  size : w'.heap.size = w.heap.size
  same : ∀ x, x ≠ b → w'.heap[x]? = w.heap[x]?
theorem Beside.put (w : World) (b : Nat) (o : Obj) : Beside b w (w.putObj b o) := ⟨rfl, rfl, rfl, by simp, fun x hx => World.putObj_heap_other hx⟩
theorem Beside.symm {b : Nat} {w w' : World} (h : Beside b w w') : Beside b w' w := ⟨h.os.symm, h.tape.symm, h.output.symm, h.size.symm, fun x hx => (h.same x hx).symm⟩
theorem Beside.upd {b : Nat} {w w' : World} (h : Beside b w w') : Upd [b] w w' := ⟨h.os, h.tape, h.output, by rw [h.size]; exact Nat.le_refl _, fun x _ hx => h.same x (by simpa using hx)⟩
def Apart (E : Env) (S : IS) (b : Nat) : Prop := b ∈ E.m ∧ ∀ id, E.A id → Live E S.H id → E.ρ id ≠ b
section
variable {E E' : Env} {S S' : IS} {b : Nat} {w w' : World}
theorem Pre.beside (p : Pre T0 E S) (hb : Apart E S b) (h : Beside b E.w w) : E.Le (E.at_ w) ∧ Pre T0 (E.at_ w) S ∧ Apart (E.at_ w) S b := by
  have hle : E.Le (E.at_ w) := ⟨fun _ h => ⟨h, rfl, rfl, rfl, rfl⟩, ⟨fun x hx hm => ⟨hm, h.same x fun e => hm (e ▸ hb.1)⟩⟩⟩
  refine ⟨hle, ⟨⟨fun id ht ha o ho => (p.st.objs id ht ha o ho).mono hle ha (p.st.blk id ht ha o ho) fun hl hhb => h.same _ (hb.2 id ha ⟨hhb, o, ho, hl⟩), fun id ht ha o ho hbk => p.st.blk id ht ha o ho hbk, fun id ht ha hl => p.st.own id ht ha hl,
    fun i j a b' c d e f g => p.st.inj i j a b' c d e f g, fun x hx => ?_⟩, p.bnd, p.nw⟩, hb⟩
  show x < w.heap.size
  rw [h.size]; exact p.st.lo x hx
theorem PostB.apart {B : Nat} (k : PostB B T0 E S E' S') (p : Pre T0 E S) (hb : Apart E S b) : Apart E' S' b := by
  have hlt := p.st.lo b hb.1
  refine ⟨?_, fun id ha hl e => ?_⟩
  · rcases k.mem b hb.1 hlt with h | ⟨id, _, h1, h2, h3⟩
    · exact h
    · exact absurd h3 (hb.2 id h1 h2)
  · rcases Nat.lt_or_ge id B with h | h
    · have hA := k.fr id h ha
      exact hb.2 id hA (k.old id h trivial hA hl) ((k.alw id h hA).2.1.symm.trans e)
    · rcases k.new id h ha hl with h1 | ⟨j, _, j1, j2, j3⟩
      · omega
      · exact hb.2 j j1 j2 (j3.symm.trans e)
theorem PostB.at_same {B : Nat} (k : PostB B T0 E S E' S') (p : Pre T0 E S) (hb : Apart E S b) : E'.w.heap[b]? = E.w.heap[b]? := k.same b (p.st.lo b hb.1) fun id _ ha hl => hb.2 id ha hl
theorem PostB.beside {B : Nat} (k : PostB B T0 E S E' S') (p : Pre T0 E S) (hb : Apart E S b) (h1 : Beside b E.w w) (h2 : Beside b E'.w w') (h3 : w'.heap[b]? = w.heap[b]?) : PostB B T0 (E.at_ w) S (E'.at_ w') S' := by
  have p' : Pre T0 E' S' := k.pre fun _ _ => trivial
  obtain ⟨_, p2, _⟩ := p'.beside (k.apart p hb) h2
  have es : (E.at_ w).w.heap.size = E.w.heap.size := h1.size
  refine ⟨p2.st, h2.os.trans (k.os.trans h1.os.symm), h2.tape.trans (k.tape.trans h1.tape.symm), h2.output.trans (k.output.trans h1.output.symm), ?_, fun x hx hn => ?_, k.alw, fun id hB ha hl => ?_, k.old, fun x hx => ?_, fun x hx hlt => k.mem x hx (by rw [es] at hlt; exact hlt), k.bnd, k.le, k.fr⟩
  · show w.heap.size ≤ w'.heap.size
    rw [h1.size, h2.size]; exact k.size
  · show w'.heap[x]? = w.heap[x]?
    by_cases e : x = b
    · rw [e]; exact h3
    · rw [h2.same x e, h1.same x e]; exact k.same x (by rw [es] at hx; exact hx) hn
  · rw [es]; exact k.new id hB ha hl
  · rw [es]; exact k.memo x hx
end
end Go.Jx
end

/- A round of a range over an iterator, by itself. -/
section
set_option linter.unusedVariables false
namespace Go.Jx
open Go Go.Sx Go.RowKit
universe u

structure LpC where
  ls : List Nat
  lp : List PK
  nm : Nat → Option Nm
def putL : List Nat → List IV → PT IV → PT IV
  | t :: ts, v :: vs, fr => putL ts vs (fr.set v t)
  | _, _, fr => fr
theorem putL_slot : ∀ {ls : List Nat} {vs : List IV} {us : List Value} {E : Env} {nt : Nat} {fr : PT IV} {tmps : Array Value}, VRs E vs us → us = ls.map (fun t => tmps.getD t undef) → FR E nt fr tmps → FR E nt (putL ls vs fr) tmps
  | [], vs, us, E, nt, fr, tmps, hv, hu, hf => by simpa [putL] using hf
  | t :: ls, [], us, E, nt, fr, tmps, hv, hu, hf => by simpa [putL] using hf
  | t :: ls, v :: vs, us, E, nt, fr, tmps, hv, hu, hf => by
    obtain ⟨u, us, rfl, a1, a2⟩ := hv.inv
    simp only [List.map_cons, List.cons.injEq] at hu
    show FR E nt (putL ls vs (fr.set v t)) tmps
    refine putL_slot a2 hu.2 ⟨hf.size, fun k hk => ?_⟩
    rw [slot_set]
    by_cases e : k = t
    · subst e; rw [if_pos rfl, ← hu.1]; exact a1
    · rw [if_neg e]; exact hf.get k hk
section
variable (P : Program) (tt : Nat → Option TI)
def stepB (cfg : LpC) (c : TC) (nt lf : Nat) (cl : Cl) (pr : Nat) (assign body : Code) (d : ElP cfg.lp) (z : ElP (refs cfg.lp)) (x : El c) : Option (ElP (refs cfg.lp) × Option Code) :=
  match icode P tt cfg.nm (mP cfg.lp) nt cl lf none assign (setPs [pr] [asIV c x] (putL cfg.ls (argsP cfg.lp idN 0 d) .leaf)) (Sc cfg.lp (updP cfg.lp d z)) [] with
  | none => none
  | some r1 => match r1.e with
    | .normal => match r1.ds with
      | [] => match icode P tt cfg.nm (mP cfg.lp) nt cl lf none body r1.fr r1.S [] with
        | none => none
        | some r2 => match r2.ds with
          | [] => match runQ (sQ cfg.lp) ⟨.tup [], r2.S, 0, 0⟩ with
            | none => none
            | some y => some (y.2, endOf r2.e)
          | _ => none
      | _ => none
    | _ => none
end
def foldB {D α : Type} (g : D → α → Option (D × Option Code)) : List α → D → Option (D × Option Code)
  | [], d => some (d, none)
  | x :: xs, d => match g d x with
    | none => none
    | some (d', none) => foldB g xs d'
    | some (d', some e) => some (d', some e)
section
variable {P : Program} {tt : Nat → Option TI}
theorem step_round {cfg : LpC} {c : TC} {nt lf : Nat} {cl : Cl} {pr : Nat} {assign body : Code} {d : ElP cfg.lp} {z z' : ElP (refs cfg.lp)} {x : El c} {e : Option Code} (hm : P.follows .mixedOrders = true) (hcl : ClOK P cl) (hfr : ClFr cl) (htt : TT P tt)
    (h : stepB P tt cfg c nt lf cl pr assign body d z x = some (z', e)) (hok : codeOK assign = true ∧ codeOK body = true) (hrf : hasRF assign = false ∧ hasRF body = false)
    {E : Env} {b : Nat} {rec : Loop} (p : Pre T0 E (Sc cfg.lp (updP cfg.lp d z))) (hb : Apart E (Sc cfg.lp (updP cfg.lp d z)) b) (hl : E.w.heap[b]? = some (.loop rec)) (hr : rec.state = .ready ∧ rec.pending = none ∧ rec.params = #[pr] ∧ rec.assign = assign ∧ rec.body = body ∧ rec.tmps.size = nt)
    (hargs : VRs E (argsP cfg.lp idN 0 d) (cfg.ls.map fun t => rec.tmps.getD t undef)) {u : Value} (hu : VR E (asIV c x) u) :
    YieldAt Fence.wide 0 P b #[u] E.w fun en B => ∃ E', PostB (mP cfg.lp) T0 E (Sc cfg.lp (updP cfg.lp d z)) E' (Sc cfg.lp (updP cfg.lp d z')) ∧
      ((e = none ∧ en = .returned (.bool true) ∧ B = E'.w) ∨ ∃ cd, e = some cd ∧ en = .returned (.bool false) ∧ Upd [b] E'.w B ∧ B.heap[b]? = some (.loop { rec with state := .done, pending := some cd })) := by
  obtain ⟨hr1, hr2, hr3, hr4, hr5, hr6⟩ := hr
  unfold stepB at h
  split at h
  · cases h
  rename_i r1 hrun1
  split at h <;> try cases h
  rename_i he1
  split at h <;> try cases h
  rename_i hds1
  split at h
  · cases h
  rename_i r2 hrun2
  split at h <;> try cases h
  rename_i hds2
  split at h
  · cases h
  rename_i y hq
  cases h
  have hblt : b < E.w.heap.size := heap_lt hl
  have hy := run_yield (P := P) (args := #[u]) hl (by rw [hr3]; rfl)
  refine ⟨_, _, _, _, hy, roundIn_of_wpIn trivial ?_⟩
  have hFp : (Fence.wide.inRound b).plain = Fence.wide := rfl
  have hfr0 : FR E nt (PT.leaf) rec.tmps := ⟨hr6, fun t ht => .unk _⟩
  have hfr1 : FR E nt (setPs [pr] [asIV c x] (putL cfg.ls (argsP cfg.lp idN 0 d) .leaf)) ((rec.params.zip #[u]).foldl (fun tmps (t, a) => tmps.setIfInBounds t a) rec.tmps) := by
    have := setPs_FR (ps := [pr]) (VRs.cons hu VRs.nil) (putL_slot hargs rfl hfr0)
    rw [hr3]
    simpa [List.zip] using this
  rw [hr4]
  refine icode_sound (T := T0) (E := E) (a := { tmps := _, defers := [] }) (S := Sc cfg.lp (updP cfg.lp d z)) (ds := []) (round := none) (B := mP cfg.lp) (fun _ _ => trivial) hm hFp hcl hfr htt assign hok.1 p (by rw [Sc_next]; omega) (fun _ _ => trivial) hfr1 ⟨rfl, fun D hD => by cases hD⟩ (fun h => by rw [hrf.1] at h; cases h) hrun1 (fun _ _ => trivial) (fun _ _ => trivial) ?_
  intro E1 a1 k1 k2 kB
  rw [he1]
  have hb1 := kB.apart p hb
  have hl1 : E1.w.heap[b]? = some (.loop rec) := (kB.at_same p hb).trans hl
  have p1 : Pre T0 E1 r1.S := kB.pre fun _ _ => trivial
  have hbg := run_beginRound (P := P) hl1 hr1
  refine ⟨_, hbg, ?_⟩
  generalize hW : (E1.w.putObj b (.loop { rec with state := .busy })) = W1
  have hs1 : Beside b E1.w W1 := by rw [← hW]; exact Beside.put _ _ _
  have hW1 : W1.heap[b]? = some (.loop { rec with state := .busy }) := by rw [← hW]; exact World.putObj_heap_same (heap_lt hl1)
  obtain ⟨hle2, p2, hb2⟩ := p1.beside hb1 hs1
  have hs0 : Beside b E.w (E.w.putObj b (.loop { rec with state := .busy })) := Beside.put _ _ _
  obtain ⟨hle0, p0, hb0⟩ := p.beside hb hs0
  have hw0 : (E.w.putObj b (.loop { rec with state := .busy })).heap[b]? = some (.loop { rec with state := .busy }) := World.putObj_heap_same hblt
  have kB2 := kB.beside p hb hs0 hs1 (by rw [hW1, hw0])
  rw [hr5]
  show body.wpIn _ 0 P _ a1 (E1.at_ W1).w
  rw [hds1] at k2
  refine icode_sound (T := T0) (E := E1.at_ W1) (a := a1) (S := r1.S) (ds := []) (round := none) (B := mP cfg.lp) (fun _ _ => trivial) hm hFp hcl hfr htt body hok.2 p2 kB.le (fun _ _ => trivial) (k1.mono hle2) (k2.mono hle2) (fun h => by rw [hrf.2] at h; cases h) hrun2 (fun _ _ => trivial) (fun _ _ => trivial) ?_
  intro E3 a3 m1 m2 mB
  have hall := kB2.trans mB
  have hargs0 : VRs (E.at_ (E.w.putObj b (.loop { rec with state := .busy }))) (argsP (sQ cfg.lp).ps idN 0 (updP cfg.lp d z)) (cfg.ls.map fun t => rec.tmps.getD t undef) := by
    show VRs _ (argsP cfg.lp idN 0 (updP cfg.lp d z)) _
    rw [argsP_upd]; exact hargs.mono hle0
  obtain ⟨E4, e4, _, q4⟩ := runQ_sound (s := sQ cfg.lp) (r := ⟨.tup [], r2.S, 0, 0⟩) (x := updP cfg.lp d z) (y := y.1) (z := y.2) (u := .tuple #[]) hq p0 hargs0 hall (.tup (us := []) rfl (fun i h => by simp at h))
  have hb4 := q4.apart p0 hb0
  have hl4 : E4.w.heap[b]? = some (.loop { rec with state := .busy }) := (q4.at_same p0 hb0).trans hw0
  have hend := fun j => run_endRound (P := P) j hl4
  have hs4 : Beside b E4.w (E4.w.putObj b (.loop rec)) := Beside.put _ _ _
  have hback := q4.beside p0 hb0 hs0.symm hs4 (by rw [World.putObj_heap_same (heap_lt hl4)]; exact hl.symm)
  have hfin : PostB (mP cfg.lp) T0 E (Sc cfg.lp (updP cfg.lp d z)) (E4.at_ (E4.w.putObj b (.loop rec))) (Sc cfg.lp (updP cfg.lp d y.2)) := by
    have e1 : ScB (sQ cfg.lp) y.1 y.2 = Sc cfg.lp (updP cfg.lp d y.2) := ScB_upd cfg.lp d y.2
    rw [e1] at hback
    exact hback
  rw [← e4]
  have hrec : ({ rec with state := .ready, pending := none } : Loop) = rec := by
    cases rec; cases hr1; cases hr2; rfl
  have hstop : ∀ cd, ∃ v w', (Instr.endRound b (some cd)).run P E4.w = .ok v w' ∧ ∃ E', PostB (mP cfg.lp) T0 E (Sc cfg.lp (updP cfg.lp d z)) E' (Sc cfg.lp (updP cfg.lp d y.2)) ∧
      ((some cd = none ∧ Ending.returned v = .returned (.bool true) ∧ w' = E'.w) ∨ ∃ cd', some cd = some cd' ∧ Ending.returned v = .returned (.bool false) ∧ Upd [b] E'.w w' ∧ w'.heap[b]? = some (.loop { rec with state := .done, pending := some cd' })) := fun cd => by
    refine ⟨_, _, hend (some cd), E4.at_ (E4.w.putObj b (.loop rec)), hfin, .inr ⟨cd, rfl, rfl, ?_, ?_⟩⟩
    · exact hs4.symm.upd.trans ((Beside.put E4.w b _).upd)
    · exact World.putObj_heap_same (heap_lt hl4)
  cases he : r2.e with
  | normal =>
    refine ⟨_, _, hend none, E4.at_ (E4.w.putObj b (.loop rec)), hfin, .inl ⟨rfl, rfl, ?_⟩⟩
    show E4.w.putObj b (.loop { rec with state := .ready, pending := none }) = E4.w.putObj b (.loop rec)
    rw [hrec]
  | ret =>
    obtain ⟨v, w', g1, E', g2, g3⟩ := hstop .ret
    refine ⟨v, w', g1, E', g2, ?_⟩
    rcases g3 with ⟨g3, _⟩ | ⟨cd, g3, g4, g5, g6⟩
    · cases g3
    · exact .inr ⟨cd, g3, g4, g5, by rw [hr4, hr5] at g6; exact g6⟩
  | exit i =>
    obtain ⟨v, w', g1, E', g2, g3⟩ := hstop (.exit i)
    refine ⟨v, w', g1, E', g2, ?_⟩
    rcases g3 with ⟨g3, _⟩ | ⟨cd, g3, g4, g5, g6⟩
    · cases g3
    · exact .inr ⟨cd, g3, g4, g5, by rw [hr4, hr5] at g6; exact g6⟩
  | goto l =>
    obtain ⟨v, w', g1, E', g2, g3⟩ := hstop (.goto l)
    refine ⟨v, w', g1, E', g2, ?_⟩
    rcases g3 with ⟨g3, _⟩ | ⟨cd, g3, g4, g5, g6⟩
    · cases g3
    · exact .inr ⟨cd, g3, g4, g5, by rw [hr4, hr5] at g6; exact g6⟩
end
end Go.Jx
end

/- A range over an iterator as a fold over what it hands over. -/
section
set_option linter.unusedVariables false
namespace Go.Jx
open Go Go.Sx Go.RowKit
universe u

def IterS (P : Program) (gf : Nat) (us : List Value) (Rd : World → Prop) {α : Type} (V : α → Value → Prop) (xs : List α) : Prop :=
  ∀ (l : Nat) (J : List α → World → Prop) (K : World → Prop) (W : World), (∀ s A B, J s A → Upd [] A B → J s B) → (∀ A B, K A → Upd [] A B → K B) → (∀ s A, J s A → Rd A) →
    (∀ pre x post A u, xs = pre ++ x :: post → J pre A → V x u → YieldAt Fence.wide 0 P l #[u] A fun e B => (e = .returned (.bool true) ∧ J (pre ++ [x]) B) ∨ (e = .returned (.bool false) ∧ K B)) →
    J [] W → CallsIn Fence.wide 0 P gf (#[.func (.yield l) #[] #[]] ++ us.toArray) W fun e B => e = .returned (.tuple #[]) ∧ (J xs B ∨ K B)
structure SmI where
  ips : List PK
  c : TC
  xs : ElP ips → Option (List (El c))
def ReadI (E : Env) (s : SmI) (x : ElP s.ips) (us : List Value) (rows : List Nat) : Prop :=
  (∀ ρ k, Nums ρ k rows → VRs E (argsP s.ips ρ k x) us) ∧ RowsAt E rows (rowsP s.ips idN 0 x)
structure ConI (P : Program) (f : Nat) (s : SmI) : Prop where
  callable : Callable P f
  sc : scal s.c = true
  ns : nP s.ips = 0
  it : ∀ (E : Env) (x : ElP s.ips) (us : List Value) (rows : List Nat) (l : List (El s.c)), s.xs x = some l → ReadI E s x us rows →
    IterS P f us (fun W => E.Le (E.at_ W) ∧ ∀ id ∈ rows, W.heap[E.ρ id]? = E.w.heap[E.ρ id]?) (fun x u => ∀ E, VR E (asIV s.c x) u) l
def refsP : (l : List PK) → ElP l → ElP (refs l)
  | [], _ => ()
  | .dat _ :: l, x => refsP l x.2
  | .fn _ :: l, x => refsP l x
  | .ref _ :: l, x => (x.1, refsP l x.2)
theorem updP_refs : ∀ (l : List PK) (x : ElP l), updP l x (refsP l x) = x
  | [], _ => rfl
  | .dat c :: l, x => congrArg (fun q => (x.1, q)) (updP_refs l x.2)
  | .fn _ :: l, x => updP_refs l x
  | .ref r :: l, x => congrArg (fun q => (x.1, q)) (updP_refs l x.2)
theorem foldB_app {D α : Type} (g : D → α → Option (D × Option Code)) : ∀ (pre post : List α) (z z' : D), foldB g pre z = some (z', none) → foldB g (pre ++ post) z = foldB g post z'
  | [], post, z, z', h => by cases h; rfl
  | x :: pre, post, z, z', h => by
    simp only [foldB, List.cons_append] at h ⊢
    cases hg : g z x with
    | none => rw [hg] at h; cases h
    | some q =>
      obtain ⟨z1, e⟩ := q
      rw [hg] at h
      cases e with
      | none => exact foldB_app g pre post z1 z' h
      | some e => cases h
section
variable (P : Program) (tt : Nat → Option TI)
def itB (S2 : IS) (cfg : LpC) (id nt : Nat) (irows rows subs : List Nat) (w2 : Nat) (assign body : Code) : Bool :=
  ndB (id :: (irows ++ (rows ++ subs))) && (irows.all (rowB S2) && (rows.all (rowB S2) && (codeOK assign && (codeOK body && (!hasRF assign && (!hasRF body && (cfg.ls.all (fun t => Nat.blt t nt) && !w2.testBit id)))))))
def itEnd (S2 : IS) (cfg : LpC) (id nt : Nat) (fr : PT IV) (pr D : Nat) (assign body : Code) (irows rows subs : List Nat) (w : Nat) (q : ElP (refs cfg.lp) × Option Code) : Res :=
  ⟨.tup [], (backS (sQ cfg.lp) S2.next rows subs () q.1 S2).set id (.loop (cond q.2.isNone .ready .done) q.2 nt fr [pr] assign body D), 2 ^ id, 2 ^ id ||| (w ||| bitsL (irows ++ (rows ++ subs)))⟩
def itF (s : SmI) (cfg : LpC) (lf : Nat) (cl : Cl) (vs : List IV) (S : IS) : Option Res := match vs with
  | .yield id :: caps => match rdP s.ips S caps with
    | none => none
    | some (xi, irows, _, S1, w1) => match S1.heap.get id with
      | some (.loop .ready none nt fr [pr] assign body D) => match rdP cfg.lp S1 (cfg.ls.map (slot fr)) with
        | none => none
        | some (d0, rows, subs, S2, w2) => cond (itB S2 cfg id nt irows rows subs w2 assign body) (match fiP cfg.lp rows subs S2 d0 with
          | none => none
          | some d => match s.xs xi with
            | none => none
            | some l => match foldB (stepB P tt cfg s.c nt lf cl pr assign body d) l (refsP cfg.lp d) with
              | none => none
              | some q => some (itEnd S2 cfg id nt fr pr D assign body irows rows subs (w1 ||| w2) q)) none
      | _ => none
  | _ => none
end
section
variable {P : Program} {tt : Nat → Option TI}
theorem itF_inv {s : SmI} {cfg : LpC} {lf : Nat} {cl : Cl} {vs : List IV} {S : IS} {r : Res} (h : itF P tt s cfg lf cl vs S = some r) :
    ∃ id caps xi irows isubs S1 w1 nt fr pr assign body D d0 rows subs S2 w2 d l q, vs = .yield id :: caps ∧ rdP s.ips S caps = some (xi, irows, isubs, S1, w1) ∧ S1.heap.get id = some (.loop .ready none nt fr [pr] assign body D) ∧
      rdP cfg.lp S1 (cfg.ls.map (slot fr)) = some (d0, rows, subs, S2, w2) ∧ itB S2 cfg id nt irows rows subs w2 assign body = true ∧ fiP cfg.lp rows subs S2 d0 = some d ∧ s.xs xi = some l ∧
      foldB (stepB P tt cfg s.c nt lf cl pr assign body d) l (refsP cfg.lp d) = some q ∧ r = itEnd S2 cfg id nt fr pr D assign body irows rows subs (w1 ||| w2) q := by
  unfold itF at h
  split at h <;> try cases h
  rename_i id caps
  split at h
  · cases h
  rename_i xi irows isubs S1 w1 h1
  split at h <;> try cases h
  rename_i nt fr pr assign body D ho
  split at h
  · cases h
  rename_i d0 rows subs S2 w2 h2
  cases hb : itB S2 cfg id nt irows rows subs w2 assign body with
  | false => rw [hb] at h; cases h
  | true =>
  rw [hb, cond_true] at h
  split at h
  · cases h
  rename_i d h3
  split at h
  · cases h
  rename_i l h4
  split at h <;> cases h
  rename_i q h5
  exact ⟨id, caps, xi, irows, isubs, S1, w1, nt, fr, pr, assign, body, D, d0, rows, subs, S2, w2, d, l, q, rfl, h1, ho, h2, hb, h3, h4, h5, rfl⟩
theorem itF_fr {s : SmI} {cfg : LpC} {lf : Nat} {cl : Cl} {vs : List IV} {S : IS} : FrO S (itF P tt s cfg lf cl vs S) := fun r h => by
  obtain ⟨id, caps, xi, irows, isubs, S1, w1, nt, fr, pr, assign, body, D, d0, rows, subs, S2, w2, d, l, q, rfl, h1, ho, h2, hb, h3, h4, h5, rfl⟩ := itF_inv h
  have k1 := rdP_fr _ h1
  have k2 := rdP_fr _ h2
  have k3 := (killL_fr subs S2).trans ((setL_fr rows (rowsP (refs cfg.lp) (fun k => S2.next + (k - mP cfg.lp)) (mP cfg.lp) q.1) _).trans (addO_fr (newO (sQ cfg.lp) () q.1) _ 0))
  have k4 := (k1.trans k2).trans (k3.trans (FrX.set _ id (.loop (cond q.2.isNone .ready .done) q.2 nt fr [pr] assign body D)))
  refine ⟨k4.1, fun i hi hbit => k4.2 i hi ?_⟩
  have hbit : (2 ^ id ||| ((w1 ||| w2) ||| bitsL (irows ++ (rows ++ subs)))).testBit i = false := hbit
  simp only [bitsL_app, Nat.testBit_or, Bool.or_eq_false_iff, Nat.zero_testBit] at hbit ⊢
  obtain ⟨a, ⟨b, c⟩, _, e, f⟩ := hbit
  exact ⟨⟨b, c⟩, ⟨f, e, trivial⟩, a⟩
theorem itF_calm {s : SmI} {cfg : LpC} {lf : Nat} {cl : Cl} {vs : List IV} {S : IS} {r : Res} (h : itF P tt s cfg lf cl vs S = some r) (hw : r.wr = 0) : False := by
  obtain ⟨id, caps, xi, irows, isubs, S1, w1, nt, fr, pr, assign, body, D, d0, rows, subs, S2, w2, d, l, q, rfl, h1, ho, h2, hb, h3, h4, h5, rfl⟩ := itF_inv h
  have : 2 ^ id = 0 := (or_zero hw).1
  have := Nat.one_le_two_pow (n := id)
  omega
end
end Go.Jx
end

/- A range over an iterator as a fold: it is right. -/
section
set_option linter.unusedVariables false
namespace Go.Jx
open Go Go.Sx Go.RowKit
universe u

section
variable {P : Program} {tt : Nat → Option TI}
theorem itF_sound (hm : P.follows .mixedOrders = true) (htt : TT P tt) {f : Nat} {s : SmI} {cfg : LpC} {lf : Nat} (hc : ConI P f s) {cl : Cl} (hcl : ClOK P cl) (hfr : ClFr cl) {vs : List IV} {S : IS} {r : Res} (h : itF P tt s cfg lf cl vs S = some r)
    {T : TW} {E : Env} {us : List Value} (p : Pre T E S) (hrd : tin T.r r.rd) (hwr : tin T.w r.wr) (hv : VRs E vs us) : Callable P f ∧ CallsIn Fence.wide 0 P f us.toArray E.w (RetE T E S r) := by
  refine ⟨hc.callable, ?_⟩
  obtain ⟨id, caps, xi, irows, isubs, S1, w1, nt, fr, pr, assign, body, D, d0, rows, subs, S2, w2, d, l, q, rfl, h1, ho, h2, hb, h3, h4, h5, rfl⟩ := itF_inv h
  obtain ⟨t1, t2⟩ := tin_or hwr
  obtain ⟨t3, t4⟩ := tin_or t2
  obtain ⟨t5, t6⟩ := tin_or t3
  have hTid := tin_bit t1
  have hbits := bitsL_mem t4
  unfold itB at hb
  simp only [Bool.and_eq_true] at hb
  obtain ⟨b1, b2, b3, b4, b5, b6, b7, b8, b9⟩ := hb
  have hnd := ndB_nodup b1
  obtain ⟨u0, us, rfl, a1, a2⟩ := hv.inv
  have hA : E.A id := by cases a1; assumption
  obtain ⟨E1, e1, q1, f1, il1, il2, iA, ib2, ib3⟩ := rdP_sound s.ips h1 p t5 a2
  have p1 := q1.pre p
  have hle1 := q1.env p
  obtain ⟨z1, z2, z3, z4, z5⟩ := hle1.alw id hA
  obtain ⟨fn, tmps, g1, g2, g3⟩ := p1.st.objs id (T.sub _ hTid) z1 _ ho
  have hls : VRs E1 (cfg.ls.map (slot fr)) (cfg.ls.map fun t => tmps.getD t undef) := ⟨by simp, fun i hi hi2 => by
    simp only [List.getElem_map]
    refine g2.get _ ?_
    have := (List.all_eq_true.1 b8) (cfg.ls[i]'(by simpa using hi)) (List.getElem_mem _)
    simpa using this⟩
  obtain ⟨E2, e2, q2, f2, l1, l2, A2, c2, c3⟩ := rdP_sound cfg.lp h2 p1 t6 hls
  have p2 := q2.pre p1
  have hle2 := q2.env p1
  obtain ⟨_, y2, y3⟩ := fiP_spec cfg.lp h3 l2
  have hq12 := Post.trans p q1 f1 q2
  have hf12 := f1.trans f2 q1.le
  have hS2 : S2.H id = some (.loop .ready none nt fr [pr] assign body D) := by
    rw [(rdP_fr _ h2).2 id (p1.bnd id z1) (by simpa using b9)]; exact ho
  obtain ⟨hA2, x2, x3, x4, x5⟩ := hle2.alw id z1
  obtain ⟨fn', tmps', g1', g2', g3'⟩ := p2.st.objs id (T.sub _ hTid) hA2 _ hS2
  obtain ⟨nq1, nq2⟩ := List.nodup_cons.1 hnd
  have nq3 := (List.nodup_append.1 nq2)
  have hheld : Held T E2 S2 cfg.lp d rows subs := ⟨l1, l2, nq3.2.1, fun i hi => hbits i (List.mem_append_right _ hi), A2, fun ι hι j o hj => by
      obtain ⟨id', g1, g2, g3, g4, _⟩ := fill_rows h3 l2 p2 (fun i hi => T.sub _ (hbits i (List.mem_append_right _ (List.mem_append_left _ hi)))) (c3 _ _ hι) j o hj
      exact ⟨id', g1, g2, g3, g4⟩,
    fun i hi => rowB_spec ((List.all_eq_true.1 b3) i hi), y3⟩
  have hidq : id ∉ rows ++ subs := fun hi => nq1 (List.mem_append_right _ hi)
  have hirq : ∀ i, i ∈ irows → i ∉ rows ++ subs := fun i h1 h2 => nq3.2.2 i h1 i h2 rfl
  have p0 := hheld.pre p2
  have hlive : Live E2 S2.H id := ⟨p2.st.blk id (T.sub _ hTid) hA2 _ hS2 rfl, _, hS2, rfl⟩
  have hfar : ∀ i, i ∉ rows ++ subs → T.r i → E2.A i → Live E2 S2.H i → ∀ k, (renE 0 (rows ++ subs) E2).A k → Live (renE 0 (rows ++ subs) E2) (Sc cfg.lp d).H k → (renE 0 (rows ++ subs) E2).ρ k ≠ E2.ρ i := fun i hi ht ha hl k hk hkl e => by
    have hk1 : k < (rows ++ subs).length := by have := hk.1; omega
    have hm1 := (ol_mem hk1).1
    obtain ⟨h0, o, ho1, ho2⟩ := hkl
    have hl2 : Live E2 S2.H (ol 0 (rows ++ subs) k) := ⟨h0, (hheld.obj p2 hk1 hk.2 ho1).live ho2⟩
    have := p2.st.inj _ _ (T.sub _ (hheld.w _ hm1)) ht hk.2 ha hl2 hl e
    exact hi (this ▸ hm1)
  have hap : Apart (renE 0 (rows ++ subs) E2) (Sc cfg.lp d) (E2.ρ id) := ⟨p2.st.own id (T.sub _ hTid) hA2 hlive, hfar id hidq (T.sub _ hTid) hA2 hlive⟩
  generalize hE0 : renE 0 (rows ++ subs) E2 = E0 at p0 hap hfar
  have hE0w : E0.w = E2.w := by rw [← hE0]; rfl
  have hE0m : E0.m = E2.m := by rw [← hE0]; rfl
  generalize hbk : E2.ρ id = b at hap g1'
  obtain ⟨rec, hrec⟩ : ∃ rec : Loop, rec = { state := .ready, pending := none, fn := fn', tmps := tmps', params := [pr].toArray, assign := assign, body := body, defers := E2.ρ D } := ⟨_, rfl⟩
  have hl0 : E0.w.heap[b]? = some (.loop rec) := by rw [hE0w, g1', hrec]
  have htm : tmps' = tmps := by
    have h1 := g1'
    rw [e2, ← hbk, x2, g1] at h1
    have h1 := Option.some.inj h1
    injection h1 with h1
    injection h1 with _ _ _ h1
    exact h1.symm
  have hargs : VRs E0 (argsP cfg.lp idN 0 d) (cfg.ls.map fun t => rec.tmps.getD t undef) := by
    have e : rec.tmps = tmps := by rw [hrec]; exact htm
    rw [e, ← hE0]
    exact argsP_env (E := E2) (E' := renE 0 (rows ++ subs) E2) (ρ := ol 0 (rows ++ subs)) (fun _ h => h) rfl cfg.lp (fun j a b => Held.numTo E2 _ (by rw [hheld.len]; omega)) (by rw [y2]; exact c2 _ _ hheld.num.1)
  generalize hg : stepB P tt cfg s.c nt lf cl pr assign body d = g at h5
  have hd0 : updP cfg.lp d (refsP cfg.lp d) = d := updP_refs _ _
  have hT0 : ∀ id, mP cfg.lp ≤ id → T0.w id := fun _ _ => trivial
  -- the two states of affairs
  let J : List (El s.c) → World → Prop := fun pre W => ∃ z Ei, foldB g pre (refsP cfg.lp d) = some (z, none) ∧ PostB (mP cfg.lp) T0 E0 (Sc cfg.lp d) Ei (Sc cfg.lp (updP cfg.lp d z)) ∧ Ei.w = W
  let K : World → Prop := fun W => ∃ z cd Ei, foldB g l (refsP cfg.lp d) = some (z, some cd) ∧ PostB (mP cfg.lp) T0 E0 (Sc cfg.lp d) Ei (Sc cfg.lp (updP cfg.lp d z)) ∧ Upd [b] Ei.w W ∧ W.heap[b]? = some (.loop { rec with state := .done, pending := some cd })
  have hJ0 : J [] E0.w := ⟨refsP cfg.lp d, E0, rfl, by rw [hd0]; exact PostB.refl (by rw [Sc_next]; omega) hT0 p0, rfl⟩
  have hJu : ∀ s A B, J s A → Upd [] A B → J s B := fun pre A B ⟨z, Ei, k1, k2, k3⟩ u => by
    subst k3
    obtain ⟨i1, i2⟩ := Post.idle (k2.pre hT0) u
    exact ⟨z, Ei.at_ B, k1, k2.trans (PostB.of k2.le hT0 i1 i2), rfl⟩
  have hKu : ∀ A B, K A → Upd [] A B → K B := fun A B ⟨z, cd, Ei, k1, k2, k3, k4⟩ u => ⟨z, cd, Ei, k1, k2, k3.trans (u.mono (by simp)), (u.same _ (heap_lt k4) (by simp)).trans k4⟩
  have hns : Nums idN 0 isubs := by
    have : isubs = [] := List.length_eq_zero_iff.1 (by rw [il2, hc.ns])
    rw [this]; intro j id hj; simp at hj
  have hrow : ∀ (j : Nat) (o : IObj), (rowsP s.ips idN 0 xi)[j]? = some o → ∃ i, irows[j]? = some i ∧ E2.A i ∧ (o.blk = true → E2.hb i = true) ∧ OR E2 i o := fun j o hj => by
    obtain ⟨i, i1, i2, i3, i4⟩ := ib3 idN 0 hns j o hj
    obtain ⟨j1, j2, j3, j4, j5⟩ := hle2.alw i i2
    exact ⟨i, i1, j1, fun hb => j5.trans (i3 hb), i4.mono hle2 i2 i3 (fun _ _ => by rw [e2])⟩
  have hread : ReadI E2 s xi us irows := ⟨fun ρ k hk => (ib2 ρ k hk).mono hle2, hrow⟩
  have hRd : ∀ pre A, J pre A → E2.Le (E2.at_ A) ∧ ∀ i ∈ irows, A.heap[E2.ρ i]? = E2.w.heap[E2.ρ i]? := fun pre A ⟨z, Ei, k1, k2, k3⟩ => by
    subst k3
    have hsame : ∀ x, x < E2.w.heap.size → (∀ k, E0.A k → Live E0 (Sc cfg.lp d).H k → E0.ρ k ≠ x) → Ei.w.heap[x]? = E2.w.heap[x]? := fun x hx hn => by
      rw [← hE0w]; exact k2.same x (by rw [hE0w]; exact hx) fun k _ => hn k
    have hle : E2.Le (E2.at_ Ei.w) := ⟨fun _ h => ⟨h, rfl, rfl, rfl, rfl⟩, ⟨fun x hx hxm => ⟨hxm, hsame x hx fun k ha hl e => hxm (by rw [← e, ← hE0m]; exact p0.st.own k trivial ha hl)⟩⟩⟩
    refine ⟨hle, fun i hin => ?_⟩
    obtain ⟨j, hj, rfl⟩ := List.mem_iff_getElem.1 hin
    have hj2 : j < (rowsP s.ips idN 0 xi).length := by rw [rowsP_len, ← il1]; exact hj
    obtain ⟨i, i1, i2, i3, i4⟩ := hrow j _ (List.getElem?_eq_getElem hj2)
    rw [List.getElem?_eq_getElem hj] at i1
    cases i1
    obtain ⟨cs, hcs⟩ := rowB_spec ((List.all_eq_true.1 b2) _ hin)
    have hTi : T.r irows[j] := T.sub _ (hbits _ (List.mem_append_left _ hin))
    have i3 : E2.hb irows[j] = true := p2.st.blk _ hTi i2 _ hcs rfl
    have hlt : E2.ρ irows[j] < E2.w.heap.size := p2.st.lo _ (p2.st.own _ hTi i2 ⟨i3, _, hcs, rfl⟩)
    exact hsame _ hlt (hfar _ (hirq _ hin) hTi i2 ⟨i3, _, hcs, rfl⟩)
  have hround : ∀ pre x post A u, l = pre ++ x :: post → J pre A → (∀ E, VR E (asIV s.c x) u) → YieldAt Fence.wide 0 P b #[u] A fun e B => (e = .returned (.bool true) ∧ J (pre ++ [x]) B) ∨ (e = .returned (.bool false) ∧ K B) := fun pre x post A u hl ⟨z, Ei, k1, k2, k3⟩ hu => by
    subst k3
    have hwhole : foldB g (x :: post) z = some q := by
      rw [← foldB_app g pre (x :: post) _ _ k1, ← hl]; exact h5
    have hsnoc : foldB g (pre ++ [x]) (refsP cfg.lp d) = foldB g [x] z := foldB_app g pre [x] _ _ k1
    cases hgx : g z x with
    | none => simp only [foldB, hgx] at hwhole; cases hwhole
    | some q1 =>
    obtain ⟨z1, e⟩ := q1
    rw [← hg] at hgx
    have hlow : (E0.bel (mP cfg.lp)).Le Ei := k2.env p0
    have hargsB : VRs (E0.bel (mP cfg.lp)) (argsP cfg.lp idN 0 d) (cfg.ls.map fun t => rec.tmps.getD t undef) :=
      argsP_env (E := E0) (E' := E0.bel (mP cfg.lp)) (ρ := idN) (fun _ h => h) rfl cfg.lp (fun j _ hj hA => ⟨⟨hA, by show j < mP cfg.lp; omega⟩, rfl, rfl, rfl, rfl⟩) hargs
    have hst := step_round (E := Ei) (b := b) (rec := rec) hm hcl hfr htt hgx ⟨b4, b5⟩ ⟨by simpa using b6, by simpa using b7⟩ (k2.pre hT0) (k2.apart p0 hap) ((k2.at_same p0 hap).trans hl0)
      (by rw [hrec]; exact ⟨rfl, rfl, rfl, rfl, rfl, g2'.size⟩) (hargsB.mono hlow) (hu Ei)
    obtain ⟨fnr, tmpr, asr, bdr, hyr, hRr⟩ := hst
    refine ⟨fnr, tmpr, asr, bdr, hyr, hRr.mono fun en B hB => ?_⟩
    obtain ⟨E', m1, m2⟩ := hB
    have hall := k2.trans m1
    rw [hg] at hgx
    rcases m2 with ⟨rfl, rfl, rfl⟩ | ⟨cd, rfl, rfl, m3, m4⟩
    · refine .inl ⟨rfl, z1, E', ?_, hall, rfl⟩
      rw [hsnoc]; simp only [foldB, hgx]
    · refine .inr ⟨rfl, z1, cd, E', ?_, hall, m3, m4⟩
      rw [hl, foldB_app g pre (x :: post) _ _ k1]; simp only [foldB, hgx]
  have hit := hc.it E2 xi us irows l h4 hread b J K E0.w hJu hKu hRd hround hJ0
  have hu0 : u0 = .func (.yield b) #[] #[] := by
    cases a1
    rw [← hbk, x2, z2]
  have hw : E0.w = E.w := by rw [hE0w, e2, e1]
  rw [hw] at hit
  rw [hu0, show (Value.func (.yield b) #[] #[] :: us).toArray = #[.func (.yield b) #[] #[]] ++ us.toArray by simp]
  refine hit.mono fun en B ⟨hen, hB⟩ => ?_
  -- what comes back
  have hfin : ∀ (z : ElP (refs cfg.lp)) (pe : Option Code) (Ei : Env), q = (z, pe) → PostB (mP cfg.lp) T0 E0 (Sc cfg.lp d) Ei (Sc cfg.lp (updP cfg.lp d z)) → Upd [b] Ei.w B →
      B.heap[b]? = some (.loop { rec with state := cond pe.isNone .ready .done, pending := pe }) → RetE T E S (itEnd S2 cfg id nt fr pr D assign body irows rows subs (w1 ||| w2) q) en B := fun z pe Ei hqz k2 hup hbl => by
    subst hqz
    rw [← ScB_upd cfg.lp d z, ← hE0] at k2
    obtain ⟨m1, m2⟩ := hheld.back (s := sQ cfg.lp) (x := d) p2 k2
    have p3 := m1.pre p2
    have hle3 := m1.env p2
    obtain ⟨n1, n2, n3, n4, n5⟩ := hle3.alw id hA2
    have hlt : id < S2.next := p2.bnd id hA2
    have hobj : (backS (sQ cfg.lp) S2.next rows subs () z S2).H id = some (.loop .ready none nt fr [pr] assign body D) := by
      unfold backS
      rw [addO_H, setL_next, killL_next, if_pos hlt, setL_out (fun h => hidq (List.mem_append_left _ h)), killL_out (fun h => hidq (List.mem_append_right _ h))]; exact hS2
    have hL3 : Live (mrgR E2 Ei S2.next (mP (sQ cfg.lp).ps)) (backS (sQ cfg.lp) S2.next rows subs () z S2).H id := ⟨n5.trans hlive.1, _, hobj, rfl⟩
    have hub : Upd [(mrgR E2 Ei S2.next (mP (sQ cfg.lp).ps)).ρ id] (mrgR E2 Ei S2.next (mP (sQ cfg.lp).ps)).w B := by rw [n2, hbk]; exact hup
    have hle4 := Env.at_le p3.st hTid n1 hL3 hub
    obtain ⟨w1', w2'⟩ := Post.write p3 (o' := .loop (cond pe.isNone .ready .done) pe nt fr [pr] assign body D) hTid n1 hL3 hub ⟨fn', tmps', by
      show B.heap[(mrgR E2 Ei S2.next (mP (sQ cfg.lp).ps)).ρ id]? = _
      rw [n2, hbk, hbl, hrec]
      have : E2.ρ D = (mrgR E2 Ei S2.next (mP (sQ cfg.lp).ps)).ρ D := ((hle3.alw D g3').2.1).symm
      show some (Obj.loop { state := cond pe.isNone .ready .done, pending := pe, fn := fn', tmps := tmps', params := [pr].toArray, assign := assign, body := body, defers := E2.ρ D }) = _
      rw [this]; rfl, (g2'.mono hle3).mono hle4, (hle4.alw D (hle3.alw D g3').1).1⟩
    have r1 := Post.trans p hq12 hf12 m1
    have rf1 := hf12.trans m2 hq12.le
    exact ⟨_, _, hen, rfl, .tup (us := []) rfl (fun i h => by simp at h), Post.trans p r1 rf1 w1', rf1.trans w2' r1.le⟩
  rcases hB with ⟨z, Ei, k1, k2, k3⟩ | ⟨z, cd, Ei, k1, k2, k3, k4⟩
  · refine hfin z none Ei (Option.some.inj (h5.symm.trans k1)) k2 (by rw [k3]; exact Upd.refl _ _) ?_
    rw [← k3, (k2.at_same p0 hap).trans hl0, hrec]; rfl
  · exact hfin z (some cd) Ei (Option.some.inj (h5.symm.trans k1)) k2 k3 k4
end
end Go.Jx
end

/- The iterator over the references of values. -/
section
set_option linter.unusedVariables false
set_option maxRecDepth 100000
namespace Go.Proofs.Ytcnhjofpmpipfaa
open Go Go.Sx Go.RowKit Go.Jx
open Go.Sx.Dat (enc)
attribute [local irreducible] Go.wpList Go.wpQuiet Go.Code.wp
instance datVal : Dat (Int × Int) where
  sz := 2
  enc M w cs x := cs = [.int .i64 x.1, .int .i64 x.2]
  len h := by rw [h]; rfl
  mono h _ := h
  ones h := by rw [h]; rfl
def S.refsL : List (Int × Int) → List Int
  | [] => []
  | v :: l => if v.1 = 4 then v.2 :: S.refsL l else S.refsL l
theorem refsL_append (a b : List (Int × Int)) : S.refsL (a ++ b) = S.refsL a ++ S.refsL b := by
  induction a with
  | nil => rfl
  | cons v l ih => simp only [List.cons_append, S.refsL]; split <;> simp [ih]
theorem refsL_take {l : List (Int × Int)} {k : Nat} {v : Int × Int} (h : l[k]? = some v) : S.refsL (l.take (k + 1)) = S.refsL (l.take k) ++ (if v.1 = 4 then [v.2] else []) := by
  rw [List.take_add_one, h, refsL_append]
  simp only [Option.toList, S.refsL]
theorem lst_SL {E : Env} {l : List (Int × Int)} {u : Value} (h : VR E (.lst cVal l) u) : ∃ a cap, u = .slice a l.length cap ∧ SL E.m E.w a cap l := by
  cases h with
  | lst0 h => exact ⟨_, _, rfl, ⟨Nat.zero_le _, h⟩, .inl rfl⟩
  | lst us h1 h2 h3 hb hh hc hu =>
    refine ⟨_, _, rfl, ⟨h1, h2⟩, .inr ⟨_, _, _, _, _, rfl, hb, hh, fun i hi => ⟨_, rfl, fun j hj => ?_⟩⟩⟩
    have h5 := hc i hi j hj
    have h6 := hu i hi j (by rw [cel_length]; exact hj)
    have hj : j < 2 := hj
    have e : (cel cVal l[i]) = [.int .i64 (l[i]).1, .int .i64 (l[i]).2] := rfl
    refine Eq.trans h5 ?_
    have h7 : j = 0 ∨ j = 1 := by omega
    rcases h7 with rfl | rfl
    · have h6 : VR E (.int .i64 (l[i]).1) (us i 0) := h6
      generalize us i 0 = q at h6
      cases h6; rfl
    · have h6 : VR E (.int .i64 (l[i]).2) (us i 1) := h6
      generalize us i 1 = q at h6
      cases h6; rfl
theorem fldV0 : Fld Try.prog 51 0 0 := Fld.mk (F := ⟨"Kind", 3, 0, false, "", "", 0⟩) ty51 rfl ty3
theorem fldV1 : Fld Try.prog 51 1 1 := Fld.mk (F := ⟨"N", 3, 1, false, "", "", 8⟩) ty51 rfl ty3
theorem it136S {M : List Nat} {a : Option Addr} {c b : Nat} {vs : List (Int × Int)} {cs0 : List Value} (hw : ∀ v ∈ vs, IntKind.i64.wrap v.2 = v.2) : IterS Try.prog 136 [.pointer (some ⟨b, 0, none⟩)] (fun A => Box A b (.slice a vs.length c :: cs0) ∧ SL M A a c vs) (fun (x : Int) u => ∀ E, VR E (.int .i64 x) u) (S.refsL vs) := by
  intro l J K W hJ hKu hR hy h0
  have hlen := (hR _ _ h0).2.lt63
  have hM : ∀ {s A}, J s A → Box A b (.slice a vs.length c :: cs0) ∧ SL M A a c vs := fun h => hR _ _ h
  refine callsIn_wide.2 (Calls.mono (R := Ret fun v B => v = .tuple #[] ∧ (J (S.refsL vs) B ∨ K B)) ?_ (fun e B h => by cases e <;> first | exact ⟨by rw [h.1], h.2⟩ | exact h.elim))
  refine (enter (l := [.func (.yield l) #[] #[], .pointer (some ⟨b, 0, none⟩)]) Try.func136 rfl Try.ntmps136 rfl ?_)
  refine c_seq fun K1 hK1 => ?_
  refine c_reg ?_
  refine op_loadB (v := .slice a vs.length c) ty24 rfl rfl rfl rfl (hM h0).1 rfl ?_
  refine op_len ty24 rfl rfl rfl ?_
  refine op_move (v := .int .i64 0) rfl rfl rfl ?_
  refine wpList_nil ?_
  refine hK1 _ _ ?_
  refine wp_block ?_
  refine c_loop (X := Nat) [4, 7, 8, 9, 10, 11, 12, 13, 14, 15, 16, 17, 18, 19, 20, 21] (fun k => [(7, .int .i64 (k : Int))]) (fun k w1 => k ≤ vs.length ∧ J (S.refsL (vs.take k)) w1) (fun k => vs.length - k) 0 ⟨rfl, trivial⟩ ⟨by omega, by simpa [S.refsL] using h0⟩ ?_
  rintro k τ w1 ⟨hk, hj⟩
  refine c_seq fun K2 hK2 => ?_
  refine c_reg ?_
  refine op_lss rfl rfl rfl rfl ?_
  refine wpList_nil ?_
  refine hK2 _ _ ?_
  refine c_seq fun K3 hK3 => ?_
  refine c_if rfl rfl (fun hb => ?_) (fun hb => ?_)
  · refine wp_skip ?_
    refine hK3 _ _ ?_
    refine c_seq fun K4 hK4 => ?_
    refine wp_block ?_
    refine c_seq fun K5 hK5 => ?_
    refine c_reg ?_
    refine op_indexN (j := k) ty24 ty51 rfl rfl rfl rfl rfl (hM hj).2 (by omega) fun ad cs u hx he ca => ?_
    obtain rfl := he
    refine op_loadAA ty51 rfl rfl rfl rfl ca rfl ?_
    refine op_alloc (zs := [.int .i64 0, .int .i64 0]) ty51 rfl rfl fun β w2 hβ u2 hz2 hx2 => ?_
    have hj2 := hJ _ _ _ hj u2
    have hjs : ∀ (S0 : List Nat) (w3 : World), Upd [β] w2 w3 → J (S.refsL (vs.take k)) w3 := fun S0 w3 u3 => hJ _ _ _ hj ⟨u3.os.trans u2.os, u3.tape.trans u2.tape, u3.output.trans u2.output, Nat.le_trans u2.size u3.size, fun x hx hn => (u3.same x (Nat.lt_of_lt_of_le hx u2.size) (by simp; omega)).trans (u2.same x hx (by simp))⟩
    refine op_store (v := .agg #[.int .i64 u.1, .int .i64 u.2]) (cs' := [.int .i64 u.1, .int .i64 u.2]) ty51 rfl rfl rfl rfl hx2 rfl rfl rfl fun w3 u3 hz3 hx3 => ?_
    have hj3 := hjs [] w3 u3
    refine wpList_nil ?_
    refine hK5 _ _ ?_
    refine c_seq fun K6 hK6 => ?_
    by_cases hv : u.1 = 4
    · refine (wpIn_wide (n := 0)).1 (wpIn_region_lit (in_take 7 rfl ?lo rfl ?_))
      case lo => rintro ⟨_, _, h⟩; exact (show False from h)
      dsimp only [List.take_succ_cons, List.take_zero, List.drop_succ_cons, List.drop_zero]
      refine op_fieldB fldV0 rfl rfl rfl ?_
      refine op_loadB (v := .int .i64 u.1) ty3 rfl rfl rfl rfl hx3 rfl ?_
      refine op_eq rfl rfl rfl rfl ?_
      refine op_move (v := .bool true) rfl rfl (congrArg Value.bool (decide_eq_true hv)) ?_
      refine op_move (v := .func (.yield l) #[] #[]) rfl rfl rfl ?_
      refine op_fieldB fldV1 rfl rfl rfl ?_
      refine op_loadB (v := .int .i64 u.2) ty3 rfl rfl rfl rfl hx3 rfl ?_
      refine wpList_nil ?_
      refine then_normal ?_
      have hsp : S.refsL vs = S.refsL (vs.take k) ++ u.2 :: S.refsL (vs.drop (k + 1)) := by
        conv => lhs; rw [← List.take_append_drop k vs, refsL_append, drop_of hx]
        simp [S.refsL, hv]
      refine in_yield rfl rfl rfl rfl rfl (hy _ _ _ _ _ hsp hj3 fun E => .int _ _ (hw u (List.mem_of_getElem? hx))) ?_
      rintro e w4 (⟨rfl, hj4⟩ | ⟨rfl, hk4⟩)
      · refine ⟨_, rfl, in_all rfl ?lo rfl ?_⟩
        case lo => rintro ⟨_, _, h⟩; exact (show False from h)
        refine op_notB rfl rfl rfl ?_
        refine op_pickT (v := .bool false) rfl rfl rfl rfl ?_
        refine wpList_nil ?_
        refine hK6 _ _ ?_
        refine c_ifF rfl rfl ?_
        refine wp_skip ?_
        refine inBlock_normal ?_
        refine hK4 _ _ ?_
        refine c_reg ?_
        refine op_add rfl rfl rfl rfl (by omega) ?_
        refine op_move (v := .int .i64 ((k : Int) + 1)) rfl rfl rfl ?_
        refine wpList_nil ?_
        refine then_normal ?_
        exact ⟨k + 1, by omega, ⟨by omega, by rw [refsL_take hx, if_pos hv]; exact hj4⟩, _, rfl, (by repeat first | exact agree.refl _ _ | refine agree.upd rfl ?_ | refine agree.upds rfl ?_ | refine agree.mix rfl ?_), rfl, trivial⟩
      · refine ⟨_, rfl, in_all rfl ?lo rfl ?_⟩
        case lo => rintro ⟨_, _, h⟩; exact (show False from h)
        refine op_notB rfl rfl rfl ?_
        refine op_pickT (v := .bool true) rfl rfl rfl rfl ?_
        refine wpList_nil ?_
        refine hK6 _ _ ?_
        refine c_ifT rfl rfl ?_
        refine wp_ret ?_
        exact ret0 Try.results136 ⟨rfl, .inr hk4⟩
    · refine c_reg ?_
      refine op_fieldB fldV0 rfl rfl rfl ?_
      refine op_loadB (v := .int .i64 u.1) ty3 rfl rfl rfl rfl hx3 rfl ?_
      refine op_eq rfl rfl rfl rfl ?_
      refine op_move (v := .bool false) rfl rfl (congrArg Value.bool (decide_eq_false hv)) ?_
      refine op_not rfl ?_
      refine op_not rfl ?_
      refine op_not rfl ?_
      refine op_not rfl ?_
      refine op_not rfl ?_
      refine op_pickF (v := .bool false) rfl rfl rfl rfl ?_
      refine wpList_nil ?_
      refine hK6 _ _ ?_
      refine c_ifF rfl rfl ?_
      refine wp_skip ?_
      refine inBlock_normal ?_
      refine hK4 _ _ ?_
      refine c_reg ?_
      refine op_add rfl rfl rfl rfl (by omega) ?_
      refine op_move (v := .int .i64 ((k : Int) + 1)) rfl rfl rfl ?_
      refine wpList_nil ?_
      refine then_normal ?_
      exact ⟨k + 1, by omega, ⟨by omega, by rw [refsL_take hx, if_neg hv, List.append_nil]; exact hj3⟩, _, rfl, (by repeat first | exact agree.refl _ _ | refine agree.upd rfl ?_ | refine agree.upds rfl ?_ | refine agree.mix rfl ?_), rfl, trivial⟩
  · refine wp_exit ?_
    have e : vs.take k = vs := List.take_of_length_le (by omega)
    rw [e] at hj
    exact ret0n Try.results136 ⟨rfl, .inl hj⟩
def si_p_refs_1 : SmI := ⟨[.ref (.box [.dat (.list cVal)])], .int .i64, fun x => some (S.refsL x.1.1)⟩
theorem coni_p_refs_1 : ConI Try.prog 136 si_p_refs_1 := by
  refine ⟨cal136, rfl, rfl, fun E x us rows l hl hrd => ?_⟩
  obtain ⟨⟨vs, _⟩, _⟩ := x
  cases hl
  obtain ⟨h1, h2⟩ := hrd
  obtain ⟨i, i1, i2, i3, i4⟩ := h2 0 _ rfl
  have i4 : OR E i (.row [.lst cVal vs]) := i4
  obtain ⟨cells, t, k1, k2, k3, k4⟩ := i4
  have ha := h1 (fun k => rows.getD k 0) 0 (fun j id hj => by show rows.getD (0 + j) 0 = id; rw [Nat.zero_add, List.getD_eq_getElem?_getD, hj]; rfl)
  obtain ⟨u, us', rfl, a1, a2⟩ := VRs.inv (v := .ptr (rows.getD 0 0) 0) (cs := []) ha
  obtain rfl : us' = [] := List.length_eq_zero_iff.1 a2.1.symm
  have e0 : rows.getD 0 0 = i := by rw [List.getD_eq_getElem?_getD, i1]; rfl
  rw [e0] at a1
  have hu : u = .pointer (some ⟨E.ρ i, 0, none⟩) := by cases a1; rfl
  subst hu
  obtain ⟨h0, r0, hc0⟩ : ∃ h0 r0, cells.toList = h0 :: r0 := by
    cases hc : cells.toList with
    | nil => have := congrArg List.length hc; simp at this; simp [this] at k3
    | cons h r => exact ⟨h, r, rfl⟩
  have hv : VR E (.lst cVal vs) h0 := by
    have := k4.2 0 (by simp) (by simp [hc0])
    simpa [hc0] using this
  obtain ⟨a, cap, rfl, hS⟩ := lst_SL hv
  have hwf : WfE (.list cVal) vs := wf_as (c := .list cVal) hv
  have hin := List.mem_of_getElem? i1
  refine fun l J K W q1 q2 q3 q4 q5 => it136S (M := E.m) (a := a) (c := cap) (vs := vs) (cs0 := r0) (fun v hv => (wf_mem hwf hv).2) l J K W q1 q2 (fun s A hs => ?_) q4 q5
  obtain ⟨r1, r2⟩ := q3 s A hs
  refine ⟨⟨t, ?_⟩, hS.mono r1.tr⟩
  rw [r2 i hin, k1, ← hc0]
end Go.Proofs.Ytcnhjofpmpipfaa
end

/- Ranges over iterators whose rounds all end normally. -/
section
set_option linter.unusedVariables false
namespace Go.Jx
open Go Go.Sx Go.RowKit
universe u

def foldN {D α : Type} (g : D → α → Option D) : List α → D → Option D
  | [], d => some d
  | x :: xs, d => match g d x with
    | none => none
    | some d' => foldN g xs d'
def plainR {D : Type} : Option (D × Option Code) → Option D
  | some (d, none) => some d
  | _ => none
theorem foldN_B {D α : Type} (g : D → α → Option (D × Option Code)) : ∀ (xs : List α) (d d' : D), foldN (fun d x => plainR (g d x)) xs d = some d' → foldB g xs d = some (d', none)
  | [], d, d', h => by cases h; rfl
  | x :: xs, d, d', h => by
    simp only [foldN, foldB] at h ⊢
    cases hg : g d x with
    | none => rw [hg] at h; cases h
    | some q =>
      obtain ⟨z, e⟩ := q
      rw [hg] at h
      cases e with
      | none => exact foldN_B g xs z d' h
      | some e => cases h
section
variable (P : Program) (tt : Nat → Option TI)
def stepPK (cfg : LpC) (c : TC) (nt lf : Nat) (clP : ClP) (pr : Nat) (assign body : Code) (d : ElP cfg.lp) (z : ElP (refs cfg.lp)) (x : El c) : Option (ElP (refs cfg.lp)) :=
  icodeK P tt cfg.nm (mP cfg.lp) nt (clP (ElP (refs cfg.lp))) lf none assign (setPs [pr] [asIV c x] (putL cfg.ls (argsP cfg.lp idN 0 d) .leaf)) (Sc cfg.lp (updP cfg.lp d z)) [] fun r1 => match r1.e with
    | .normal => match r1.ds with
      | [] => icodeK P tt cfg.nm (mP cfg.lp) nt (clP (ElP (refs cfg.lp))) lf none body r1.fr r1.S [] fun r2 => match r2.ds with
          | [] => match r2.e with
            | .normal => match runQ (sQ cfg.lp) ⟨.tup [], r2.S, 0, 0⟩ with
              | none => none
              | some y => some y.2
            | _ => none
          | _ => none
      | _ => none
    | _ => none
theorem stepPK_eq {cfg : LpC} {c : TC} {nt lf : Nat} {cl : Cl} {clP : ClP} (hcl : ∀ R, ClEq cl (clP R)) (pr : Nat) (assign body : Code) (d : ElP cfg.lp) (z : ElP (refs cfg.lp)) (x : El c) :
    stepPK P tt cfg c nt lf clP pr assign body d z x = plainR (stepB P tt cfg c nt lf cl pr assign body d z x) := by
  unfold stepPK stepB
  rw [icodeK_eq (hcl _)]
  cases icode P tt cfg.nm (mP cfg.lp) nt cl lf none assign (setPs [pr] [asIV c x] (putL cfg.ls (argsP cfg.lp idN 0 d) .leaf)) (Sc cfg.lp (updP cfg.lp d z)) [] with
  | none => rfl
  | some r1 =>
    simp only [bd]
    cases r1.e <;> try rfl
    simp only
    cases r1.ds with
    | cons _ _ => rfl
    | nil =>
      simp only
      rw [icodeK_eq (hcl _)]
      cases icode P tt cfg.nm (mP cfg.lp) nt cl lf none body r1.fr r1.S [] with
      | none => rfl
      | some r2 =>
        simp only [bd]
        cases r2.ds with
        | cons _ _ => rfl
        | nil =>
          simp only
          cases r2.e <;> cases runQ (sQ cfg.lp) ⟨.tup [], r2.S, 0, 0⟩ <;> rfl
def itP (s : SmI) (cfg : LpC) (lf : Nat) (cl : Cl) (vs : List IV) (S : IS) : Option Res := match vs with
  | .yield id :: caps => match rdP s.ips S caps with
    | none => none
    | some (xi, irows, _, S1, w1) => match S1.heap.get id with
      | some (.loop .ready none nt fr [pr] assign body D) => match rdP cfg.lp S1 (cfg.ls.map (slot fr)) with
        | none => none
        | some (d0, rows, subs, S2, w2) => cond (itB S2 cfg id nt irows rows subs w2 assign body) (match fiP cfg.lp rows subs S2 d0 with
          | none => none
          | some d => match s.xs xi with
            | none => none
            | some l => match foldN (fun z x => plainR (stepB P tt cfg s.c nt lf cl pr assign body d z x)) l (refsP cfg.lp d) with
              | none => none
              | some z => some (itEnd S2 cfg id nt fr pr D assign body irows rows subs (w1 ||| w2) (z, none))) none
      | _ => none
  | _ => none
def itPK (s : SmI) (cfg : LpC) (lf : Nat) (clP : ClP) (R : Type) (vs : List IV) (S : IS) (kk : Res → Option R) : Option R := match vs with
  | .yield id :: caps => match rdP s.ips S caps with
    | none => none
    | some (xi, irows, _, S1, w1) => match S1.heap.get id with
      | some (.loop .ready none nt fr [pr] assign body D) => match rdP cfg.lp S1 (cfg.ls.map (slot fr)) with
        | none => none
        | some (d0, rows, subs, S2, w2) => cond (itB S2 cfg id nt irows rows subs w2 assign body) (match fiP cfg.lp rows subs S2 d0 with
          | none => none
          | some d => match s.xs xi with
            | none => none
            | some l => match foldN (stepPK P tt cfg s.c nt lf clP pr assign body d) l (refsP cfg.lp d) with
              | none => none
              | some z => kk (itEnd S2 cfg id nt fr pr D assign body irows rows subs (w1 ||| w2) (z, none))) none
      | _ => none
  | _ => none
end
section
variable {P : Program} {tt : Nat → Option TI}
theorem itPK_eq (s : SmI) (cfg : LpC) (lf : Nat) (cl : Cl) (clP : ClP) (hcl : ∀ R, ClEq cl (clP R)) (R : Type) (vs : List IV) (S : IS) (kk : Res → Option R) : itPK P tt s cfg lf clP R vs S kk = ob (itP P tt s cfg lf cl vs S) kk := by
  unfold itPK itP
  cases vs with
  | nil => rfl
  | cons v caps =>
  cases v <;> try rfl
  rename_i id
  simp only
  cases rdP s.ips S caps with
  | none => rfl
  | some a =>
  obtain ⟨xi, irows, _, S1, w1⟩ := a
  simp only
  cases S1.heap.get id with
  | none => rfl
  | some o =>
  cases o <;> try rfl
  rename_i st pe nt fr ps assign body D
  cases st <;> try rfl
  cases pe <;> try rfl
  cases ps with
  | nil => rfl
  | cons pr ps =>
  cases ps with
  | cons _ _ => rfl
  | nil =>
  simp only
  cases rdP cfg.lp S1 (cfg.ls.map (slot fr)) with
  | none => rfl
  | some b =>
  obtain ⟨d0, rows, subs, S2, w2⟩ := b
  simp only [ob_cond]
  cases fiP cfg.lp rows subs S2 d0 with
  | none => rfl
  | some d =>
  simp only
  cases s.xs xi with
  | none => rfl
  | some l =>
  have e : stepPK P tt cfg s.c nt lf clP pr assign body d = fun z x => plainR (stepB P tt cfg s.c nt lf cl pr assign body d z x) := by
    funext z x; exact stepPK_eq P tt hcl pr assign body d z x
  simp only [e]
  cases foldN (fun z x => plainR (stepB P tt cfg s.c nt lf cl pr assign body d z x)) l (refsP cfg.lp d) <;> rfl
theorem itP_F {s : SmI} {cfg : LpC} {lf : Nat} {cl : Cl} {vs : List IV} {S : IS} {r : Res} (h : itP P tt s cfg lf cl vs S = some r) : itF P tt s cfg lf cl vs S = some r := by
  unfold itP at h
  unfold itF
  split at h <;> try cases h
  try simp only
  split at h
  · cases h
  rename_i h1
  try rw [h1]
  try simp only
  split at h <;> try cases h
  rename_i h2
  try rw [h2]
  try simp only
  split at h
  · cases h
  rename_i h3
  try rw [h3]
  try simp only
  cases hb : itB _ cfg _ _ _ _ _ _ _ _ with
  | false => rw [hb] at h; cases h
  | true =>
  rw [hb] at h
  simp only [cond_true] at h ⊢
  split at h
  · cases h
  rename_i h4
  try rw [h4]
  try simp only
  split at h
  · cases h
  rename_i h5
  try rw [h5]
  try simp only
  split at h <;> cases h
  rename_i h6
  rw [foldN_B _ _ _ _ h6]
def itPx (P : Program) (tt : Nat → Option TI) (s : SmI) (cfg : LpC) (lf : Nat) : Hx := ⟨itP P tt s cfg lf, fun clP R vs S kk => itPK P tt s cfg lf clP R vs S kk, fun cl clP hcl R vs S kk => itPK_eq s cfg lf cl clP hcl R vs S kk⟩
theorem itPx_ok (hm : P.follows .mixedOrders = true) (htt : TT P tt) {f : Nat} {s : SmI} (cfg : LpC) (lf : Nat) (hc : ConI P f s) : HxOK P f (itPx P tt s cfg lf).f :=
  ⟨fun cl h1 h2 _ vs S r h T E us p hr hw hv => itF_sound hm htt hc h1 h2 (itP_F h) p hr hw hv, fun cl _ vs S r h => itF_fr r (itP_F h), fun cl _ vs S r h hw _ => (itF_calm (itP_F h) hw).elim⟩
def nmTop : Nat → Option Nm := fun k => cond (Nat.beq k 999999) (some ⟨[], [], [], [], [], 0, 0, false⟩) none
end
end Go.Jx
end

/- Made by program: plain forms of functions. -/
section
set_option linter.unusedVariables false
set_option maxRecDepth 100000
noncomputable section
namespace Go.Proofs.Ytcnhjofpmpipfaa
open Go Go.Sx Go.RowKit Go.Jx
def nm_p_canon_1 : Nat → Option Nm := fun k => cond (Nat.beq k 999999) (some ⟨[], [], [], [], [], 0, 0, false⟩) none
def st_p_canon_1 : Nat → Bool := fun k => false
def hd_p_canon_1 : Nat → Bool := fun k => false
abbrev Rt_p_canon_1 : Type := (Unit) × ((List (Int × Int)) × Unit) × ((List Int) × Unit) × Unit
def sml_p_canon_1 : List (Nat × Sm) := []
def hxl_p_canon_1 : List (Nat × Hx) := [(136, itPx Try.prog ttT.get si_p_refs_1 ⟨[1, 2], [.ref (.box [.map (.int .i64) (.int .i64)]), .ref (.box [.arr (.int .i64)])], nmTop⟩ 0)]
def cl_p_canon_1 (R : Type) (lf : Nat) : ClK R := icallK Try.prog ttT.get ftT.get (fun _ _ => none) (smL sml_p_canon_1) (hxL hxl_p_canon_1) lf 20 R
abbrev id_p_canon_1 : Nat := 100
def R_p_canon_1_in (lf : Nat) (x1 : (List DVal)) (x2 : (List (Int × Int))) (x3 : (List Int)) : Option Rt_p_canon_1 := (match (foldN (fun v0 v1 => (cond (Bool.not (match (@mfind (TC.int Go.IntKind.i64) (TC.int Go.IntKind.i64) v1 v0.1.1) with | .none  => Bool.false | .some v2 => Bool.true)) (cond (Nat.ble (Nat.mul (Nat.add (List.length v0.2.1.1) 1) 8) 140737488355328) (some (((@mset (TC.int Go.IntKind.i64) (TC.int Go.IntKind.i64) v1 (Int.ofNat (List.length v0.2.1.1)) v0.1.1), ()), (((List.append v0.2.1.1 (List.cons v1 [])), ()), ()))) none) (some ((v0.1.1, ()), ((v0.2.1.1, ()), ()))))) (Go.Proofs.Ytcnhjofpmpipfaa.S.refsL x1) ((x2, ()), ((x3, ()), ()))) with | .none  => none | .some v3 => (some ((), ((v3.1.1, ()), ((v3.2.1.1, ()), ())))))
theorem in_p_canon_1 (g : ElP [.dat (.list cVal), .ref (.box [.map (.int .i64) (.int .i64)]), .ref (.box [.arr (.int .i64)])] → Option Rt_p_canon_1) (J : Nat → List Nat → NRes → Option Rt_p_canon_1) (lf : Nat) (x1 : (List DVal)) (x2 : (List (Int × Int))) (x3 : (List Int)) : icodeTB Try.prog ttT.get nm_p_canon_1 (mP [.dat (.list cVal), .ref (.box [.map (.int .i64) (.int .i64)]), .ref (.box [.arr (.int .i64)])]) fi100.nt (cl_p_canon_1 _ lf) lf st_p_canon_1 J fi100.body [] (argGo (argsP [.dat (.list cVal), .ref (.box [.map (.int .i64) (.int .i64)]), .ref (.box [.arr (.int .i64)])] idN 0 (x1, (x2, ()), (x3, ()), ())) 0 .leaf) (Sc [.dat (.list cVal), .ref (.box [.map (.int .i64) (.int .i64)]), .ref (.box [.arr (.int .i64)])] (x1, (x2, ()), (x3, ()), ())) [] (lastQ ttT.get fi100 ⟨[.dat (.list cVal), .ref (.box [.map (.int .i64) (.int .i64)]), .ref (.box [.arr (.int .i64)])], [], g⟩) = R_p_canon_1_in lf x1 x2 x3 := by kernel_rfl
theorem nd_p_canon_1 : (regs fi100.body).Nodup := by decide +kernel
theorem ok_p_canon_1 : okC nm_p_canon_1 st_p_canon_1 hd_p_canon_1 fi100.body none = true := by kernel_rfl
def A_p_canon_1 (g : ElP [.dat (.list cVal), .ref (.box [.map (.int .i64) (.int .i64)]), .ref (.box [.arr (.int .i64)])] → Option Rt_p_canon_1) (lf : Nat) : Nat → List Nat → NRes → Option Rt_p_canon_1 := atQ Try.prog ttT.get nm_p_canon_1 fi100 ⟨[.dat (.list cVal), .ref (.box [.map (.int .i64) (.int .i64)]), .ref (.box [.arr (.int .i64)])], [], g⟩ (cl_p_canon_1 _ lf) lf hd_p_canon_1
def F_p_canon_1 (lf : Nat) (x1 : (List DVal)) (x2 : (List (Int × Int))) (x3 : (List Int)) : Option Rt_p_canon_1 := R_p_canon_1_in lf x1 x2 x3
theorem run_p_canon_1 (g : ElP [.dat (.list cVal), .ref (.box [.map (.int .i64) (.int .i64)]), .ref (.box [.arr (.int .i64)])] → Option Rt_p_canon_1) (lf : Nat) (x1 : (List DVal)) (x2 : (List (Int × Int))) (x3 : (List Int)) : icodeTB Try.prog ttT.get nm_p_canon_1 (mP [.dat (.list cVal), .ref (.box [.map (.int .i64) (.int .i64)]), .ref (.box [.arr (.int .i64)])]) fi100.nt (cl_p_canon_1 _ lf) lf st_p_canon_1 (A_p_canon_1 g lf) fi100.body [] (argGo (argsP [.dat (.list cVal), .ref (.box [.map (.int .i64) (.int .i64)]), .ref (.box [.arr (.int .i64)])] idN 0 (x1, (x2, ()), (x3, ()), ())) 0 .leaf) (Sc [.dat (.list cVal), .ref (.box [.map (.int .i64) (.int .i64)]), .ref (.box [.arr (.int .i64)])] (x1, (x2, ()), (x3, ()), ())) [] (lastQ ttT.get fi100 ⟨[.dat (.list cVal), .ref (.box [.map (.int .i64) (.int .i64)]), .ref (.box [.arr (.int .i64)])], [], g⟩) = F_p_canon_1 lf x1 x2 x3 := by
    refine (in_p_canon_1 g (A_p_canon_1 g lf) lf x1 x2 x3).trans ?_
    rfl
theorem hxs_p_canon_1 : HxsOK Try.prog hxl_p_canon_1 := ⟨itPx_ok mixed ttOK _ 0 coni_p_refs_1, trivial⟩
theorem mk_p_canon_1 {g : ElP [.dat (.list cVal), .ref (.box [.map (.int .i64) (.int .i64)]), .ref (.box [.arr (.int .i64)])] → Option Rt_p_canon_1} (hsm : SmOK Try.prog sml_p_canon_1) (hg : ∀ (x : ElP [.dat (.list cVal), .ref (.box [.map (.int .i64) (.int .i64)]), .ref (.box [.arr (.int .i64)])]) (y : Rt_p_canon_1), WfP [.dat (.list cVal), .ref (.box [.map (.int .i64) (.int .i64)]), .ref (.box [.arr (.int .i64)])] x → g x = some y → ∃ lf, F_p_canon_1 lf x.1 x.2.1.1 x.2.2.1.1 = some y) : ConR Try.prog 100 ⟨[.dat (.list cVal), .ref (.box [.map (.int .i64) (.int .i64)]), .ref (.box [.arr (.int .i64)])], [], g⟩ :=
  conTR (nmf := nm_p_canon_1) (sml := sml_p_canon_1) (hxl := hxl_p_canon_1) (st := st_p_canon_1) (hd := hd_p_canon_1) 20 mixed ttOK ftOK hsm hxs_p_canon_1 cal100 (by kernel_rfl) (fun x => by kernel_rfl) nd_p_canon_1 ok_p_canon_1 fun x y z hx hy => by
    obtain ⟨lf, h⟩ := hg x (y, z) hx hy
    exact ⟨lf, (run_p_canon_1 g lf x.1 x.2.1.1 x.2.2.1.1).trans h⟩
end Go.Proofs.Ytcnhjofpmpipfaa

end
end

/- Made by program: plain forms of functions. -/
section
set_option linter.unusedVariables false
set_option maxRecDepth 100000
noncomputable section
namespace Go.Proofs.Ytcnhjofpmpipfaa
open Go Go.Sx Go.RowKit Go.Jx
def nm_slices_CloneO_Val : Nat → Option Nm := fun k => none
def st_slices_CloneO_Val : Nat → Bool := fun k => false
def hd_slices_CloneO_Val : Nat → Bool := fun k => false
abbrev Rt_slices_CloneO_Val : Type := (List DVal) × Unit
def sml_slices_CloneO_Val : List (Nat × Sm) := []
def hxl_slices_CloneO_Val : List (Nat × Hx) := []
def cl_slices_CloneO_Val (R : Type) (lf : Nat) : ClK R := icallK Try.prog ttT.get ftT.get (nm1 74 nm_slices_CloneO_Val) (smL sml_slices_CloneO_Val) (hxL hxl_slices_CloneO_Val) lf 20 R
abbrev id_slices_CloneO_Val : Nat := 74
def R_slices_CloneO_Val_in (lf : Nat) (x1 : (List DVal)) : Option Rt_slices_CloneO_Val := (match x1 with | .nil  => none | .cons v0 v1 => (cond (Nat.ble (Nat.mul (Nat.add 0 (List.length x1)) 16) 140737488355328) (some (x1, ())) none))
theorem in_slices_CloneO_Val (g : ElA [(.list cVal)] → Option Rt_slices_CloneO_Val) (J : Nat → List Nat → NRes → Option Rt_slices_CloneO_Val) (lf : Nat) (x1 : (List DVal)) : icodeT Try.prog ttT.get nm_slices_CloneO_Val fi74.nt (cl_slices_CloneO_Val _ lf) lf st_slices_CloneO_Val J fi74.body [] (argGo (argV [(.list cVal)] (x1, ())) 0 .leaf) S0 [] (lastK ttT.get fi74 ⟨[(.list cVal)], [(true, cVal)], g⟩) = R_slices_CloneO_Val_in lf x1 := by kernel_rfl
theorem nd_slices_CloneO_Val : (regs fi74.body).Nodup := by decide +kernel
theorem ok_slices_CloneO_Val : okC nm_slices_CloneO_Val st_slices_CloneO_Val hd_slices_CloneO_Val fi74.body none = true := by kernel_rfl
def A_slices_CloneO_Val (g : ElA [(.list cVal)] → Option Rt_slices_CloneO_Val) (lf : Nat) : Nat → List Nat → NRes → Option Rt_slices_CloneO_Val := atN Try.prog ttT.get nm_slices_CloneO_Val fi74 ⟨[(.list cVal)], [(true, cVal)], g⟩ (cl_slices_CloneO_Val _ lf) lf hd_slices_CloneO_Val
def F_slices_CloneO_Val (lf : Nat) (x1 : (List DVal)) : Option Rt_slices_CloneO_Val := R_slices_CloneO_Val_in lf x1
theorem run_slices_CloneO_Val (g : ElA [(.list cVal)] → Option Rt_slices_CloneO_Val) (lf : Nat) (x1 : (List DVal)) : icodeT Try.prog ttT.get nm_slices_CloneO_Val fi74.nt (cl_slices_CloneO_Val _ lf) lf st_slices_CloneO_Val (A_slices_CloneO_Val g lf) fi74.body [] (argGo (argV [(.list cVal)] (x1, ())) 0 .leaf) S0 [] (lastK ttT.get fi74 ⟨[(.list cVal)], [(true, cVal)], g⟩) = F_slices_CloneO_Val lf x1 := by
    refine (in_slices_CloneO_Val g (A_slices_CloneO_Val g lf) lf x1).trans ?_
    rfl
theorem hxs_slices_CloneO_Val : HxsOK Try.prog hxl_slices_CloneO_Val := trivial
theorem mk_slices_CloneO_Val {g : ElA [(.list cVal)] → Option Rt_slices_CloneO_Val} (hsm : SmOK Try.prog sml_slices_CloneO_Val) (hg : ∀ (x : ElA [(.list cVal)]) (y : Rt_slices_CloneO_Val), WfA [(.list cVal)] x → g x = some y → ∃ lf, F_slices_CloneO_Val lf x.1 = some y) : Con Try.prog 74 ⟨[(.list cVal)], [(true, cVal)], g⟩ :=
  conT (nmf := nm_slices_CloneO_Val) (sml := sml_slices_CloneO_Val) (hxl := hxl_slices_CloneO_Val) (st := st_slices_CloneO_Val) (hd := hd_slices_CloneO_Val) 20 mixed ttOK ftOK hsm hxs_slices_CloneO_Val cal74 rfl rfl (by kernel_rfl) (fun x => by kernel_rfl) nd_slices_CloneO_Val ok_slices_CloneO_Val fun x y hx hy => by
    obtain ⟨lf, h⟩ := hg x y hx hy
    exact ⟨lf, (run_slices_CloneO_Val g lf x.1).trans h⟩
end Go.Proofs.Ytcnhjofpmpipfaa

end
end

/- The calls of slices.Clone whose result is turned later. -/
section
set_option linter.unusedVariables false
set_option maxRecDepth 100000
namespace Go.Jx
open Go Go.Sx Go.RowKit
theorem ret_own {M : List Nat} {w w' : World} {c : TC} {n : Nat} {e : Ending} (hn : n = csz c) (hM : ∀ b ∈ M, b < w.heap.size) (h : Ret (fun v w' => ∃ a' c' m', v = .slice a' 0 c' ∧ Go.Sx.Own m' M w' a' c' ([] : List (NoD n)) ∧ Evo [] w m' w') e w') :
    RetE T0 (EM M w) S0 ⟨.arr 0, addO [.arr c []] S0, 0, 0⟩ e w' := by
  cases e with
  | returned v =>
    obtain ⟨a, k, m, rfl, ho, ev⟩ := h
    have hH : ∀ id o, (addO [IObj.arr c []] S0).H id = some o → id = 0 ∧ o = .arr c [] := fun id o ho => by
      rw [addO_H] at ho
      have e0 : S0.next = 0 := rfl
      rw [e0, if_neg (by omega)] at ho
      split at ho
      · rename_i h1
        have h1 : id < 1 := by simpa using h1
        obtain rfl : id = 0 := by omega
        exact ⟨rfl, by simpa using ho.symm⟩
      · cases ho
    have key : ∃ (E' : Env), E'.w = w' ∧ E'.A = (fun id => id = 0) ∧ E'.hd 0 = .slice a 0 k ∧ (∀ b ∈ E'.m, b ∈ M ∨ w.heap.size ≤ b) ∧ (∀ b ∈ M, b ∈ E'.m) ∧ (∀ b ∈ E'.m, b < w'.heap.size) ∧ OR E' 0 (.arr c []) ∧ (E'.hb 0 = true → E'.ρ 0 ∈ E'.m ∧ w.heap.size ≤ E'.ρ 0) := by
      rcases ho with ⟨rfl, rfl, _⟩ | ⟨g, cells, rfl, g1, g2, g3, g4, g5, g6⟩
      · exact ⟨⟨fun _ => 0, fun _ => 0, fun _ => .slice none 0 0, fun _ => false, fun id => id = 0, M, w'⟩, rfl, rfl, rfl, fun b hb => .inl hb, fun b hb => hb, fun b hb => Nat.lt_of_lt_of_le (hM b hb) ev.size, ⟨none, 0, rfl, Nat.le_refl _, by omega, by simp, .inl ⟨rfl, rfl⟩⟩, fun h => by cases h⟩
      · have hg : w.heap.size ≤ g := by
          rcases ev.own g g1 with h | h
          · cases h
          · exact h
        obtain ⟨t, g3⟩ := g3
        refine ⟨⟨fun _ => g, fun _ => 0, fun _ => .slice (some ⟨g, 0, none⟩) 0 k, fun _ => true, fun id => id = 0, g :: M, w'⟩, rfl, rfl, rfl, fun b hb => ?_, fun b hb => List.mem_cons_of_mem _ hb, fun b hb => ?_, ⟨some ⟨g, 0, none⟩, k, rfl, Nat.zero_le _, g5.2, by simp, .inr ⟨rfl, rfl, cells.toArray, t, g3, ?_, fun _ _ => .nilFunc, fun i hi => absurd hi (by simp), fun i hi => absurd hi (by simp)⟩⟩, fun _ => ⟨List.mem_cons_self, hg⟩⟩
        · rcases List.mem_cons.1 hb with h | h
          · exact .inr (h ▸ hg)
          · exact .inl h
        · rcases List.mem_cons.1 hb with h | h
          · rw [h]; exact heap_lt g3
          · exact Nat.lt_of_lt_of_le (hM b h) ev.size
        · have e2 : Dat.sz (NoD n) = csz c := hn
          rw [e2] at g4
          simp [g4]
    obtain ⟨E', rfl, hA, hd, k1, k2, k3, k4, k5⟩ := key
    have hL : ∀ id, E'.A id → Live E' (addO [IObj.arr c []] S0).H id → id = 0 ∧ E'.ρ 0 ∈ E'.m ∧ w.heap.size ≤ E'.ρ 0 := fun id hid ⟨h1, _⟩ => by
      rw [hA] at hid
      have hid : id = 0 := hid
      subst hid
      exact ⟨rfl, k5 h1⟩
    refine ⟨_, E', rfl, rfl, .arr (by rw [hA]) hd, ⟨⟨fun id _ hid o ho => ?_, fun id _ hid o ho hb => ?_, fun id _ hid hl => ?_, fun i j _ _ hi hj _ _ _ => ?_, k3⟩, ⟨ev.os, ev.tape, ev.output, ev.size, fun b hb _ => ev.same b hb (by simp), fun id h => h.elim, fun id h _ hl => ?_, fun id _ h => h.elim, k1, fun b hb _ => .inl (k2 b hb)⟩, fun id hid => ?_, Nat.zero_le _⟩, ⟨fun id _ _ => Nat.zero_le _⟩⟩
    · obtain ⟨rfl, rfl⟩ := hH id o ho; exact k4
    · obtain ⟨rfl, rfl⟩ := hH id o ho; cases hb
    · obtain ⟨rfl, h1, _⟩ := hL id hid hl; exact h1
    · rw [hA] at hi hj
      have hi : i = 0 := hi
      have hj : j = 0 := hj
      rw [hi, hj]
    · obtain ⟨rfl, _, h2⟩ := hL id h hl; exact .inl h2
    · rw [hA] at hid
      have hid : id = 0 := hid
      subst hid
      exact Nat.one_pos
  | panicked c => exact h.elim
  | outgrown => exact h.elim
end Go.Jx
namespace Go.Proofs.Ytcnhjofpmpipfaa
open Go Go.Sx Go.RowKit Go.Jx

theorem cloneO_Val {M : List Nat} {w : World} {a : Option Addr} {cap : Nat} (hM : Lo M w) (hc : cap < 9223372036854775808) : Calls Try.prog 74 #[.slice a 0 cap] w (Ret fun v w' => ∃ a' c' m', v = .slice a' 0 c' ∧ Go.Sx.Own m' M w' a' c' ([] : List (NoD 2)) ∧ Evo [] w m' w') := by
  have hS : SL M w a cap ([] : List (NoD 2)) := ⟨⟨Nat.zero_le _, hc⟩, .inl rfl⟩
  refine enter (l := [.slice a 0 cap]) Try.func74 rfl Try.ntmps74 rfl ?_
  refine c_seq fun KhK1 hK1 => ?_
  refine c_reg ?_
  refine op_assign (v := .slice none 0 0) rfl rfl rfl ?_
  refine wpList_nil ?_
  refine hK1 _ _ ?_
  refine c_seq fun KhK2 hK2 => ?_
  refine c_seq fun KhK3 hK3 => ?_
  refine c_reg ?_
  refine op_move (v := .slice a 0 cap) rfl rfl rfl ?_
  refine op_nilS ty24 rfl rfl rfl rfl ?_
  refine wpList_nil ?_
  refine hK3 _ _ ?_
  refine c_ifB rfl rfl (fun hb4 => ?_) (fun hb4 => ?_)
  · refine c_seq fun KhK5 hK5 => ?_
    refine c_reg ?_
    refine op_assign (v := .slice none 0 0) rfl rfl rfl ?_
    refine wpList_nil ?_
    refine hK5 _ _ ?_
    refine wp_ret ?_
    exact ret1 Try.results74 rfl ⟨none, 0, [], rfl, Go.Sx.Own.nil, Evo.refl [] w⟩
  · refine wp_skip ?_
    refine hK2 _ _ ?_
    refine c_seq fun KhK7 hK7 => ?_
    refine c_reg ?_
    refine op_buildSlice0 (α := NoD 2) (m := []) (M := M) ty24 ty51 rfl (hM.mono (Evo.refl [] w).size) fun β14 w15 hβ16 u17 hz18 ho19 => ?_
    have e20 := u17.evoN (m := []) hβ16 hz18
    refine op_move (v := .slice a 0 cap) rfl rfl rfl ?_
    refine op_append ty24 ty24 ty51 rfl rfl rfl rfl rfl rfl rfl ho19 (hS.mono (e20.tr M)) (hM.mono e20.size) (by simp) fun a22 c23 w24 m25 ho26 e27 u28 hbk29 hsub30 => ?_
    refine op_assign (v := .slice a22 (([] : List (NoD 2)) ++ []).length c23) rfl rfl rfl ?_
    refine wpList_nil ?_
    refine hK7 _ _ ?_
    refine wp_ret ?_
    exact ret1 Try.results74 rfl ⟨a22, c23, m25, rfl, ho26, e20.trans e27⟩
def sp_slices_CloneO_Val : Sm := ⟨[.list cVal], [(true, cVal)], fun x => some (x.1, ())⟩
theorem con_slices_CloneO_Val' : Con Try.prog 74 ⟨[.list cVal], [(true, cVal)], fun x => match x.1 with | [] => none | v :: l => some (x.1, ())⟩ := mk_slices_CloneO_Val trivial fun x y hx h => ⟨0, by
  obtain ⟨l, _⟩ := x
  have hl := wf_len hx.1
  have hb := hx.1.1
  cases l with
  | nil => cases h
  | cons v l =>
    cases h
    simp only [F_slices_CloneO_Val, R_slices_CloneO_Val_in]
    exact Eq.trans (congrArg (fun b => cond b (some (v :: l, ())) none) (Nat.ble_eq_true_of_le (Nat.le_trans (Nat.le_of_eq (congrArg (fun z => Nat.mul z 16) (Nat.zero_add _))) hb))) rfl⟩
theorem con_slices_CloneO_Val : Con Try.prog id_slices_CloneO_Val sp_slices_CloneO_Val := by
  refine ⟨cal74, fun M w x us y hy hM hv => ?_⟩
  obtain ⟨l, _⟩ := x
  cases l with
  | cons v l => exact con_slices_CloneO_Val'.calls M w (v :: l, ()) us y hy hM hv
  | nil =>
    cases hy
    obtain ⟨u, us2, rfl, h1, h2⟩ := hv.inv
    obtain rfl : us2 = [] := List.length_eq_zero_iff.1 h2.1.symm
    obtain ⟨a, cap, rfl, hc⟩ := lst_nil2 h1
    refine callsIn_wide.2 ((cloneO_Val (M := M) hM hc).mono fun e w' hR => ?_)
    exact ret_own rfl hM hR
end Go.Proofs.Ytcnhjofpmpipfaa
end

/- Made by program: plain forms of functions. -/
section
set_option linter.unusedVariables false
set_option maxRecDepth 100000
noncomputable section
namespace Go.Proofs.Ytcnhjofpmpipfaa
open Go Go.Sx Go.RowKit Go.Jx
def nm_p_canon_2 : Nat → Option Nm := fun k => cond (Nat.beq k 3) (some ⟨[1, 4, 9, 10, 11], [(4, cVal)], [], [], [], 0, 0, false⟩) (cond (Nat.beq k 999999) (some ⟨[], [], [], [], [], 0, 0, false⟩) none)
def st_p_canon_2 : Nat → Bool := fun k => cond (Nat.beq k 3) true (false)
def hd_p_canon_2 : Nat → Bool := fun k => cond (Nat.beq k 3) true (false)
abbrev Rt_p_canon_2 : Type := ((List DVal) × Unit) × ((List (Int × Int)) × Unit) × Unit
def sml_p_canon_2 : List (Nat × Sm) := [(74, sp_slices_CloneO_Val)]
def hxl_p_canon_2 : List (Nat × Hx) := []
def cl_p_canon_2 (R : Type) (lf : Nat) : ClK R := icallK Try.prog ttT.get ftT.get (fun _ _ => none) (smL sml_p_canon_2) (hxL hxl_p_canon_2) lf 20 R
abbrev id_p_canon_2 : Nat := 102
def enc_p_canon_2_3 (x1 : (List DVal)) (x2 : (List (Int × Int))) (p : Int × (List DVal)) : NRes := (NRes.mk (PT.node none (PT.node (some (IV.ptr 0 0)) (PT.node none PT.leaf (PT.node (some (IV.int Go.IntKind.i64 p.1)) PT.leaf PT.leaf)) (PT.node none (PT.node (some (IV.arr 1)) PT.leaf PT.leaf) PT.leaf)) (PT.node none (PT.node (some (IV.arr 1)) PT.leaf PT.leaf) (PT.node none (PT.node (some (IV.int Go.IntKind.i64 (Int.ofNat (List.length x1)))) PT.leaf PT.leaf) PT.leaf))) (IS.mk (PT.node (some (IObj.row (List.cons (IV.map 2) []))) (PT.node (some (IObj.arr cVal p.2)) PT.leaf PT.leaf) (PT.node (some (IObj.tmap (TC.int Go.IntKind.i64) (TC.int Go.IntKind.i64) x2)) PT.leaf PT.leaf)) 3) [] 0)
def R_p_canon_2_in (lf : Nat) (x1 : (List DVal)) (x2 : (List (Int × Int))) (L3 : (Int × (List DVal)) → Option Rt_p_canon_2) : Option Rt_p_canon_2 := (L3 ((Int.ofNat 0), x1))
def R_p_canon_2_3 (lf : Nat) (x1 : (List DVal)) (x2 : (List (Int × Int))) (L3 : (Int × (List DVal)) → Option Rt_p_canon_2) (p : Int × (List DVal)) : Option Rt_p_canon_2 := (cond (iltI p.1 (Int.ofNat (List.length x1))) (match (jget p.2 p.1) with | .none  => none | .some v0 => (match (GetElem?.getElem? p.2 (Int.toNat p.1)) with | .none  => none | .some v1 => (cond (ieqI v1.1 (Int.ofNat 4)) (match (jget p.2 p.1) with | .none  => none | .some v2 => (match (GetElem?.getElem? p.2 (Int.toNat p.1)) with | .none  => none | .some v3 => (L3 ((Go.IntKind.wrap Go.IntKind.i64 (Int.add p.1 (Int.ofNat 1))), (List.set p.2 (Int.toNat p.1) (v3.1, (match (@mfind (TC.int Go.IntKind.i64) (TC.int Go.IntKind.i64) v1.2 x2) with | .none  => (Int.ofNat 0) | .some v33 => v33))))))) (L3 ((Go.IntKind.wrap Go.IntKind.i64 (Int.add p.1 (Int.ofNat 1))), p.2))))) (some ((p.2, ()), ((x2, ()), ()))))
theorem in_p_canon_2 (g : ElP [.dat (.list cVal), .ref (.box [.map (.int .i64) (.int .i64)])] → Option Rt_p_canon_2) (J : Nat → List Nat → NRes → Option Rt_p_canon_2) (lf : Nat) (x1 : (List DVal)) (x2 : (List (Int × Int))) : icodeTB Try.prog ttT.get nm_p_canon_2 (mP [.dat (.list cVal), .ref (.box [.map (.int .i64) (.int .i64)])]) fi102.nt (cl_p_canon_2 _ lf) lf st_p_canon_2 J fi102.body [] (argGo (argsP [.dat (.list cVal), .ref (.box [.map (.int .i64) (.int .i64)])] idN 0 (x1, (x2, ()), ())) 0 .leaf) (Sc [.dat (.list cVal), .ref (.box [.map (.int .i64) (.int .i64)])] (x1, (x2, ()), ())) [] (lastQ ttT.get fi102 ⟨[.dat (.list cVal), .ref (.box [.map (.int .i64) (.int .i64)])], [(true, cVal)], g⟩) = R_p_canon_2_in lf x1 x2 (fun q => J 3 [lf] (enc_p_canon_2_3 x1 x2 q)) := by kernel_rfl
theorem st_p_canon_2_3 (g : ElP [.dat (.list cVal), .ref (.box [.map (.int .i64) (.int .i64)])] → Option Rt_p_canon_2) (J : Nat → List Nat → NRes → Option Rt_p_canon_2) (lf : Nat) (x1 : (List DVal)) (x2 : (List (Int × Int))) (m1 : Nat) (p : Int × (List DVal)) : icodeFTB Try.prog ttT.get nm_p_canon_2 (mP [.dat (.list cVal), .ref (.box [.map (.int .i64) (.int .i64)])]) fi102.nt (cl_p_canon_2 _ lf) lf st_p_canon_2 J 3 fi102.body [] [m1] (enc_p_canon_2_3 x1 x2 p) (lastQ ttT.get fi102 ⟨[.dat (.list cVal), .ref (.box [.map (.int .i64) (.int .i64)])], [(true, cVal)], g⟩) = R_p_canon_2_3 lf x1 x2 (fun q => J 3 [m1] (enc_p_canon_2_3 x1 x2 q)) p := by kernel_rfl
theorem nd_p_canon_2 : (regs fi102.body).Nodup := by decide +kernel
theorem ok_p_canon_2 : okC nm_p_canon_2 st_p_canon_2 hd_p_canon_2 fi102.body none = true := by kernel_rfl
def A_p_canon_2 (g : ElP [.dat (.list cVal), .ref (.box [.map (.int .i64) (.int .i64)])] → Option Rt_p_canon_2) (lf : Nat) : Nat → List Nat → NRes → Option Rt_p_canon_2 := atQ Try.prog ttT.get nm_p_canon_2 fi102 ⟨[.dat (.list cVal), .ref (.box [.map (.int .i64) (.int .i64)])], [(true, cVal)], g⟩ (cl_p_canon_2 _ lf) lf hd_p_canon_2
def G_p_canon_2_3 (lf : Nat) (x1 : (List DVal)) (x2 : (List (Int × Int))) : Nat → (Int × (List DVal)) → Option Rt_p_canon_2 := rounds fun K p => R_p_canon_2_3 lf x1 x2 K p
theorem at_p_canon_2_3 (g : ElP [.dat (.list cVal), .ref (.box [.map (.int .i64) (.int .i64)])] → Option Rt_p_canon_2) (lf : Nat) (x1 : (List DVal)) (x2 : (List (Int × Int))) : ∀ (n : Nat) (p : Int × (List DVal)), A_p_canon_2 g lf 3 [n] (enc_p_canon_2_3 x1 x2 p) = G_p_canon_2_3 lf x1 x2 n p
  | 0, p => atQ_zero 3 [0] rfl _
  | n + 1, p => by
    have ih := at_p_canon_2_3 g lf x1 x2 n
    refine (atQ_eq rfl (icallK_eq 20 _) nd_p_canon_2 ok_p_canon_2 3 [n + 1] [n] rfl _).trans ((st_p_canon_2_3 g (A_p_canon_2 g lf) lf x1 x2 n p).trans ?_)
    rw [(show (fun q => A_p_canon_2 g lf 3 [n] (enc_p_canon_2_3 x1 x2 q)) = (fun q => G_p_canon_2_3 lf x1 x2 n q) from funext ih)]
    rfl
def F_p_canon_2 (lf : Nat) (x1 : (List DVal)) (x2 : (List (Int × Int))) : Option Rt_p_canon_2 := R_p_canon_2_in lf x1 x2 (fun q => G_p_canon_2_3 lf x1 x2 lf q)
theorem run_p_canon_2 (g : ElP [.dat (.list cVal), .ref (.box [.map (.int .i64) (.int .i64)])] → Option Rt_p_canon_2) (lf : Nat) (x1 : (List DVal)) (x2 : (List (Int × Int))) : icodeTB Try.prog ttT.get nm_p_canon_2 (mP [.dat (.list cVal), .ref (.box [.map (.int .i64) (.int .i64)])]) fi102.nt (cl_p_canon_2 _ lf) lf st_p_canon_2 (A_p_canon_2 g lf) fi102.body [] (argGo (argsP [.dat (.list cVal), .ref (.box [.map (.int .i64) (.int .i64)])] idN 0 (x1, (x2, ()), ())) 0 .leaf) (Sc [.dat (.list cVal), .ref (.box [.map (.int .i64) (.int .i64)])] (x1, (x2, ()), ())) [] (lastQ ttT.get fi102 ⟨[.dat (.list cVal), .ref (.box [.map (.int .i64) (.int .i64)])], [(true, cVal)], g⟩) = F_p_canon_2 lf x1 x2 := by
    refine (in_p_canon_2 g (A_p_canon_2 g lf) lf x1 x2).trans ?_
    rw [(show (fun q => A_p_canon_2 g lf 3 [lf] (enc_p_canon_2_3 x1 x2 q)) = (fun q => G_p_canon_2_3 lf x1 x2 lf q) from funext fun q => at_p_canon_2_3 g lf x1 x2 lf q)]
    rfl
theorem hxs_p_canon_2 : HxsOK Try.prog hxl_p_canon_2 := trivial
theorem mk_p_canon_2 {g : ElP [.dat (.list cVal), .ref (.box [.map (.int .i64) (.int .i64)])] → Option Rt_p_canon_2} (hsm : SmOK Try.prog sml_p_canon_2) (hg : ∀ (x : ElP [.dat (.list cVal), .ref (.box [.map (.int .i64) (.int .i64)])]) (y : Rt_p_canon_2), WfP [.dat (.list cVal), .ref (.box [.map (.int .i64) (.int .i64)])] x → g x = some y → ∃ lf, F_p_canon_2 lf x.1 x.2.1.1 = some y) : ConR Try.prog 102 ⟨[.dat (.list cVal), .ref (.box [.map (.int .i64) (.int .i64)])], [(true, cVal)], g⟩ :=
  conTR (nmf := nm_p_canon_2) (sml := sml_p_canon_2) (hxl := hxl_p_canon_2) (st := st_p_canon_2) (hd := hd_p_canon_2) 20 mixed ttOK ftOK hsm hxs_p_canon_2 cal102 (by kernel_rfl) (fun x => by kernel_rfl) nd_p_canon_2 ok_p_canon_2 fun x y z hx hy => by
    obtain ⟨lf, h⟩ := hg x (y, z) hx hy
    exact ⟨lf, (run_p_canon_2 g lf x.1 x.2.1.1).trans h⟩
end Go.Proofs.Ytcnhjofpmpipfaa

end
end

/- The contract of canon's second closure. -/
section
set_option linter.unusedVariables false
namespace Go.Proofs.Ytcnhjofpmpipfaa
open Go Go.Sx Go.RowKit Go.Jx
def S.numAt (es : List (Int × Int)) (k : Int) : Option Int := @mfind (.int .i64) (.int .i64) k es
def S.movedV (es : List (Int × Int)) (v : DVal) : DVal := if (v : Int × Int).1 = 4 then ((v : Int × Int).1, (S.numAt es (v : Int × Int).2).getD 0) else v
def S.movedL (es : List (Int × Int)) (l : List DVal) : List DVal := l.map (S.movedV es)
def sp_p_canon_2 : SmR := ⟨[.dat (.list cVal), .ref (.box [.map (.int .i64) (.int .i64)])], [(true, cVal)], fun x => some ((S.movedL x.2.1.1 x.1, ()), ((x.2.1.1, ()), ()))⟩
theorem run_canon_2 (l : List DVal) (es : List (Int × Int)) (hl : l.length < LF) : F_p_canon_2 LF l es = some ((S.movedL es l, ()), ((es, ()), ())) := by
  simp only [F_p_canon_2, R_p_canon_2_in]
  refine range0 (α := DVal) (σ := List DVal) (R := Rt_p_canon_2) l (fun i s => (i, s)) (fun i s => s = (l.take i).map (S.movedV es) ++ l.drop i) (fun _ _ _ => some ((S.movedL es l, ()), ((es, ()), ()))) hl (fun K s hs => ?_) (fun K i v rest s hs r hk => ?_) l rfl
  · simp only [R_p_canon_2_3, ilt_self, cond_false]
    rw [hs, List.take_length, List.drop_length, List.append_nil]; rfl
  · have hlen : ((l.take i).map (S.movedV es)).length = i := by rw [List.length_map, List.length_take]; have := r.lt; omega
    have hs2 : s = (l.take i).map (S.movedV es) ++ v :: rest := by rw [hs, r.drop]
    have hg : s[i]? = some v := by rw [hs2, List.getElem?_append_right (by omega), hlen, Nat.sub_self]; rfl
    have hj : jget s (Int.ofNat i) = some v := by rw [jget_nat]; exact hg
    have hset : ∀ v', v' = S.movedV es v → (s.set i v') = (l.take (i + 1)).map (S.movedV es) ++ l.drop (i + 1) := fun v' hv => by
      rw [hs2, List.set_append_right _ _ (by omega), hlen, Nat.sub_self, r.tail, r.take, List.map_append, List.set_cons_zero, hv]
      simp
    have hsame : S.movedV es v = v → s = (l.take (i + 1)).map (S.movedV es) ++ l.drop (i + 1) := fun hv => by
      rw [hs2, r.tail, r.take, List.map_append]
      simp [hv]
    have e2 : Int.toNat (Int.ofNat i) = i := rfl
    simp only [R_p_canon_2_3, r.ilt, cond_true, hj, e2, hg, r.next]
    by_cases h4 : (v : Int × Int).1 = 4
    · have h5 : ieqI (v : Int × Int).1 (Int.ofNat 4) = true := by rw [ieqI_eq]; exact decide_eq_true h4
      simp only [h5, cond_true]
      refine hk _ (hset _ ?_)
      unfold S.movedV
      rw [if_pos h4]
      congr 1
      show _ = (S.numAt es (v : Int × Int).2).getD 0
      unfold S.numAt
      cases @mfind (.int .i64) (.int .i64) (v : Int × Int).2 es <;> rfl
    · have h5 : ieqI (v : Int × Int).1 (Int.ofNat 4) = false := by rw [ieqI_eq]; exact decide_eq_false h4
      simp only [h5, cond_false]
      exact hk _ (hsame (by unfold S.movedV; rw [if_neg h4]))
theorem con_p_canon_2 : ConR Try.prog id_p_canon_2 sp_p_canon_2 := mk_p_canon_2 ⟨con_slices_CloneO_Val, trivial⟩ fun x y hx h => ⟨LF, by
  obtain ⟨l, ⟨es, _⟩, _⟩ := x
  have hl : List.length (α := DVal) l < LF := wf_len hx.1
  exact (run_canon_2 l es hl).trans h⟩
end Go.Proofs.Ytcnhjofpmpipfaa
end

/- The contract of canon's first closure. -/
section
set_option linter.unusedVariables false
namespace Go.Proofs.Ytcnhjofpmpipfaa
open Go Go.Sx Go.RowKit Go.Jx
def S.numSet (es : List (Int × Int)) (k v : Int) : List (Int × Int) := @mset (.int .i64) (.int .i64) k v es
def S.meetN : List Int → List (Int × Int) → List Int → Option (List (Int × Int) × List Int)
  | [], es, o => some (es, o)
  | n :: l, es, o => cond (S.numAt es n).isSome (S.meetN l es o) (cond (Nat.ble ((o.length + 1) * 8) 140737488355328) (S.meetN l (S.numSet es n (Int.ofNat o.length)) (o ++ [n])) none)
def sp_p_canon_1 : SmR := ⟨[.dat (.list cVal), .ref (.box [.map (.int .i64) (.int .i64)]), .ref (.box [.arr (.int .i64)])], [], fun x => match S.meetN (S.refsL x.1) x.2.1.1 x.2.2.1.1 with
  | none => none
  | some q => some ((), ((q.1, ()), ((q.2, ()), ())))⟩
theorem fold_meet : ∀ (l : List Int) (es : List (Int × Int)) (o : List Int),
    foldN (D := ((List (Int × Int)) × Unit) × ((List Int) × Unit) × Unit) (fun v0 v1 => (cond (Bool.not (match (@mfind (TC.int Go.IntKind.i64) (TC.int Go.IntKind.i64) v1 v0.1.1) with | .none  => Bool.false | .some v2 => Bool.true)) (cond (Nat.ble (Nat.mul (Nat.add (List.length v0.2.1.1) 1) 8) 140737488355328) (some (((@mset (TC.int Go.IntKind.i64) (TC.int Go.IntKind.i64) v1 (Int.ofNat (List.length v0.2.1.1)) v0.1.1), ()), (((List.append v0.2.1.1 (List.cons v1 [])), ()), ()))) none) (some ((v0.1.1, ()), ((v0.2.1.1, ()), ()))))) l ((es, ()), ((o, ()), ()))
      = match S.meetN l es o with
        | none => none
        | some q => some ((q.1, ()), ((q.2, ()), ()))
  | [], es, o => rfl
  | n :: l, es, o => by
    have ih := fold_meet l
    simp only [foldN, S.meetN, S.numAt]
    cases hf : @mfind (TC.int Go.IntKind.i64) (TC.int Go.IntKind.i64) n es with
    | some v =>
      simp only [hf, Bool.not_true, cond_false, Option.isSome_some, cond_true]
      exact ih es o
    | none =>
      simp only [hf, Bool.not_false, cond_true, Option.isSome_none, cond_false]
      cases hb : Nat.ble ((o.length + 1) * 8) 140737488355328 with
      | false =>
        have hb2 : Nat.ble (Nat.mul (Nat.add o.length 1) 8) 140737488355328 = false := hb
        simp only [hb2, cond_false]
        all_goals rfl
      | true =>
        have hb2 : Nat.ble (Nat.mul (Nat.add o.length 1) 8) 140737488355328 = true := hb
        simp only [hb2, cond_true]
        exact ih _ _
theorem con_p_canon_1 : ConR Try.prog id_p_canon_1 sp_p_canon_1 := mk_p_canon_1 trivial fun x y hx h => ⟨0, by
  obtain ⟨l, ⟨es, _⟩, ⟨o, _⟩, _⟩ := x
  have h : (match S.meetN (S.refsL l) es o with
    | none => none
    | some q => some ((), ((q.1, ()), ((q.2, ()), ())))) = some y := h
  simp only [F_p_canon_1, R_p_canon_1_in]
  have e := fold_meet (S.refsL l) es o
  cases hm : S.meetN (S.refsL l) es o with
  | none => rw [hm] at h; cases h
  | some q =>
    rw [hm] at h e
    refine Eq.trans ?_ h
    exact congrArg (fun a : Option (((List (Int × Int)) × Unit) × ((List Int) × Unit) × Unit) => (match a with | .none => none | .some v3 => some ((), ((v3.1.1, ()), ((v3.2.1.1, ()), ()))) : Option Rt_p_canon_1)) e⟩
end Go.Proofs.Ytcnhjofpmpipfaa
end

/- Made by program: plain forms of functions. -/
section
set_option linter.unusedVariables false
set_option maxRecDepth 100000
noncomputable section
namespace Go.Proofs.Ytcnhjofpmpipfaa
open Go Go.Sx Go.RowKit Go.Jx
def nm_p_canon : Nat → Option Nm := fun k => cond (Nat.beq k 7) (some ⟨[1, 2, 4, 5, 6, 7], [], [(5, 0, (.int .i64))], [], [(4, 0, (.int .i64), (.int .i64))], 0, 0, false⟩) (cond (Nat.beq k 12) (some ⟨[1, 2, 4, 8, 9, 45, 46, 47], [(45, (.int .i64))], [(9, 0, cNode), (9, 1, cVal)], [], [(4, 0, (.int .i64), (.int .i64))], 0, 0, false⟩) (cond (Nat.beq k 18) (some ⟨[2, 4, 9, 12, 74, 75], [(12, (.int .i64))], [(9, 0, cNode), (9, 1, cVal)], [], [(4, 0, (.int .i64), (.int .i64))], 0, 0, false⟩) (none)))
def st_p_canon : Nat → Bool := fun k => cond (Nat.beq k 7) true (cond (Nat.beq k 12) true (cond (Nat.beq k 18) true (false)))
def hd_p_canon : Nat → Bool := fun k => cond (Nat.beq k 7) true (cond (Nat.beq k 12) true (cond (Nat.beq k 18) true (false)))
abbrev Rt_p_canon : Type := DGraph × (List Int) × Unit
def sml_p_canon : List (Nat × Sm) := []
def hxl_p_canon : List (Nat × Hx) := [(100, hxR sp_p_canon_1), (102, hxR sp_p_canon_2)]
def cl_p_canon (R : Type) (lf : Nat) : ClK R := icallK Try.prog ttT.get ftT.get (nm1 62 nm_p_canon) (smL sml_p_canon) (hxL hxl_p_canon) lf 20 R
abbrev id_p_canon : Nat := 62
def enc_p_canon_7 (x1 : DGraph) (p : (List (Int × Int)) × (List Int) × Int) : NRes := (NRes.mk (PT.node none (PT.node (some (IV.ptr 0 0)) (PT.node none (PT.node (some (IV.int Go.IntKind.i64 p.2.2)) PT.leaf PT.leaf) PT.leaf) (PT.node (some (IV.ptr 3 0)) PT.leaf PT.leaf)) (PT.node (some (IV.ptr 1 0)) (PT.node (some (IV.ptr 2 0)) PT.leaf PT.leaf) (PT.node (some (IV.fn 100 (List.cons (IV.ptr 2 0) (List.cons (IV.ptr 3 0) [])))) PT.leaf PT.leaf))) (IS.mk (PT.node (some (IObj.row (List.cons (IV.lst cNode x1.1) (List.cons (IV.lst cVal x1.2) [])))) (PT.node (some (IObj.row (List.cons IV.nilsl (List.cons IV.nilsl [])))) (PT.node (some (IObj.row (List.cons (IV.arr 5) []))) PT.leaf PT.leaf) (PT.node (some (IObj.arr (TC.int Go.IntKind.i64) p.2.1)) PT.leaf PT.leaf)) (PT.node (some (IObj.row (List.cons (IV.map 4) []))) (PT.node (some (IObj.tmap (TC.int Go.IntKind.i64) (TC.int Go.IntKind.i64) p.1)) PT.leaf PT.leaf) PT.leaf)) 6) [] 0)
def enc_p_canon_12 (x1 : DGraph) (p : (List (Int × Int)) × (List Int) × Int × (List DNode)) : NRes := (NRes.mk (PT.node none (PT.node (some (IV.ptr 0 0)) (PT.node none (PT.node none (PT.node none PT.leaf (PT.node (some (IV.int Go.IntKind.i64 p.2.2.1)) PT.leaf PT.leaf)) PT.leaf) PT.leaf) (PT.node none (PT.node (some (IV.ptr 3 0)) PT.leaf PT.leaf) (PT.node none PT.leaf (PT.node none (PT.node (some (IV.arr 4)) PT.leaf PT.leaf) PT.leaf)))) (PT.node (some (IV.ptr 1 0)) (PT.node (some (IV.ptr 2 0)) (PT.node (some (IV.fn 102 (List.cons (IV.ptr 2 0) []))) PT.leaf PT.leaf) PT.leaf) (PT.node none PT.leaf (PT.node none PT.leaf (PT.node none (PT.node (some (IV.int Go.IntKind.i64 (Int.ofNat (List.length p.2.1)))) PT.leaf PT.leaf) PT.leaf))))) (IS.mk (PT.node (some (IObj.row (List.cons (IV.lst cNode x1.1) (List.cons (IV.lst cVal x1.2) [])))) (PT.node (some (IObj.row (List.cons IV.nilsl (List.cons IV.nilsl [])))) (PT.node (some (IObj.row (List.cons (IV.arr 6) (List.cons (IV.arr 7) [])))) (PT.node (some (IObj.arr cVal (Go.Proofs.Ytcnhjofpmpipfaa.S.movedL p.1 x1.2))) PT.leaf PT.leaf) PT.leaf) (PT.node (some (IObj.tmap (TC.int Go.IntKind.i64) (TC.int Go.IntKind.i64) p.1)) PT.leaf PT.leaf)) (PT.node (some (IObj.row (List.cons (IV.map 5) []))) (PT.node (some (IObj.arr (TC.int Go.IntKind.i64) p.2.1)) PT.leaf PT.leaf) (PT.node (some (IObj.arr cNode p.2.2.2)) PT.leaf PT.leaf))) 8) [] 0)
def enc_p_canon_18 (x1 : DGraph) (p : (List (Int × Int)) × (List DNode) × Int × (List Int)) : NRes := (NRes.mk (PT.node none (PT.node none (PT.node none PT.leaf (PT.node none PT.leaf (PT.node none (PT.node none (PT.node (some (IV.int Go.IntKind.i64 p.2.2.1)) PT.leaf PT.leaf) PT.leaf) PT.leaf))) (PT.node none (PT.node (some (IV.ptr 2 0)) PT.leaf PT.leaf) PT.leaf)) (PT.node (some (IV.ptr 0 0)) (PT.node (some (IV.ptr 1 0)) PT.leaf (PT.node (some (IV.arr 3)) PT.leaf PT.leaf)) (PT.node none (PT.node none PT.leaf (PT.node none (PT.node none (PT.node (some (IV.int Go.IntKind.i64 (Int.ofNat (List.length x1.1)))) PT.leaf PT.leaf) PT.leaf) PT.leaf)) PT.leaf))) (IS.mk (PT.node (some (IObj.row (List.cons IV.nilsl (List.cons IV.nilsl [])))) (PT.node (some (IObj.row (List.cons (IV.map 4) []))) (PT.node (some (IObj.arr (TC.int Go.IntKind.i64) p.2.2.2)) PT.leaf PT.leaf) (PT.node (some (IObj.arr cNode p.2.1)) PT.leaf PT.leaf)) (PT.node (some (IObj.row (List.cons (IV.arr 5) (List.cons (IV.arr 6) [])))) (PT.node (some (IObj.tmap (TC.int Go.IntKind.i64) (TC.int Go.IntKind.i64) p.1)) PT.leaf PT.leaf) (PT.node (some (IObj.arr cVal (Go.Proofs.Ytcnhjofpmpipfaa.S.movedL p.1 x1.2))) PT.leaf PT.leaf))) 7) [] 0)
def R_p_canon_in (lf : Nat) (x1 : DGraph) (L7 : ((List (Int × Int)) × (List Int) × Int) → Option Rt_p_canon) : Option Rt_p_canon := (match (match (Go.Proofs.Ytcnhjofpmpipfaa.S.meetN (Go.Proofs.Ytcnhjofpmpipfaa.S.refsL x1.2) [] []) with | .none  => none | .some v0 => (some ((), ((v0.1, ()), ((v0.2, ()), ()))))) with | .none  => none | .some v1 => (L7 (v1.2.1.1, v1.2.2.1.1, (Int.ofNat 0))))
def R_p_canon_7 (lf : Nat) (x1 : DGraph) (L12 : ((List (Int × Int)) × (List Int) × Int × (List DNode)) → Option Rt_p_canon) (L7 : ((List (Int × Int)) × (List Int) × Int) → Option Rt_p_canon) (p : (List (Int × Int)) × (List Int) × Int) : Option Rt_p_canon := (cond (ieqI p.2.2 (Int.ofNat (List.length p.2.1))) (L12 (p.1, p.2.1, (Int.ofNat 0), [])) (match (jget p.2.1 p.2.2) with | .none  => none | .some v2 => (match (GetElem?.getElem? p.2.1 (Int.toNat p.2.2)) with | .none  => none | .some v3 => (match (jget x1.1 v3) with | .none  => none | .some v4 => (match (match (Go.Proofs.Ytcnhjofpmpipfaa.S.meetN (Go.Proofs.Ytcnhjofpmpipfaa.S.refsL v4.2) p.1 p.2.1) with | .none  => none | .some v5 => (some ((), ((v5.1, ()), ((v5.2, ()), ()))))) with | .none  => none | .some v6 => (L7 (v6.2.1.1, v6.2.2.1.1, (Go.IntKind.wrap Go.IntKind.i64 (Int.add p.2.2 (Int.ofNat 1))))))))))
def R_p_canon_12 (lf : Nat) (x1 : DGraph) (L12 : ((List (Int × Int)) × (List Int) × Int × (List DNode)) → Option Rt_p_canon) (L18 : ((List (Int × Int)) × (List DNode) × Int × (List Int)) → Option Rt_p_canon) (p : (List (Int × Int)) × (List Int) × Int × (List DNode)) : Option Rt_p_canon := (cond (iltI p.2.2.1 (Int.ofNat (List.length p.2.1))) (match (jget p.2.1 p.2.2.1) with | .none  => none | .some v0 => (match (GetElem?.getElem? p.2.1 (Int.toNat p.2.2.1)) with | .none  => none | .some v1 => (match (jget x1.1 v1) with | .none  => none | .some v2 => (match (jget x1.1 v1) with | .none  => none | .some v3 => (cond (Nat.ble (Nat.mul (Nat.add (List.length p.2.2.2) 1) 40) 140737488355328) (L12 (p.1, p.2.1, (Go.IntKind.wrap Go.IntKind.i64 (Int.add p.2.2.1 (Int.ofNat 1))), (List.append p.2.2.2 (List.cons (v2.1, (Go.Proofs.Ytcnhjofpmpipfaa.S.movedL p.1 v3.2)) [])))) none))))) (L18 (p.1, p.2.2.2, (Int.ofNat 0), [])))
def R_p_canon_18 (lf : Nat) (x1 : DGraph) (L18 : ((List (Int × Int)) × (List DNode) × Int × (List Int)) → Option Rt_p_canon) (p : (List (Int × Int)) × (List DNode) × Int × (List Int)) : Option Rt_p_canon := (cond (iltI p.2.2.1 (Int.ofNat (List.length x1.1))) (cond (Bool.not (match (@mfind (TC.int Go.IntKind.i64) (TC.int Go.IntKind.i64) p.2.2.1 p.1) with | .none  => Bool.false | .some v0 => Bool.true)) (cond (Nat.ble (Nat.mul (Nat.add (List.length p.2.2.2) 1) 8) 140737488355328) (L18 (p.1, p.2.1, (Go.IntKind.wrap Go.IntKind.i64 (Int.add p.2.2.1 (Int.ofNat 1))), (List.append p.2.2.2 (List.cons (Int.negSucc 0) [])))) none) (cond (Nat.ble (Nat.mul (Nat.add (List.length p.2.2.2) 1) 8) 140737488355328) (L18 (p.1, p.2.1, (Go.IntKind.wrap Go.IntKind.i64 (Int.add p.2.2.1 (Int.ofNat 1))), (List.append p.2.2.2 (List.cons (match (@mfind (TC.int Go.IntKind.i64) (TC.int Go.IntKind.i64) p.2.2.1 p.1) with | .none  => (Int.ofNat 0) | .some v29 => v29) [])))) none)) (some ((p.2.1, (Go.Proofs.Ytcnhjofpmpipfaa.S.movedL p.1 x1.2)), (p.2.2.2, ()))))
theorem in_p_canon (g : ElA [cGraph] → Option Rt_p_canon) (J : Nat → List Nat → NRes → Option Rt_p_canon) (lf : Nat) (x1 : DGraph) : icodeT Try.prog ttT.get nm_p_canon fi62.nt (cl_p_canon _ lf) lf st_p_canon J fi62.body [] (argGo (argV [cGraph] (x1, ())) 0 .leaf) S0 [] (lastK ttT.get fi62 ⟨[cGraph], [(false, cGraph), (false, (.list (.int .i64)))], g⟩) = R_p_canon_in lf x1 (fun q => J 7 [lf] (enc_p_canon_7 x1 q)) := by kernel_rfl
theorem st_p_canon_7 (g : ElA [cGraph] → Option Rt_p_canon) (J : Nat → List Nat → NRes → Option Rt_p_canon) (lf : Nat) (x1 : DGraph) (m1 : Nat) (p : (List (Int × Int)) × (List Int) × Int) : icodeFT Try.prog ttT.get nm_p_canon fi62.nt (cl_p_canon _ lf) lf st_p_canon J 7 fi62.body [] [m1] (enc_p_canon_7 x1 p) (lastK ttT.get fi62 ⟨[cGraph], [(false, cGraph), (false, (.list (.int .i64)))], g⟩) = R_p_canon_7 lf x1 (fun q => J 12 [lf] (enc_p_canon_12 x1 q)) (fun q => J 7 [m1] (enc_p_canon_7 x1 q)) p := by kernel_rfl
theorem st_p_canon_12 (g : ElA [cGraph] → Option Rt_p_canon) (J : Nat → List Nat → NRes → Option Rt_p_canon) (lf : Nat) (x1 : DGraph) (m1 : Nat) (p : (List (Int × Int)) × (List Int) × Int × (List DNode)) : icodeFT Try.prog ttT.get nm_p_canon fi62.nt (cl_p_canon _ lf) lf st_p_canon J 12 fi62.body [] [m1] (enc_p_canon_12 x1 p) (lastK ttT.get fi62 ⟨[cGraph], [(false, cGraph), (false, (.list (.int .i64)))], g⟩) = R_p_canon_12 lf x1 (fun q => J 12 [m1] (enc_p_canon_12 x1 q)) (fun q => J 18 [lf] (enc_p_canon_18 x1 q)) p := by kernel_rfl
theorem st_p_canon_18 (g : ElA [cGraph] → Option Rt_p_canon) (J : Nat → List Nat → NRes → Option Rt_p_canon) (lf : Nat) (x1 : DGraph) (m1 : Nat) (p : (List (Int × Int)) × (List DNode) × Int × (List Int)) : icodeFT Try.prog ttT.get nm_p_canon fi62.nt (cl_p_canon _ lf) lf st_p_canon J 18 fi62.body [] [m1] (enc_p_canon_18 x1 p) (lastK ttT.get fi62 ⟨[cGraph], [(false, cGraph), (false, (.list (.int .i64)))], g⟩) = R_p_canon_18 lf x1 (fun q => J 18 [m1] (enc_p_canon_18 x1 q)) p := by kernel_rfl
theorem nd_p_canon : (regs fi62.body).Nodup := by decide +kernel
theorem ok_p_canon : okC nm_p_canon st_p_canon hd_p_canon fi62.body none = true := by kernel_rfl
def A_p_canon (g : ElA [cGraph] → Option Rt_p_canon) (lf : Nat) : Nat → List Nat → NRes → Option Rt_p_canon := atN Try.prog ttT.get nm_p_canon fi62 ⟨[cGraph], [(false, cGraph), (false, (.list (.int .i64)))], g⟩ (cl_p_canon _ lf) lf hd_p_canon
def G_p_canon_18 (lf : Nat) (x1 : DGraph) : Nat → ((List (Int × Int)) × (List DNode) × Int × (List Int)) → Option Rt_p_canon := rounds fun K p => R_p_canon_18 lf x1 K p
theorem at_p_canon_18 (g : ElA [cGraph] → Option Rt_p_canon) (lf : Nat) (x1 : DGraph) : ∀ (n : Nat) (p : (List (Int × Int)) × (List DNode) × Int × (List Int)), A_p_canon g lf 18 [n] (enc_p_canon_18 x1 p) = G_p_canon_18 lf x1 n p
  | 0, p => atN_zero 18 [0] rfl _
  | n + 1, p => by
    have ih := at_p_canon_18 g lf x1 n
    refine (atN_eq (icallK_eq 20 _) nd_p_canon ok_p_canon 18 [n + 1] [n] rfl _).trans ((st_p_canon_18 g (A_p_canon g lf) lf x1 n p).trans ?_)
    rw [(show (fun q => A_p_canon g lf 18 [n] (enc_p_canon_18 x1 q)) = (fun q => G_p_canon_18 lf x1 n q) from funext ih)]
    rfl
def G_p_canon_12 (lf : Nat) (x1 : DGraph) : Nat → ((List (Int × Int)) × (List Int) × Int × (List DNode)) → Option Rt_p_canon := rounds fun K p => R_p_canon_12 lf x1 K (fun q => G_p_canon_18 lf x1 lf q) p
theorem at_p_canon_12 (g : ElA [cGraph] → Option Rt_p_canon) (lf : Nat) (x1 : DGraph) : ∀ (n : Nat) (p : (List (Int × Int)) × (List Int) × Int × (List DNode)), A_p_canon g lf 12 [n] (enc_p_canon_12 x1 p) = G_p_canon_12 lf x1 n p
  | 0, p => atN_zero 12 [0] rfl _
  | n + 1, p => by
    have ih := at_p_canon_12 g lf x1 n
    refine (atN_eq (icallK_eq 20 _) nd_p_canon ok_p_canon 12 [n + 1] [n] rfl _).trans ((st_p_canon_12 g (A_p_canon g lf) lf x1 n p).trans ?_)
    rw [(show (fun q => A_p_canon g lf 18 [lf] (enc_p_canon_18 x1 q)) = (fun q => G_p_canon_18 lf x1 lf q) from funext fun q => at_p_canon_18 g lf x1 lf q), (show (fun q => A_p_canon g lf 12 [n] (enc_p_canon_12 x1 q)) = (fun q => G_p_canon_12 lf x1 n q) from funext ih)]
    rfl
def G_p_canon_7 (lf : Nat) (x1 : DGraph) : Nat → ((List (Int × Int)) × (List Int) × Int) → Option Rt_p_canon := rounds fun K p => R_p_canon_7 lf x1 (fun q => G_p_canon_12 lf x1 lf q) K p
theorem at_p_canon_7 (g : ElA [cGraph] → Option Rt_p_canon) (lf : Nat) (x1 : DGraph) : ∀ (n : Nat) (p : (List (Int × Int)) × (List Int) × Int), A_p_canon g lf 7 [n] (enc_p_canon_7 x1 p) = G_p_canon_7 lf x1 n p
  | 0, p => atN_zero 7 [0] rfl _
  | n + 1, p => by
    have ih := at_p_canon_7 g lf x1 n
    refine (atN_eq (icallK_eq 20 _) nd_p_canon ok_p_canon 7 [n + 1] [n] rfl _).trans ((st_p_canon_7 g (A_p_canon g lf) lf x1 n p).trans ?_)
    rw [(show (fun q => A_p_canon g lf 12 [lf] (enc_p_canon_12 x1 q)) = (fun q => G_p_canon_12 lf x1 lf q) from funext fun q => at_p_canon_12 g lf x1 lf q), (show (fun q => A_p_canon g lf 7 [n] (enc_p_canon_7 x1 q)) = (fun q => G_p_canon_7 lf x1 n q) from funext ih)]
    rfl
def F_p_canon (lf : Nat) (x1 : DGraph) : Option Rt_p_canon := R_p_canon_in lf x1 (fun q => G_p_canon_7 lf x1 lf q)
theorem run_p_canon (g : ElA [cGraph] → Option Rt_p_canon) (lf : Nat) (x1 : DGraph) : icodeT Try.prog ttT.get nm_p_canon fi62.nt (cl_p_canon _ lf) lf st_p_canon (A_p_canon g lf) fi62.body [] (argGo (argV [cGraph] (x1, ())) 0 .leaf) S0 [] (lastK ttT.get fi62 ⟨[cGraph], [(false, cGraph), (false, (.list (.int .i64)))], g⟩) = F_p_canon lf x1 := by
    refine (in_p_canon g (A_p_canon g lf) lf x1).trans ?_
    rw [(show (fun q => A_p_canon g lf 7 [lf] (enc_p_canon_7 x1 q)) = (fun q => G_p_canon_7 lf x1 lf q) from funext fun q => at_p_canon_7 g lf x1 lf q)]
    rfl
theorem hxs_p_canon (hr_p_canon_1 : ConR Try.prog 100 sp_p_canon_1) (hr_p_canon_2 : ConR Try.prog 102 sp_p_canon_2) : HxsOK Try.prog hxl_p_canon := ⟨hxR_ok hr_p_canon_1, ⟨hxR_ok hr_p_canon_2, trivial⟩⟩
theorem mk_p_canon {g : ElA [cGraph] → Option Rt_p_canon} (hsm : SmOK Try.prog sml_p_canon) (hr_p_canon_1 : ConR Try.prog 100 sp_p_canon_1) (hr_p_canon_2 : ConR Try.prog 102 sp_p_canon_2) (hg : ∀ (x : ElA [cGraph]) (y : Rt_p_canon), WfA [cGraph] x → g x = some y → ∃ lf, F_p_canon lf x.1 = some y) : Con Try.prog 62 ⟨[cGraph], [(false, cGraph), (false, (.list (.int .i64)))], g⟩ :=
  conT (nmf := nm_p_canon) (sml := sml_p_canon) (hxl := hxl_p_canon) (st := st_p_canon) (hd := hd_p_canon) 20 mixed ttOK ftOK hsm (hxs_p_canon hr_p_canon_1 hr_p_canon_2) cal62 rfl rfl (by kernel_rfl) (fun x => by kernel_rfl) nd_p_canon ok_p_canon fun x y hx hy => by
    obtain ⟨lf, h⟩ := hg x y hx hy
    exact ⟨lf, (run_p_canon g lf x.1).trans h⟩
end Go.Proofs.Ytcnhjofpmpipfaa

end
end

/- The contract of pack.canon: its plain form. -/
section
set_option linter.unusedVariables false
namespace Go.Proofs.Ytcnhjofpmpipfaa
open Go Go.Sx Go.RowKit Go.Jx
noncomputable def S.canonO (g : DGraph) : Option (DGraph × List Int × Unit) := F_p_canon LF g
noncomputable def sp_p_canon : Sm := ⟨[cGraph], [(false, cGraph), (false, .list (.int .i64))], fun x => S.canonO x.1⟩
theorem con_p_canon : Con Try.prog id_p_canon sp_p_canon := mk_p_canon trivial con_p_canon_1 con_p_canon_2 fun x y hx h => ⟨LF, h⟩
end Go.Proofs.Ytcnhjofpmpipfaa
end

/- The table of numbers that canon makes. -/
section
set_option linter.unusedVariables false
namespace Go.Proofs.Ytcnhjofpmpipfaa
open Go Go.Sx Go.RowKit Go.Jx
def S.tabF : Nat → List Int → List (Int × Int)
  | _, [] => []
  | i, n :: l => (n, Int.ofNat i) :: S.tabF (i + 1) l
def S.tab (o : List Int) : List (Int × Int) := S.tabF 0 o
def S.meetL : List Int → List Int → List Int
  | o, [] => o
  | o, n :: l => if n ∈ o then S.meetL o l else S.meetL (o ++ [n]) l
theorem keqI_eq2 (a b : Int) : keqI a b = decide (a = b) := rfl
theorem numAt_cons (e : Int × Int) (es : List (Int × Int)) (k : Int) : S.numAt (e :: es) k = if k = e.1 then some e.2 else S.numAt es k := by
  show (cond (keqI k e.1) (some e.2) (S.numAt es k)) = _
  rw [keqI_eq2]
  by_cases h : k = e.1
  · rw [if_pos h, decide_eq_true h]; rfl
  · rw [if_neg h, decide_eq_false h]; rfl
theorem numSet_cons (e : Int × Int) (es : List (Int × Int)) (k v : Int) : S.numSet (e :: es) k v = if k = e.1 then (k, v) :: es else e :: S.numSet es k v := by
  show (cond (keqI k e.1) ((k, v) :: es) (e :: S.numSet es k v)) = _
  rw [keqI_eq2]
  by_cases h : k = e.1
  · rw [if_pos h, decide_eq_true h]; rfl
  · rw [if_neg h, decide_eq_false h]; rfl
theorem numAt_tabF : ∀ (o : List Int) (i : Nat) (k : Int), S.numAt (S.tabF i o) k = if k ∈ o then some (Int.ofNat (i + o.idxOf k)) else none
  | [], i, k => by simp [S.tabF]; rfl
  | n :: l, i, k => by
    simp only [S.tabF, numAt_cons]
    by_cases h : k = n
    · subst h; simp
    · rw [if_neg h, numAt_tabF l (i + 1) k]
      have h' : (n == k) = false := by simpa using fun e => h e.symm
      by_cases hm : k ∈ l
      · rw [if_pos hm, if_pos (List.mem_cons_of_mem _ hm), List.idxOf_cons, h', cond_false, Nat.add_assoc, Nat.add_comm 1]
      · rw [if_neg hm, if_neg (by simp [h, hm])]
theorem numAt_tab (o : List Int) (k : Int) : S.numAt (S.tab o) k = if k ∈ o then some (Int.ofNat (o.idxOf k)) else none := by
  unfold S.tab; rw [numAt_tabF, Nat.zero_add]
theorem numSet_tabF : ∀ (o : List Int) (i : Nat) (k : Int), k ∉ o → S.numSet (S.tabF i o) k (Int.ofNat (i + o.length)) = S.tabF i (o ++ [k])
  | [], i, k, _ => rfl
  | n :: l, i, k, h => by
    simp only [List.mem_cons, not_or] at h
    simp only [S.tabF, numSet_cons, List.cons_append, if_neg h.1]
    congr 1
    have := numSet_tabF l (i + 1) k h.2
    rw [show i + 1 + l.length = i + (n :: l).length by simp; omega] at this
    exact this
theorem numSet_tab (o : List Int) (k : Int) (h : k ∉ o) : S.numSet (S.tab o) k (Int.ofNat o.length) = S.tab (o ++ [k]) := by
  have := numSet_tabF o 0 k h
  rwa [Nat.zero_add] at this
theorem meetN_tab : ∀ (l o : List Int), (o.length + l.length) * 8 ≤ 140737488355328 → S.meetN l (S.tab o) o = some (S.tab (S.meetL o l), S.meetL o l)
  | [], o, h => rfl
  | n :: l, o, h => by
    simp only [List.length_cons] at h
    simp only [S.meetN, S.meetL, numAt_tab]
    by_cases hm : n ∈ o
    · rw [if_pos hm, if_pos hm]
      exact meetN_tab l o (by omega)
    · rw [if_neg hm, if_neg hm]
      simp only [Option.isSome_none, cond_false]
      rw [Nat.ble_eq_true_of_le (show (o.length + 1) * 8 ≤ 140737488355328 by omega), cond_true, numSet_tab o n hm]
      exact meetN_tab l (o ++ [n]) (by simp only [List.length_append, List.length_cons, List.length_nil]; omega)
theorem meetL_mem : ∀ (l o : List Int) (k : Int), k ∈ S.meetL o l ↔ k ∈ o ∨ k ∈ l
  | [], o, k => by simp [S.meetL]
  | n :: l, o, k => by
    simp only [S.meetL]
    by_cases hm : n ∈ o
    · rw [if_pos hm, meetL_mem l o k]
      constructor
      · rintro (h | h)
        · exact .inl h
        · exact .inr (List.mem_cons_of_mem _ h)
      · rintro (h | h)
        · exact .inl h
        · rcases List.mem_cons.1 h with rfl | h
          · exact .inl hm
          · exact .inr h
    · rw [if_neg hm, meetL_mem l (o ++ [n]) k]
      simp only [List.mem_append, List.mem_cons, List.not_mem_nil, or_false]
      constructor
      · rintro ((h | h) | h)
        · exact .inl h
        · exact .inr (.inl h)
        · exact .inr (.inr h)
      · rintro (h | h | h)
        · exact .inl (.inl h)
        · exact .inl (.inr h)
        · exact .inr h
theorem meetL_nodup : ∀ (l o : List Int), o.Nodup → (S.meetL o l).Nodup
  | [], o, h => h
  | n :: l, o, h => by
    simp only [S.meetL]
    by_cases hm : n ∈ o
    · rw [if_pos hm]; exact meetL_nodup l o h
    · rw [if_neg hm]
      refine meetL_nodup l _ (List.nodup_append.2 ⟨h, by simp, fun a ha b hb => ?_⟩)
      rw [List.mem_singleton.1 hb]
      exact fun e => hm (e ▸ ha)
theorem meetL_pre : ∀ (l o : List Int), ∃ t, S.meetL o l = o ++ t
  | [], o => ⟨[], (List.append_nil _).symm⟩
  | n :: l, o => by
    simp only [S.meetL]
    by_cases hm : n ∈ o
    · rw [if_pos hm]; exact meetL_pre l o
    · rw [if_neg hm]
      obtain ⟨t, ht⟩ := meetL_pre l (o ++ [n])
      exact ⟨n :: t, by rw [ht]; simp⟩
theorem meetL_len (l o : List Int) : o.length ≤ (S.meetL o l).length := by
  obtain ⟨t, ht⟩ := meetL_pre l o
  rw [ht]; simp
end Go.Proofs.Ytcnhjofpmpipfaa
end

/- What pack's chaining and undoing of rules compute: plain functions over data. -/
section
set_option linter.unusedVariables false
noncomputable section
namespace Go.Proofs.Ytcnhjofpmpipfaa
open Go Go.Sx Go.RowKit Go.Jx
namespace S
open Go.Jx.S
def both (a b : DGive) : DGive × Bool :=
  if b.2.1 = 1 then (a, true)
  else if a.2.1 = 1 then ((a.1, b.2.1, b.2.2), true)
  else if a.2.1 = 2 ∧ b.2.1 = 3 then ((a.1, 1, 0), true)
  else if a.2.1 = 2 ∧ b.2.1 = 4 then (a, decide (2 ≤ b.2.2))
  else if a.2.1 = 4 ∧ b.2.1 = 4 then ((a.1, a.2.1, imin a.2.2 b.2.2), true)
  else if a.2.1 = 5 ∧ b.2.1 = 5 then (a, true)
  else if a.2.1 = 6 ∧ b.2.1 = 2 then (a, true)
  else if a.2.1 = 6 ∧ b.2.1 = 3 then (a, within a.2.2 0 1)
  else if a.2.1 = 6 ∧ b.2.1 = 4 then (a, decide (a.2.2 < b.2.2))
  else (zGive, false)
def hasFrom (l : List DGive) (n : ByteArray) : Bool := l.any fun g => keqS g.1 n
def asksG (g : DGive) : Bool := decide (g.2.1 = 3) || (decide (g.2.1 = 4) || decide (g.2.1 = 5))
def chGo (a : DRule) (mid : List DCol) : List DGive → List DGive → Option (List DGive)
  | [], acc => some acc
  | g :: gs, acc =>
    if g.2.1 = 6 ∨ g.2.1 = 7 then chGo a mid gs (acc ++ [g])
    else if (both (at_ zGive a.2.2 (col mid g.1)) g).2 = true then chGo a mid gs (acc ++ [(both (at_ zGive a.2.2 (col mid g.1)) g).1])
    else none
def chAsk (l : List DGive) : List DGive → List DCol → Bool
  | g :: gs, c :: cs => cond (asksG g && !hasFrom l c.1) false (chAsk l gs cs)
  | _, _ => true
def chained (a b : DRule) (mid : List DCol) : DRule × Bool := match chGo a mid b.2.2 [] with
  | none => (zRule, false)
  | some gs => if chAsk b.2.2 a.2.2 mid = true then ((a.1, b.2.1, gs), true) else (zRule, false)
def chainGo (mid : List DForm) (a b : List DRule) : List DForm → List DRule → List DRule × Int
  | [], acc => (acc, 0)
  | f :: fs, acc =>
    let x := (ruleOf a f.1).1
    let c := chained x (ruleOf b x.2.1).1 (colsOf mid x.2.1)
    if c.2 = true then chainGo mid a b fs (acc ++ [c.1]) else ([], 5)
def chain (l1 l2 l3 : List DForm) (a b : List DRule) : List DRule × Int :=
  if ¬ first [checkForms l1, checkForms l2, checkForms l3] = 0 then ([], first [checkForms l1, checkForms l2, checkForms l3])
  else if ¬ first [checkRules0 l1 l2 a, checkRules0 l2 l3 b] = 0 then ([], first [checkRules0 l1 l2 a, checkRules0 l2 l3 b])
  else chainGo l2 a b l1 []
end S
end Go.Proofs.Ytcnhjofpmpipfaa

end
end

/- What right classes and right rules are; plain laws about them. -/
section
set_option linter.unusedVariables false
set_option maxRecDepth 100000
namespace Go.Proofs.Ytcnhjofpmpipfaa
open Go Go.Sx Go.RowKit Go.Jx
structure ColsOK (cs : List DCol) : Prop where
  len : cs.length ≤ 30
  small : ∀ c ∈ cs, S.small c.1 = true
  one : ∀ k (h : k < cs.length), S.col (cs.take k) cs[k].1 < 0
  kind : ∀ c ∈ cs, 1 ≤ c.2.1 ∧ c.2.1 ≤ 3
  bare : ∀ c ∈ cs, ¬ c.2.1 = 3 → c.2.2 = S.lit []
structure FormsOK (l : List DForm) : Prop where
  len : l.length ≤ 24
  cls : ∀ f ∈ l, S.class_ f.1 = true
  one : ∀ k (h : k < l.length), S.form (l.take k) l[k].1 < 0
  cols : ∀ f ∈ l, ColsOK f.2
  ref : ∀ f ∈ l, ∀ c ∈ f.2, c.2.1 = 3 → c.2.2 = S.ANY ∨ 0 ≤ S.form l c.2.2
theorem drop_facts {α : Type} {l : List α} {k : Nat} {r : α} {rs : List α} (hd : l.drop k = r :: rs) : ∃ h : k < l.length, l[k] = r ∧ l.drop (k + 1) = rs := by
  have hk : k < l.length := by
    rcases Nat.lt_or_ge k l.length with h | h
    · exact h
    · rw [List.drop_eq_nil_of_le h] at hd; cases hd
  rw [List.drop_eq_getElem_cons hk] at hd
  exact ⟨hk, (List.cons.inj hd).1, (List.cons.inj hd).2⟩
theorem lw_ccGo (l : List DCol) : ∀ (cs : List DCol) (k : Nat), l.drop k = cs → S.ccGo l k cs = 0 → ∀ j (h : j < l.length), k ≤ j → S.small l[j].1 = true ∧ S.col (l.take j) l[j].1 < 0 ∧ S.within l[j].2.1 1 3 = true ∧ (¬ l[j].2.1 = 3 → l[j].2.2 = S.lit [])
  | [], k, hd, _ => fun j hj hk => by
    have : l.length ≤ k := by simpa using hd
    omega
  | c :: r, k, hd, h => by
    obtain ⟨hk, e1, e2⟩ := drop_facts hd
    rw [S.ccGo] at h
    cases h1 : S.small c.1 with
    | false => rw [if_pos h1] at h; exact absurd h (by decide)
    | true =>
    rw [if_neg (by simp [h1])] at h
    by_cases h2 : ¬ S.col (l.take k) c.1 < 0
    · rw [if_pos h2] at h; exact absurd h (by decide)
    rw [if_neg h2] at h
    cases h3 : S.within c.2.1 1 3 with
    | false => rw [if_pos h3] at h; exact absurd h (by decide)
    | true =>
    rw [if_neg (by simp [h3])] at h
    by_cases h4 : ¬ c.2.1 = 3 ∧ ¬ c.2.2 = S.lit []
    · rw [if_pos h4] at h; exact absurd h (by decide)
    rw [if_neg h4] at h
    intro j hj hkj
    by_cases e : j = k
    · subst e
      rw [e1]
      exact ⟨h1, Decidable.not_not.1 h2, h3, fun hn => Decidable.not_not.1 fun hh => h4 ⟨hn, hh⟩⟩
    · exact lw_ccGo l r (k + 1) e2 h j hj (by omega)
theorem colsOK {l : List DCol} (h : S.checkCols l = 0) : ColsOK l := by
  unfold S.checkCols at h
  by_cases h30 : 30 < l.length
  · rw [if_pos h30] at h; exact absurd h (by decide)
  rw [if_neg h30] at h
  have key := lw_ccGo l l 0 rfl h
  refine ⟨by omega, fun c hc => ?_, fun k hk => (key k hk (Nat.zero_le _)).2.1, fun c hc => ?_, fun c hc => ?_⟩
  all_goals
    obtain ⟨k, hk, rfl⟩ := List.mem_iff_getElem.1 hc
  · exact (key k hk (Nat.zero_le _)).1
  · simpa only [S.within, Bool.and_eq_true, decide_eq_true_eq] using (key k hk (Nat.zero_le _)).2.2.1
  · exact (key k hk (Nat.zero_le _)).2.2.2
theorem lw_cfGo2 (l : List DForm) : ∀ fs : List DForm, S.cfGo2 l fs = 0 → ∀ f ∈ fs, S.cfIn l f.2 = true
  | [], _ => fun f hf => absurd hf (by simp)
  | f :: r, h => by
    rw [S.cfGo2] at h
    by_cases hc : S.cfIn l f.2 = true
    · rw [if_pos hc] at h
      intro x hx
      rcases List.mem_cons.1 hx with e | e
      · rw [e]; exact hc
      · exact lw_cfGo2 l r h x e
    · rw [if_neg hc] at h; exact absurd h (by decide)
theorem lw_first3 {a b c : Int} (h : S.first [a, b, c] = 0) : a = 0 ∧ b = 0 ∧ c = 0 := by
  simp only [S.first] at h
  by_cases ha : a = 0
  · rw [if_pos ha] at h
    by_cases hb : b = 0
    · rw [if_pos hb] at h
      by_cases hc : c = 0
      · exact ⟨ha, hb, hc⟩
      · rw [if_neg hc] at h; exact absurd h hc
    · rw [if_neg hb] at h; exact absurd h hb
  · rw [if_neg ha] at h; exact absurd h ha
theorem lw_unless {x : Bool} {e : Int} (he : ¬ e = 0) (h : S.unlessE x e = 0) : x = true := by
  cases x with
  | true => rfl
  | false => exact absurd h he
theorem lw_cfGo (l : List DForm) : ∀ (fs : List DForm) (k : Nat), l.drop k = fs → S.cfGo l k fs = 0 → (∀ j (h : j < l.length), k ≤ j → S.class_ l[j].1 = true ∧ S.form (l.take j) l[j].1 < 0 ∧ S.checkCols l[j].2 = 0) ∧ S.cfGo2 l l = 0
  | [], k, hd, h => ⟨fun j hj hk => by
    have : l.length ≤ k := by simpa using hd
    omega, h⟩
  | f :: r, k, hd, h => by
    obtain ⟨hk, e1, e2⟩ := drop_facts hd
    rw [S.cfGo] at h
    by_cases he : S.first [S.unlessE (S.class_ f.1) 4, S.unlessE (decide (S.form (l.take k) f.1 < 0)) 6, S.checkCols f.2] = 0
    · rw [if_pos he] at h
      obtain ⟨q1, q2, q3⟩ := lw_first3 he
      have ih := lw_cfGo l r (k + 1) e2 h
      refine ⟨fun j hj hkj => ?_, ih.2⟩
      by_cases e : j = k
      · subst e; rw [e1]; exact ⟨lw_unless (by decide) q1, of_decide_eq_true (lw_unless (by decide) q2), q3⟩
      · exact ih.1 j hj (by omega)
    · rw [if_neg he] at h; exact absurd h he
theorem lw_cfIn (l : List DForm) : ∀ cs : List DCol, S.cfIn l cs = true → ∀ c ∈ cs, c.2.1 = 3 → c.2.2 = S.ANY ∨ 0 ≤ S.form l c.2.2
  | [], _ => fun c hc => absurd hc (by simp)
  | c :: r, h => by
    rw [S.cfIn] at h
    by_cases hc : c.2.1 = 3 ∧ ¬ c.2.2 = S.ANY ∧ S.form l c.2.2 < 0
    · rw [if_pos hc] at h; cases h
    · rw [if_neg hc] at h
      intro x hx h3
      rcases List.mem_cons.1 hx with e | e
      · rw [e] at h3 ⊢
        by_cases hA : c.2.2 = S.ANY
        · exact .inl hA
        · exact .inr (by have : ¬ S.form l c.2.2 < 0 := fun hh => hc ⟨h3, hA, hh⟩; omega)
      · exact lw_cfIn l r h x e h3
theorem formsOK {l : List DForm} (h : S.checkForms l = 0) : FormsOK l := by
  unfold S.checkForms at h
  by_cases h24 : 24 < l.length
  · rw [if_pos h24] at h; exact absurd h (by decide)
  rw [if_neg h24] at h
  obtain ⟨k1, k2⟩ := lw_cfGo l l 0 rfl h
  have k3 := lw_cfGo2 l l k2
  refine ⟨by omega, fun f hf => ?_, fun k hk => (k1 k hk (Nat.zero_le _)).2.1, fun f hf => ?_, fun f hf => lw_cfIn l f.2 (k3 f hf)⟩
  all_goals
    obtain ⟨k, hk, rfl⟩ := List.mem_iff_getElem.1 hf
  · exact (k1 k hk (Nat.zero_le _)).1
  · exact colsOK (k1 k hk (Nat.zero_le _)).2.2

end Go.Proofs.Ytcnhjofpmpipfaa
end

/- Converting graphs, object by object; what is converted is right again. -/
section
set_option linter.unusedVariables false
set_option maxRecDepth 100000
namespace Go.Proofs.Ytcnhjofpmpipfaa
open Go Go.Sx Go.RowKit Go.Jx
/-! ### Values -/
theorem value_iff {many : Nat} (h : many ≤ 400) (v : DVal) : S.value v (Int.ofNat many) = true ↔ (v.1 = 1 ∧ -1099511627776 ≤ v.2 ∧ v.2 ≤ 1099511627776) ∨ (v.1 = 2 ∧ 0 ≤ v.2 ∧ v.2 ≤ 1) ∨ (v.1 = 3 ∧ v.2 = 0) ∨ (v.1 = 4 ∧ 0 ≤ v.2 ∧ v.2 < many) := by
  have hw : IntKind.i64.wrap (Int.sub (Int.ofNat many) (Int.ofNat 1)) = (many : Int) - 1 := by
    have : Int.sub (Int.ofNat many) (Int.ofNat 1) = (many : Int) - 1 := rfl
    rw [this]
    exact wrap64_in (by omega)
  unfold S.value
  rw [hw]
  simp only [S.within]
  by_cases h1 : v.1 = 1
  · simp [h1]
  by_cases h2 : v.1 = 2
  · simp [h2]
  by_cases h3 : v.1 = 3
  · simp [h3]
  by_cases h4 : v.1 = 4
  · simp [h4]; omega
  simp [h1, h2, h3, h4]
theorem suits_iff (g : DGraph) (c : DCol) (v : DVal) : S.suits g c v = true ↔ (c.2.1 = 1 → v.1 = 1) ∧ (c.2.1 = 2 → v.1 = 2) ∧ (¬ c.2.1 = 1 → ¬ c.2.1 = 2 → v.1 = 3 ∨ (v.1 = 4 ∧ (c.2.2 = S.ANY ∨ (S.at_ S.zNode g.1 v.2).1 = c.2.2))) := by
  unfold S.suits
  by_cases h1 : c.2.1 = 1
  · simp [h1]
  by_cases h2 : c.2.1 = 2
  · simp [h2]
  simp [h1, h2]
theorem suitsAll_iff (g : DGraph) : ∀ (cs : List DCol) (vs : List DVal), vs.length = cs.length → (S.suitsAll g cs vs = true ↔ ∀ k (h : k < cs.length) (h' : k < vs.length), S.suits g cs[k] vs[k] = true)
  | [], vs, _ => by simp [S.suitsAll]
  | c :: cs, [], h => by simp at h
  | c :: cs, v :: vs, hl => by
    rw [S.suitsAll]
    have ih := suitsAll_iff g cs vs (by simpa using hl)
    by_cases h0 : S.suits g c v = true
    · rw [if_pos h0, ih]
      constructor
      · intro h k h1 h2
        cases k with
        | zero => exact h0
        | succ k => exact h k (by simpa using h1) (by simpa using h2)
      · intro h k h1 h2
        exact h (k + 1) (by simpa using h1) (by simpa using h2)
    · rw [if_neg h0]
      exact ⟨fun h => (by cases h), fun h => absurd (h 0 (by simp) (by simp)) h0⟩
theorem typed_of {l : List DForm} {g : DGraph} : ∀ {ns : List DNode}, (∀ n ∈ ns, n.2.length = (S.colsOf l n.1).length ∧ S.suitsAll g (S.colsOf l n.1) n.2 = true) → S.typed l g ns = true
  | [], _ => rfl
  | n :: ns, h => by
    rw [S.typed]
    have h0 := h n List.mem_cons_self
    rw [if_pos h0.1, if_pos h0.2]
    exact typed_of fun m hm => h m (List.mem_cons_of_mem _ hm)
theorem formed_of {g : DGraph} (h1 : g.1.length ≤ 400) (h2 : g.2.length ≤ 60) (h3 : ∀ n ∈ g.1, n.2.length ≤ 30) (h4 : ∀ n ∈ g.1, ∀ v ∈ n.2, S.value v (Int.ofNat g.1.length) = true) (h5 : ∀ v ∈ g.2, S.value v (Int.ofNat g.1.length) = true ∧ S.refers v = true) : S.formed g = 0 := by
  unfold S.formed
  rw [if_neg (by omega), if_neg, if_neg, if_neg]
  · simp only [List.any_eq_true, not_exists, not_and, Bool.or_eq_true, Bool.not_eq_true', not_or, Bool.not_eq_false]
    exact fun v hv => h5 v hv
  · simp only [List.any_eq_true, not_exists, not_and, Bool.not_eq_true', Bool.not_eq_false]
    exact fun n hn v hv => h4 n hn v hv
  · simp only [List.any_eq_true, not_exists, not_and, decide_eq_true_eq]
    exact fun n hn => by have := h3 n hn; omega
end Go.Proofs.Ytcnhjofpmpipfaa
end

/- What pack's undoing of rules computes: plain functions over data. -/
section
set_option linter.unusedVariables false
noncomputable section
namespace Go.Proofs.Ytcnhjofpmpipfaa
open Go Go.Sx Go.RowKit Go.Jx
namespace S
open Go.Jx.S
def bkGo (l : List DRule) (was now : List DCol) : List DGive → Nat → List DGive → Option (List DGive)
  | [], _, acc => some acc
  | g :: gs, i, acc =>
    if ¬ g.2.1 = 1 then none
    else if ¬ (at_ zGive acc (col was g.1)).2.1 = 0 then none
    else if keeps l (at_ zCol was (col was g.1)) (at_ zCol now i) = false then none
    else bkGo l was now gs (i + 1) (acc.set (col was g.1).toNat ((at_ zCol now i).1, 1, 0))
def back (l : List DRule) (r : DRule) (was now : List DCol) : DRule × Bool :=
  if ¬ was.length = now.length then (zRule, false)
  else match bkGo l was now r.2.2 0 (rep was.length zGive) with
    | none => (zRule, false)
    | some gs => ((r.2.1, r.1, gs), true)
end S
end Go.Proofs.Ytcnhjofpmpipfaa

end
end

/- Rules that undo rules. -/
section
set_option linter.unusedVariables false
set_option maxRecDepth 100000
namespace Go.Proofs.Ytcnhjofpmpipfaa
open Go Go.Sx Go.RowKit Go.Jx
theorem nodup_le {α : Type} [DecidableEq α] : ∀ (N M : List α), N.Nodup → (∀ x ∈ N, x ∈ M) → N.length ≤ M.length
  | [], M, _, _ => Nat.zero_le _
  | x :: N, M, hN, hs => by
    rw [List.nodup_cons] at hN
    have hx := hs x List.mem_cons_self
    have ih := nodup_le N (M.erase x) hN.2 fun y hy => (List.mem_erase_of_ne (fun e : y = x => hN.1 (by rw [← e]; exact hy))).2 (hs y (List.mem_cons_of_mem _ hy))
    rw [List.length_erase_of_mem hx] at ih
    have : 0 < M.length := List.length_pos_of_mem hx
    simp only [List.length_cons]
    omega
structure Und (A B : List DForm) (l : List DRule) (r q : DRule) : Prop where
  cls : q.1 = r.2.1
  to : q.2.1 = r.1
  n1 : r.2.2.length = (S.colsOf A r.1).length
  n2 : r.2.2.length = (S.colsOf B r.2.1).length
  n3 : q.2.2.length = r.2.2.length
  how : ∀ i (h : i < r.2.2.length), r.2.2[i].2.1 = 1
  fwd : ∀ i (h : i < r.2.2.length), ∃ (k : Nat) (h1 : k < (S.colsOf A r.1).length) (h2 : k < q.2.2.length) (h3 : i < (S.colsOf B r.2.1).length), S.col (S.colsOf A r.1) r.2.2[i].1 = k ∧ q.2.2[k] = ((S.colsOf B r.2.1)[i].1, 1, 0) ∧ S.keeps l (S.colsOf A r.1)[k] (S.colsOf B r.2.1)[i] = true
  bwd : ∀ k (h : k < (S.colsOf A r.1).length), ∃ (i : Nat) (h1 : i < r.2.2.length), S.col (S.colsOf A r.1) r.2.2[i].1 = k
structure BackOK (A B : List DForm) (l b : List DRule) : Prop where
  fa : FormsOK A
  fb : FormsOK B
  ca : S.checkForms A = 0
  cb : S.checkForms B = 0
  ra : RulesOK A B l
  len : b.length = l.length
  lenB : b.length = B.length
  cls : ∀ k (h : k < B.length) (h' : k < b.length), b[k].1 = B[k].1
  und : ∀ q ∈ b, ∃ r ∈ l, Und A B l r q
  inj : ∀ r ∈ l, ∀ r' ∈ l, r.2.1 = r'.2.1 → r = r'
section
variable {A B : List DForm} {l b : List DRule}
end
end Go.Proofs.Ytcnhjofpmpipfaa
end

/- The walk of canon. -/
section
set_option linter.unusedVariables false
namespace Go.Proofs.Ytcnhjofpmpipfaa
open Go Go.Sx Go.RowKit Go.Jx
structure GF (g : DGraph) : Prop where
  nodes : List.length (α := DNode) (g : List DNode × List DVal).1 ≤ 400
  roots : List.length (α := DVal) (g : List DNode × List DVal).2 ≤ 60
  vals : ∀ n ∈ (g : List DNode × List DVal).1, List.length (α := DVal) (n : ByteArray × List DVal).2 ≤ 30
  ref : ∀ n ∈ (g : List DNode × List DVal).1, ∀ k ∈ S.refsL (n : ByteArray × List DVal).2, 0 ≤ k ∧ k < Int.ofNat (List.length (α := DNode) (g : List DNode × List DVal).1)
  rref : ∀ k ∈ S.refsL (g : List DNode × List DVal).2, 0 ≤ k ∧ k < Int.ofNat (List.length (α := DNode) (g : List DNode × List DVal).1)
theorem refsL_len : ∀ l : List (Int × Int), (S.refsL l).length ≤ l.length
  | [] => Nat.le_refl _
  | v :: l => by
    have := refsL_len l
    simp only [S.refsL]
    split <;> simp <;> omega
structure OrdOK (nd : List DNode) (o : List Int) : Prop where
  nodup : o.Nodup
  lt : ∀ k ∈ o, 0 ≤ k ∧ k < Int.ofNat nd.length
theorem OrdOK.len {nd : List DNode} {o : List Int} (h : OrdOK nd o) : o.length ≤ nd.length := by
  have := nodup_le o ((List.range nd.length).map Int.ofNat) h.nodup fun k hk => by
    obtain ⟨h1, h2⟩ := h.lt k hk
    refine List.mem_map.2 ⟨k.toNat, List.mem_range.2 ?_, ?_⟩
    · have : (k.toNat : Int) = k := Int.toNat_of_nonneg h1
      have h2 : k < (nd.length : Int) := h2
      omega
    · exact Int.toNat_of_nonneg h1
  simpa using this
theorem OrdOK.meet {nd : List DNode} {o l : List Int} (h : OrdOK nd o) (hl : ∀ k ∈ l, 0 ≤ k ∧ k < Int.ofNat nd.length) : OrdOK nd (S.meetL o l) :=
  ⟨meetL_nodup l o h.nodup, fun k hk => by
    rcases (meetL_mem l o k).1 hk with h1 | h1
    · exact h.lt k h1
    · exact hl k h1⟩
def S.walk (nd : List DNode) : Nat → List Int → Nat → List Int
  | 0, o, _ => o
  | f + 1, o, i => match o[i]? with
    | none => o
    | some k => match jget nd k with
      | none => o
      | some v => S.walk nd f (S.meetL o (S.refsL (v : ByteArray × List DVal).2)) (i + 1)
theorem walk_loop {g : DGraph} (hg : GF g) (L12 : ((List (Int × Int)) × (List Int) × Int × (List DNode)) → Option Rt_p_canon) : ∀ (f n i : Nat) (o : List Int), OrdOK (g : List DNode × List DVal).1 o → i ≤ o.length →
    List.length (α := DNode) (g : List DNode × List DVal).1 - i < f → List.length (α := DNode) (g : List DNode × List DVal).1 - i < n →
    rounds (fun K p => R_p_canon_7 LF g L12 K p) n (S.tab o, o, Int.ofNat i) = L12 (S.tab (S.walk (g : List DNode × List DVal).1 f o i), S.walk (g : List DNode × List DVal).1 f o i, Int.ofNat 0, []) ∧ OrdOK (g : List DNode × List DVal).1 (S.walk (g : List DNode × List DVal).1 f o i)
  | 0, n, i, o, ho, hi, hf, hn => by omega
  | f + 1, 0, i, o, ho, hi, hf, hn => by omega
  | f + 1, n + 1, i, o, ho, hi, hf, hn => by
    have hlen := ho.len
    show R_p_canon_7 LF g L12 (rounds (fun K p => R_p_canon_7 LF g L12 K p) n) (S.tab o, o, Int.ofNat i) = _ ∧ _
    by_cases he : i = o.length
    · have h1 : ieqI (Int.ofNat i) (Int.ofNat (List.length o)) = true := by rw [ieqI_eq, he]; exact decide_eq_true rfl
      have h2 : o[i]? = none := List.getElem?_eq_none (by omega)
      simp only [R_p_canon_7, h1, cond_true, S.walk, h2]
      exact ⟨trivial, ho⟩
    · have hlt : i < o.length := by omega
      have h1 : ieqI (Int.ofNat i) (Int.ofNat (List.length o)) = false := by rw [ieqI_eq]; exact decide_eq_false (fun e => he (Int.ofNat.inj e))
      have h2 : o[i]? = some o[i] := List.getElem?_eq_getElem hlt
      have h3 : jget o (Int.ofNat i) = some o[i] := by rw [jget_nat]; exact h2
      obtain ⟨k1, k2⟩ := ho.lt o[i] (List.getElem_mem hlt)
      obtain ⟨v, v1, v2, v3⟩ := jget_of (l := (g : List DNode × List DVal).1) k1 k2
      have e1 : Int.toNat (Int.ofNat i) = i := rfl
      have hr := hg.ref v v3
      have hv := hg.vals v v3
      have hn4 := hg.nodes
      have hm := meetN_tab (S.refsL (v : ByteArray × List DVal).2) o (by
        have := refsL_len (v : ByteArray × List DVal).2
        have hv : List.length (α := Int × Int) (v : ByteArray × List DVal).2 ≤ 30 := hv
        omega)
      have hw : IntKind.i64.wrap (Int.add (Int.ofNat i) (Int.ofNat 1)) = Int.ofNat (i + 1) := wrap_succ (by unfold LF; omega)
      have hnext := walk_loop hg L12 f n (i + 1) (S.meetL o (S.refsL (v : ByteArray × List DVal).2)) (ho.meet hr) (by have := meetL_len (S.refsL (v : ByteArray × List DVal).2) o; omega) (by omega) (by omega)
      simp only [R_p_canon_7, h1, cond_false, h3, e1, h2, v1, hm, hw, S.walk]
      exact hnext
end Go.Proofs.Ytcnhjofpmpipfaa
end

/- What canon makes of a formed graph. -/
section
set_option linter.unusedVariables false
namespace Go.Proofs.Ytcnhjofpmpipfaa
open Go Go.Sx Go.RowKit Go.Jx
def S.nodeAt (nd : List DNode) (k : Int) : DNode := (jget nd k).getD ((ByteArray.empty, []) : ByteArray × List DVal)
def S.newNode (nd : List DNode) (es : List (Int × Int)) (k : Int) : DNode := (((S.nodeAt nd k : ByteArray × List DVal).1, S.movedL es (S.nodeAt nd k : ByteArray × List DVal).2) : ByteArray × List DVal)
def S.numOr (es : List (Int × Int)) (k : Int) : Int := (S.numAt es k).getD (-1)
theorem canon_loop2 (g : DGraph) (es : List (Int × Int)) (o : List Int) (L18 : ((List (Int × Int)) × (List DNode) × Int × (List Int)) → Option Rt_p_canon) (hl : o.length * 40 ≤ 140737488355328)
    (ho : ∀ k ∈ o, 0 ≤ k ∧ k < Int.ofNat (List.length (α := DNode) (g : List DNode × List DVal).1)) :
    rounds (fun K p => R_p_canon_12 LF g K L18 p) LF (es, o, Int.ofNat 0, []) = L18 (es, o.map (S.newNode (g : List DNode × List DVal).1 es), Int.ofNat 0, []) := by
  refine (range0 (R := Rt_p_canon) (σ := List DNode) o (fun k s => (es, o, k, s)) (fun k s => s.length = k) (fun rest k s => L18 (es, s ++ rest.map (S.newNode (g : List DNode × List DVal).1 es), Int.ofNat 0, [])) (by unfold LF; omega) (fun K s hI => ?_) (fun K i v rest s hI r hk => ?_) [] rfl).trans ?_
  · simp only [R_p_canon_12, ilt_self, cond_false, List.map_nil, List.append_nil]
  · obtain ⟨k1, k2⟩ := ho v r.mem
    obtain ⟨n, n1, n2, n3⟩ := jget_of (l := (g : List DNode × List DVal).1) k1 k2
    have e1 : Int.toNat (Int.ofNat i) = i := rfl
    have hlt := r.lt
    have hb : Nat.ble (Nat.mul (Nat.add s.length 1) 40) 140737488355328 = true := Nat.ble_eq_true_of_le (by show (s.length + 1) * 40 ≤ _; rw [hI]; omega)
    simp only [R_p_canon_12, r.ilt, cond_true, r.get, e1, r.get?, n1, hb, r.next]
    have hnew : S.newNode (g : List DNode × List DVal).1 es v = (((n : ByteArray × List DVal).1, S.movedL es (n : ByteArray × List DVal).2) : ByteArray × List DVal) := by
      unfold S.newNode S.nodeAt; rw [n1]; rfl
    have := hk (s ++ [S.newNode (g : List DNode × List DVal).1 es v]) (by rw [List.length_append, hI]; rfl)
    rw [hnew] at this
    refine Eq.trans this ?_
    rw [List.map_cons, hnew]
    congr 2
    simp
  · rfl
theorem canon_loop3 (g : DGraph) (es : List (Int × Int)) (acc : List DNode) (hl : List.length (α := DNode) (g : List DNode × List DVal).1 ≤ 400) :
    rounds (fun K p => R_p_canon_18 LF g K p) LF (es, acc, Int.ofNat 0, []) = some (((acc, S.movedL es (g : List DNode × List DVal).2) : List DNode × List DVal), (((List.range (List.length (α := DNode) (g : List DNode × List DVal).1)).map fun k => S.numOr es (Int.ofNat k)), ())) := by
  have hlf : List.length (α := DNode) (g : List DNode × List DVal).1 < LF := by unfold LF; omega
  refine (range0 (R := Rt_p_canon) (σ := List Int) (α := DNode) (g : List DNode × List DVal).1 (fun k s => (es, acc, k, s)) (fun k s => s = (List.range k).map fun j => S.numOr es (Int.ofNat j))
    (fun _ _ _ => some (((acc, S.movedL es (g : List DNode × List DVal).2) : List DNode × List DVal), (((List.range (List.length (α := DNode) (g : List DNode × List DVal).1)).map fun k => S.numOr es (Int.ofNat k)), ()))) hlf (fun K s hI => ?_) (fun K i v rest s hI r hk => ?_) [] rfl)
  · simp only [R_p_canon_18, ilt_self, cond_false]
    rw [hI]
  · have hlt := r.lt
    have hb : Nat.ble (Nat.mul (Nat.add s.length 1) 8) 140737488355328 = true := Nat.ble_eq_true_of_le (by show (s.length + 1) * 8 ≤ _; rw [hI]; simp; omega)
    have hs : ∀ q, q = S.numOr es (Int.ofNat i) → s.append [q] = (List.range (i + 1)).map fun j => S.numOr es (Int.ofNat j) := fun q hq => by
      rw [hI, List.range_succ, List.map_append, hq]; rfl
    have hn : S.numAt es (Int.ofNat i) = @mfind (TC.int .i64) (TC.int .i64) (Int.ofNat i) es := rfl
    simp only [R_p_canon_18, r.ilt, cond_true, hb, r.next]
    cases hm : @mfind (TC.int .i64) (TC.int .i64) (Int.ofNat i) es with
    | none =>
      simp only [Bool.not_false, cond_true]
      exact hk _ (hs _ (by unfold S.numOr; rw [hn, hm]; rfl))
    | some q =>
      simp only [Bool.not_true, cond_false]
      exact hk _ (hs _ (by unfold S.numOr; rw [hn, hm]; rfl))
def S.ord (g : DGraph) : List Int := S.walk (g : List DNode × List DVal).1 (List.length (α := DNode) (g : List DNode × List DVal).1 + 1) (S.meetL [] (S.refsL (g : List DNode × List DVal).2)) 0
def S.canonG (g : DGraph) : DGraph := (((S.ord g).map (S.newNode (g : List DNode × List DVal).1 (S.tab (S.ord g))), S.movedL (S.tab (S.ord g)) (g : List DNode × List DVal).2) : List DNode × List DVal)
def S.numsG (g : DGraph) : List Int := (List.range (List.length (α := DNode) (g : List DNode × List DVal).1)).map fun k => S.numOr (S.tab (S.ord g)) (Int.ofNat k)
theorem canon_ok {g : DGraph} (hg : GF g) : S.canonO g = some (S.canonG g, S.numsG g, ()) ∧ OrdOK (g : List DNode × List DVal).1 (S.ord g) := by
  have h60 : (S.refsL (g : List DNode × List DVal).2).length ≤ 60 := Nat.le_trans (refsL_len _) hg.roots
  have hm := meetN_tab (S.refsL (g : List DNode × List DVal).2) [] (by simp; omega)
  have ho0 : OrdOK (g : List DNode × List DVal).1 (S.meetL [] (S.refsL (g : List DNode × List DVal).2)) := OrdOK.meet ⟨List.nodup_nil, fun k hk => by cases hk⟩ hg.rref
  obtain ⟨w1, w2⟩ := walk_loop hg (fun q => G_p_canon_12 LF g LF q) (List.length (α := DNode) (g : List DNode × List DVal).1 + 1) LF 0 _ ho0 (Nat.zero_le _) (by omega) (by have := hg.nodes; unfold LF; omega)
  refine ⟨?_, w2⟩
  have hol := w2.len
  have hn4 := hg.nodes
  have hl40 : (S.ord g).length * 40 ≤ 140737488355328 := by
    have : (S.ord g).length ≤ List.length (α := DNode) (g : List DNode × List DVal).1 := hol
    omega
  have e2 := canon_loop2 g (S.tab (S.ord g)) (S.ord g) (fun q => G_p_canon_18 LF g LF q) hl40 w2.lt
  have e3 := canon_loop3 g (S.tab (S.ord g)) ((S.ord g).map (S.newNode (g : List DNode × List DVal).1 (S.tab (S.ord g)))) hg.nodes
  have hm : S.meetN (S.refsL (g : List DNode × List DVal).2) [] [] = some (S.tab (S.meetL [] (S.refsL (g : List DNode × List DVal).2)), S.meetL [] (S.refsL (g : List DNode × List DVal).2)) := hm
  simp only [S.canonO, F_p_canon, R_p_canon_in, hm]
  exact w1.trans (e2.trans e3)
end Go.Proofs.Ytcnhjofpmpipfaa
end

/- Canon does not depend on the numbers of objects. -/
section
set_option linter.unusedVariables false
namespace Go.Proofs.Ytcnhjofpmpipfaa
open Go Go.Sx Go.RowKit Go.Jx
def S.mvV (π : Int → Int) (v : Int × Int) : Int × Int := if v.1 = 4 then (v.1, π v.2) else v
theorem refsL_map (π : Int → Int) : ∀ l : List (Int × Int), S.refsL (l.map (S.mvV π)) = (S.refsL l).map π
  | [] => rfl
  | v :: l => by
    simp only [List.map_cons, S.refsL, S.mvV]
    by_cases h : v.1 = 4
    · simp only [if_pos h, List.map_cons, refsL_map π l]
    · simp only [if_neg h, refsL_map π l]
def InjB (π : Int → Int) (n : Nat) : Prop := ∀ a b : Int, 0 ≤ a → a < Int.ofNat n → 0 ≤ b → b < Int.ofNat n → π a = π b → a = b
def Bnd (n : Nat) (l : List Int) : Prop := ∀ k ∈ l, 0 ≤ k ∧ k < Int.ofNat n
theorem mem_map_inj {π : Int → Int} {n : Nat} (hi : InjB π n) {o : List Int} (ho : Bnd n o) {k : Int} (h1 : 0 ≤ k) (h2 : k < Int.ofNat n) : π k ∈ o.map π ↔ k ∈ o := by
  constructor
  · intro h
    obtain ⟨a, ha, he⟩ := List.mem_map.1 h
    have := hi a k (ho a ha).1 (ho a ha).2 h1 h2 he
    rwa [← this]
  · exact fun h => List.mem_map_of_mem h
theorem meetL_map {π : Int → Int} {n : Nat} (hi : InjB π n) : ∀ (l o : List Int), Bnd n o → Bnd n l → S.meetL (o.map π) (l.map π) = (S.meetL o l).map π
  | [], o, ho, hl => rfl
  | k :: l, o, ho, hl => by
    obtain ⟨k1, k2⟩ := hl k List.mem_cons_self
    have hl2 : Bnd n l := fun a ha => hl a (List.mem_cons_of_mem _ ha)
    simp only [List.map_cons, S.meetL]
    by_cases hm : k ∈ o
    · rw [if_pos hm, if_pos ((mem_map_inj hi ho k1 k2).2 hm)]
      exact meetL_map hi l o ho hl2
    · rw [if_neg hm, if_neg (fun h => hm ((mem_map_inj hi ho k1 k2).1 h))]
      have := meetL_map hi l (o ++ [k]) (fun a ha => by
        rcases List.mem_append.1 ha with h | h
        · exact ho a h
        · rw [List.mem_singleton.1 h]; exact ⟨k1, k2⟩) hl2
      rw [List.map_append] at this
      exact this
theorem idxOf_map {π : Int → Int} {n : Nat} (hi : InjB π n) : ∀ (o : List Int), Bnd n o → ∀ {k : Int}, 0 ≤ k → k < Int.ofNat n → (o.map π).idxOf (π k) = o.idxOf k
  | [], ho, k, h1, h2 => rfl
  | a :: o, ho, k, h1, h2 => by
    obtain ⟨a1, a2⟩ := ho a List.mem_cons_self
    rw [List.map_cons, List.idxOf_cons, List.idxOf_cons, idxOf_map hi o (fun b hb => ho b (List.mem_cons_of_mem _ hb)) h1 h2]
    have : (π a == π k) = (a == k) := by
      by_cases e : a = k
      · subst e; simp
      · have : π a ≠ π k := fun h => e (hi a k a1 a2 h1 h2 h)
        rw [beq_false_of_ne e, beq_false_of_ne this]
    rw [this]
theorem numAt_map {π : Int → Int} {n : Nat} (hi : InjB π n) {o : List Int} (ho : Bnd n o) {k : Int} (h1 : 0 ≤ k) (h2 : k < Int.ofNat n) : S.numAt (S.tab (o.map π)) (π k) = S.numAt (S.tab o) k := by
  rw [numAt_tab, numAt_tab, idxOf_map hi o ho h1 h2]
  by_cases hm : k ∈ o
  · rw [if_pos hm, if_pos ((mem_map_inj hi ho h1 h2).2 hm)]
  · rw [if_neg hm, if_neg (fun h => hm ((mem_map_inj hi ho h1 h2).1 h))]
theorem movedL_map {π : Int → Int} {n : Nat} (hi : InjB π n) {o : List Int} (ho : Bnd n o) : ∀ (l : List (Int × Int)), Bnd n (S.refsL l) → S.movedL (S.tab (o.map π)) (l.map (S.mvV π)) = S.movedL (S.tab o) l
  | [], _ => rfl
  | v :: l, hl => by
    show S.movedV (S.tab (o.map π)) (S.mvV π v) :: S.movedL (S.tab (o.map π)) (l.map (S.mvV π)) = S.movedV (S.tab o) v :: S.movedL (S.tab o) l
    have hl2 : Bnd n (S.refsL l) := fun a ha => hl a (by
      simp only [S.refsL]; split
      · exact List.mem_cons_of_mem _ ha
      · exact ha)
    rw [movedL_map hi ho l hl2]
    congr 1
    by_cases h : v.1 = 4
    · obtain ⟨h1, h2⟩ := hl v.2 (by simp only [S.refsL, if_pos h]; exact List.mem_cons_self)
      have e : S.mvV π v = (v.1, π v.2) := if_pos h
      rw [e]
      unfold S.movedV
      show (if v.1 = 4 then (v.1, (S.numAt (S.tab (o.map π)) (π v.2)).getD 0) else _) = _
      rw [if_pos h, if_pos h, numAt_map hi ho h1 h2]
    · have e : S.mvV π v = v := if_neg h
      rw [e]
      unfold S.movedV
      rw [if_neg h, if_neg h]
end Go.Proofs.Ytcnhjofpmpipfaa
end

/- Canon of a renumbered graph. -/
section
set_option linter.unusedVariables false
namespace Go.Proofs.Ytcnhjofpmpipfaa
open Go Go.Sx Go.RowKit Go.Jx
end Go.Proofs.Ytcnhjofpmpipfaa
end

/- Where all objects are reached, the canonical form is the graph with other numbers. -/
section
set_option linter.unusedVariables false
namespace Go.Proofs.Ytcnhjofpmpipfaa
open Go Go.Sx Go.RowKit Go.Jx
def S.piO (o : List Int) (k : Int) : Int := Int.ofNat (o.idxOf k)
theorem movedL_pi {o : List Int} : ∀ (l : List (Int × Int)), (∀ k ∈ S.refsL l, k ∈ o) → S.movedL (S.tab o) l = l.map (S.mvV (S.piO o))
  | [], _ => rfl
  | v :: l, hl => by
    have hl2 : ∀ k ∈ S.refsL l, k ∈ o := fun a ha => hl a (by
      simp only [S.refsL]; split
      · exact List.mem_cons_of_mem _ ha
      · exact ha)
    show S.movedV (S.tab o) v :: S.movedL (S.tab o) l = S.mvV (S.piO o) v :: l.map (S.mvV (S.piO o))
    rw [movedL_pi l hl2]
    congr 1
    unfold S.movedV S.mvV
    by_cases h : v.1 = 4
    · have hm : v.2 ∈ o := hl v.2 (by simp only [S.refsL, if_pos h]; exact List.mem_cons_self)
      show (if v.1 = 4 then (v.1, (S.numAt (S.tab o) v.2).getD 0) else v) = _
      rw [if_pos h, if_pos h, numAt_tab, if_pos hm]; rfl
    · show (if v.1 = 4 then (v.1, (S.numAt (S.tab o) v.2).getD 0) else v) = _
      rw [if_neg h, if_neg h]
end Go.Proofs.Ytcnhjofpmpipfaa
end

/- Formed graphs. -/
section
set_option linter.unusedVariables false
namespace Go.Proofs.Ytcnhjofpmpipfaa
open Go Go.Sx Go.RowKit Go.Jx
theorem refs_val {many : Nat} (h : many ≤ 400) : ∀ (l : List (Int × Int)), (∀ v ∈ l, S.value v (Int.ofNat many) = true) → ∀ k ∈ S.refsL l, 0 ≤ k ∧ k < Int.ofNat many
  | [], _, k, hk => by cases hk
  | v :: l, hv, k, hk => by
    have ih := refs_val h l fun w hw => hv w (List.mem_cons_of_mem _ hw)
    simp only [S.refsL] at hk
    split at hk
    · rename_i h4
      rcases List.mem_cons.1 hk with h1 | h1
      · subst h1
        rcases (value_iff h v).1 (hv v List.mem_cons_self) with ⟨e, _⟩ | ⟨e, _⟩ | ⟨e, _⟩ | ⟨e, a, b⟩
        · have e : v.1 = 1 := e
          omega
        · have e : v.1 = 2 := e
          omega
        · have e : v.1 = 3 := e
          omega
        · exact ⟨a, b⟩
      · exact ih k h1
    · exact ih k hk
theorem gf_of {g : DGraph} (h : S.formed g = 0) : GF g := by
  obtain ⟨f1, f2, f3, f4, f5⟩ := formed_zero h
  exact ⟨f1, f2, f3, fun n hn => refs_val f1 _ (f4 n hn), refs_val f1 _ fun v hv => (f5 v hv).1⟩
end Go.Proofs.Ytcnhjofpmpipfaa
end

/- Values that are made of renumbered ones. -/
section
set_option linter.unusedVariables false
namespace Go.Proofs.Ytcnhjofpmpipfaa
open Go Go.Sx Go.RowKit Go.Jx
end Go.Proofs.Ytcnhjofpmpipfaa
end

/- Converted graphs that differ by numbers. -/
section
set_option linter.unusedVariables false
namespace Go.Proofs.Ytcnhjofpmpipfaa
open Go Go.Sx Go.RowKit Go.Jx
theorem jget_some {α : Type} {l : List α} {k : Int} {v : α} (h : jget l k = some v) : 0 ≤ k ∧ ∃ hi : k.toNat < l.length, l[k.toNat] = v := by
  unfold jget at h
  split at h
  · rename_i h0
    obtain ⟨hi, e⟩ := List.getElem?_eq_some_iff.1 h
    exact ⟨h0, hi, e⟩
  · cases h
end Go.Proofs.Ytcnhjofpmpipfaa
end

/- Made by program: plain forms of functions. -/
section
set_option linter.unusedVariables false
set_option maxRecDepth 100000
noncomputable section
namespace Go.Proofs.Ytcnhjofpmpipfaa
open Go Go.Sx Go.RowKit Go.Jx
end Go.Proofs.Ytcnhjofpmpipfaa

end
end

/- Equal lists of values. -/
section
set_option linter.unusedVariables false
namespace Go.Proofs.Ytcnhjofpmpipfaa
open Go Go.Sx Go.RowKit Go.Jx
end Go.Proofs.Ytcnhjofpmpipfaa
end

/- Made by program: plain forms of functions. -/
section
set_option linter.unusedVariables false
set_option maxRecDepth 100000
noncomputable section
namespace Go.Proofs.Ytcnhjofpmpipfaa
open Go Go.Sx Go.RowKit Go.Jx
end Go.Proofs.Ytcnhjofpmpipfaa

end
end

/- Equal lists of objects. -/
section
set_option linter.unusedVariables false
namespace Go.Proofs.Ytcnhjofpmpipfaa
open Go Go.Sx Go.RowKit Go.Jx
end Go.Proofs.Ytcnhjofpmpipfaa
end

/- Made by program: plain forms of functions. -/
section
set_option linter.unusedVariables false
set_option maxRecDepth 100000
noncomputable section
namespace Go.Proofs.Ytcnhjofpmpipfaa
open Go Go.Sx Go.RowKit Go.Jx
end Go.Proofs.Ytcnhjofpmpipfaa

end
end

/- Made by program: plain forms of functions. -/
section
set_option linter.unusedVariables false
set_option maxRecDepth 100000
noncomputable section
namespace Go.Proofs.Ytcnhjofpmpipfaa
open Go Go.Sx Go.RowKit Go.Jx
def nm_p_Part : Nat → Option Nm := fun k => none
def st_p_Part : Nat → Bool := fun k => false
def hd_p_Part : Nat → Bool := fun k => false
abbrev Rt_p_Part : Type := DGraph × Int × Unit
def sml_p_Part : List (Nat × Sm) := [(70, sp_p_formed), (62, sp_p_canon), (83, sp_p_within)]
def hxl_p_Part : List (Nat × Hx) := []
def cl_p_Part (R : Type) (lf : Nat) : ClK R := icallK Try.prog ttT.get ftT.get (nm1 33 nm_p_Part) (smL sml_p_Part) (hxL hxl_p_Part) lf 20 R
abbrev id_p_Part : Nat := 33
def R_p_Part_in (lf : Nat) (x1 : DGraph) (x2 : Int) : Option Rt_p_Part := (cond (Bool.not (ieqI (Go.Proofs.Ytcnhjofpmpipfaa.S.formed (x1.1, x1.2)) (Int.ofNat 0))) (some (([], []), ((Go.Proofs.Ytcnhjofpmpipfaa.S.formed (x1.1, x1.2)), ()))) (cond (Bool.not (Go.Proofs.Ytcnhjofpmpipfaa.S.within x2 (Int.ofNat 0) (Go.IntKind.wrap Go.IntKind.i64 (Int.sub (Int.ofNat (List.length x1.2)) (Int.ofNat 1))))) (some (([], []), ((Int.ofNat 1), ()))) (cond (lchk x2 (Go.IntKind.wrap Go.IntKind.i64 (Int.add x2 (Int.ofNat 1))) (Int.ofNat (List.length x1.2)) (Int.ofNat (List.length x1.2))) (match (Go.Proofs.Ytcnhjofpmpipfaa.S.canonO (x1.1, (lsub x1.2 x2 (Go.IntKind.wrap Go.IntKind.i64 (Int.add x2 (Int.ofNat 1)))))) with | .none  => none | .some v0 => (some ((v0.1.1, v0.1.2), ((Int.ofNat 0), ())))) none)))
theorem in_p_Part (g : ElA [cGraph, (.int .i64)] → Option Rt_p_Part) (J : Nat → List Nat → NRes → Option Rt_p_Part) (lf : Nat) (x1 : DGraph) (x2 : Int) : icodeT Try.prog ttT.get nm_p_Part fi33.nt (cl_p_Part _ lf) lf st_p_Part J fi33.body [] (argGo (argV [cGraph, (.int .i64)] (x1, x2, ())) 0 .leaf) S0 [] (lastK ttT.get fi33 ⟨[cGraph, (.int .i64)], [(false, cGraph), (false, (.int .i64))], g⟩) = R_p_Part_in lf x1 x2 := by kernel_rfl
theorem nd_p_Part : (regs fi33.body).Nodup := by decide +kernel
theorem ok_p_Part : okC nm_p_Part st_p_Part hd_p_Part fi33.body none = true := by kernel_rfl
def A_p_Part (g : ElA [cGraph, (.int .i64)] → Option Rt_p_Part) (lf : Nat) : Nat → List Nat → NRes → Option Rt_p_Part := atN Try.prog ttT.get nm_p_Part fi33 ⟨[cGraph, (.int .i64)], [(false, cGraph), (false, (.int .i64))], g⟩ (cl_p_Part _ lf) lf hd_p_Part
def F_p_Part (lf : Nat) (x1 : DGraph) (x2 : Int) : Option Rt_p_Part := R_p_Part_in lf x1 x2
theorem run_p_Part (g : ElA [cGraph, (.int .i64)] → Option Rt_p_Part) (lf : Nat) (x1 : DGraph) (x2 : Int) : icodeT Try.prog ttT.get nm_p_Part fi33.nt (cl_p_Part _ lf) lf st_p_Part (A_p_Part g lf) fi33.body [] (argGo (argV [cGraph, (.int .i64)] (x1, x2, ())) 0 .leaf) S0 [] (lastK ttT.get fi33 ⟨[cGraph, (.int .i64)], [(false, cGraph), (false, (.int .i64))], g⟩) = F_p_Part lf x1 x2 := by
    refine (in_p_Part g (A_p_Part g lf) lf x1 x2).trans ?_
    rfl
theorem hxs_p_Part : HxsOK Try.prog hxl_p_Part := trivial
theorem mk_p_Part {g : ElA [cGraph, (.int .i64)] → Option Rt_p_Part} (hsm : SmOK Try.prog sml_p_Part) (hg : ∀ (x : ElA [cGraph, (.int .i64)]) (y : Rt_p_Part), WfA [cGraph, (.int .i64)] x → g x = some y → ∃ lf, F_p_Part lf x.1 x.2.1 = some y) : Con Try.prog 33 ⟨[cGraph, (.int .i64)], [(false, cGraph), (false, (.int .i64))], g⟩ :=
  conT (nmf := nm_p_Part) (sml := sml_p_Part) (hxl := hxl_p_Part) (st := st_p_Part) (hd := hd_p_Part) 20 mixed ttOK ftOK hsm hxs_p_Part cal33 rfl rfl (by kernel_rfl) (fun x => by kernel_rfl) nd_p_Part ok_p_Part fun x y hx hy => by
    obtain ⟨lf, h⟩ := hg x y hx hy
    exact ⟨lf, (run_p_Part g lf x.1 x.2.1).trans h⟩
end Go.Proofs.Ytcnhjofpmpipfaa

end
end

/- The contracts of equal, Canon, Part. -/
section
set_option linter.unusedVariables false
namespace Go.Proofs.Ytcnhjofpmpipfaa
open Go Go.Sx Go.RowKit Go.Jx
end Go.Proofs.Ytcnhjofpmpipfaa
end

/- Made by program: plain forms of functions. -/
section
set_option linter.unusedVariables false
set_option maxRecDepth 100000
noncomputable section
namespace Go.Proofs.Ytcnhjofpmpipfaa
open Go Go.Sx Go.RowKit Go.Jx
end Go.Proofs.Ytcnhjofpmpipfaa

end
end

/- The contract of Same. -/
section
set_option linter.unusedVariables false
namespace Go.Proofs.Ytcnhjofpmpipfaa
open Go Go.Sx Go.RowKit Go.Jx
end Go.Proofs.Ytcnhjofpmpipfaa
end

/- Equal graphs are equal. -/
section
set_option linter.unusedVariables false
namespace Go.Proofs.Ytcnhjofpmpipfaa
open Go Go.Sx Go.RowKit Go.Jx
end Go.Proofs.Ytcnhjofpmpipfaa
end

/- Ways that look at a number have no reference as their source. -/
section
set_option linter.unusedVariables false
namespace Go.Proofs.Ytcnhjofpmpipfaa
open Go Go.Sx Go.RowKit Go.Jx
end Go.Proofs.Ytcnhjofpmpipfaa
end

/- A renumbered graph is right where the graph is. -/
section
set_option linter.unusedVariables false
namespace Go.Proofs.Ytcnhjofpmpipfaa
open Go Go.Sx Go.RowKit Go.Jx
end Go.Proofs.Ytcnhjofpmpipfaa
end

/- The canonical form of a formed graph is formed. -/
section
set_option linter.unusedVariables false
namespace Go.Proofs.Ytcnhjofpmpipfaa
open Go Go.Sx Go.RowKit Go.Jx
end Go.Proofs.Ytcnhjofpmpipfaa
end

/- A graph within another one has the same canonical form; canon of canon is canon. -/
section
set_option linter.unusedVariables false
namespace Go.Proofs.Ytcnhjofpmpipfaa
open Go Go.Sx Go.RowKit Go.Jx
structure Emb (π : Int → Int) (x y : List DNode × List DVal) : Prop where
  inj : InjB π x.1.length
  node : ∀ (k : Int) (v : ByteArray × List DVal), jget x.1 k = some v → jget y.1 (π k) = some ((v.1, List.map (α := Int × Int) (β := Int × Int) (S.mvV π) v.2) : ByteArray × List DVal)
  roots : y.2 = List.map (α := Int × Int) (β := Int × Int) (S.mvV π) x.2
theorem walk_emb {π : Int → Int} {x y : List DNode × List DVal} (h : Emb π x y) (hg : GF x) : ∀ (f : Nat) (o : List Int) (i : Nat), Bnd x.1.length o → S.walk y.1 f (o.map π) i = (S.walk x.1 f o i).map π ∧ Bnd x.1.length (S.walk x.1 f o i)
  | 0, o, i, ho => ⟨rfl, ho⟩
  | f + 1, o, i, ho => by
    simp only [S.walk, List.getElem?_map]
    cases hk : o[i]? with
    | none => exact ⟨rfl, ho⟩
    | some k =>
      have hmem := List.mem_of_getElem? hk
      obtain ⟨k1, k2⟩ := ho k hmem
      obtain ⟨v, v1, v2, v3⟩ := jget_of (l := x.1) k1 k2
      have hy := h.node k v v1
      simp only [Option.map_some, v1, hy]
      have hb : Bnd x.1.length (S.refsL (v : ByteArray × List DVal).2) := hg.ref v v3
      have e : S.refsL (List.map (α := Int × Int) (β := Int × Int) (S.mvV π) (v : ByteArray × List DVal).2) = (S.refsL (v : ByteArray × List DVal).2).map π := refsL_map π _
      rw [e, meetL_map h.inj _ _ ho hb]
      exact walk_emb h hg f _ (i + 1) fun a ha => by
        rcases (meetL_mem _ _ a).1 ha with h1 | h1
        · exact ho a h1
        · exact hb a h1
theorem walk_fuel {y : List DNode × List DVal} (hg : GF y) : ∀ (f f' : Nat) (o : List Int) (i : Nat), OrdOK y.1 o → y.1.length - i < f → y.1.length - i < f' → S.walk y.1 f o i = S.walk y.1 f' o i
  | 0, _, _, _, _, h, _ => by omega
  | _, 0, _, _, _, _, h => by omega
  | f + 1, f' + 1, o, i, ho, h1, h2 => by
    simp only [S.walk]
    cases hk : o[i]? with
    | none => rfl
    | some k =>
      have hi : i < o.length := (List.getElem?_eq_some_iff.1 hk).1
      have hlen := ho.len
      obtain ⟨k1, k2⟩ := ho.lt k (List.mem_of_getElem? hk)
      obtain ⟨v, v1, v2, v3⟩ := jget_of (l := y.1) k1 k2
      simp only [v1]
      exact walk_fuel hg f f' _ (i + 1) (ho.meet (hg.ref v v3)) (by omega) (by omega)
theorem ord_emb {π : Int → Int} {x y : List DNode × List DVal} (h : Emb π x y) (hg : GF x) (hy : GF y) (hl : x.1.length ≤ y.1.length) : S.ord y = (S.ord x).map π ∧ Bnd x.1.length (S.ord x) := by
  have hb : Bnd x.1.length (S.refsL x.2) := hg.rref
  have e : S.refsL y.2 = (S.refsL x.2).map π := by rw [h.roots]; exact refsL_map π _
  have em : S.meetL [] (S.refsL y.2) = (S.meetL [] (S.refsL x.2)).map π := by
    rw [e]; exact meetL_map h.inj (S.refsL x.2) [] (fun a ha => by cases ha) hb
  have hb2 : Bnd x.1.length (S.meetL [] (S.refsL x.2)) := fun a ha => by
    rcases (meetL_mem _ _ a).1 ha with h1 | h1
    · cases h1
    · exact hb a h1
  have ho : OrdOK x.1 (S.meetL [] (S.refsL x.2)) := ⟨meetL_nodup _ _ List.nodup_nil, hb2⟩
  have := walk_emb h hg (y.1.length + 1) (S.meetL [] (S.refsL x.2)) 0 hb2
  have ef : S.ord x = S.walk x.1 (y.1.length + 1) (S.meetL [] (S.refsL x.2)) 0 := walk_fuel hg _ _ _ _ ho (Nat.lt_succ_of_le (Nat.sub_le _ _)) (Nat.lt_succ_of_le (Nat.le_trans (Nat.sub_le _ _) hl))
  rw [ef]
  refine ⟨?_, this.2⟩
  show S.walk y.1 (y.1.length + 1) (S.meetL [] (S.refsL y.2)) 0 = _
  rw [em]
  exact this.1
theorem canonG_emb {π : Int → Int} {x y : List DNode × List DVal} (h : Emb π x y) (hg : GF x) (hy : GF y) (hl : x.1.length ≤ y.1.length) : S.canonG y = S.canonG x := by
  obtain ⟨e, hb⟩ := ord_emb h hg hy hl
  have hr : S.movedL (S.tab ((S.ord x).map π)) y.2 = S.movedL (S.tab (S.ord x)) x.2 := by
    rw [h.roots]; exact movedL_map h.inj hb x.2 hg.rref
  have hn : ∀ k ∈ S.ord x, S.newNode y.1 (S.tab ((S.ord x).map π)) (π k) = S.newNode x.1 (S.tab (S.ord x)) k := fun k hk => by
    obtain ⟨k1, k2⟩ := hb k hk
    obtain ⟨v, v1, v2, v3⟩ := jget_of (l := x.1) k1 k2
    have hy := h.node k v v1
    unfold S.newNode S.nodeAt
    rw [v1, hy]
    have := movedL_map h.inj hb (v : ByteArray × List DVal).2 (hg.ref v v3)
    show (((v : ByteArray × List DVal).1, S.movedL (S.tab ((S.ord x).map π)) (List.map (α := Int × Int) (β := Int × Int) (S.mvV π) (v : ByteArray × List DVal).2)) : ByteArray × List DVal) = _
    rw [this]; rfl
  show ((((S.ord y).map (S.newNode y.1 (S.tab (S.ord y))), S.movedL (S.tab (S.ord y)) y.2) : List DNode × List DVal)) = ((((S.ord x).map (S.newNode x.1 (S.tab (S.ord x))), S.movedL (S.tab (S.ord x)) x.2) : List DNode × List DVal))
  rw [e, hr, List.map_map]
  congr 1
  exact List.map_congr_left fun k hk => hn k hk
def Closed (nd : List DNode) (o : List Int) : Prop := ∀ a ∈ o, ∀ k ∈ S.refsL (S.nodeAt nd a : ByteArray × List DVal).2, k ∈ o
theorem walk_closed {y : List DNode × List DVal} (hg : GF y) : ∀ (f : Nat) (o : List Int) (i : Nat), OrdOK y.1 o → i ≤ o.length → y.1.length - i < f → (∀ j (h : j < o.length), j < i → ∀ k ∈ S.refsL (S.nodeAt y.1 o[j] : ByteArray × List DVal).2, k ∈ o) →
    OrdOK y.1 (S.walk y.1 f o i) ∧ Closed y.1 (S.walk y.1 f o i) ∧ ∀ k ∈ o, k ∈ S.walk y.1 f o i
  | 0, _, _, _, _, h, _ => by omega
  | f + 1, o, i, ho, hi, h1, hc => by
    simp only [S.walk]
    cases hk : o[i]? with
    | none =>
      have hie : o.length ≤ i := List.getElem?_eq_none_iff.1 hk
      refine ⟨ho, fun a ha k hk2 => ?_, fun k hk => hk⟩
      obtain ⟨j, hj, rfl⟩ := List.mem_iff_getElem.1 ha
      exact hc j hj (Nat.lt_of_lt_of_le hj hie) k hk2
    | some k =>
      obtain ⟨hi, hik⟩ := List.getElem?_eq_some_iff.1 hk
      have hlen := ho.len
      obtain ⟨k1, k2⟩ := ho.lt k (List.mem_of_getElem? hk)
      obtain ⟨v, v1, v2, v3⟩ := jget_of (l := y.1) k1 k2
      simp only [v1]
      have hnv : S.nodeAt y.1 k = v := by unfold S.nodeAt; rw [v1]; rfl
      obtain ⟨t, ht⟩ := meetL_pre (S.refsL (v : ByteArray × List DVal).2) o
      have hl2 := meetL_len (S.refsL (v : ByteArray × List DVal).2) o
      obtain ⟨r1, r2, r3⟩ := walk_closed hg f (S.meetL o (S.refsL (v : ByteArray × List DVal).2)) (i + 1) (ho.meet (hg.ref v v3)) (by omega) (by omega) fun j hj hji k' hk' => by
        have hjo : j < o.length := by omega
        have e : (S.meetL o (S.refsL (v : ByteArray × List DVal).2))[j] = o[j] := by
          simp only [ht]
          exact List.getElem_append_left hjo
        rw [e] at hk'
        refine (meetL_mem _ _ _).2 ?_
        by_cases hje : j < i
        · exact .inl (hc j hjo hje k' hk')
        · have : j = i := by omega
          subst this
          rw [hik, hnv] at hk'
          exact .inr hk'
      exact ⟨r1, r2, fun a ha => r3 a ((meetL_mem _ _ _).2 (.inl ha))⟩
theorem ord_closed {y : List DNode × List DVal} (hg : GF y) : OrdOK y.1 (S.ord y) ∧ Closed y.1 (S.ord y) ∧ ∀ k ∈ S.refsL y.2, k ∈ S.ord y := by
  have ho : OrdOK y.1 (S.meetL [] (S.refsL y.2)) := ⟨meetL_nodup _ _ List.nodup_nil, fun a ha => by
    rcases (meetL_mem _ _ a).1 ha with h1 | h1
    · cases h1
    · exact hg.rref a h1⟩
  obtain ⟨r1, r2, r3⟩ := walk_closed hg (y.1.length + 1) (S.meetL [] (S.refsL y.2)) 0 ho (Nat.zero_le _) (by omega) (fun j h h' => by omega)
  exact ⟨r1, r2, fun k hk => r3 k ((meetL_mem _ _ _).2 (.inr hk))⟩
def S.atO (o : List Int) (k : Int) : Int := (o[k.toNat]?).getD 0
theorem atO_pi {o : List Int} {k : Int} (h : k ∈ o) : S.atO o (S.piO o k) = k := by
  have h1 := List.idxOf_lt_length_of_mem h
  show (o[(Int.ofNat (o.idxOf k)).toNat]?).getD 0 = k
  rw [show (Int.ofNat (o.idxOf k)).toNat = o.idxOf k from rfl, List.getElem?_eq_getElem h1, List.getElem_idxOf h1]; rfl
theorem mv_back {o : List Int} : ∀ l : List (Int × Int), (∀ k ∈ S.refsL l, k ∈ o) → List.map (S.mvV (S.atO o)) (S.movedL (S.tab o) l) = l := fun l hl => by
  rw [movedL_pi l hl]
  induction l with
  | nil => rfl
  | cons v l ih =>
    have hl2 : ∀ k ∈ S.refsL l, k ∈ o := fun k hk => hl k (by
      simp only [S.refsL]; split
      · exact List.mem_cons_of_mem _ hk
      · exact hk)
    simp only [List.map_cons]
    rw [ih hl2]
    congr 1
    unfold S.mvV
    by_cases h4 : v.1 = 4
    · rw [if_pos h4, if_pos h4]
      have : v.2 ∈ o := hl v.2 (by
        simp only [S.refsL]
        rw [if_pos h4]; exact List.mem_cons_self)
      rw [atO_pi this]
    · rw [if_neg h4, if_neg h4]
theorem canon_nodeAt {x : List DNode × List DVal} {k : Int} {v : ByteArray × List DVal} (h : jget (S.canonG x : List DNode × List DVal).1 k = some v) : 0 ≤ k ∧ ∃ hk : k.toNat < (S.ord x).length, v = S.newNode x.1 (S.tab (S.ord x)) (S.ord x)[k.toNat] := by
  obtain ⟨h0, hi, e⟩ := jget_some h
  have hl : ((S.ord x).map (S.newNode x.1 (S.tab (S.ord x)))).length = (S.ord x).length := List.length_map _
  refine ⟨h0, by rw [← hl]; exact hi, ?_⟩
  rw [← e]
  exact List.getElem_map _
theorem emb_canon {x : List DNode × List DVal} (hg : GF x) : Emb (S.atO (S.ord x)) (S.canonG x) x := by
  obtain ⟨ho, hc, hr⟩ := ord_closed hg
  have hl : (S.canonG x : List DNode × List DVal).1.length = (S.ord x).length := by
    show ((S.ord x).map _).length = _
    rw [List.length_map]
  have hat : ∀ {k : Int} (hk : k.toNat < (S.ord x).length), S.atO (S.ord x) k = (S.ord x)[k.toNat] := fun {k} hk => by
    unfold S.atO
    rw [List.getElem?_eq_getElem hk]; rfl
  refine ⟨fun a b a1 a2 b1 b2 e => ?_, fun k v hv => ?_, ?_⟩
  · rw [hl] at a2 b2
    have a3 : (a.toNat : Int) = a := Int.toNat_of_nonneg a1
    have b3 : (b.toNat : Int) = b := Int.toNat_of_nonneg b1
    have a2 : a < ((S.ord x).length : Int) := a2
    have b2 : b < ((S.ord x).length : Int) := b2
    have a4 : a.toNat < (S.ord x).length := by omega
    have b4 : b.toNat < (S.ord x).length := by omega
    rw [hat a4, hat b4] at e
    have := (List.getElem_inj ho.nodup).1 e
    omega
  · obtain ⟨h0, hk, rfl⟩ := canon_nodeAt hv
    rw [hat hk]
    have hm : (S.ord x)[k.toNat] ∈ S.ord x := List.getElem_mem hk
    obtain ⟨k1, k2⟩ := ho.lt _ hm
    obtain ⟨w, w1, w2, w3⟩ := jget_of (l := x.1) k1 k2
    have hcl := hc _ hm
    rw [w1]
    have hnw : S.nodeAt x.1 (S.ord x)[k.toNat] = w := by unfold S.nodeAt; rw [w1]; rfl
    unfold S.newNode
    rw [hnw] at hcl ⊢
    have := mv_back (o := S.ord x) (w : ByteArray × List DVal).2 hcl
    show some w = some ((w.1, List.map (S.mvV (S.atO (S.ord x))) (S.movedL (S.tab (S.ord x)) w.2)) : ByteArray × List DVal)
    rw [this]
  · exact (mv_back (o := S.ord x) x.2 hr).symm
end Go.Proofs.Ytcnhjofpmpipfaa
end

/- The canonical form of a formed graph is formed, and is its own canonical form. -/
section
set_option linter.unusedVariables false
namespace Go.Proofs.Ytcnhjofpmpipfaa
open Go Go.Sx Go.RowKit Go.Jx
theorem mvV_kind (π : Int → Int) (v : Int × Int) : (S.mvV π v).1 = v.1 := by
  unfold S.mvV
  split <;> rfl
theorem value_mv2 {n m : Nat} (h : n ≤ 400) (h' : m ≤ 400) {π : Int → Int} (v : Int × Int) (hb : v.1 = 4 → 0 ≤ π v.2 ∧ π v.2 < Int.ofNat m) (hv : S.value v (Int.ofNat n) = true) : S.value (S.mvV π v) (Int.ofNat m) = true := by
  unfold S.mvV
  by_cases h4 : v.1 = 4
  · rw [if_pos h4]
    exact (value_iff h' _).2 (.inr (.inr (.inr ⟨h4, hb h4⟩)))
  · rw [if_neg h4]
    rcases (value_iff h v).1 hv with e | e | e | ⟨e, _⟩
    · exact (value_iff h' _).2 (.inl e)
    · exact (value_iff h' _).2 (.inr (.inl e))
    · exact (value_iff h' _).2 (.inr (.inr (.inl e)))
    · exact absurd e h4
theorem refsL_mem {l : List (Int × Int)} {v : Int × Int} (hv : v ∈ l) (h4 : v.1 = 4) : v.2 ∈ S.refsL l := by
  induction l with
  | nil => cases hv
  | cons w l ih =>
    simp only [S.refsL]
    rcases List.mem_cons.1 hv with rfl | hv
    · rw [if_pos h4]; exact List.mem_cons_self
    · split
      · exact List.mem_cons_of_mem _ (ih hv)
      · exact ih hv
theorem canon_mem {x : List DNode × List DVal} (hg : GF x) {m : ByteArray × List DVal} (hm : m ∈ (S.canonG x : List DNode × List DVal).1) : ∃ a ∈ S.ord x, ∃ w : ByteArray × List DVal, jget x.1 a = some w ∧ w ∈ x.1 ∧ (∀ k ∈ S.refsL w.2, k ∈ S.ord x) ∧ m = (w.1, w.2.map (S.mvV (S.piO (S.ord x)))) := by
  obtain ⟨ho, hc, hr⟩ := ord_closed hg
  obtain ⟨a, ha, rfl⟩ := List.mem_map.1 (show m ∈ (S.ord x).map (S.newNode x.1 (S.tab (S.ord x))) from hm)
  obtain ⟨k1, k2⟩ := ho.lt a ha
  obtain ⟨w, w1, w2, w3⟩ := jget_of (l := x.1) k1 k2
  have hnw : S.nodeAt x.1 a = w := by unfold S.nodeAt; rw [w1]; rfl
  have hcl := hc a ha
  rw [hnw] at hcl
  refine ⟨a, ha, w, w1, w3, hcl, ?_⟩
  unfold S.newNode
  rw [hnw, movedL_pi _ hcl]
theorem canon_roots {x : List DNode × List DVal} (hg : GF x) : (S.canonG x : List DNode × List DVal).2 = x.2.map (S.mvV (S.piO (S.ord x))) := movedL_pi _ (ord_closed hg).2.2
theorem canon_len {x : List DNode × List DVal} : (S.canonG x : List DNode × List DVal).1.length = (S.ord x).length := by
  show ((S.ord x).map _).length = _
  rw [List.length_map]
theorem piO_lt {o : List Int} {k : Int} (h : k ∈ o) : 0 ≤ S.piO o k ∧ S.piO o k < Int.ofNat o.length := by
  have h3 := List.idxOf_lt_length_of_mem h
  refine ⟨Int.natCast_nonneg _, ?_⟩
  show (o.idxOf k : Int) < (o.length : Int)
  omega
theorem canon_formed2 {x : List DNode × List DVal} (hx : S.formed x = 0) : S.formed (S.canonG x) = 0 := by
  obtain ⟨f1, f2, f3, f4, f5⟩ := formed_zero hx
  have hg := gf_of hx
  obtain ⟨ho, hc, hr⟩ := ord_closed hg
  have hlen := ho.len
  have h400 : (S.ord x).length ≤ 400 := Nat.le_trans hlen f1
  refine formed_of (by rw [canon_len]; exact h400) (by rw [canon_roots hg, List.length_map]; exact f2) (fun m hm => ?_) (fun m hm v hv => ?_) (fun v hv => ?_)
  · obtain ⟨a, ha, w, w1, w2, w3, rfl⟩ := canon_mem hg hm
    have := f3 w w2
    show (List.map _ _).length ≤ 30
    rw [List.length_map]; exact this
  · obtain ⟨a, ha, w, w1, w2, w3, rfl⟩ := canon_mem hg hm
    obtain ⟨u, hu, rfl⟩ := List.mem_map.1 (show v ∈ List.map (S.mvV (S.piO (S.ord x))) w.2 from hv)
    rw [canon_len]
    exact value_mv2 f1 h400 u (fun h4 => piO_lt (w3 _ (refsL_mem hu h4))) (f4 w w2 u hu)
  · rw [canon_roots hg] at hv
    obtain ⟨u, hu, rfl⟩ := List.mem_map.1 hv
    obtain ⟨g1, g2⟩ := f5 u hu
    refine ⟨by rw [canon_len]; exact value_mv2 f1 h400 u (fun h4 => piO_lt (hr _ (refsL_mem hu h4))) g1, ?_⟩
    have hk := mvV_kind (S.piO (S.ord x)) u
    unfold S.refers at g2 ⊢
    rw [hk]; exact g2
theorem canon_idem {x : List DNode × List DVal} (hx : S.formed x = 0) : S.canonG (S.canonG x) = S.canonG x := by
  have hg := gf_of hx
  have hc := gf_of (canon_formed2 hx)
  have hl : (S.canonG x : List DNode × List DVal).1.length ≤ x.1.length := by rw [canon_len]; exact (ord_closed hg).1.len
  exact (canonG_emb (emb_canon hg) hc hg hl).symm
end Go.Proofs.Ytcnhjofpmpipfaa
end

/- Contracts out of runs that begin with own slices under new numbers: so they may grow in loops. -/
section
set_option linter.unusedVariables false
namespace Go.Jx
open Go Go.Sx Go.RowKit
universe u

def mvV (S : IS) (v : IV) : IV × IS := match v with
  | .arr id => match S.heap.get id with
    | some (.arr c l) => (.arr S.next, (S.set id .dead).new (.arr c l))
    | _ => (.arr id, S)
  | v => (v, S)
section
variable {P : Program} {tt : Nat → Option TI} {ft : Nat → Option FI}
end
end Go.Jx
end

/- What canon, number, Sum, Encode compute: one form for both sides. -/
section
set_option linter.unusedVariables false
noncomputable section
namespace Go.Proofs.Ytcnhjofpmpipfaa
open Go Go.Sx Go.RowKit Go.Jx
namespace S
def numU : Nat → Int → List Int
  | 0, u => [u]
  | f + 1, u => if u < 128 then [u] else (128 + u % 128) :: numU f (u / 128)
def num (n : Int) : List Int := numU 10 (if n < 0 then -2 * n - 1 else 2 * n)
def numOK (n : Int) : Bool := decide (-2000000000000 ≤ n) && decide (n ≤ 2000000000000)
def sumStep (s v : Int) : Int := Int.tmod (IntKind.i64.wrap (Int.add (IntKind.i64.wrap (Int.mul (Int.ofNat 31) s)) (IntKind.i64.wrap v))) (Int.ofNat 2147483647)
def sumI (b : List Int) : Int := b.foldl sumStep 1
def sum4I (s : Int) : List Int := [IntKind.u8.wrap (Int.fdiv s (Int.ofNat 16777216)), IntKind.u8.wrap (Int.fdiv s (Int.ofNat 65536)), IntKind.u8.wrap (Int.fdiv s (Int.ofNat 256)), IntKind.u8.wrap s]
def sum4 (b : List Int) : List Int := sum4I (sumI b)
def code (v : Int × Int) : Int := if v.1 = 3 then 0 else if v.1 = 4 then IntKind.i64.wrap (v.2 + 1) else v.2
def codes (l : List (Int × Int)) : List Int := l.flatMap fun v => num (code v)
def encN (l : List DForm) (n : ByteArray × List (Int × Int)) : List Int := num (S.form l n.1) ++ codes n.2
def enc (l : List DForm) (g : List DNode × List DVal) : List Int := num (Int.ofNat g.1.length) ++ (g.1.flatMap (encN l) ++ (num (Int.ofNat g.2.length) ++ codes g.2))
def encB (l : List DForm) (g : DGraph) : List Int × Int :=
  if S.checkG l g = 0 then (if 60000 < (enc l (S.canonG g)).length + 4 then ([], 3) else (enc l (S.canonG g) ++ sum4 (enc l (S.canonG g)), 0)) else ([], S.checkG l g)
end S
def sp_p_number : Sm := ⟨[.int .i64], [(false, .list (.int .u8))], fun x => cond (S.numOK x.1) (some (S.num x.1, ())) none⟩
def sp_p_sumL : SmR := ⟨[.ref (.sl (.int .u8))], [(true, .int .u8)], fun x => match x.1 with
  | some b => some ((S.sum4 b, ()), (some b, ()))
  | none => none⟩
def sp_p_code : Sm := ⟨[cVal], [(false, .int .i64)], fun x => some (S.code x.1, ())⟩
def sp_p_Encode : Sm := ⟨[.list cForm, cGraph], [(false, .list (.int .u8)), (false, .int .i64)], fun x => some ((S.encB x.1 x.2.1).1, (S.encB x.1 x.2.1).2, ())⟩
end Go.Proofs.Ytcnhjofpmpipfaa

end
end

/- What the law's bounds and the comparisons compute. -/
section
set_option linter.unusedVariables false
noncomputable section
namespace Go.Proofs.Ytcnhjofpmpipfaa
open Go Go.Sx Go.RowKit Go.Jx
namespace S
def sameVals (a b : List DVal) : Bool := decide (a = b)
def sameGraphs (a b : DGraph) : Bool := decide (a = b)
end S
def sp_r_SameVals : Sm := ⟨[.list cVal, .list cVal], [(false, .bool)], fun x => some (S.sameVals x.1 x.2.1, ())⟩
def sp_r_SameGraphs : Sm := ⟨[cGraph, cGraph], [(false, .bool)], fun x => some (S.sameGraphs x.1 x.2.1, ())⟩
namespace S
def fewForms (l : List DForm) : Bool :=
  l.all (fun f => decide (f.1.size ≤ 30 ∧ (f.2.length ≤ 6 ∨ 30 < f.2.length) ∧ f.2.length ≤ 40) && f.2.all fun c => decide (c.1.size ≤ 30 ∧ c.2.2.size ≤ 30)) && decide (l.length ≤ 6 ∨ 24 < l.length ∧ l.length ≤ 30)
def few (g : DGraph) : Bool :=
  g.1.all (fun n => decide ((n.2.length ≤ 8 ∨ 30 < n.2.length) ∧ n.2.length ≤ 40)) && decide ((g.1.length ≤ 30 ∨ 400 < g.1.length ∧ g.1.length ≤ 410) ∧ (g.2.length ≤ 10 ∨ 60 < g.2.length ∧ g.2.length ≤ 70))
end S
def sp_l_fewForms : Sm := ⟨[.list cForm], [(false, .bool)], fun x => some (S.fewForms x.1, ())⟩
def sp_l_few : Sm := ⟨[cGraph], [(false, .bool)], fun x => some (S.few x.1, ())⟩
def sp_l_sanity : Sm := ⟨[], [(false, .bool)], fun _ => some (true, ())⟩
end Go.Proofs.Ytcnhjofpmpipfaa

end
end

/- What Join and Part compute: one form for both sides. -/
section
set_option linter.unusedVariables false
noncomputable section
namespace Go.Proofs.Ytcnhjofpmpipfaa
open Go Go.Sx Go.RowKit Go.Jx
namespace S
def byV (many : Int) (v : Int × Int) : Int × Int := if v.1 = 4 then (v.1, IntKind.i64.wrap (Int.add v.2 many)) else v
def byL (l : List (Int × Int)) (many : Int) : List (Int × Int) := l.map (byV many)
def byN (many : Int) (n : ByteArray × List (Int × Int)) : ByteArray × List (Int × Int) := (n.1, byL n.2 many)
def joinG (a b : List (ByteArray × List (Int × Int)) × List (Int × Int)) : List (ByteArray × List (Int × Int)) × List (Int × Int) := (a.1 ++ b.1.map (byN (Int.ofNat a.1.length)), a.2 ++ byL b.2 (Int.ofNat a.1.length))
def growOK (n : Int) : Bool := decide (0 ≤ n) && decide (n ≤ 1000000)
def zG : DGraph := (([], []) : List DNode × List DVal)
def joinB (a b : DGraph) : DGraph × Int :=
  if ¬ S.formed a = 0 then (zG, S.formed a) else if ¬ S.formed b = 0 then (zG, S.formed b)
  else if 400 < List.length (α := DNode) a.1 + List.length (α := DNode) b.1 ∨ 60 < List.length (α := DVal) a.2 + List.length (α := DVal) b.2 then (zG, 3) else (joinG a b, 0)
def partB (g : DGraph) (k : Int) : DGraph × Int :=
  if ¬ S.formed g = 0 then (zG, S.formed g) else match jget (α := DVal) g.2 k with
    | none => (zG, 1)
    | some v => (S.canonG ((g.1, [v]) : List DNode × List DVal), 0)
end S
def sp_p_Join_1 : Sm := ⟨[.list cVal, .int .i64], [(false, .list cVal)], fun x => some (S.byL x.1 x.2.1, ())⟩
def sp_slices_Concat_Val : Sm := ⟨[.list (.list cVal)], [(false, .list cVal)], fun x => cond (Nat.ble (List.length (List.flatten (α := DVal) x.1)) 1000000) (some (List.flatten (α := DVal) x.1, ())) none⟩
def sp_p_Join : Sm := ⟨[cGraph, cGraph], [(false, cGraph), (false, .int .i64)], fun x => some ((S.joinB x.1 x.2.1).1, (S.joinB x.1 x.2.1).2, ())⟩
def sp_p_PartB : Sm := ⟨[cGraph, .int .i64], [(false, cGraph), (false, .int .i64)], fun x => some ((S.partB x.1 x.2.1).1, (S.partB x.1 x.2.1).2, ())⟩
end Go.Proofs.Ytcnhjofpmpipfaa

end
end

/- The calls of slices.Grow on nil. -/
section
set_option linter.unusedVariables false
set_option maxRecDepth 100000
namespace Go.Sx
open Go
section
variable {P : Program} {ops : Array Oper} {Q : Exit → Act → World → Prop} {n : Nat} {σ : Nat → Value} {w : World} {rest : List Oper} {d : Nat} {ty : TypeId} {pos : String} {aft : Array Edge} {g : Option (Nat × Bool)}
theorem op_cap {T E : TypeId} {size bytes : Nat} {zero : Value} {x : Operand} {a : Option Addr} {l c : Nat} (hT : Ty P T (.slice E) size bytes zero) (hg : wantF ops σ n g = true) (hx : okO n x = true) (ex : ev σ x = .slice a l c)
    (k : wpList P ops Q rest (Fr n (upd σ d (.int .i64 c))) w) : wpList P ops Q (⟨some d, .call ⟨.builtin .cap, #[x], #[T]⟩, ty, pos, aft, g⟩ :: rest) (Fr n σ) w :=
  op_val hg (by
    have h1 : (#[x].map (Fr n σ).eval) = #[Value.slice a l c] := by simp [eval_Fr hx, ex]
    simp only [execOp, resolve, h1, invoke, builtin, Builtin.cap_, Sem.run_bind, Sem.run_pure, Result.andThen_ok, List.getElem?_toArray, List.getElem?_cons_zero, run_underlying hT.und, goInt]) k
theorem run_slice0 {T E : TypeId} {size bytes s b2 : Nat} {zero z2 : Value} {D : TypeDesc} {a : Option Addr} {l c : Nat} (hT : Ty P T (.slice E) size bytes zero) (hE : Ty P E D s b2 z2) (ha : ∀ b, a = some b → b.spot = none) :
    (Instr.sliceAt T (.slice a l c) none (some (.int .i64 0)) none).run P w = .ok (.slice a 0 c) w := by
  have e : (Instr.sliceBounds true l c none (some (.int .i64 0)) none).run P w = .ok (0, 0, c) w := by
    simp [Instr.sliceBounds, Instr.sliceBound, asIntOf, Sem.run_bind, Sem.run_pure, Result.andThen_ok]
  simp only [Instr.sliceAt, Sem.run_bind, run_underlying hT.und, Result.andThen_ok, Instr.slice, e, run_sizeOf hE, Sem.run_pure]
  cases a with
  | none => simp
  | some b =>
    have hb := ha b rfl
    obtain ⟨b1, b2, b3⟩ := b
    simp only at hb
    subst hb
    by_cases hc : c = 0
    · simp [hc]
    · simp [hc, Addr.add]
theorem op_slice0 {T E : TypeId} {size bytes s b2 : Nat} {zero z2 : Value} {D : TypeDesc} {x y : Operand} {a : Option Addr} {l c : Nat} (hT : Ty P T (.slice E) size bytes zero) (hE : Ty P E D s b2 z2) (ha : ∀ b, a = some b → b.spot = none) (hg : wantF ops σ n g = true) (hx : (okO n x && okO n y) = true) (ex : ev σ x = .slice a l c) (ey : ev σ y = .int .i64 0)
    (k : wpList P ops Q rest (Fr n (upd σ d (.slice a 0 c))) w) : wpList P ops Q (⟨some d, .slice T x none (some y) none, ty, pos, aft, g⟩ :: rest) (Fr n σ) w :=
  op_val hg (by
    simp only [Bool.and_eq_true] at hx
    simp only [execOp, Option.map_none, Option.map_some, eval_Fr hx.1, eval_Fr hx.2, ex, ey, run_slice0 hT hE ha, Sem.run_bind, Sem.run_pure, Result.andThen_ok]) k
theorem op_appendZ {T N : TypeId} {x y : Operand} {u v r : Value} {w' : World} (hr : ∀ ty, (Builtin.append_ #[T, N] ty #[u, v]).run P w = .ok r w') (hg : wantF ops σ n g = true) (hx : (okO n x && okO n y) = true) (ex : ev σ x = u) (ey : ev σ y = v)
    (k : wpList P ops Q rest (Fr n (upd σ d r)) w') : wpList P ops Q (⟨some d, .call ⟨.builtin .append, #[x, y], #[T, N]⟩, ty, pos, aft, g⟩ :: rest) (Fr n σ) w :=
  op_val hg (by
    simp only [Bool.and_eq_true] at hx
    have h1 : (#[x, y].map (Fr n σ).eval) = #[u, v] := by simp [eval_Fr hx.1, eval_Fr hx.2, ex, ey]
    simp only [execOp, resolve, h1, invoke, builtin, hr, Sem.run_bind, Sem.run_pure, Result.andThen_ok]) k
end
end Go.Sx
namespace Go.Proofs.Ytcnhjofpmpipfaa
open Go Go.Sx Go.RowKit Go.Jx
theorem zsz (k G : Nat) (h : k ≤ G) : G * 2 ≤ (Builtin.zeroCells (Value.agg #[.int .i64 0, .int .i64 0]).cells k ++ Builtin.zeroCells (Value.agg #[.int .i64 0, .int .i64 0]).cells (G - k)).size := by
  have e : ∀ m, (Builtin.zeroCells (Value.agg #[.int .i64 0, .int .i64 0]).cells m).size = m * 2 := fun m => by
    simp [Builtin.zeroCells, Value.cells]
  rw [Array.size_append, e, e]; omega
theorem grow_walk {w : World} {n : Int} (h0 : 0 ≤ n) (h1 : n ≤ 1000000) : Calls Try.prog 117 #[.slice none 0 0, .int .i64 n] w
    (Ret fun v w' => (v = .slice none 0 0 ∧ w' = w) ∨ ∃ (nc : Nat) (cells : Array Value), v = .slice (some ⟨w.heap.size, 0, none⟩) 0 nc ∧ w' = w.drew.alloc (.cells cells 51) ∧ nc * 2 ≤ cells.size ∧ nc < 9223372036854775808) := by
  refine enter (l := [.slice none 0 0, .int .i64 n]) Try.func117 rfl Try.ntmps117 rfl ?_
  refine c_seq fun KhK1 hK1 => ?_
  refine c_reg ?_
  refine op_assign (v := .slice none 0 0) rfl rfl rfl ?_
  refine wpList_nil ?_
  refine hK1 _ _ ?_
  refine c_seq fun KhK2 hK2 => ?_
  refine c_seq fun KhK3 hK3 => ?_
  refine c_reg ?_
  refine op_move (v := .int .i64 n) rfl rfl rfl ?_
  refine op_lss (a := n) (b := 0) rfl rfl rfl rfl ?_
  refine wpList_nil ?_
  refine hK3 _ _ ?_
  refine c_if rfl rfl (fun hb4 => absurd hb4 (by omega)) (fun hb4 => ?_)
  refine wp_skip ?_
  refine hK2 _ _ ?_
  refine c_seq fun KhK4 hK4 => ?_
  refine c_seq fun KhK5 hK5 => ?_
  refine c_reg ?_
  refine op_move (v := .int .i64 n) rfl rfl rfl ?_
  refine op_move (v := .slice none 0 0) rfl rfl rfl ?_
  refine op_cap (a := none) (l := 0) (c := 0) ty24 rfl rfl rfl ?_
  refine op_move (v := .slice none 0 0) rfl rfl rfl ?_
  refine op_len (a := none) (l := 0) (c := 0) ty24 rfl rfl rfl ?_
  refine op_sub (a := 0) (b := 0) rfl rfl rfl rfl (by omega) ?_
  refine op_sub (a := n) (b := 0 - 0) rfl rfl rfl rfl (by omega) ?_
  refine op_assign (v := .int .i64 (n - (0 - 0))) rfl rfl rfl ?_
  refine wpList_nil ?_
  refine hK5 _ _ ?_
  refine c_seq fun KhK6 hK6 => ?_
  refine c_reg ?_
  refine op_move (v := .int .i64 (n - (0 - 0))) rfl rfl rfl ?_
  refine op_gtr (a := n - (0 - 0)) (b := 0) rfl rfl rfl rfl ?_
  refine wpList_nil ?_
  refine hK6 _ _ ?_
  refine c_if rfl rfl (fun hb7 => ?_) (fun hb7 => ?_)
  · refine c_reg ?_
    have hn : ∃ k : Nat, n - (0 - 0) = (k : Int) ∧ 0 < k ∧ k ≤ 1000000 := ⟨n.toNat, by omega, by omega, by omega⟩
    obtain ⟨k, e, k0, k1⟩ := hn
    rw [e] at *
    have hi : ∃ i, Try.prog.info? 51 = some i ∧ i.size = 2 ∧ i.bytes = 16 ∧ i.zero = some (.agg #[.int .i64 0, .int .i64 0]) := ty51.inf
    obtain ⟨i, i1, i2, i3, i4⟩ := hi
    have hrun : ∀ ty, (Builtin.append_ #[24, 3] ty #[.slice none 0 0, .int .i64 k]).run Try.prog w = _ := fun ty =>
      Go.Lib.run_append_nil_zeros (P := Try.prog) w 24 3 ty 51 i _ .i64 .i64 ty24.und ty3.und i1 i4 k k0 (by rw [i2]; omega) (by omega) (by rw [i3]; omega)
    refine op_move (v := .slice none 0 0) rfl rfl rfl ?_
    refine op_move (v := .slice none 0 0) rfl rfl rfl ?_
    refine op_cap (a := none) (l := 0) (c := 0) ty24 rfl rfl rfl ?_
    refine op_slice0 (a := none) (l := 0) (c := 0) ty24 ty51 (fun _ h => by cases h) rfl rfl rfl rfl ?_
    refine op_move (v := .int .i64 k) rfl rfl rfl ?_
    refine op_appendZ hrun rfl rfl rfl rfl ?_
    refine op_move (v := .slice none 0 0) rfl rfl rfl ?_
    refine op_len (a := none) (l := 0) (c := 0) ty24 rfl rfl rfl ?_
    refine op_slice0 (a := some ⟨w.heap.size, 0, none⟩) (l := k) (c := grownCap w k 0 51) ty24 ty51 (fun _ h => by cases h; rfl) rfl rfl rfl rfl ?_
    refine op_assign (v := .slice (some ⟨w.heap.size, 0, none⟩) 0 (grownCap w k 0 51)) rfl rfl rfl ?_
    refine wpList_nil ?_
    refine hK4 _ _ ?_
    refine c_seq fun KhK8 hK8 => ?_
    refine c_reg ?_
    refine op_move (v := .slice (some ⟨w.heap.size, 0, none⟩) 0 (grownCap w k 0 51)) rfl rfl rfl ?_
    refine op_assign (v := .slice (some ⟨w.heap.size, 0, none⟩) 0 (grownCap w k 0 51)) rfl rfl rfl ?_
    refine wpList_nil ?_
    refine hK8 _ _ ?_
    refine wp_ret ?_
    exact ret1 Try.results117 rfl (.inr ⟨_, _, rfl, rfl, zsz k (grownCap w k 0 51) (grownCap_ge w _ _ _), by
      have := grownCap_le_maxLen w k 0 51 (by unfold maxLen; omega)
      unfold maxLen at this; omega⟩)
  · refine wp_skip ?_
    refine hK4 _ _ ?_
    refine c_seq fun KhK8 hK8 => ?_
    refine c_reg ?_
    refine op_move (v := .slice none 0 0) rfl rfl rfl ?_
    refine op_assign (v := .slice none 0 0) rfl rfl rfl ?_
    refine wpList_nil ?_
    refine hK8 _ _ ?_
    refine wp_ret ?_
    exact ret1 Try.results117 rfl (.inl ⟨rfl, rfl⟩)
def growF (vs : List IV) (Z : IS) : Option Res := match vs with
  | [.nilsl, .int .i64 n] => cond (S.growOK n) (some ⟨.arr Z.next, Z.new (.arr cVal []), 0, 2 ^ Z.next⟩) none
  | _ => none
def growK (R : Type) (vs : List IV) (Z : IS) (kk : Res → Option R) : Option R := match vs with
  | [.nilsl, .int .i64 n] => cond (S.growOK n) (kk ⟨.arr Z.next, Z.new (.arr cVal []), 0, 2 ^ Z.next⟩) none
  | _ => none
theorem growK_eq (R : Type) (vs : List IV) (Z : IS) (kk : Res → Option R) : growK R vs Z kk = ob (growF vs Z) kk := by
  unfold growK growF
  split
  · rename_i n
    cases S.growOK n <;> rfl
  · rfl
def growHx : Hx := ⟨fun _ vs Z => growF vs Z, fun _ R vs Z kk => growK R vs Z kk, fun _ _ _ R vs Z kk => growK_eq R vs Z kk⟩
theorem growF_inv {vs : List IV} {Z : IS} {r : Res} (h : growF vs Z = some r) : ∃ n, vs = [.nilsl, .int .i64 n] ∧ S.growOK n = true ∧ r = ⟨.arr Z.next, Z.new (.arr cVal []), 0, 2 ^ Z.next⟩ := by
  unfold growF at h
  split at h
  · rename_i n
    cases hb : S.growOK n with
    | false => rw [hb] at h; cases h
    | true => rw [hb, cond_true] at h; cases h; exact ⟨n, rfl, hb, rfl⟩
  · cases h
theorem growHx_ok : HxOK Try.prog 117 growHx.f := ⟨fun cl _ _ _ vs Z r h T E us p hrd hwr hv => by
    obtain ⟨n, rfl, hk, rfl⟩ := growF_inv h
    obtain ⟨u1, us, rfl, a1, a2⟩ := hv.inv
    obtain ⟨u2, us, rfl, a3, a4⟩ := a2.inv
    have e : us = [] := by have := a4.1; simpa using this.symm
    subst e
    cases a1
    cases a3
    unfold S.growOK at hk
    simp only [Bool.and_eq_true, decide_eq_true_eq] at hk
    refine ⟨cal117, (callsIn_wide.2 (grow_walk (w := E.w) hk.1 hk.2)).mono fun e w' hR => ?_⟩
    cases e with
    | returned v =>
      rcases hR with ⟨rfl, rfl⟩ | ⟨nc, cells, rfl, rfl, g1, g2⟩
      · obtain ⟨b1, b2⟩ := Post.ghost (S := Z) (hd := .slice none 0 0) (o := .arr cVal []) p rfl ⟨none, 0, up_self _ _ _, Nat.le_refl _, by omega, by simp, .inl ⟨up_self _ _ _, rfl⟩⟩
        exact ⟨_, E.gho Z.next (.slice none 0 0), rfl, rfl, .arr (Or.inr rfl : E.A Z.next ∨ Z.next = Z.next) (up_self _ _ _), b1, b2⟩
      · have hh : (E.w.drew.alloc (.cells cells 51)).heap = E.w.heap.push (.cells cells.toList.toArray 51) := by rw [Array.toArray_toList]; rfl
        have hz : nc * csz cVal ≤ cells.toList.length := by rw [Array.length_toList]; exact g1
        obtain ⟨E1, e1, e2, e3, e4⟩ := new_arr (S := Z) (c := cVal) (l := []) (cells := cells.toList) (t := 51) (nc := nc) (w' := E.w.drew.alloc (.cells cells 51)) p hh rfl rfl rfl (Nat.zero_le _) g2 (Nat.le_trans (Nat.le_of_eq (Nat.zero_mul _)) (Nat.zero_le _)) hz (arel_nil _ _ _)
        exact ⟨_, E1, rfl, e1, e2, e3, e4⟩
    | panicked c => exact hR.elim
    | outgrown => exact hR.elim,
  fun cl _ vs Z r h => by
    obtain ⟨n, rfl, hk, rfl⟩ := growF_inv h
    exact FrO.new _ rfl,
  fun cl _ vs Z r h hw _ => by
    obtain ⟨n, rfl, hk, rfl⟩ := growF_inv h
    have := Nat.one_le_two_pow (n := Z.next)
    have hw : 2 ^ Z.next = 0 := hw
    omega⟩
theorem ixO117 : HxOK Try.prog 117 growHx.f := growHx_ok
end Go.Proofs.Ytcnhjofpmpipfaa
end

/- Made by program: plain forms of functions. -/
section
set_option linter.unusedVariables false
set_option maxRecDepth 100000
noncomputable section
namespace Go.Proofs.Ytcnhjofpmpipfaa
open Go Go.Sx Go.RowKit Go.Jx
def nm_p_Join_1 : Nat → Option Nm := fun k => cond (Nat.beq k 3) (some ⟨[1, 5, 10, 11], [(5, cVal)], [], [], [], 0, 0, false⟩) (none)
def st_p_Join_1 : Nat → Bool := fun k => cond (Nat.beq k 3) true (false)
def hd_p_Join_1 : Nat → Bool := fun k => cond (Nat.beq k 3) true (false)
abbrev Rt_p_Join_1 : Type := (List DVal) × Unit
def sml_p_Join_1 : List (Nat × Sm) := [(74, sp_slices_CloneO_Val)]
def hxl_p_Join_1 : List (Nat × Hx) := []
def cl_p_Join_1 (R : Type) (lf : Nat) : ClK R := icallK Try.prog ttT.get ftT.get (nm1 81 nm_p_Join_1) (smL sml_p_Join_1) (hxL hxl_p_Join_1) lf 20 R
abbrev id_p_Join_1 : Nat := 81
def enc_p_Join_1_3 (x1 : (List DVal)) (x2 : Int) (p : Int × (List DVal)) : NRes := (NRes.mk (PT.node none (PT.node (some (IV.int Go.IntKind.i64 x2)) (PT.node none PT.leaf (PT.node (some (IV.int Go.IntKind.i64 p.1)) PT.leaf PT.leaf)) (PT.node (some (IV.arr 0)) PT.leaf PT.leaf)) (PT.node none PT.leaf (PT.node none (PT.node (some (IV.int Go.IntKind.i64 (Int.ofNat (List.length x1)))) PT.leaf PT.leaf) PT.leaf))) (IS.mk (PT.node (some (IObj.arr cVal p.2)) PT.leaf PT.leaf) 1) [] 0)
def R_p_Join_1_in (lf : Nat) (x1 : (List DVal)) (x2 : Int) (L3 : (Int × (List DVal)) → Option Rt_p_Join_1) : Option Rt_p_Join_1 := (L3 ((Int.ofNat 0), x1))
def R_p_Join_1_3 (lf : Nat) (x1 : (List DVal)) (x2 : Int) (L3 : (Int × (List DVal)) → Option Rt_p_Join_1) (p : Int × (List DVal)) : Option Rt_p_Join_1 := (cond (iltI p.1 (Int.ofNat (List.length x1))) (match (jget p.2 p.1) with | .none  => none | .some v0 => (match (GetElem?.getElem? p.2 (Int.toNat p.1)) with | .none  => none | .some v1 => (cond (ieqI v1.1 (Int.ofNat 4)) (match (jget p.2 p.1) with | .none  => none | .some v2 => (match (GetElem?.getElem? p.2 (Int.toNat p.1)) with | .none  => none | .some v3 => (match (jget p.2 p.1) with | .none  => none | .some v4 => (match (GetElem?.getElem? p.2 (Int.toNat p.1)) with | .none  => none | .some v5 => (L3 ((Go.IntKind.wrap Go.IntKind.i64 (Int.add p.1 (Int.ofNat 1))), (List.set p.2 (Int.toNat p.1) (v5.1, (Go.IntKind.wrap Go.IntKind.i64 (Int.add v3.2 x2)))))))))) (L3 ((Go.IntKind.wrap Go.IntKind.i64 (Int.add p.1 (Int.ofNat 1))), p.2))))) (some (p.2, ())))
theorem in_p_Join_1 (g : ElA [(.list cVal), (.int .i64)] → Option Rt_p_Join_1) (J : Nat → List Nat → NRes → Option Rt_p_Join_1) (lf : Nat) (x1 : (List DVal)) (x2 : Int) : icodeT Try.prog ttT.get nm_p_Join_1 fi81.nt (cl_p_Join_1 _ lf) lf st_p_Join_1 J fi81.body [] (argGo (argV [(.list cVal), (.int .i64)] (x1, x2, ())) 0 .leaf) S0 [] (lastK ttT.get fi81 ⟨[(.list cVal), (.int .i64)], [(false, (.list cVal))], g⟩) = R_p_Join_1_in lf x1 x2 (fun q => J 3 [lf] (enc_p_Join_1_3 x1 x2 q)) := by kernel_rfl
theorem st_p_Join_1_3 (g : ElA [(.list cVal), (.int .i64)] → Option Rt_p_Join_1) (J : Nat → List Nat → NRes → Option Rt_p_Join_1) (lf : Nat) (x1 : (List DVal)) (x2 : Int) (m1 : Nat) (p : Int × (List DVal)) : icodeFT Try.prog ttT.get nm_p_Join_1 fi81.nt (cl_p_Join_1 _ lf) lf st_p_Join_1 J 3 fi81.body [] [m1] (enc_p_Join_1_3 x1 x2 p) (lastK ttT.get fi81 ⟨[(.list cVal), (.int .i64)], [(false, (.list cVal))], g⟩) = R_p_Join_1_3 lf x1 x2 (fun q => J 3 [m1] (enc_p_Join_1_3 x1 x2 q)) p := by kernel_rfl
theorem nd_p_Join_1 : (regs fi81.body).Nodup := by decide +kernel
theorem ok_p_Join_1 : okC nm_p_Join_1 st_p_Join_1 hd_p_Join_1 fi81.body none = true := by kernel_rfl
def A_p_Join_1 (g : ElA [(.list cVal), (.int .i64)] → Option Rt_p_Join_1) (lf : Nat) : Nat → List Nat → NRes → Option Rt_p_Join_1 := atN Try.prog ttT.get nm_p_Join_1 fi81 ⟨[(.list cVal), (.int .i64)], [(false, (.list cVal))], g⟩ (cl_p_Join_1 _ lf) lf hd_p_Join_1
def G_p_Join_1_3 (lf : Nat) (x1 : (List DVal)) (x2 : Int) : Nat → (Int × (List DVal)) → Option Rt_p_Join_1 := rounds fun K p => R_p_Join_1_3 lf x1 x2 K p
theorem at_p_Join_1_3 (g : ElA [(.list cVal), (.int .i64)] → Option Rt_p_Join_1) (lf : Nat) (x1 : (List DVal)) (x2 : Int) : ∀ (n : Nat) (p : Int × (List DVal)), A_p_Join_1 g lf 3 [n] (enc_p_Join_1_3 x1 x2 p) = G_p_Join_1_3 lf x1 x2 n p
  | 0, p => atN_zero 3 [0] rfl _
  | n + 1, p => by
    have ih := at_p_Join_1_3 g lf x1 x2 n
    refine (atN_eq (icallK_eq 20 _) nd_p_Join_1 ok_p_Join_1 3 [n + 1] [n] rfl _).trans ((st_p_Join_1_3 g (A_p_Join_1 g lf) lf x1 x2 n p).trans ?_)
    rw [(show (fun q => A_p_Join_1 g lf 3 [n] (enc_p_Join_1_3 x1 x2 q)) = (fun q => G_p_Join_1_3 lf x1 x2 n q) from funext ih)]
    rfl
def F_p_Join_1 (lf : Nat) (x1 : (List DVal)) (x2 : Int) : Option Rt_p_Join_1 := R_p_Join_1_in lf x1 x2 (fun q => G_p_Join_1_3 lf x1 x2 lf q)
theorem run_p_Join_1 (g : ElA [(.list cVal), (.int .i64)] → Option Rt_p_Join_1) (lf : Nat) (x1 : (List DVal)) (x2 : Int) : icodeT Try.prog ttT.get nm_p_Join_1 fi81.nt (cl_p_Join_1 _ lf) lf st_p_Join_1 (A_p_Join_1 g lf) fi81.body [] (argGo (argV [(.list cVal), (.int .i64)] (x1, x2, ())) 0 .leaf) S0 [] (lastK ttT.get fi81 ⟨[(.list cVal), (.int .i64)], [(false, (.list cVal))], g⟩) = F_p_Join_1 lf x1 x2 := by
    refine (in_p_Join_1 g (A_p_Join_1 g lf) lf x1 x2).trans ?_
    rw [(show (fun q => A_p_Join_1 g lf 3 [lf] (enc_p_Join_1_3 x1 x2 q)) = (fun q => G_p_Join_1_3 lf x1 x2 lf q) from funext fun q => at_p_Join_1_3 g lf x1 x2 lf q)]
    rfl
theorem hxs_p_Join_1 : HxsOK Try.prog hxl_p_Join_1 := trivial
theorem mk_p_Join_1 {g : ElA [(.list cVal), (.int .i64)] → Option Rt_p_Join_1} (hsm : SmOK Try.prog sml_p_Join_1) (hg : ∀ (x : ElA [(.list cVal), (.int .i64)]) (y : Rt_p_Join_1), WfA [(.list cVal), (.int .i64)] x → g x = some y → ∃ lf, F_p_Join_1 lf x.1 x.2.1 = some y) : Con Try.prog 81 ⟨[(.list cVal), (.int .i64)], [(false, (.list cVal))], g⟩ :=
  conT (nmf := nm_p_Join_1) (sml := sml_p_Join_1) (hxl := hxl_p_Join_1) (st := st_p_Join_1) (hd := hd_p_Join_1) 20 mixed ttOK ftOK hsm hxs_p_Join_1 cal81 rfl rfl (by kernel_rfl) (fun x => by kernel_rfl) nd_p_Join_1 ok_p_Join_1 fun x y hx hy => by
    obtain ⟨lf, h⟩ := hg x y hx hy
    exact ⟨lf, (run_p_Join_1 g lf x.1 x.2.1).trans h⟩
def nm_slices_Concat_Val : Nat → Option Nm := fun k => cond (Nat.beq k 3) (some ⟨[0, 3, 9, 10, 11], [], [], [], [], 0, 0, false⟩) (cond (Nat.beq k 11) (some ⟨[6, 25, 26, 27], [(6, cVal)], [], [], [], 0, 0, false⟩) (none))
def st_slices_Concat_Val : Nat → Bool := fun k => cond (Nat.beq k 3) true (cond (Nat.beq k 11) true (false))
def hd_slices_Concat_Val : Nat → Bool := fun k => cond (Nat.beq k 3) true (cond (Nat.beq k 11) true (false))
abbrev Rt_slices_Concat_Val : Type := (List DVal) × Unit
def sml_slices_Concat_Val : List (Nat × Sm) := []
def hxl_slices_Concat_Val : List (Nat × Hx) := [(117, growHx)]
def cl_slices_Concat_Val (R : Type) (lf : Nat) : ClK R := icallK Try.prog ttT.get ftT.get (nm1 82 nm_slices_Concat_Val) (smL sml_slices_Concat_Val) (hxL hxl_slices_Concat_Val) lf 20 R
abbrev id_slices_Concat_Val : Nat := 82
def enc_slices_Concat_Val_3 (x1 : (List (List DVal))) (p : Int × Int) : NRes := (NRes.mk (PT.node (some (IV.lst (TC.list cVal) x1)) (PT.node none (PT.node (some (IV.int Go.IntKind.i64 p.1)) PT.leaf (PT.node (some (IV.int Go.IntKind.i64 p.2)) PT.leaf PT.leaf)) (PT.node none (PT.node (some (IV.lst (TC.list cVal) x1)) PT.leaf PT.leaf) PT.leaf)) (PT.node none PT.leaf (PT.node none (PT.node (some (IV.int Go.IntKind.i64 (Int.ofNat (List.length x1)))) PT.leaf PT.leaf) PT.leaf))) (IS.mk PT.leaf 0) [] 0)
def enc_slices_Concat_Val_11 (x1 : (List (List DVal))) (p : Int × (List DVal)) : NRes := (NRes.mk (PT.node none (PT.node none (PT.node none PT.leaf (PT.node none PT.leaf (PT.node (some (IV.int Go.IntKind.i64 p.1)) PT.leaf PT.leaf))) (PT.node none (PT.node none PT.leaf (PT.node (some (IV.lst (TC.list cVal) x1)) PT.leaf PT.leaf)) PT.leaf)) (PT.node none PT.leaf (PT.node (some (IV.arr 0)) (PT.node none PT.leaf (PT.node (some (IV.int Go.IntKind.i64 (Int.ofNat (List.length x1)))) PT.leaf PT.leaf)) PT.leaf))) (IS.mk (PT.node (some (IObj.arr cVal p.2)) PT.leaf PT.leaf) 1) [] 0)
def R_slices_Concat_Val_in (lf : Nat) (x1 : (List (List DVal))) (L3 : (Int × Int) → Option Rt_slices_Concat_Val) : Option Rt_slices_Concat_Val := (L3 ((Int.ofNat 0), (Int.ofNat 0)))
def R_slices_Concat_Val_3 (lf : Nat) (x1 : (List (List DVal))) (L3 : (Int × Int) → Option Rt_slices_Concat_Val) (L11 : (Int × (List DVal)) → Option Rt_slices_Concat_Val) (p : Int × Int) : Option Rt_slices_Concat_Val := (cond (iltI p.2 (Int.ofNat (List.length x1))) (match (jget x1 p.2) with | .none  => none | .some v0 => (cond (iltI (Go.IntKind.wrap Go.IntKind.i64 (Int.add p.1 (Int.ofNat (List.length v0)))) (Int.ofNat 0)) none (L3 ((Go.IntKind.wrap Go.IntKind.i64 (Int.add p.1 (Int.ofNat (List.length v0)))), (Go.IntKind.wrap Go.IntKind.i64 (Int.add p.2 (Int.ofNat 1))))))) (cond (Go.Proofs.Ytcnhjofpmpipfaa.S.growOK p.1) (L11 ((Int.ofNat 0), [])) none))
def R_slices_Concat_Val_11 (lf : Nat) (x1 : (List (List DVal))) (L11 : (Int × (List DVal)) → Option Rt_slices_Concat_Val) (p : Int × (List DVal)) : Option Rt_slices_Concat_Val := (cond (iltI p.1 (Int.ofNat (List.length x1))) (match (jget x1 p.1) with | .none  => none | .some v0 => (cond (Nat.ble (Nat.mul (Nat.add (List.length p.2) (List.length v0)) 16) 140737488355328) (L11 ((Go.IntKind.wrap Go.IntKind.i64 (Int.add p.1 (Int.ofNat 1))), (List.append p.2 v0))) none)) (some (p.2, ())))
theorem in_slices_Concat_Val (g : ElA [(.list (.list cVal))] → Option Rt_slices_Concat_Val) (J : Nat → List Nat → NRes → Option Rt_slices_Concat_Val) (lf : Nat) (x1 : (List (List DVal))) : icodeT Try.prog ttT.get nm_slices_Concat_Val fi82.nt (cl_slices_Concat_Val _ lf) lf st_slices_Concat_Val J fi82.body [] (argGo (argV [(.list (.list cVal))] (x1, ())) 0 .leaf) S0 [] (lastK ttT.get fi82 ⟨[(.list (.list cVal))], [(false, (.list cVal))], g⟩) = R_slices_Concat_Val_in lf x1 (fun q => J 3 [lf] (enc_slices_Concat_Val_3 x1 q)) := by kernel_rfl
theorem st_slices_Concat_Val_3 (g : ElA [(.list (.list cVal))] → Option Rt_slices_Concat_Val) (J : Nat → List Nat → NRes → Option Rt_slices_Concat_Val) (lf : Nat) (x1 : (List (List DVal))) (m1 : Nat) (p : Int × Int) : icodeFT Try.prog ttT.get nm_slices_Concat_Val fi82.nt (cl_slices_Concat_Val _ lf) lf st_slices_Concat_Val J 3 fi82.body [] [m1] (enc_slices_Concat_Val_3 x1 p) (lastK ttT.get fi82 ⟨[(.list (.list cVal))], [(false, (.list cVal))], g⟩) = R_slices_Concat_Val_3 lf x1 (fun q => J 3 [m1] (enc_slices_Concat_Val_3 x1 q)) (fun q => J 11 [lf] (enc_slices_Concat_Val_11 x1 q)) p := by kernel_rfl
theorem st_slices_Concat_Val_11 (g : ElA [(.list (.list cVal))] → Option Rt_slices_Concat_Val) (J : Nat → List Nat → NRes → Option Rt_slices_Concat_Val) (lf : Nat) (x1 : (List (List DVal))) (m1 : Nat) (p : Int × (List DVal)) : icodeFT Try.prog ttT.get nm_slices_Concat_Val fi82.nt (cl_slices_Concat_Val _ lf) lf st_slices_Concat_Val J 11 fi82.body [] [m1] (enc_slices_Concat_Val_11 x1 p) (lastK ttT.get fi82 ⟨[(.list (.list cVal))], [(false, (.list cVal))], g⟩) = R_slices_Concat_Val_11 lf x1 (fun q => J 11 [m1] (enc_slices_Concat_Val_11 x1 q)) p := by kernel_rfl
theorem nd_slices_Concat_Val : (regs fi82.body).Nodup := by decide +kernel
theorem ok_slices_Concat_Val : okC nm_slices_Concat_Val st_slices_Concat_Val hd_slices_Concat_Val fi82.body none = true := by kernel_rfl
def A_slices_Concat_Val (g : ElA [(.list (.list cVal))] → Option Rt_slices_Concat_Val) (lf : Nat) : Nat → List Nat → NRes → Option Rt_slices_Concat_Val := atN Try.prog ttT.get nm_slices_Concat_Val fi82 ⟨[(.list (.list cVal))], [(false, (.list cVal))], g⟩ (cl_slices_Concat_Val _ lf) lf hd_slices_Concat_Val
def G_slices_Concat_Val_11 (lf : Nat) (x1 : (List (List DVal))) : Nat → (Int × (List DVal)) → Option Rt_slices_Concat_Val := rounds fun K p => R_slices_Concat_Val_11 lf x1 K p
theorem at_slices_Concat_Val_11 (g : ElA [(.list (.list cVal))] → Option Rt_slices_Concat_Val) (lf : Nat) (x1 : (List (List DVal))) : ∀ (n : Nat) (p : Int × (List DVal)), A_slices_Concat_Val g lf 11 [n] (enc_slices_Concat_Val_11 x1 p) = G_slices_Concat_Val_11 lf x1 n p
  | 0, p => atN_zero 11 [0] rfl _
  | n + 1, p => by
    have ih := at_slices_Concat_Val_11 g lf x1 n
    refine (atN_eq (icallK_eq 20 _) nd_slices_Concat_Val ok_slices_Concat_Val 11 [n + 1] [n] rfl _).trans ((st_slices_Concat_Val_11 g (A_slices_Concat_Val g lf) lf x1 n p).trans ?_)
    rw [(show (fun q => A_slices_Concat_Val g lf 11 [n] (enc_slices_Concat_Val_11 x1 q)) = (fun q => G_slices_Concat_Val_11 lf x1 n q) from funext ih)]
    rfl
def G_slices_Concat_Val_3 (lf : Nat) (x1 : (List (List DVal))) : Nat → (Int × Int) → Option Rt_slices_Concat_Val := rounds fun K p => R_slices_Concat_Val_3 lf x1 K (fun q => G_slices_Concat_Val_11 lf x1 lf q) p
theorem at_slices_Concat_Val_3 (g : ElA [(.list (.list cVal))] → Option Rt_slices_Concat_Val) (lf : Nat) (x1 : (List (List DVal))) : ∀ (n : Nat) (p : Int × Int), A_slices_Concat_Val g lf 3 [n] (enc_slices_Concat_Val_3 x1 p) = G_slices_Concat_Val_3 lf x1 n p
  | 0, p => atN_zero 3 [0] rfl _
  | n + 1, p => by
    have ih := at_slices_Concat_Val_3 g lf x1 n
    refine (atN_eq (icallK_eq 20 _) nd_slices_Concat_Val ok_slices_Concat_Val 3 [n + 1] [n] rfl _).trans ((st_slices_Concat_Val_3 g (A_slices_Concat_Val g lf) lf x1 n p).trans ?_)
    rw [(show (fun q => A_slices_Concat_Val g lf 11 [lf] (enc_slices_Concat_Val_11 x1 q)) = (fun q => G_slices_Concat_Val_11 lf x1 lf q) from funext fun q => at_slices_Concat_Val_11 g lf x1 lf q), (show (fun q => A_slices_Concat_Val g lf 3 [n] (enc_slices_Concat_Val_3 x1 q)) = (fun q => G_slices_Concat_Val_3 lf x1 n q) from funext ih)]
    rfl
def F_slices_Concat_Val (lf : Nat) (x1 : (List (List DVal))) : Option Rt_slices_Concat_Val := R_slices_Concat_Val_in lf x1 (fun q => G_slices_Concat_Val_3 lf x1 lf q)
theorem run_slices_Concat_Val (g : ElA [(.list (.list cVal))] → Option Rt_slices_Concat_Val) (lf : Nat) (x1 : (List (List DVal))) : icodeT Try.prog ttT.get nm_slices_Concat_Val fi82.nt (cl_slices_Concat_Val _ lf) lf st_slices_Concat_Val (A_slices_Concat_Val g lf) fi82.body [] (argGo (argV [(.list (.list cVal))] (x1, ())) 0 .leaf) S0 [] (lastK ttT.get fi82 ⟨[(.list (.list cVal))], [(false, (.list cVal))], g⟩) = F_slices_Concat_Val lf x1 := by
    refine (in_slices_Concat_Val g (A_slices_Concat_Val g lf) lf x1).trans ?_
    rw [(show (fun q => A_slices_Concat_Val g lf 3 [lf] (enc_slices_Concat_Val_3 x1 q)) = (fun q => G_slices_Concat_Val_3 lf x1 lf q) from funext fun q => at_slices_Concat_Val_3 g lf x1 lf q)]
    rfl
theorem hxs_slices_Concat_Val : HxsOK Try.prog hxl_slices_Concat_Val := ⟨ixO117, trivial⟩
theorem mk_slices_Concat_Val {g : ElA [(.list (.list cVal))] → Option Rt_slices_Concat_Val} (hsm : SmOK Try.prog sml_slices_Concat_Val) (hg : ∀ (x : ElA [(.list (.list cVal))]) (y : Rt_slices_Concat_Val), WfA [(.list (.list cVal))] x → g x = some y → ∃ lf, F_slices_Concat_Val lf x.1 = some y) : Con Try.prog 82 ⟨[(.list (.list cVal))], [(false, (.list cVal))], g⟩ :=
  conT (nmf := nm_slices_Concat_Val) (sml := sml_slices_Concat_Val) (hxl := hxl_slices_Concat_Val) (st := st_slices_Concat_Val) (hd := hd_slices_Concat_Val) 20 mixed ttOK ftOK hsm hxs_slices_Concat_Val cal82 rfl rfl (by kernel_rfl) (fun x => by kernel_rfl) nd_slices_Concat_Val ok_slices_Concat_Val fun x y hx hy => by
    obtain ⟨lf, h⟩ := hg x y hx hy
    exact ⟨lf, (run_slices_Concat_Val g lf x.1).trans h⟩
def nm_p_Join : Nat → Option Nm := fun k => cond (Nat.beq k 9) (some ⟨[2, 3, 4, 7, 8, 55, 56, 57], [], [(8, 0, cNode)], [], [], 0, 0, false⟩) (cond (Nat.beq k 14) (some ⟨[2, 4, 7, 8, 75, 76, 77], [], [(8, 0, cNode)], [], [], 0, 0, false⟩) (none))
def st_p_Join : Nat → Bool := fun k => cond (Nat.beq k 9) true (cond (Nat.beq k 14) true (false))
def hd_p_Join : Nat → Bool := fun k => cond (Nat.beq k 9) true (cond (Nat.beq k 14) true (false))
abbrev Rt_p_Join : Type := DGraph × Int × Unit
def sml_p_Join : List (Nat × Sm) := [(70, sp_p_formed), (49, sp_p_first), (81, sp_p_Join_1), (82, sp_slices_Concat_Val)]
def hxl_p_Join : List (Nat × Hx) := []
def cl_p_Join (R : Type) (lf : Nat) : ClK R := icallK Try.prog ttT.get ftT.get (nm1 32 nm_p_Join) (smL sml_p_Join) (hxL hxl_p_Join) lf 20 R
abbrev id_p_Join : Nat := 32
def enc_p_Join_9 (x1 : DGraph) (x2 : DGraph) (p : (List DVal) × Int × (List DNode)) : NRes := (NRes.mk (PT.node none (PT.node none (PT.node (some (IV.ptr 1 0)) (PT.node (some (IV.fn 81 [])) PT.leaf (PT.node none PT.leaf (PT.node (some (IV.lst cNode x1.1)) PT.leaf PT.leaf))) PT.leaf) (PT.node none (PT.node none PT.leaf (PT.node none PT.leaf (PT.node (some (IV.int Go.IntKind.i64 p.2.1)) PT.leaf PT.leaf))) PT.leaf)) (PT.node (some (IV.ptr 0 0)) (PT.node (some (IV.ptr 2 0)) (PT.node (some (IV.ptr 3 0)) PT.leaf (PT.node none PT.leaf (PT.node (some (IV.int Go.IntKind.i64 (Int.ofNat (List.length x1.1)))) PT.leaf PT.leaf))) PT.leaf) PT.leaf)) (IS.mk (PT.node (some (IObj.row (List.cons (IV.lst cNode x1.1) (List.cons (IV.lst cVal x1.2) [])))) (PT.node (some (IObj.row (List.cons (IV.lst cNode x2.1) (List.cons (IV.lst cVal x2.2) [])))) (PT.node (some (IObj.row (List.cons (IV.arr 4) (List.cons (IV.lst cVal p.1) [])))) PT.leaf PT.leaf) PT.leaf) (PT.node (some (IObj.row (List.cons IV.nilsl (List.cons IV.nilsl [])))) (PT.node (some (IObj.arr cNode p.2.2)) PT.leaf PT.leaf) PT.leaf)) 5) [] 0)
def enc_p_Join_14 (x1 : DGraph) (x2 : DGraph) (p : (List DVal) × (List DNode) × Int) : NRes := (NRes.mk (PT.node none (PT.node none (PT.node none (PT.node (some (IV.fn 81 [])) PT.leaf PT.leaf) (PT.node none PT.leaf (PT.node none (PT.node none (PT.node (some (IV.lst cNode x2.1)) PT.leaf PT.leaf) PT.leaf) PT.leaf))) (PT.node none PT.leaf (PT.node none PT.leaf (PT.node none (PT.node none (PT.node (some (IV.int Go.IntKind.i64 p.2.2)) PT.leaf PT.leaf) PT.leaf) PT.leaf)))) (PT.node (some (IV.ptr 0 0)) (PT.node (some (IV.ptr 1 0)) (PT.node (some (IV.ptr 2 0)) PT.leaf PT.leaf) (PT.node none PT.leaf (PT.node none (PT.node none (PT.node (some (IV.int Go.IntKind.i64 (Int.ofNat (List.length x2.1)))) PT.leaf PT.leaf) PT.leaf) PT.leaf))) PT.leaf)) (IS.mk (PT.node (some (IObj.row (List.cons (IV.lst cNode x1.1) (List.cons (IV.lst cVal x1.2) [])))) (PT.node (some (IObj.row (List.cons IV.nilsl (List.cons IV.nilsl [])))) (PT.node (some (IObj.arr cNode p.2.1)) PT.leaf PT.leaf) PT.leaf) (PT.node (some (IObj.row (List.cons (IV.arr 3) (List.cons (IV.lst cVal p.1) [])))) PT.leaf PT.leaf)) 4) [] 0)
def R_p_Join_in (lf : Nat) (x1 : DGraph) (x2 : DGraph) (L9 : ((List DVal) × Int × (List DNode)) → Option Rt_p_Join) : Option Rt_p_Join := (cond (Bool.not (ieqI (Go.Proofs.Ytcnhjofpmpipfaa.S.first (List.cons (Go.Proofs.Ytcnhjofpmpipfaa.S.formed (x1.1, x1.2)) (List.cons (Go.Proofs.Ytcnhjofpmpipfaa.S.formed (x2.1, x2.2)) []))) (Int.ofNat 0))) (some (([], []), ((Go.Proofs.Ytcnhjofpmpipfaa.S.first (List.cons (Go.Proofs.Ytcnhjofpmpipfaa.S.formed (x1.1, x1.2)) (List.cons (Go.Proofs.Ytcnhjofpmpipfaa.S.formed (x2.1, x2.2)) []))), ()))) (cond (iltI (Int.ofNat 400) (Go.IntKind.wrap Go.IntKind.i64 (Int.ofNat (Nat.add (List.length x1.1) (List.length x2.1))))) (some (([], []), ((Int.ofNat 3), ()))) (cond (iltI (Int.ofNat 60) (Go.IntKind.wrap Go.IntKind.i64 (Int.ofNat (Nat.add (List.length x1.2) (List.length x2.2))))) (some (([], []), ((Int.ofNat 3), ()))) (match (cond (Nat.ble (List.length (List.append x1.2 (List.append (Go.Proofs.Ytcnhjofpmpipfaa.S.byL x2.2 (Int.ofNat (List.length x1.1))) []))) 1000000) (some ((List.append x1.2 (List.append (Go.Proofs.Ytcnhjofpmpipfaa.S.byL x2.2 (Int.ofNat (List.length x1.1))) [])), ())) none) with | .none  => none | .some v0 => (L9 (v0.1, (Int.ofNat 0), []))))))
def R_p_Join_9 (lf : Nat) (x1 : DGraph) (x2 : DGraph) (L9 : ((List DVal) × Int × (List DNode)) → Option Rt_p_Join) (L14 : ((List DVal) × (List DNode) × Int) → Option Rt_p_Join) (p : (List DVal) × Int × (List DNode)) : Option Rt_p_Join := (cond (iltI p.2.1 (Int.ofNat (List.length x1.1))) (match (jget x1.1 p.2.1) with | .none  => none | .some v0 => (cond (Nat.ble (Nat.mul (Nat.add (List.length p.2.2) 1) 40) 140737488355328) (L9 (p.1, (Go.IntKind.wrap Go.IntKind.i64 (Int.add p.2.1 (Int.ofNat 1))), (List.append p.2.2 (List.cons (v0.1, (Go.Proofs.Ytcnhjofpmpipfaa.S.byL v0.2 (Int.ofNat 0))) [])))) none)) (L14 (p.1, p.2.2, (Int.ofNat 0))))
def R_p_Join_14 (lf : Nat) (x1 : DGraph) (x2 : DGraph) (L14 : ((List DVal) × (List DNode) × Int) → Option Rt_p_Join) (p : (List DVal) × (List DNode) × Int) : Option Rt_p_Join := (cond (iltI p.2.2 (Int.ofNat (List.length x2.1))) (match (jget x2.1 p.2.2) with | .none  => none | .some v0 => (cond (Nat.ble (Nat.mul (Nat.add (List.length p.2.1) 1) 40) 140737488355328) (L14 (p.1, (List.append p.2.1 (List.cons (v0.1, (Go.Proofs.Ytcnhjofpmpipfaa.S.byL v0.2 (Int.ofNat (List.length x1.1)))) [])), (Go.IntKind.wrap Go.IntKind.i64 (Int.add p.2.2 (Int.ofNat 1))))) none)) (some ((p.2.1, p.1), ((Int.ofNat 0), ()))))
theorem in_p_Join (g : ElA [cGraph, cGraph] → Option Rt_p_Join) (J : Nat → List Nat → NRes → Option Rt_p_Join) (lf : Nat) (x1 : DGraph) (x2 : DGraph) : icodeT Try.prog ttT.get nm_p_Join fi32.nt (cl_p_Join _ lf) lf st_p_Join J fi32.body [] (argGo (argV [cGraph, cGraph] (x1, x2, ())) 0 .leaf) S0 [] (lastK ttT.get fi32 ⟨[cGraph, cGraph], [(false, cGraph), (false, (.int .i64))], g⟩) = R_p_Join_in lf x1 x2 (fun q => J 9 [lf] (enc_p_Join_9 x1 x2 q)) := by kernel_rfl
theorem st_p_Join_9 (g : ElA [cGraph, cGraph] → Option Rt_p_Join) (J : Nat → List Nat → NRes → Option Rt_p_Join) (lf : Nat) (x1 : DGraph) (x2 : DGraph) (m1 : Nat) (p : (List DVal) × Int × (List DNode)) : icodeFT Try.prog ttT.get nm_p_Join fi32.nt (cl_p_Join _ lf) lf st_p_Join J 9 fi32.body [] [m1] (enc_p_Join_9 x1 x2 p) (lastK ttT.get fi32 ⟨[cGraph, cGraph], [(false, cGraph), (false, (.int .i64))], g⟩) = R_p_Join_9 lf x1 x2 (fun q => J 9 [m1] (enc_p_Join_9 x1 x2 q)) (fun q => J 14 [lf] (enc_p_Join_14 x1 x2 q)) p := by kernel_rfl
theorem st_p_Join_14 (g : ElA [cGraph, cGraph] → Option Rt_p_Join) (J : Nat → List Nat → NRes → Option Rt_p_Join) (lf : Nat) (x1 : DGraph) (x2 : DGraph) (m1 : Nat) (p : (List DVal) × (List DNode) × Int) : icodeFT Try.prog ttT.get nm_p_Join fi32.nt (cl_p_Join _ lf) lf st_p_Join J 14 fi32.body [] [m1] (enc_p_Join_14 x1 x2 p) (lastK ttT.get fi32 ⟨[cGraph, cGraph], [(false, cGraph), (false, (.int .i64))], g⟩) = R_p_Join_14 lf x1 x2 (fun q => J 14 [m1] (enc_p_Join_14 x1 x2 q)) p := by kernel_rfl
theorem nd_p_Join : (regs fi32.body).Nodup := by decide +kernel
theorem ok_p_Join : okC nm_p_Join st_p_Join hd_p_Join fi32.body none = true := by kernel_rfl
def A_p_Join (g : ElA [cGraph, cGraph] → Option Rt_p_Join) (lf : Nat) : Nat → List Nat → NRes → Option Rt_p_Join := atN Try.prog ttT.get nm_p_Join fi32 ⟨[cGraph, cGraph], [(false, cGraph), (false, (.int .i64))], g⟩ (cl_p_Join _ lf) lf hd_p_Join
def G_p_Join_14 (lf : Nat) (x1 : DGraph) (x2 : DGraph) : Nat → ((List DVal) × (List DNode) × Int) → Option Rt_p_Join := rounds fun K p => R_p_Join_14 lf x1 x2 K p
theorem at_p_Join_14 (g : ElA [cGraph, cGraph] → Option Rt_p_Join) (lf : Nat) (x1 : DGraph) (x2 : DGraph) : ∀ (n : Nat) (p : (List DVal) × (List DNode) × Int), A_p_Join g lf 14 [n] (enc_p_Join_14 x1 x2 p) = G_p_Join_14 lf x1 x2 n p
  | 0, p => atN_zero 14 [0] rfl _
  | n + 1, p => by
    have ih := at_p_Join_14 g lf x1 x2 n
    refine (atN_eq (icallK_eq 20 _) nd_p_Join ok_p_Join 14 [n + 1] [n] rfl _).trans ((st_p_Join_14 g (A_p_Join g lf) lf x1 x2 n p).trans ?_)
    rw [(show (fun q => A_p_Join g lf 14 [n] (enc_p_Join_14 x1 x2 q)) = (fun q => G_p_Join_14 lf x1 x2 n q) from funext ih)]
    rfl
def G_p_Join_9 (lf : Nat) (x1 : DGraph) (x2 : DGraph) : Nat → ((List DVal) × Int × (List DNode)) → Option Rt_p_Join := rounds fun K p => R_p_Join_9 lf x1 x2 K (fun q => G_p_Join_14 lf x1 x2 lf q) p
theorem at_p_Join_9 (g : ElA [cGraph, cGraph] → Option Rt_p_Join) (lf : Nat) (x1 : DGraph) (x2 : DGraph) : ∀ (n : Nat) (p : (List DVal) × Int × (List DNode)), A_p_Join g lf 9 [n] (enc_p_Join_9 x1 x2 p) = G_p_Join_9 lf x1 x2 n p
  | 0, p => atN_zero 9 [0] rfl _
  | n + 1, p => by
    have ih := at_p_Join_9 g lf x1 x2 n
    refine (atN_eq (icallK_eq 20 _) nd_p_Join ok_p_Join 9 [n + 1] [n] rfl _).trans ((st_p_Join_9 g (A_p_Join g lf) lf x1 x2 n p).trans ?_)
    rw [(show (fun q => A_p_Join g lf 14 [lf] (enc_p_Join_14 x1 x2 q)) = (fun q => G_p_Join_14 lf x1 x2 lf q) from funext fun q => at_p_Join_14 g lf x1 x2 lf q), (show (fun q => A_p_Join g lf 9 [n] (enc_p_Join_9 x1 x2 q)) = (fun q => G_p_Join_9 lf x1 x2 n q) from funext ih)]
    rfl
def F_p_Join (lf : Nat) (x1 : DGraph) (x2 : DGraph) : Option Rt_p_Join := R_p_Join_in lf x1 x2 (fun q => G_p_Join_9 lf x1 x2 lf q)
theorem run_p_Join (g : ElA [cGraph, cGraph] → Option Rt_p_Join) (lf : Nat) (x1 : DGraph) (x2 : DGraph) : icodeT Try.prog ttT.get nm_p_Join fi32.nt (cl_p_Join _ lf) lf st_p_Join (A_p_Join g lf) fi32.body [] (argGo (argV [cGraph, cGraph] (x1, x2, ())) 0 .leaf) S0 [] (lastK ttT.get fi32 ⟨[cGraph, cGraph], [(false, cGraph), (false, (.int .i64))], g⟩) = F_p_Join lf x1 x2 := by
    refine (in_p_Join g (A_p_Join g lf) lf x1 x2).trans ?_
    rw [(show (fun q => A_p_Join g lf 9 [lf] (enc_p_Join_9 x1 x2 q)) = (fun q => G_p_Join_9 lf x1 x2 lf q) from funext fun q => at_p_Join_9 g lf x1 x2 lf q)]
    rfl
theorem hxs_p_Join : HxsOK Try.prog hxl_p_Join := trivial
theorem mk_p_Join {g : ElA [cGraph, cGraph] → Option Rt_p_Join} (hsm : SmOK Try.prog sml_p_Join) (hg : ∀ (x : ElA [cGraph, cGraph]) (y : Rt_p_Join), WfA [cGraph, cGraph] x → g x = some y → ∃ lf, F_p_Join lf x.1 x.2.1 = some y) : Con Try.prog 32 ⟨[cGraph, cGraph], [(false, cGraph), (false, (.int .i64))], g⟩ :=
  conT (nmf := nm_p_Join) (sml := sml_p_Join) (hxl := hxl_p_Join) (st := st_p_Join) (hd := hd_p_Join) 20 mixed ttOK ftOK hsm hxs_p_Join cal32 rfl rfl (by kernel_rfl) (fun x => by kernel_rfl) nd_p_Join ok_p_Join fun x y hx hy => by
    obtain ⟨lf, h⟩ := hg x y hx hy
    exact ⟨lf, (run_p_Join g lf x.1 x.2.1).trans h⟩
end Go.Proofs.Ytcnhjofpmpipfaa

end
end

/- Made by program: plain forms of functions. -/
section
set_option linter.unusedVariables false
set_option maxRecDepth 100000
noncomputable section
namespace Go.Proofs.Ytcnhjofpmpipfaa
open Go Go.Sx Go.RowKit Go.Jx
def nm_p_Encode : Nat → Option Nm := fun k => cond (Nat.beq k 9) (some ⟨[0, 3, 7, 8, 33, 34, 35], [], [(7, 0, (.int .u8))], [], [], 0, 0, false⟩) (cond (Nat.beq k 13) (some ⟨[0, 3, 7, 8, 33, 34, 35, 46, 47, 48], [], [(7, 0, (.int .u8))], [], [], 0, 0, false⟩) (cond (Nat.beq k 20) (some ⟨[7, 8, 64, 65, 66], [], [(7, 0, (.int .u8))], [], [], 0, 0, false⟩) (none)))
def st_p_Encode : Nat → Bool := fun k => cond (Nat.beq k 9) true (cond (Nat.beq k 13) true (cond (Nat.beq k 20) true (false)))
def hd_p_Encode : Nat → Bool := fun k => cond (Nat.beq k 9) true (cond (Nat.beq k 13) true (cond (Nat.beq k 20) true (false)))
abbrev Rt_p_Encode : Type := (List Int) × Int × Unit
def sml_p_Encode : List (Nat × Sm) := [(18, sp_p_Check), (62, sp_p_canon), (52, sp_p_form), (64, sp_p_number), (65, sp_p_code)]
def hxl_p_Encode : List (Nat × Hx) := [(66, hxR sp_p_sumL)]
def cl_p_Encode (R : Type) (lf : Nat) : ClK R := icallK Try.prog ttT.get ftT.get (nm1 20 nm_p_Encode) (smL sml_p_Encode) (hxL hxl_p_Encode) lf 20 R
abbrev id_p_Encode : Nat := 20
def enc_p_Encode_9 (x1 : (List DForm)) (x2 : DGraph) (p : (List Int) × (List DNode) × (List DVal) × Int) : NRes := (NRes.mk (PT.node (some (IV.lst cForm x1)) (PT.node none (PT.node (some (IV.ptr 0 0)) (PT.node (some (IV.ptr 1 0)) PT.leaf PT.leaf) (PT.node none (PT.node none (PT.node (some (IV.int Go.IntKind.i64 p.2.2.2)) PT.leaf PT.leaf) PT.leaf) PT.leaf)) (PT.node none (PT.node none (PT.node none (PT.node (some (IV.lst cNode p.2.1)) PT.leaf PT.leaf) PT.leaf) PT.leaf) PT.leaf)) (PT.node none (PT.node none (PT.node (some (IV.fn 63 (List.cons (IV.ptr 1 0) []))) PT.leaf PT.leaf) PT.leaf) (PT.node none (PT.node none (PT.node none (PT.node (some (IV.int Go.IntKind.i64 (Int.ofNat (List.length p.2.1)))) PT.leaf PT.leaf) PT.leaf) PT.leaf) PT.leaf))) (IS.mk (PT.node (some (IObj.row (List.cons (IV.lst cNode p.2.1) (List.cons (IV.lst cVal p.2.2.1) [])))) (PT.node (some (IObj.row (List.cons (IV.arr 2) []))) PT.leaf PT.leaf) (PT.node (some (IObj.arr (TC.int Go.IntKind.u8) p.1)) PT.leaf PT.leaf)) 3) [] 0)
def enc_p_Encode_13 (x1 : (List DForm)) (x2 : DGraph) (p : (List DNode) × (List DVal) × (List DVal) × (List Int) × Int × Int) : NRes := (NRes.mk (PT.node (some (IV.lst cForm x1)) (PT.node none (PT.node (some (IV.ptr 0 0)) (PT.node (some (IV.ptr 1 0)) (PT.node none PT.leaf (PT.node (some (IV.int Go.IntKind.i64 (Int.ofNat (List.length p.2.2.1)))) PT.leaf PT.leaf)) PT.leaf) (PT.node none (PT.node none (PT.node (some (IV.int Go.IntKind.i64 p.2.2.2.2.2)) PT.leaf PT.leaf) PT.leaf) PT.leaf)) (PT.node none (PT.node none (PT.node none (PT.node (some (IV.lst cNode p.1)) PT.leaf PT.leaf) PT.leaf) PT.leaf) PT.leaf)) (PT.node none (PT.node none (PT.node (some (IV.fn 63 (List.cons (IV.ptr 1 0) []))) (PT.node none PT.leaf (PT.node (some (IV.int Go.IntKind.i64 p.2.2.2.2.1)) PT.leaf PT.leaf)) PT.leaf) PT.leaf) (PT.node none (PT.node none (PT.node none (PT.node (some (IV.int Go.IntKind.i64 (Int.ofNat (List.length p.1)))) PT.leaf PT.leaf) PT.leaf) PT.leaf) (PT.node none PT.leaf (PT.node none (PT.node (some (IV.lst cVal p.2.2.1)) PT.leaf PT.leaf) PT.leaf))))) (IS.mk (PT.node (some (IObj.row (List.cons (IV.lst cNode p.1) (List.cons (IV.lst cVal p.2.1) [])))) (PT.node (some (IObj.row (List.cons (IV.arr 2) []))) PT.leaf PT.leaf) (PT.node (some (IObj.arr (TC.int Go.IntKind.u8) p.2.2.2.1)) PT.leaf PT.leaf)) 3) [] 0)
def enc_p_Encode_20 (x1 : (List DForm)) (x2 : DGraph) (p : (List DVal) × (List Int) × Int) : NRes := (NRes.mk (PT.node none (PT.node none (PT.node none (PT.node (some (IV.ptr 0 0)) PT.leaf PT.leaf) PT.leaf) (PT.node none (PT.node none (PT.node none (PT.node none (PT.node (some (IV.int Go.IntKind.i64 (Int.ofNat (List.length p.1)))) PT.leaf PT.leaf) PT.leaf) PT.leaf) PT.leaf) PT.leaf)) (PT.node none (PT.node none (PT.node (some (IV.fn 63 (List.cons (IV.ptr 0 0) []))) (PT.node none (PT.node none (PT.node (some (IV.lst cVal p.1)) PT.leaf PT.leaf) PT.leaf) PT.leaf) PT.leaf) PT.leaf) (PT.node none (PT.node none (PT.node none (PT.node none (PT.node (some (IV.int Go.IntKind.i64 p.2.2)) PT.leaf PT.leaf) PT.leaf) PT.leaf) PT.leaf) PT.leaf))) (IS.mk (PT.node (some (IObj.row (List.cons (IV.arr 1) []))) (PT.node (some (IObj.arr (TC.int Go.IntKind.u8) p.2.1)) PT.leaf PT.leaf) PT.leaf) 2) [] 0)
def R_p_Encode_in (lf : Nat) (x1 : (List DForm)) (x2 : DGraph) (L9 : ((List Int) × (List DNode) × (List DVal) × Int) → Option Rt_p_Encode) : Option Rt_p_Encode := (cond (Bool.not (ieqI (Go.Proofs.Ytcnhjofpmpipfaa.S.checkG x1 (x2.1, x2.2)) (Int.ofNat 0))) (some ([], ((Go.Proofs.Ytcnhjofpmpipfaa.S.checkG x1 (x2.1, x2.2)), ()))) (match (Go.Proofs.Ytcnhjofpmpipfaa.S.canonO (x2.1, x2.2)) with | .none  => none | .some v0 => (match (cond (Go.Proofs.Ytcnhjofpmpipfaa.S.numOK (Int.ofNat (List.length v0.1.1))) (some ((Go.Proofs.Ytcnhjofpmpipfaa.S.num (Int.ofNat (List.length v0.1.1))), ())) none) with | .none  => none | .some v1 => (cond (Nat.ble (Nat.mul (Nat.add 0 (List.length v1.1)) 1) 140737488355328) (L9 (v1.1, v0.1.1, v0.1.2, (Int.ofNat 0))) none))))
def R_p_Encode_9 (lf : Nat) (x1 : (List DForm)) (x2 : DGraph) (L13 : ((List DNode) × (List DVal) × (List DVal) × (List Int) × Int × Int) → Option Rt_p_Encode) (L20 : ((List DVal) × (List Int) × Int) → Option Rt_p_Encode) (p : (List Int) × (List DNode) × (List DVal) × Int) : Option Rt_p_Encode := (cond (iltI p.2.2.2 (Int.ofNat (List.length p.2.1))) (match (jget p.2.1 p.2.2.2) with | .none  => none | .some v0 => (match (cond (Go.Proofs.Ytcnhjofpmpipfaa.S.numOK (Go.Proofs.Ytcnhjofpmpipfaa.S.form x1 v0.1)) (some ((Go.Proofs.Ytcnhjofpmpipfaa.S.num (Go.Proofs.Ytcnhjofpmpipfaa.S.form x1 v0.1)), ())) none) with | .none  => none | .some v1 => (cond (Nat.ble (Nat.mul (Nat.add (List.length p.1) (List.length v1.1)) 1) 140737488355328) (L13 (p.2.1, p.2.2.1, v0.2, (List.append p.1 v1.1), (Int.ofNat 0), p.2.2.2)) none))) (match (cond (Go.Proofs.Ytcnhjofpmpipfaa.S.numOK (Int.ofNat (List.length p.2.2.1))) (some ((Go.Proofs.Ytcnhjofpmpipfaa.S.num (Int.ofNat (List.length p.2.2.1))), ())) none) with | .none  => none | .some v8 => (cond (Nat.ble (Nat.mul (Nat.add (List.length p.1) (List.length v8.1)) 1) 140737488355328) (L20 (p.2.2.1, (List.append p.1 v8.1), (Int.ofNat 0))) none)))
def R_p_Encode_13 (lf : Nat) (x1 : (List DForm)) (x2 : DGraph) (L13 : ((List DNode) × (List DVal) × (List DVal) × (List Int) × Int × Int) → Option Rt_p_Encode) (L9 : ((List Int) × (List DNode) × (List DVal) × Int) → Option Rt_p_Encode) (p : (List DNode) × (List DVal) × (List DVal) × (List Int) × Int × Int) : Option Rt_p_Encode := (cond (iltI p.2.2.2.2.1 (Int.ofNat (List.length p.2.2.1))) (match (jget p.2.2.1 p.2.2.2.2.1) with | .none  => none | .some v0 => (match (cond (Go.Proofs.Ytcnhjofpmpipfaa.S.numOK (Go.Proofs.Ytcnhjofpmpipfaa.S.code (v0.1, v0.2))) (some ((Go.Proofs.Ytcnhjofpmpipfaa.S.num (Go.Proofs.Ytcnhjofpmpipfaa.S.code (v0.1, v0.2))), ())) none) with | .none  => none | .some v1 => (cond (Nat.ble (Nat.mul (Nat.add (List.length p.2.2.2.1) (List.length v1.1)) 1) 140737488355328) (L13 (p.1, p.2.1, p.2.2.1, (List.append p.2.2.2.1 v1.1), (Go.IntKind.wrap Go.IntKind.i64 (Int.add p.2.2.2.2.1 (Int.ofNat 1))), p.2.2.2.2.2)) none))) (L9 (p.2.2.2.1, p.1, p.2.1, (Go.IntKind.wrap Go.IntKind.i64 (Int.add p.2.2.2.2.2 (Int.ofNat 1))))))
def R_p_Encode_20 (lf : Nat) (x1 : (List DForm)) (x2 : DGraph) (L20 : ((List DVal) × (List Int) × Int) → Option Rt_p_Encode) (p : (List DVal) × (List Int) × Int) : Option Rt_p_Encode := (cond (iltI p.2.2 (Int.ofNat (List.length p.1))) (match (jget p.1 p.2.2) with | .none  => none | .some v0 => (match (cond (Go.Proofs.Ytcnhjofpmpipfaa.S.numOK (Go.Proofs.Ytcnhjofpmpipfaa.S.code (v0.1, v0.2))) (some ((Go.Proofs.Ytcnhjofpmpipfaa.S.num (Go.Proofs.Ytcnhjofpmpipfaa.S.code (v0.1, v0.2))), ())) none) with | .none  => none | .some v1 => (cond (Nat.ble (Nat.mul (Nat.add (List.length p.2.1) (List.length v1.1)) 1) 140737488355328) (L20 (p.1, (List.append p.2.1 v1.1), (Go.IntKind.wrap Go.IntKind.i64 (Int.add p.2.2 (Int.ofNat 1))))) none))) (cond (Nat.ble (Nat.mul (Nat.add (List.length p.2.1) (List.length (Go.Proofs.Ytcnhjofpmpipfaa.S.sum4 p.2.1))) 1) 140737488355328) (cond (iltI (Int.ofNat 60000) (Int.ofNat (List.length (List.append p.2.1 (Go.Proofs.Ytcnhjofpmpipfaa.S.sum4 p.2.1))))) (some ([], ((Int.ofNat 3), ()))) (some ((List.append p.2.1 (Go.Proofs.Ytcnhjofpmpipfaa.S.sum4 p.2.1)), ((Int.ofNat 0), ())))) none))
theorem in_p_Encode (g : ElA [(.list cForm), cGraph] → Option Rt_p_Encode) (J : Nat → List Nat → NRes → Option Rt_p_Encode) (lf : Nat) (x1 : (List DForm)) (x2 : DGraph) : icodeT Try.prog ttT.get nm_p_Encode fi20.nt (cl_p_Encode _ lf) lf st_p_Encode J fi20.body [] (argGo (argV [(.list cForm), cGraph] (x1, x2, ())) 0 .leaf) S0 [] (lastK ttT.get fi20 ⟨[(.list cForm), cGraph], [(false, (.list (.int .u8))), (false, (.int .i64))], g⟩) = R_p_Encode_in lf x1 x2 (fun q => J 9 [lf] (enc_p_Encode_9 x1 x2 q)) := by kernel_rfl
theorem st_p_Encode_9 (g : ElA [(.list cForm), cGraph] → Option Rt_p_Encode) (J : Nat → List Nat → NRes → Option Rt_p_Encode) (lf : Nat) (x1 : (List DForm)) (x2 : DGraph) (m1 : Nat) (p : (List Int) × (List DNode) × (List DVal) × Int) : icodeFT Try.prog ttT.get nm_p_Encode fi20.nt (cl_p_Encode _ lf) lf st_p_Encode J 9 fi20.body [] [m1] (enc_p_Encode_9 x1 x2 p) (lastK ttT.get fi20 ⟨[(.list cForm), cGraph], [(false, (.list (.int .u8))), (false, (.int .i64))], g⟩) = R_p_Encode_9 lf x1 x2 (fun q => J 13 [m1, lf] (enc_p_Encode_13 x1 x2 q)) (fun q => J 20 [lf] (enc_p_Encode_20 x1 x2 q)) p := by kernel_rfl
theorem st_p_Encode_13 (g : ElA [(.list cForm), cGraph] → Option Rt_p_Encode) (J : Nat → List Nat → NRes → Option Rt_p_Encode) (lf : Nat) (x1 : (List DForm)) (x2 : DGraph) (m1 : Nat) (m2 : Nat) (p : (List DNode) × (List DVal) × (List DVal) × (List Int) × Int × Int) : icodeFT Try.prog ttT.get nm_p_Encode fi20.nt (cl_p_Encode _ lf) lf st_p_Encode J 13 fi20.body [] [m1, m2] (enc_p_Encode_13 x1 x2 p) (lastK ttT.get fi20 ⟨[(.list cForm), cGraph], [(false, (.list (.int .u8))), (false, (.int .i64))], g⟩) = R_p_Encode_13 lf x1 x2 (fun q => J 13 [m1, m2] (enc_p_Encode_13 x1 x2 q)) (fun q => J 9 [m1] (enc_p_Encode_9 x1 x2 q)) p := by kernel_rfl
theorem st_p_Encode_20 (g : ElA [(.list cForm), cGraph] → Option Rt_p_Encode) (J : Nat → List Nat → NRes → Option Rt_p_Encode) (lf : Nat) (x1 : (List DForm)) (x2 : DGraph) (m1 : Nat) (p : (List DVal) × (List Int) × Int) : icodeFT Try.prog ttT.get nm_p_Encode fi20.nt (cl_p_Encode _ lf) lf st_p_Encode J 20 fi20.body [] [m1] (enc_p_Encode_20 x1 x2 p) (lastK ttT.get fi20 ⟨[(.list cForm), cGraph], [(false, (.list (.int .u8))), (false, (.int .i64))], g⟩) = R_p_Encode_20 lf x1 x2 (fun q => J 20 [m1] (enc_p_Encode_20 x1 x2 q)) p := by kernel_rfl
theorem nd_p_Encode : (regs fi20.body).Nodup := by decide +kernel
theorem ok_p_Encode : okC nm_p_Encode st_p_Encode hd_p_Encode fi20.body none = true := by kernel_rfl
def A_p_Encode (g : ElA [(.list cForm), cGraph] → Option Rt_p_Encode) (lf : Nat) : Nat → List Nat → NRes → Option Rt_p_Encode := atN Try.prog ttT.get nm_p_Encode fi20 ⟨[(.list cForm), cGraph], [(false, (.list (.int .u8))), (false, (.int .i64))], g⟩ (cl_p_Encode _ lf) lf hd_p_Encode
def G_p_Encode_13 (lf : Nat) (x1 : (List DForm)) (x2 : DGraph) (K9 : ((List Int) × (List DNode) × (List DVal) × Int) → Option Rt_p_Encode) : Nat → ((List DNode) × (List DVal) × (List DVal) × (List Int) × Int × Int) → Option Rt_p_Encode := rounds fun K p => R_p_Encode_13 lf x1 x2 K K9 p
theorem at_p_Encode_13 (g : ElA [(.list cForm), cGraph] → Option Rt_p_Encode) (lf : Nat) (x1 : (List DForm)) (x2 : DGraph) (m1 : Nat) : ∀ (n : Nat) (p : (List DNode) × (List DVal) × (List DVal) × (List Int) × Int × Int), A_p_Encode g lf 13 [m1, n] (enc_p_Encode_13 x1 x2 p) = G_p_Encode_13 lf x1 x2 (fun q => A_p_Encode g lf 9 [m1] (enc_p_Encode_9 x1 x2 q)) n p
  | 0, p => atN_zero 13 [m1, 0] rfl _
  | n + 1, p => by
    have ih := at_p_Encode_13 g lf x1 x2 m1 n
    refine (atN_eq (icallK_eq 20 _) nd_p_Encode ok_p_Encode 13 [m1, n + 1] [m1, n] rfl _).trans ((st_p_Encode_13 g (A_p_Encode g lf) lf x1 x2 m1 n p).trans ?_)
    rw [(show (fun q => A_p_Encode g lf 13 [m1, n] (enc_p_Encode_13 x1 x2 q)) = (fun q => G_p_Encode_13 lf x1 x2 (fun q => A_p_Encode g lf 9 [m1] (enc_p_Encode_9 x1 x2 q)) n q) from funext ih)]
    rfl
def G_p_Encode_20 (lf : Nat) (x1 : (List DForm)) (x2 : DGraph) : Nat → ((List DVal) × (List Int) × Int) → Option Rt_p_Encode := rounds fun K p => R_p_Encode_20 lf x1 x2 K p
theorem at_p_Encode_20 (g : ElA [(.list cForm), cGraph] → Option Rt_p_Encode) (lf : Nat) (x1 : (List DForm)) (x2 : DGraph) : ∀ (n : Nat) (p : (List DVal) × (List Int) × Int), A_p_Encode g lf 20 [n] (enc_p_Encode_20 x1 x2 p) = G_p_Encode_20 lf x1 x2 n p
  | 0, p => atN_zero 20 [0] rfl _
  | n + 1, p => by
    have ih := at_p_Encode_20 g lf x1 x2 n
    refine (atN_eq (icallK_eq 20 _) nd_p_Encode ok_p_Encode 20 [n + 1] [n] rfl _).trans ((st_p_Encode_20 g (A_p_Encode g lf) lf x1 x2 n p).trans ?_)
    rw [(show (fun q => A_p_Encode g lf 20 [n] (enc_p_Encode_20 x1 x2 q)) = (fun q => G_p_Encode_20 lf x1 x2 n q) from funext ih)]
    rfl
def G_p_Encode_9 (lf : Nat) (x1 : (List DForm)) (x2 : DGraph) : Nat → ((List Int) × (List DNode) × (List DVal) × Int) → Option Rt_p_Encode := rounds fun K p => R_p_Encode_9 lf x1 x2 (fun q => G_p_Encode_13 lf x1 x2 K lf q) (fun q => G_p_Encode_20 lf x1 x2 lf q) p
theorem at_p_Encode_9 (g : ElA [(.list cForm), cGraph] → Option Rt_p_Encode) (lf : Nat) (x1 : (List DForm)) (x2 : DGraph) : ∀ (n : Nat) (p : (List Int) × (List DNode) × (List DVal) × Int), A_p_Encode g lf 9 [n] (enc_p_Encode_9 x1 x2 p) = G_p_Encode_9 lf x1 x2 n p
  | 0, p => atN_zero 9 [0] rfl _
  | n + 1, p => by
    have ih := at_p_Encode_9 g lf x1 x2 n
    refine (atN_eq (icallK_eq 20 _) nd_p_Encode ok_p_Encode 9 [n + 1] [n] rfl _).trans ((st_p_Encode_9 g (A_p_Encode g lf) lf x1 x2 n p).trans ?_)
    rw [(show (fun q => A_p_Encode g lf 13 [n, lf] (enc_p_Encode_13 x1 x2 q)) = (fun q => G_p_Encode_13 lf x1 x2 (fun q => A_p_Encode g lf 9 [n] (enc_p_Encode_9 x1 x2 q)) lf q) from funext fun q => at_p_Encode_13 g lf x1 x2 n lf q), (show (fun q => A_p_Encode g lf 20 [lf] (enc_p_Encode_20 x1 x2 q)) = (fun q => G_p_Encode_20 lf x1 x2 lf q) from funext fun q => at_p_Encode_20 g lf x1 x2 lf q), (show (fun q => A_p_Encode g lf 9 [n] (enc_p_Encode_9 x1 x2 q)) = (fun q => G_p_Encode_9 lf x1 x2 n q) from funext ih)]
    rfl
def F_p_Encode (lf : Nat) (x1 : (List DForm)) (x2 : DGraph) : Option Rt_p_Encode := R_p_Encode_in lf x1 x2 (fun q => G_p_Encode_9 lf x1 x2 lf q)
theorem run_p_Encode (g : ElA [(.list cForm), cGraph] → Option Rt_p_Encode) (lf : Nat) (x1 : (List DForm)) (x2 : DGraph) : icodeT Try.prog ttT.get nm_p_Encode fi20.nt (cl_p_Encode _ lf) lf st_p_Encode (A_p_Encode g lf) fi20.body [] (argGo (argV [(.list cForm), cGraph] (x1, x2, ())) 0 .leaf) S0 [] (lastK ttT.get fi20 ⟨[(.list cForm), cGraph], [(false, (.list (.int .u8))), (false, (.int .i64))], g⟩) = F_p_Encode lf x1 x2 := by
    refine (in_p_Encode g (A_p_Encode g lf) lf x1 x2).trans ?_
    rw [(show (fun q => A_p_Encode g lf 9 [lf] (enc_p_Encode_9 x1 x2 q)) = (fun q => G_p_Encode_9 lf x1 x2 lf q) from funext fun q => at_p_Encode_9 g lf x1 x2 lf q)]
    rfl
theorem hxs_p_Encode (hr_p_sumL : ConR Try.prog 66 sp_p_sumL) : HxsOK Try.prog hxl_p_Encode := ⟨hxR_ok hr_p_sumL, trivial⟩
theorem mk_p_Encode {g : ElA [(.list cForm), cGraph] → Option Rt_p_Encode} (hsm : SmOK Try.prog sml_p_Encode) (hr_p_sumL : ConR Try.prog 66 sp_p_sumL) (hg : ∀ (x : ElA [(.list cForm), cGraph]) (y : Rt_p_Encode), WfA [(.list cForm), cGraph] x → g x = some y → ∃ lf, F_p_Encode lf x.1 x.2.1 = some y) : Con Try.prog 20 ⟨[(.list cForm), cGraph], [(false, (.list (.int .u8))), (false, (.int .i64))], g⟩ :=
  conT (nmf := nm_p_Encode) (sml := sml_p_Encode) (hxl := hxl_p_Encode) (st := st_p_Encode) (hd := hd_p_Encode) 20 mixed ttOK ftOK hsm (hxs_p_Encode hr_p_sumL) cal20 rfl rfl (by kernel_rfl) (fun x => by kernel_rfl) nd_p_Encode ok_p_Encode fun x y hx hy => by
    obtain ⟨lf, h⟩ := hg x y hx hy
    exact ⟨lf, (run_p_Encode g lf x.1 x.2.1).trans h⟩
end Go.Proofs.Ytcnhjofpmpipfaa

end
end

/- Made by program: plain forms of functions. -/
section
set_option linter.unusedVariables false
set_option maxRecDepth 100000
noncomputable section
namespace Go.Proofs.Ytcnhjofpmpipfaa
open Go Go.Sx Go.RowKit Go.Jx
def nm_p_number : Nat → Option Nm := fun k => cond (Nat.beq k 5) (some ⟨[3, 4], [(4, (.int .u8))], [], [], [], 0, 0, false⟩) (none)
def st_p_number : Nat → Bool := fun k => cond (Nat.beq k 5) true (false)
def hd_p_number : Nat → Bool := fun k => cond (Nat.beq k 5) true (false)
abbrev Rt_p_number : Type := (List Int) × Unit
def sml_p_number : List (Nat × Sm) := []
def hxl_p_number : List (Nat × Hx) := []
def cl_p_number (R : Type) (lf : Nat) : ClK R := icallK Try.prog ttT.get ftT.get (nm1 64 nm_p_number) (smL sml_p_number) (hxL hxl_p_number) lf 20 R
abbrev id_p_number : Nat := 64
def enc_p_number_5 (x1 : Int) (p : Int × (List Int)) : NRes := (NRes.mk (PT.node none (PT.node none (PT.node (some (IV.int Go.IntKind.u64 p.1)) PT.leaf PT.leaf) PT.leaf) (PT.node none (PT.node (some (IV.arr 0)) PT.leaf PT.leaf) PT.leaf)) (IS.mk (PT.node (some (IObj.arr (TC.int Go.IntKind.u8) p.2)) PT.leaf PT.leaf) 1) [] 0)
def R_p_number_in (lf : Nat) (x1 : Int) (L5 : (Int × (List Int)) → Option Rt_p_number) : Option Rt_p_number := (cond (iltI x1 (Int.ofNat 0)) (L5 ((Go.IntKind.wrap Go.IntKind.u64 (Go.IntKind.wrap Go.IntKind.i64 (Int.sub (Go.IntKind.wrap Go.IntKind.i64 (Int.mul (Int.negSucc 1) x1)) (Int.ofNat 1)))), [])) (L5 ((Go.IntKind.wrap Go.IntKind.u64 (Go.IntKind.wrap Go.IntKind.i64 (Int.mul (Int.ofNat 2) x1))), [])))
def R_p_number_5 (lf : Nat) (x1 : Int) (L5 : (Int × (List Int)) → Option Rt_p_number) (p : Int × (List Int)) : Option Rt_p_number := (cond (Bool.not (iltI p.1 (Int.ofNat 128))) (cond (Nat.ble (Nat.mul (Nat.add (List.length p.2) 1) 1) 140737488355328) (L5 ((Int.fdiv p.1 (Int.ofNat 128)), (List.append p.2 (List.cons (Int.ofNat (Nat.mod (Nat.lor (Int.toNat (Int.emod (Go.IntKind.wrap Go.IntKind.u8 p.1) (Int.ofNat 256))) 128) 256)) [])))) none) (cond (Nat.ble (Nat.mul (Nat.add (List.length p.2) 1) 1) 140737488355328) (some ((List.append p.2 (List.cons (Go.IntKind.wrap Go.IntKind.u8 p.1) [])), ())) none))
theorem in_p_number (g : ElA [(.int .i64)] → Option Rt_p_number) (J : Nat → List Nat → NRes → Option Rt_p_number) (lf : Nat) (x1 : Int) : icodeT Try.prog ttT.get nm_p_number fi64.nt (cl_p_number _ lf) lf st_p_number J fi64.body [] (argGo (argV [(.int .i64)] (x1, ())) 0 .leaf) S0 [] (lastK ttT.get fi64 ⟨[(.int .i64)], [(false, (.list (.int .u8)))], g⟩) = R_p_number_in lf x1 (fun q => J 5 [lf] (enc_p_number_5 x1 q)) := by kernel_rfl
theorem st_p_number_5 (g : ElA [(.int .i64)] → Option Rt_p_number) (J : Nat → List Nat → NRes → Option Rt_p_number) (lf : Nat) (x1 : Int) (m1 : Nat) (p : Int × (List Int)) : icodeFT Try.prog ttT.get nm_p_number fi64.nt (cl_p_number _ lf) lf st_p_number J 5 fi64.body [] [m1] (enc_p_number_5 x1 p) (lastK ttT.get fi64 ⟨[(.int .i64)], [(false, (.list (.int .u8)))], g⟩) = R_p_number_5 lf x1 (fun q => J 5 [m1] (enc_p_number_5 x1 q)) p := by kernel_rfl
theorem nd_p_number : (regs fi64.body).Nodup := by decide +kernel
theorem ok_p_number : okC nm_p_number st_p_number hd_p_number fi64.body none = true := by kernel_rfl
def A_p_number (g : ElA [(.int .i64)] → Option Rt_p_number) (lf : Nat) : Nat → List Nat → NRes → Option Rt_p_number := atN Try.prog ttT.get nm_p_number fi64 ⟨[(.int .i64)], [(false, (.list (.int .u8)))], g⟩ (cl_p_number _ lf) lf hd_p_number
def G_p_number_5 (lf : Nat) (x1 : Int) : Nat → (Int × (List Int)) → Option Rt_p_number := rounds fun K p => R_p_number_5 lf x1 K p
theorem at_p_number_5 (g : ElA [(.int .i64)] → Option Rt_p_number) (lf : Nat) (x1 : Int) : ∀ (n : Nat) (p : Int × (List Int)), A_p_number g lf 5 [n] (enc_p_number_5 x1 p) = G_p_number_5 lf x1 n p
  | 0, p => atN_zero 5 [0] rfl _
  | n + 1, p => by
    have ih := at_p_number_5 g lf x1 n
    refine (atN_eq (icallK_eq 20 _) nd_p_number ok_p_number 5 [n + 1] [n] rfl _).trans ((st_p_number_5 g (A_p_number g lf) lf x1 n p).trans ?_)
    rw [(show (fun q => A_p_number g lf 5 [n] (enc_p_number_5 x1 q)) = (fun q => G_p_number_5 lf x1 n q) from funext ih)]
    rfl
def F_p_number (lf : Nat) (x1 : Int) : Option Rt_p_number := R_p_number_in lf x1 (fun q => G_p_number_5 lf x1 lf q)
theorem run_p_number (g : ElA [(.int .i64)] → Option Rt_p_number) (lf : Nat) (x1 : Int) : icodeT Try.prog ttT.get nm_p_number fi64.nt (cl_p_number _ lf) lf st_p_number (A_p_number g lf) fi64.body [] (argGo (argV [(.int .i64)] (x1, ())) 0 .leaf) S0 [] (lastK ttT.get fi64 ⟨[(.int .i64)], [(false, (.list (.int .u8)))], g⟩) = F_p_number lf x1 := by
    refine (in_p_number g (A_p_number g lf) lf x1).trans ?_
    rw [(show (fun q => A_p_number g lf 5 [lf] (enc_p_number_5 x1 q)) = (fun q => G_p_number_5 lf x1 lf q) from funext fun q => at_p_number_5 g lf x1 lf q)]
    rfl
theorem hxs_p_number : HxsOK Try.prog hxl_p_number := trivial
theorem mk_p_number {g : ElA [(.int .i64)] → Option Rt_p_number} (hsm : SmOK Try.prog sml_p_number) (hg : ∀ (x : ElA [(.int .i64)]) (y : Rt_p_number), WfA [(.int .i64)] x → g x = some y → ∃ lf, F_p_number lf x.1 = some y) : Con Try.prog 64 ⟨[(.int .i64)], [(false, (.list (.int .u8)))], g⟩ :=
  conT (nmf := nm_p_number) (sml := sml_p_number) (hxl := hxl_p_number) (st := st_p_number) (hd := hd_p_number) 20 mixed ttOK ftOK hsm hxs_p_number cal64 rfl rfl (by kernel_rfl) (fun x => by kernel_rfl) nd_p_number ok_p_number fun x y hx hy => by
    obtain ⟨lf, h⟩ := hg x y hx hy
    exact ⟨lf, (run_p_number g lf x.1).trans h⟩
def nm_p_code : Nat → Option Nm := fun k => none
def st_p_code : Nat → Bool := fun k => false
def hd_p_code : Nat → Bool := fun k => false
abbrev Rt_p_code : Type := Int × Unit
def sml_p_code : List (Nat × Sm) := []
def hxl_p_code : List (Nat × Hx) := []
def cl_p_code (R : Type) (lf : Nat) : ClK R := icallK Try.prog ttT.get ftT.get (nm1 65 nm_p_code) (smL sml_p_code) (hxL hxl_p_code) lf 20 R
abbrev id_p_code : Nat := 65
def R_p_code_in (lf : Nat) (x1 : DVal) : Option Rt_p_code := (cond (ieqI x1.1 (Int.ofNat 3)) (some ((Int.ofNat 0), ())) (cond (ieqI x1.1 (Int.ofNat 4)) (some ((Go.IntKind.wrap Go.IntKind.i64 (Int.add x1.2 (Int.ofNat 1))), ())) (some (x1.2, ()))))
theorem in_p_code (g : ElA [cVal] → Option Rt_p_code) (J : Nat → List Nat → NRes → Option Rt_p_code) (lf : Nat) (x1 : DVal) : icodeT Try.prog ttT.get nm_p_code fi65.nt (cl_p_code _ lf) lf st_p_code J fi65.body [] (argGo (argV [cVal] (x1, ())) 0 .leaf) S0 [] (lastK ttT.get fi65 ⟨[cVal], [(false, (.int .i64))], g⟩) = R_p_code_in lf x1 := by kernel_rfl
theorem nd_p_code : (regs fi65.body).Nodup := by decide +kernel
theorem ok_p_code : okC nm_p_code st_p_code hd_p_code fi65.body none = true := by kernel_rfl
def A_p_code (g : ElA [cVal] → Option Rt_p_code) (lf : Nat) : Nat → List Nat → NRes → Option Rt_p_code := atN Try.prog ttT.get nm_p_code fi65 ⟨[cVal], [(false, (.int .i64))], g⟩ (cl_p_code _ lf) lf hd_p_code
def F_p_code (lf : Nat) (x1 : DVal) : Option Rt_p_code := R_p_code_in lf x1
theorem run_p_code (g : ElA [cVal] → Option Rt_p_code) (lf : Nat) (x1 : DVal) : icodeT Try.prog ttT.get nm_p_code fi65.nt (cl_p_code _ lf) lf st_p_code (A_p_code g lf) fi65.body [] (argGo (argV [cVal] (x1, ())) 0 .leaf) S0 [] (lastK ttT.get fi65 ⟨[cVal], [(false, (.int .i64))], g⟩) = F_p_code lf x1 := by
    refine (in_p_code g (A_p_code g lf) lf x1).trans ?_
    rfl
theorem hxs_p_code : HxsOK Try.prog hxl_p_code := trivial
theorem mk_p_code {g : ElA [cVal] → Option Rt_p_code} (hsm : SmOK Try.prog sml_p_code) (hg : ∀ (x : ElA [cVal]) (y : Rt_p_code), WfA [cVal] x → g x = some y → ∃ lf, F_p_code lf x.1 = some y) : Con Try.prog 65 ⟨[cVal], [(false, (.int .i64))], g⟩ :=
  conT (nmf := nm_p_code) (sml := sml_p_code) (hxl := hxl_p_code) (st := st_p_code) (hd := hd_p_code) 20 mixed ttOK ftOK hsm hxs_p_code cal65 rfl rfl (by kernel_rfl) (fun x => by kernel_rfl) nd_p_code ok_p_code fun x y hx hy => by
    obtain ⟨lf, h⟩ := hg x y hx hy
    exact ⟨lf, (run_p_code g lf x.1).trans h⟩
end Go.Proofs.Ytcnhjofpmpipfaa

end
end

/- Made by program: plain forms of functions. -/
section
set_option linter.unusedVariables false
set_option maxRecDepth 100000
noncomputable section
namespace Go.Proofs.Ytcnhjofpmpipfaa
open Go Go.Sx Go.RowKit Go.Jx
def nm_p_sumL : Nat → Option Nm := fun k => cond (Nat.beq k 3) (some ⟨[3, 6, 7, 8], [], [], [], [], 0, 0, false⟩) (cond (Nat.beq k 999999) (some ⟨[], [], [], [], [], 0, 0, false⟩) none)
def st_p_sumL : Nat → Bool := fun k => cond (Nat.beq k 3) true (false)
def hd_p_sumL : Nat → Bool := fun k => cond (Nat.beq k 3) true (false)
abbrev Rt_p_sumL : Type := ((List Int) × Unit) × (Option (List Int)) × Unit
def sml_p_sumL : List (Nat × Sm) := []
def hxl_p_sumL : List (Nat × Hx) := []
def cl_p_sumL (R : Type) (lf : Nat) : ClK R := icallK Try.prog ttT.get ftT.get (fun _ _ => none) (smL sml_p_sumL) (hxL hxl_p_sumL) lf 20 R
abbrev id_p_sumL : Nat := 66
def enc_p_sumL_3 (x1 : (List Int)) (p : Int × Int) : NRes := (NRes.mk (PT.node none (PT.node none (PT.node (some (IV.int Go.IntKind.i64 p.1)) (PT.node (some (IV.int Go.IntKind.i64 (Int.ofNat (List.length x1)))) PT.leaf PT.leaf) PT.leaf) PT.leaf) (PT.node none (PT.node none (PT.node (some (IV.int Go.IntKind.i64 p.2)) PT.leaf PT.leaf) PT.leaf) (PT.node (some (IV.arr 0)) PT.leaf PT.leaf))) (IS.mk (PT.node (some (IObj.arr (TC.int Go.IntKind.u8) x1)) PT.leaf PT.leaf) 1) [] 0)
def R_p_sumL_in (lf : Nat) (x1 : (List Int)) (L3 : (Int × Int) → Option Rt_p_sumL) : Option Rt_p_sumL := (L3 ((Int.ofNat 1), (Int.ofNat 0)))
def R_p_sumL_3 (lf : Nat) (x1 : (List Int)) (L3 : (Int × Int) → Option Rt_p_sumL) (p : Int × Int) : Option Rt_p_sumL := (cond (iltI p.2 (Int.ofNat (List.length x1))) (match (jget x1 p.2) with | .none  => none | .some v0 => (match (GetElem?.getElem? x1 (Int.toNat p.2)) with | .none  => none | .some v1 => (L3 ((Int.tmod (Go.IntKind.wrap Go.IntKind.i64 (Int.add (Go.IntKind.wrap Go.IntKind.i64 (Int.mul (Int.ofNat 31) p.1)) (Go.IntKind.wrap Go.IntKind.i64 v1))) (Int.ofNat 2147483647)), (Go.IntKind.wrap Go.IntKind.i64 (Int.add p.2 (Int.ofNat 1))))))) (some (((List.cons (Go.IntKind.wrap Go.IntKind.u8 (Int.fdiv p.1 (Int.ofNat 16777216))) (List.cons (Go.IntKind.wrap Go.IntKind.u8 (Int.fdiv p.1 (Int.ofNat 65536))) (List.cons (Go.IntKind.wrap Go.IntKind.u8 (Int.fdiv p.1 (Int.ofNat 256))) (List.cons (Go.IntKind.wrap Go.IntKind.u8 p.1) [])))), ()), ((some x1), ()))))
theorem in_p_sumL (g : ElP [.ref (.sl (.int .u8))] → Option Rt_p_sumL) (J : Nat → List Nat → NRes → Option Rt_p_sumL) (lf : Nat) (x1 : (List Int)) : icodeTB Try.prog ttT.get nm_p_sumL (mP [.ref (.sl (.int .u8))]) fi66.nt (cl_p_sumL _ lf) lf st_p_sumL J fi66.body [] (argGo (argsP [.ref (.sl (.int .u8))] idN 0 (some x1, ())) 0 .leaf) (Sc [.ref (.sl (.int .u8))] (some x1, ())) [] (lastQ ttT.get fi66 ⟨[.ref (.sl (.int .u8))], [(true, (.int .u8))], g⟩) = R_p_sumL_in lf x1 (fun q => J 3 [lf] (enc_p_sumL_3 x1 q)) := by kernel_rfl
theorem st_p_sumL_3 (g : ElP [.ref (.sl (.int .u8))] → Option Rt_p_sumL) (J : Nat → List Nat → NRes → Option Rt_p_sumL) (lf : Nat) (x1 : (List Int)) (m1 : Nat) (p : Int × Int) : icodeFTB Try.prog ttT.get nm_p_sumL (mP [.ref (.sl (.int .u8))]) fi66.nt (cl_p_sumL _ lf) lf st_p_sumL J 3 fi66.body [] [m1] (enc_p_sumL_3 x1 p) (lastQ ttT.get fi66 ⟨[.ref (.sl (.int .u8))], [(true, (.int .u8))], g⟩) = R_p_sumL_3 lf x1 (fun q => J 3 [m1] (enc_p_sumL_3 x1 q)) p := by kernel_rfl
theorem nd_p_sumL : (regs fi66.body).Nodup := by decide +kernel
theorem ok_p_sumL : okC nm_p_sumL st_p_sumL hd_p_sumL fi66.body none = true := by kernel_rfl
def A_p_sumL (g : ElP [.ref (.sl (.int .u8))] → Option Rt_p_sumL) (lf : Nat) : Nat → List Nat → NRes → Option Rt_p_sumL := atQ Try.prog ttT.get nm_p_sumL fi66 ⟨[.ref (.sl (.int .u8))], [(true, (.int .u8))], g⟩ (cl_p_sumL _ lf) lf hd_p_sumL
def G_p_sumL_3 (lf : Nat) (x1 : (List Int)) : Nat → (Int × Int) → Option Rt_p_sumL := rounds fun K p => R_p_sumL_3 lf x1 K p
theorem at_p_sumL_3 (g : ElP [.ref (.sl (.int .u8))] → Option Rt_p_sumL) (lf : Nat) (x1 : (List Int)) : ∀ (n : Nat) (p : Int × Int), A_p_sumL g lf 3 [n] (enc_p_sumL_3 x1 p) = G_p_sumL_3 lf x1 n p
  | 0, p => atQ_zero 3 [0] rfl _
  | n + 1, p => by
    have ih := at_p_sumL_3 g lf x1 n
    refine (atQ_eq rfl (icallK_eq 20 _) nd_p_sumL ok_p_sumL 3 [n + 1] [n] rfl _).trans ((st_p_sumL_3 g (A_p_sumL g lf) lf x1 n p).trans ?_)
    rw [(show (fun q => A_p_sumL g lf 3 [n] (enc_p_sumL_3 x1 q)) = (fun q => G_p_sumL_3 lf x1 n q) from funext ih)]
    rfl
def F_p_sumL (lf : Nat) (x1 : (List Int)) : Option Rt_p_sumL := R_p_sumL_in lf x1 (fun q => G_p_sumL_3 lf x1 lf q)
theorem run_p_sumL (g : ElP [.ref (.sl (.int .u8))] → Option Rt_p_sumL) (lf : Nat) (x1 : (List Int)) : icodeTB Try.prog ttT.get nm_p_sumL (mP [.ref (.sl (.int .u8))]) fi66.nt (cl_p_sumL _ lf) lf st_p_sumL (A_p_sumL g lf) fi66.body [] (argGo (argsP [.ref (.sl (.int .u8))] idN 0 (some x1, ())) 0 .leaf) (Sc [.ref (.sl (.int .u8))] (some x1, ())) [] (lastQ ttT.get fi66 ⟨[.ref (.sl (.int .u8))], [(true, (.int .u8))], g⟩) = F_p_sumL lf x1 := by
    refine (in_p_sumL g (A_p_sumL g lf) lf x1).trans ?_
    rw [(show (fun q => A_p_sumL g lf 3 [lf] (enc_p_sumL_3 x1 q)) = (fun q => G_p_sumL_3 lf x1 lf q) from funext fun q => at_p_sumL_3 g lf x1 lf q)]
    rfl
theorem hxs_p_sumL : HxsOK Try.prog hxl_p_sumL := trivial
theorem mk_p_sumL {g : ElP [.ref (.sl (.int .u8))] → Option Rt_p_sumL} (hsm : SmOK Try.prog sml_p_sumL) (h0 : ∀ (x : ElP [.ref (.sl (.int .u8))]) (y : Rt_p_sumL), g x = some y → ∃ (x1 : (List Int)), x = (some x1, ())) (hg : ∀ (x1 : (List Int)) (y : Rt_p_sumL), WfP [.ref (.sl (.int .u8))] (some x1, ()) → g (some x1, ()) = some y → ∃ lf, F_p_sumL lf x1 = some y) : ConR Try.prog 66 ⟨[.ref (.sl (.int .u8))], [(true, (.int .u8))], g⟩ :=
  conTR (nmf := nm_p_sumL) (sml := sml_p_sumL) (hxl := hxl_p_sumL) (st := st_p_sumL) (hd := hd_p_sumL) 20 mixed ttOK ftOK hsm hxs_p_sumL cal66 (by kernel_rfl) (fun x => by kernel_rfl) nd_p_sumL ok_p_sumL fun x y z hx hy => by
    obtain ⟨x1, rfl⟩ := h0 x (y, z) hy
    obtain ⟨lf, h⟩ := hg x1 (y, z) hx hy
    exact ⟨lf, (run_p_sumL g lf x1).trans h⟩
end Go.Proofs.Ytcnhjofpmpipfaa

end
end

/- Contracts of number, sum, code: both sides. -/
section
set_option linter.unusedVariables false
namespace Go.Proofs.Ytcnhjofpmpipfaa
open Go Go.Sx Go.RowKit Go.Jx
theorem w64 {n : Int} (h1 : -4611686018427387904 ≤ n) (h2 : n ≤ 4611686018427387904) : IntKind.i64.wrap n = n := (wrap_iff _ _).2 ⟨by show (-9223372036854775808 : Int) ≤ n; omega, by show n ≤ (9223372036854775807 : Int); omega⟩
theorem wu64 {n : Int} (h1 : 0 ≤ n) (h2 : n ≤ 4611686018427387904) : IntKind.u64.wrap n = n := (wrap_iff _ _).2 ⟨by show (0 : Int) ≤ n; omega, by show n ≤ (18446744073709551615 : Int); omega⟩
theorem w8 (n : Int) : IntKind.u8.wrap n = n % 256 := rfl
theorem lor128 : ∀ k : Fin 256, (k.val ||| 128) % 256 = 128 + k.val % 128 := by decide +kernel
theorem room1 {m k : Nat} (h : m + k ≤ 140737488355328) : Nat.ble (Nat.mul (Nat.add m k) 1) 140737488355328 = true := Nat.ble_eq_true_of_le (by show (m + k) * 1 ≤ _; omega)
theorem byte_or {u : Int} (h : 0 ≤ u) : Int.ofNat (Nat.mod (Nat.lor (Int.toNat (Int.emod (IntKind.u8.wrap u) (Int.ofNat 256))) 128) 256) = 128 + u % 128 := by
  have e : Int.emod (IntKind.u8.wrap u) (Int.ofNat 256) = u % 256 := by rw [w8]; show (u % 256) % 256 = _; omega
  rw [e]
  have hk : (u % 256).toNat < 256 := by omega
  have := lor128 ⟨(u % 256).toNat, hk⟩
  show (((((u % 256).toNat ||| 128) % 256 : Nat)) : Int) = _
  simp only at this
  rw [this]
  omega
theorem numU_lt {f : Nat} {u : Int} (h : u < 128) : S.numU f u = [u] := by cases f with | zero => rfl | succ f => simp only [S.numU, if_pos h]
theorem numU_ge {f : Nat} {u : Int} (h : ¬ u < 128) : S.numU (f + 1) u = (128 + u % 128) :: S.numU f (u / 128) := by simp only [S.numU, if_neg h]
theorem numU_len : ∀ (f : Nat) (u : Int), (S.numU f u).length ≤ f + 1
  | 0, u => by simp [S.numU]
  | f + 1, u => by
    have := numU_len f (u / 128)
    by_cases h : u < 128
    · rw [numU_lt h]; simp
    · rw [numU_ge h]; simp only [List.length_cons]; omega
theorem num_len (n : Int) : (S.num n).length ≤ 11 := numU_len 10 _
theorem pow_step {u : Int} {f : Nat} (h : u < 128 ^ (f + 1 + 1)) : u / 128 < 128 ^ (f + 1) := by
  rw [Int.pow_succ] at h
  generalize (128 : Int) ^ (f + 1) = q at h ⊢
  omega
theorem p_num_loop (x1 : Int) : ∀ (f n : Nat) (u : Int) (out : List Int), 0 ≤ u → u < 128 ^ (f + 1) → f < n → out.length + f ≤ 1000 →
    rounds (fun K p => R_p_number_5 LF x1 K p) n (u, out) = some (out ++ S.numU f u, ())
  | f, 0, u, out, h0, h1, hn, hl => by omega
  | f, n + 1, u, out, h0, h1, hn, hl => by
    have ih := fun f' => p_num_loop x1 f' n (Int.fdiv u (Int.ofNat 128))
    show R_p_number_5 LF x1 (rounds (fun K p => R_p_number_5 LF x1 K p) n) (u, out) = _
    generalize rounds (fun K p => R_p_number_5 LF x1 K p) n = Z at ih ⊢
    have hb : Nat.ble (Nat.mul (Nat.add out.length 1) 1) 140737488355328 = true := room1 (by omega)
    have hd : Int.fdiv u (Int.ofNat 128) = u / 128 := Int.fdiv_eq_ediv_of_nonneg u (by show (0 : Int) ≤ 128; omega)
    by_cases hu : u < 128
    · have h2 : iltI u (Int.ofNat 128) = true := by rw [iltI_eq]; exact decide_eq_true hu
      have h3 : IntKind.u8.wrap u = u := by rw [w8]; omega
      simp only [R_p_number_5, h2, Bool.not_true, cond_false, hb, cond_true, h3, numU_lt hu]
      rfl
    · have h2 : iltI u (Int.ofNat 128) = false := by rw [iltI_eq]; exact decide_eq_false hu
      cases f with
      | zero => exact absurd (by simpa using h1) hu
      | succ f =>
        have := ih f (out ++ [128 + u % 128]) (by rw [hd]; omega) (by rw [hd]; exact pow_step h1) (by omega) (by simp; omega)
        simp only [R_p_number_5, h2, Bool.not_false, cond_true, hb, byte_or h0]
        refine Eq.trans this ?_
        rw [hd, numU_ge hu, List.append_assoc]; rfl
theorem F_p_number_eq {n : Int} (h : S.numOK n = true) : F_p_number LF n = some (S.num n, ()) := by
  unfold S.numOK at h
  simp only [Bool.and_eq_true, decide_eq_true_eq] at h
  obtain ⟨h1, h2⟩ := h
  have e1 : Int.sub (IntKind.i64.wrap (Int.mul (Int.negSucc 1) n)) (Int.ofNat 1) = -2 * n - 1 := by
    rw [show Int.mul (Int.negSucc 1) n = -2 * n from rfl, w64 (by omega) (by omega)]; rfl
  have e2 : Int.mul (Int.ofNat 2) n = 2 * n := rfl
  simp only [F_p_number, R_p_number_in, G_p_number_5, e1, e2]
  by_cases hn : n < 0
  · have h3 : iltI n (Int.ofNat 0) = true := by rw [iltI_eq]; exact decide_eq_true hn
    rw [h3, cond_true, w64 (n := -2 * n - 1) (by omega) (by omega), wu64 (by omega) (by omega), p_num_loop n 10 LF _ [] (by omega) (by omega) (by unfold LF; omega) (by simp)]
    simp only [S.num, if_pos hn, List.nil_append]
  · have h3 : iltI n (Int.ofNat 0) = false := by rw [iltI_eq]; exact decide_eq_false hn
    rw [h3, cond_false, w64 (n := 2 * n) (by omega) (by omega), wu64 (by omega) (by omega), p_num_loop n 10 LF _ [] (by omega) (by omega) (by unfold LF; omega) (by simp)]
    simp only [S.num, if_neg hn, List.nil_append]
theorem con_p_number : Con Try.prog id_p_number sp_p_number := mk_p_number trivial fun x y hx h => ⟨LF, by
  obtain ⟨n, _⟩ := x
  have h : cond (S.numOK n) (some (S.num n, ())) none = some y := h
  cases hk : S.numOK n with
  | false => rw [hk] at h; cases h
  | true => rw [hk] at h; exact (F_p_number_eq hk).trans h⟩
theorem F_p_code_eq (lf : Nat) (v : Int × Int) : F_p_code lf v = some (S.code v, ()) := by
  simp only [F_p_code, R_p_code_in, ieqI_eq, S.code]
  by_cases h3 : v.1 = 3
  · rw [decide_eq_true (show v.1 = Int.ofNat 3 from h3), if_pos h3]; rfl
  · rw [decide_eq_false (show ¬ v.1 = Int.ofNat 3 from h3), if_neg h3]
    by_cases h4 : v.1 = 4
    · rw [decide_eq_true (show v.1 = Int.ofNat 4 from h4), if_pos h4]; rfl
    · rw [decide_eq_false (show ¬ v.1 = Int.ofNat 4 from h4), if_neg h4]; rfl
theorem con_p_code : Con Try.prog id_p_code sp_p_code := mk_p_code trivial fun x y hx h => ⟨LF, (F_p_code_eq LF x.1).trans h⟩
theorem F_p_sumL_eq (b : List Int) (hl : b.length < LF) : F_p_sumL LF b = some ((S.sum4 b, ()), (some b, ())) := by
  simp only [F_p_sumL, R_p_sumL_in, G_p_sumL_3]
  refine range0 (α := Int) (σ := Int) (R := Rt_p_sumL) b (fun i s => (s, i)) (fun _ _ => True) (fun rest i s => some ((S.sum4I (rest.foldl S.sumStep s), ()), (some b, ()))) hl (fun K s hI => ?_) (fun K i v rest s hI r hk => ?_) 1 trivial
  · simp only [R_p_sumL_3, ilt_self, cond_false]; rfl
  · have e1 : Int.toNat (Int.ofNat i) = i := rfl
    simp only [R_p_sumL_3, r.ilt, cond_true, r.get, e1, r.get?, r.next]
    exact hk _ trivial
theorem con_p_sumL : ConR Try.prog id_p_sumL sp_p_sumL := mk_p_sumL trivial (fun x y h => by
  match x, h with
  | (some b, ()), _ => exact ⟨b, rfl⟩
  | (none, ()), h => cases h) fun b y hx h => ⟨LF, (F_p_sumL_eq b (by
    have h1 : List.length (α := Int) b * 1 ≤ 140737488355328 := hx.1.1
    unfold LF; omega)).trans h⟩
end Go.Proofs.Ytcnhjofpmpipfaa
end

/- Made by program: plain forms of functions. -/
section
set_option linter.unusedVariables false
set_option maxRecDepth 100000
noncomputable section
namespace Go.Proofs.Ytcnhjofpmpipfaa
open Go Go.Sx Go.RowKit Go.Jx
end Go.Proofs.Ytcnhjofpmpipfaa

end
end

/- What the reference's canon computes: the package's canonical form. -/
section
set_option linter.unusedVariables false
namespace Go.Proofs.Ytcnhjofpmpipfaa
open Go Go.Sx Go.RowKit Go.Jx
section
variable {g : List DNode × List DVal}
end
end Go.Proofs.Ytcnhjofpmpipfaa
end

/- The contract of the reference's canon. -/
section
set_option linter.unusedVariables false
namespace Go.Proofs.Ytcnhjofpmpipfaa
open Go Go.Sx Go.RowKit Go.Jx
section
variable {g : List DNode × List DVal}
theorem room40 {m : Nat} (h : m ≤ 100000) : Nat.ble (Nat.mul (Nat.add m 1) 40) 140737488355328 = true := Nat.ble_eq_true_of_le (by show (m + 1) * 40 ≤ _; omega)
end
end Go.Proofs.Ytcnhjofpmpipfaa
end

/- Contracts of Encode: both sides. -/
section
set_option linter.unusedVariables false
namespace Go.Proofs.Ytcnhjofpmpipfaa
open Go Go.Sx Go.RowKit Go.Jx
structure EncG (l : List DForm) (G : List DNode × List DVal) : Prop where
  l24 : l.length ≤ 24
  n4 : G.1.length ≤ 400
  r6 : G.2.length ≤ 60
  vs : ∀ n ∈ G.1, List.length (α := Int × Int) (n : ByteArray × List (Int × Int)).2 ≤ 30
  ok : ∀ n ∈ G.1, ∀ v ∈ (n : ByteArray × List (Int × Int)).2, S.numOK (S.code v) = true
  rok : ∀ v ∈ G.2, S.numOK (S.code (v : Int × Int)) = true
theorem idx_rng {α : Type} (p : α → Bool) (l : List α) : -1 ≤ S.idx p l ∧ S.idx p l < Int.ofNat l.length + 1 := by
  unfold S.idx
  cases h : l.findIdx? p with
  | none => exact ⟨by simp, by show (-1 : Int) < (l.length : Int) + 1; omega⟩
  | some j =>
    have hj : j < l.length := (List.findIdx?_eq_some_iff_getElem.1 h).1
    exact ⟨by show (-1 : Int) ≤ (j : Int); omega, by show (j : Int) < (l.length : Int) + 1; omega⟩
theorem numOK_of {n : Int} (h1 : -2000000000000 ≤ n) (h2 : n ≤ 2000000000000) : S.numOK n = true := by unfold S.numOK; rw [decide_eq_true h1, decide_eq_true h2]; rfl
theorem numOK_form {l : List DForm} (hl : l.length ≤ 24) (n : ByteArray) : S.numOK (S.form l n) = true := by
  obtain ⟨h1, h2⟩ := idx_rng (fun f : DForm => keqS f.1 n) l
  have h2 : S.form l n < (l.length : Int) + 1 := h2
  exact numOK_of (by show _ ≤ S.form l n; have : -1 ≤ S.form l n := h1; omega) (by omega)
theorem numOK_len {n : Nat} (h : n ≤ 400) : S.numOK (Int.ofNat n) = true := numOK_of (by show _ ≤ (n : Int); omega) (by show (n : Int) ≤ _; omega)
theorem numOK_val {m : Nat} (hm : m ≤ 400) {v : Int × Int} (h : S.value v (Int.ofNat m) = true) : S.numOK (S.code v) = true := by
  have h := (value_iff hm v).1 h
  unfold S.code
  by_cases h3 : v.1 = 3
  · rw [if_pos h3]; exact numOK_of (by omega) (by omega)
  · rw [if_neg h3]
    by_cases h4 : v.1 = 4
    · rw [if_pos h4]
      have : 0 ≤ v.2 ∧ v.2 < 400 := by
        rcases h with ⟨a, _⟩ | ⟨a, _⟩ | ⟨a, _⟩ | ⟨a, b, c⟩
        · have a : v.1 = 1 := a; omega
        · have a : v.1 = 2 := a; omega
        · have a : v.1 = 3 := a; omega
        · have b : 0 ≤ v.2 := b
          have c : v.2 < (m : Int) := c
          omega
      rw [w64 (n := v.2 + 1) (by omega) (by omega)]; exact numOK_of (by omega) (by omega)
    · rw [if_neg h4]
      rcases h with ⟨a, b, c⟩ | ⟨a, b, c⟩ | ⟨a, b⟩ | ⟨a, b, c⟩
      · have b : -1099511627776 ≤ v.2 := b
        have c : v.2 ≤ 1099511627776 := c
        exact numOK_of (by omega) (by omega)
      · have b : 0 ≤ v.2 := b
        have c : v.2 ≤ 1 := c
        exact numOK_of (by omega) (by omega)
      · exact absurd a h3
      · exact absurd a h4
theorem encG_of {l : List DForm} {g : DGraph} (h : S.checkG l g = 0) : S.formed g = 0 ∧ EncG l (S.canonG g) := by
  unfold S.checkG at h
  by_cases hc : S.checkForms l = 0
  · rw [if_neg (by simpa using hc)] at h
    have hf := ((graphOK_iff l g).1 h).formed
    have hF := formsOK hc
    obtain ⟨f1, f2, f3, f4, f5⟩ := formed_zero (canon_formed2 (x := g) hf)
    exact ⟨hf, hF.len, f1, f2, f3, fun n hn v hv => numOK_val f1 (f4 n hn v hv), fun v hv => numOK_val f1 (f5 v hv).1⟩
  · rw [if_pos hc] at h; exact absurd h hc
theorem codes_cons (v : Int × Int) (l : List (Int × Int)) : S.codes (v :: l) = S.num (S.code v) ++ S.codes l := rfl
theorem codes_len : ∀ l : List (Int × Int), (S.codes l).length ≤ 11 * l.length
  | [] => Nat.le_refl _
  | v :: l => by
    have := codes_len l
    have := num_len (S.code v)
    rw [codes_cons, List.length_append, List.length_cons]; omega
section
variable {l : List DForm} {x2 : DGraph} {G : List DNode × List DVal}
/-! ### The package -/
theorem pe_loop13 (K9 : ((List Int) × (List DNode) × (List DVal) × Int) → Option Rt_p_Encode) (vs : List (Int × Int)) (hv : vs.length ≤ 400) (hok : ∀ v ∈ vs, S.numOK (S.code v) = true) (nd : List DNode) (rs : List DVal) (i0 : Int) (out : List Int) (ho : out.length ≤ 1000000) :
    rounds (fun K p => R_p_Encode_13 LF l x2 K K9 p) LF (nd, rs, vs, out, Int.ofNat 0, i0) = K9 (out ++ S.codes vs, nd, rs, IntKind.i64.wrap (Int.add i0 (Int.ofNat 1))) := by
  refine range0 (α := Int × Int) (σ := List Int) (R := Rt_p_Encode) vs (fun k s => (nd, rs, vs, s, k, i0)) (fun i s => s.length ≤ 1000000 + 11 * i)
    (fun rest i s => K9 (s ++ S.codes rest, nd, rs, IntKind.i64.wrap (Int.add i0 (Int.ofNat 1)))) (by unfold LF; omega) (fun K s hI => ?_) (fun K i v rest s hI r hk => ?_) out (by omega)
  · simp only [R_p_Encode_13, ilt_self, cond_false]
    rw [show S.codes [] = [] from rfl, List.append_nil]
  · have h1 := r.ilt
    have h2 := r.get
    have hlt := r.lt
    have hn := num_len (S.code v)
    have hb : Nat.ble (Nat.mul (Nat.add s.length (List.length (S.num (S.code v)))) 1) 140737488355328 = true := room1 (by omega)
    have hc : S.numOK (S.code (v.1, v.2)) = true := hok v r.mem
    have hb2 : Nat.ble (Nat.mul (Nat.add s.length (List.length (S.num (S.code (v.1, v.2))))) 1) 140737488355328 = true := hb
    simp only [R_p_Encode_13, h1, cond_true, h2, hc, hb2, r.next]
    have := hk (s.append (S.num (S.code v))) (by show (s ++ _).length ≤ _; rw [List.length_append]; omega)
    refine Eq.trans this ?_
    rw [codes_cons, ← List.append_assoc]; rfl
theorem pe_loop20 (hg : EncG l G) (out : List Int) (ho : out.length ≤ 1000000) :
    rounds (fun K p => R_p_Encode_20 LF l x2 K p) LF (G.2, out, Int.ofNat 0) =
      (if 60000 < (out ++ S.codes G.2).length + 4 then some ([], (Int.ofNat 3, ())) else some ((out ++ S.codes G.2) ++ S.sum4 (out ++ S.codes G.2), (Int.ofNat 0, ()))) := by
  have hr6 := hg.r6
  refine range0 (α := Int × Int) (σ := List Int) (R := Rt_p_Encode) G.2 (fun k s => (G.2, s, k)) (fun i s => s.length ≤ 1000000 + 11 * i)
    (fun rest i s => if 60000 < (s ++ S.codes rest).length + 4 then some ([], (Int.ofNat 3, ())) else some ((s ++ S.codes rest) ++ S.sum4 (s ++ S.codes rest), (Int.ofNat 0, ()))) (by unfold LF; omega) (fun K s hI => ?_) (fun K i v rest s hI r hk => ?_) out (by omega)
  · have e4 : (S.sum4 s).length = 4 := rfl
    have hb : Nat.ble (Nat.mul (Nat.add s.length (List.length (S.sum4 s))) 1) 140737488355328 = true := room1 (by rw [e4]; omega)
    have hl : (List.append s (S.sum4 s)).length = s.length + 4 := by show (s ++ _).length = _; rw [List.length_append, e4]
    have e : s ++ S.codes [] = s := by rw [show S.codes [] = [] from rfl, List.append_nil]
    simp only [R_p_Encode_20, ilt_self, cond_false, hb, cond_true, e, hl]
    by_cases h6 : 60000 < s.length + 4
    · rw [show iltI (Int.ofNat 60000) (Int.ofNat (s.length + 4)) = true by rw [iltI_eq]; exact decide_eq_true (by show (60000 : Int) < ((s.length + 4 : Nat) : Int); omega), cond_true, if_pos h6]
    · rw [show iltI (Int.ofNat 60000) (Int.ofNat (s.length + 4)) = false by rw [iltI_eq]; exact decide_eq_false (by show ¬ (60000 : Int) < ((s.length + 4 : Nat) : Int); omega), cond_false, if_neg h6]; rfl
  · have h1 := r.ilt
    have h2 := r.get
    have hlt := r.lt
    have hn := num_len (S.code v)
    have hc : S.numOK (S.code (v.1, v.2)) = true := hg.rok v r.mem
    have hb2 : Nat.ble (Nat.mul (Nat.add s.length (List.length (S.num (S.code (v.1, v.2))))) 1) 140737488355328 = true := room1 (by show s.length + (S.num (S.code v)).length ≤ _; omega)
    simp only [R_p_Encode_20, h1, cond_true, h2, hc, hb2, r.next]
    have := hk (s.append (S.num (S.code v))) (by show (s ++ _).length ≤ _; rw [List.length_append]; omega)
    refine Eq.trans this ?_
    have e : List.append s (S.num (S.code v)) ++ S.codes rest = s ++ S.codes (v :: rest) := by rw [codes_cons, ← List.append_assoc]; rfl
    rw [e]
theorem pe_loop9 (hg : EncG l G) (L20 : ((List DVal) × (List Int) × Int) → Option Rt_p_Encode) (out : List Int) (ho : out.length ≤ 100) :
    rounds (fun K p => R_p_Encode_9 LF l x2 (fun q => G_p_Encode_13 LF l x2 K LF q) L20 p) LF (out, G.1, G.2, Int.ofNat 0) = L20 (G.2, out ++ (G.1.flatMap (S.encN l) ++ S.num (Int.ofNat G.2.length)), Int.ofNat 0) := by
  have hn4 := hg.n4
  refine range0 (α := ByteArray × List (Int × Int)) (σ := List Int) (R := Rt_p_Encode) G.1 (fun k s => (s, G.1, G.2, k)) (fun i s => s.length ≤ 100 + 400 * i)
    (fun rest i s => L20 (G.2, s ++ (rest.flatMap (S.encN l) ++ S.num (Int.ofNat G.2.length)), Int.ofNat 0)) (by unfold LF; omega) (fun K s hI => ?_) (fun K i v rest s hI r hk => ?_) out (by omega)
  · have hn := num_len (Int.ofNat G.2.length)
    have hr6 := hg.r6
    have hc := numOK_len (n := G.2.length) (by omega)
    have hb : Nat.ble (Nat.mul (Nat.add s.length (List.length (S.num (Int.ofNat G.2.length)))) 1) 140737488355328 = true := room1 (by omega)
    simp only [R_p_Encode_9, ilt_self, cond_false, hc, cond_true, hb, List.flatMap_nil, List.nil_append]
    rfl
  · have h1 := r.ilt
    have h2 := r.get
    have hlt := r.lt
    have hn := num_len (S.form l v.1)
    have hv := hg.vs v r.mem
    have hc := numOK_form hg.l24 v.1
    have hb : Nat.ble (Nat.mul (Nat.add s.length (List.length (S.num (S.form l v.1)))) 1) 140737488355328 = true := room1 (by omega)
    have hin := pe_loop13 (l := l) (x2 := x2) K v.2 (by omega) (hg.ok v r.mem) G.1 G.2 (Int.ofNat i) (s ++ S.num (S.form l v.1)) (by rw [List.length_append]; omega)
    have hcl := codes_len v.2
    simp only [R_p_Encode_9, h1, cond_true, h2, hc, hb]
    refine Eq.trans hin ?_
    rw [r.next]
    have := hk ((s ++ S.num (S.form l v.1)) ++ S.codes v.2) (by rw [List.length_append, List.length_append]; omega)
    refine Eq.trans this ?_
    have e : (s ++ S.num (S.form l v.1)) ++ S.codes v.2 ++ (rest.flatMap (S.encN l) ++ S.num (Int.ofNat G.2.length)) = s ++ ((v :: rest).flatMap (S.encN l) ++ S.num (Int.ofNat G.2.length)) := by
      rw [List.flatMap_cons]; simp only [S.encN, List.append_assoc]
    rw [e]
end
theorem flat_len {l : List DForm} : ∀ (ns : List DNode), (∀ n ∈ ns, List.length (α := Int × Int) (n : ByteArray × List (Int × Int)).2 ≤ 30) → (ns.flatMap (S.encN l)).length ≤ 400 * ns.length
  | [], _ => by simp
  | n :: ns, h => by
    have := flat_len (l := l) ns fun m hm => h m (List.mem_cons_of_mem _ hm)
    have h30 : List.length (α := Int × Int) (n : ByteArray × List (Int × Int)).2 ≤ 30 := h n (List.mem_cons_self ..)
    have h1 := num_len (S.form l (n : ByteArray × List (Int × Int)).1)
    have h2 := codes_len (n : ByteArray × List (Int × Int)).2
    rw [List.flatMap_cons, List.length_append]
    simp only [S.encN, List.length_append, List.length_cons]
    omega
theorem F_p_Encode_eq (l : List DForm) (g : DGraph) : F_p_Encode LF l g = some ((S.encB l g).1, (S.encB l g).2, ()) := by
  have eta : ((g : List DNode × List DVal).1, (g : List DNode × List DVal).2) = g := rfl
  by_cases h : S.checkG l g = 0
  · obtain ⟨hf, hE⟩ := encG_of h
    obtain ⟨hc, _⟩ := canon_ok (gf_of hf)
    have hn4 := hE.n4
    have hr6 := hE.r6
    have k1 : ieqI (S.checkG l g) (Int.ofNat 0) = true := by rw [ieqI_eq]; exact decide_eq_true h
    have hk := numOK_len (n := (S.canonG g : List DNode × List DVal).1.length) hn4
    have hnl := num_len (Int.ofNat (S.canonG g : List DNode × List DVal).1.length)
    have hb : Nat.ble (Nat.mul (Nat.add 0 (List.length (S.num (Int.ofNat (S.canonG g : List DNode × List DVal).1.length)))) 1) 140737488355328 = true := room1 (by omega)
    have hfl := flat_len (l := l) (S.canonG g : List DNode × List DVal).1 hE.vs
    have e9 := pe_loop9 (x2 := g) hE (fun q => G_p_Encode_20 LF l g LF q) (S.num (Int.ofNat (S.canonG g : List DNode × List DVal).1.length)) (by omega)
    have hnr := num_len (Int.ofNat (S.canonG g : List DNode × List DVal).2.length)
    have e20 := pe_loop20 (x2 := g) hE (S.num (Int.ofNat (S.canonG g : List DNode × List DVal).1.length) ++ ((S.canonG g : List DNode × List DVal).1.flatMap (S.encN l) ++ S.num (Int.ofNat (S.canonG g : List DNode × List DVal).2.length))) (by rw [List.length_append, List.length_append]; omega)
    have ee : S.num (Int.ofNat (S.canonG g : List DNode × List DVal).1.length) ++ ((S.canonG g : List DNode × List DVal).1.flatMap (S.encN l) ++ S.num (Int.ofNat (S.canonG g : List DNode × List DVal).2.length)) ++ S.codes (S.canonG g : List DNode × List DVal).2 = S.enc l (S.canonG g) := by
      unfold S.enc; simp only [List.append_assoc]
    rw [ee] at e20
    simp only [F_p_Encode, R_p_Encode_in, eta, k1, Bool.not_true, cond_false, hc, hk, cond_true, hb]
    refine (e9.trans e20).trans ?_
    unfold S.encB
    rw [if_pos h]
    by_cases h6 : 60000 < (S.enc l (S.canonG g)).length + 4
    · rw [if_pos h6, if_pos h6]; rfl
    · rw [if_neg h6, if_neg h6]; rfl
  · have k1 : ieqI (S.checkG l g) (Int.ofNat 0) = false := by rw [ieqI_eq]; exact decide_eq_false h
    simp only [F_p_Encode, R_p_Encode_in, eta, k1, Bool.not_false, cond_true]
    unfold S.encB
    rw [if_neg h]
theorem con_p_Encode : Con Try.prog id_p_Encode sp_p_Encode := mk_p_Encode ⟨con_p_Check, con_p_canon, con_p_form, con_p_number, con_p_code, trivial⟩ con_p_sumL fun x y hx h => ⟨LF, (F_p_Encode_eq x.1 x.2.1).trans h⟩
/-! ### The reference -/
section
variable {l : List DForm} {x2 : DGraph} {G : List DNode × List DVal}
end
end Go.Proofs.Ytcnhjofpmpipfaa
end
