/- Frames as functions of slots, and the rules of the walk over them. -/
import Derived.Tactics
import Derived.Below
import Derived.Deep.Quiet
import Derived.WalkKit
namespace Go.Sx
open Go Go.RowKit

def upd (σ : Nat → Value) (d : Nat) (v : Value) : Nat → Value := fun i => cond (Nat.beq i d) v (σ i)
def mem? : List Nat → Nat → Bool
  | [], _ => false
  | d :: l, i => cond (Nat.beq i d) true (mem? l i)
def mix (ms : List Nat) (τ σ : Nat → Value) : Nat → Value := fun i => cond (mem? ms i) (τ i) (σ i)
def argF : List Value → Nat → Value
  | [], _ => undef
  | v :: _, 0 => v
  | _ :: l, i + 1 => argF l i
def Fr (n : Nat) (σ : Nat → Value) : Act := ⟨((List.range n).map σ).toArray, []⟩

theorem Fr_getD {n : Nat} {σ : Nat → Value} {t : Nat} (h : t < n) : (Fr n σ).tmps.getD t undef = σ t := by
  simp [Fr, h]
theorem Fr_put {n : Nat} {σ : Nat → Value} {d : Nat} (v : Value) : (Fr n σ).put (some d) v = Fr n (upd σ d v) := by
  simp only [Fr, Act.put, Act.mk.injEq, and_true]
  apply Array.ext
  · simp
  · intro i h1 h2
    simp at h1 h2
    simp only [List.setIfInBounds_toArray, List.getElem_toArray, List.getElem_set, List.getElem_map, List.getElem_range, upd]
    by_cases e : d = i
    · subst e; simp
    · have : Nat.beq i d = false := by
        rw [Bool.eq_false_iff]; intro h; exact e (Nat.eq_of_beq_eq_true h).symm
      simp [e, this]

theorem argF_get (l : List Value) (i : Nat) : argF l i = l.getD i undef := by
  induction l generalizing i with
  | nil => simp [argF]
  | cons v l ih => cases i <;> simp [argF, ih]

theorem enter_Fr (n : Nat) (l : List Value) (h : l.length ≤ n) :
    ({ tmps := l.toArray ++ Array.replicate (n - l.toArray.size) undef, defers := [] } : Act) = Fr n (argF l) := by
  simp only [Fr, Act.mk.injEq, and_true]
  apply Array.ext
  · simp; omega
  · intro i h1 h2
    simp at h1 h2
    simp only [List.getElem_toArray, List.getElem_map, List.getElem_range, argF_get]
    by_cases e : i < l.length
    · simp [e]
    · simp [Array.getElem_append, e]

/-- The value of an operand. -/
def ev (σ : Nat → Value) : Operand → Value
  | .tmp t => σ t
  | .const v => v
  | .global g => .pointer (some ⟨g, 0, none⟩)
  | .func f => .func (.func f) #[] #[]
def okO (n : Nat) : Operand → Bool
  | .tmp t => Nat.blt t n
  | _ => true
theorem eval_Fr {n : Nat} {σ : Nat → Value} {x : Operand} (h : okO n x = true) : (Fr n σ).eval x = ev σ x := by
  cases x with
  | tmp t => simp only [Act.eval, ev]; exact Fr_getD (by simpa [okO] using h)
  | const v => rfl
  | global g => rfl
  | func f => rfl

def dstAt : List Oper → Nat → Option Nat
  | [], _ => none
  | o :: _, 0 => o.dst
  | _ :: l, j + 1 => dstAt l j
/-- Is the operation carried out, for sure? -/
def wantF (ops : Array Oper) (σ : Nat → Value) (n : Nat) : Option (Nat × Bool) → Bool
  | none => true
  | some (j, want) =>
    match dstAt ops.toList j with
    | some t => Nat.blt t n && (match σ t with | .bool b => cond want b (!b) | _ => false)
    | none => false
/-- Is it left out, for sure? -/
def skipF (ops : Array Oper) (σ : Nat → Value) (n : Nat) : Option (Nat × Bool) → Bool
  | none => false
  | some (j, want) =>
    match dstAt ops.toList j with
    | some t => Nat.blt t n && (match σ t with | .bool b => cond want (!b) b | .tuple _ => true | _ => false)
    | none => false
theorem dstAt_eq (l : List Oper) (j : Nat) : dstAt l j = (l[j]?).bind (·.dst) := by
  induction l generalizing j with
  | nil => simp [dstAt]
  | cons o l ih => cases j <;> simp [dstAt, ih]
theorem want_of {ops : Array Oper} {σ : Nat → Value} {n : Nat} {o : Oper} (h : wantF ops σ n o.guard = true) : Region.wanted o (yielded ops (Fr n σ).tmps) = true := by
  unfold wantF at h
  split at h
  · rename_i hg; simp [Region.wanted, hg]
  · rename_i j want hg
    rw [dstAt_eq] at h
    split at h
    · rename_i t ht
      simp only [Bool.and_eq_true] at h
      obtain ⟨h1, h2⟩ := h
      have h1' : t < n := by simpa using h1
      split at h2
      · rename_i b hb
        simp only [Region.wanted, hg, yielded]
        have : (ops[j]?).bind (·.dst) = some t := by simpa using ht
        rw [this]
        simp [Fr, h1', hb]
        cases want <;> cases b <;> simp_all
      · cases h2
    · cases h
theorem skip_of {ops : Array Oper} {σ : Nat → Value} {n : Nat} {o : Oper} (h : skipF ops σ n o.guard = true) : Region.wanted o (yielded ops (Fr n σ).tmps) = false := by
  unfold skipF at h
  split at h
  · cases h
  · rename_i j want hg
    rw [dstAt_eq] at h
    split at h
    · rename_i t ht
      simp only [Bool.and_eq_true] at h
      obtain ⟨h1, h2⟩ := h
      have h1' : t < n := by simpa using h1
      split at h2
      · rename_i b hb
        simp only [Region.wanted, hg, yielded]
        have : (ops[j]?).bind (·.dst) = some t := by simpa using ht
        rw [this]
        simp [Fr, h1', hb]
        cases want <;> cases b <;> simp_all
      · rename_i vs hb
        simp only [Region.wanted, hg, yielded]
        have : (ops[j]?).bind (·.dst) = some t := by simpa using ht
        rw [this]
        simp [Fr, h1', hb]
      · cases h2
    · cases h

/-- Only the blocks of S have turned, and there may be new ones. -/
structure Upd (S : List Nat) (w w' : World) : Prop where
  os : w'.os = w.os
  tape : w'.tape = w.tape
  output : w'.output = w.output
  size : w.heap.size ≤ w'.heap.size
  same : ∀ b, b < w.heap.size → b ∉ S → w'.heap[b]? = w.heap[b]?

abbrev Upd0 (w w' : World) : Prop := Upd [] w w'

/-- A call that returns. -/
def Ret (R : Value → World → Prop) : Ending → World → Prop
  | .returned v, w => R v w
  | _, _ => False

section
variable {P : Program} {n : Nat} {σ : Nat → Value} {w : World} {Q : Exit → Act → World → Prop} {ops : Array Oper} {rest : List Oper}
variable {d : Nat} {op : Op} {ty : TypeId} {pos : String} {aft : Array Edge} {g : Option (Nat × Bool)}

theorem enter {f : Nat} {fn : Func} {c : Code} {l : List Value} {R : Ending → World → Prop} {nt : Nat} (hf : P.funcs[f]? = some fn) (hb : fn.body = some c) (hn : fn.ntmps = nt)
    (hl : Nat.ble l.length nt = true) (h : c.wp P (bodyPost P fn R) (Fr nt (argF l)) w) : Calls P f l.toArray w R := by
  subst hn
  refine calls_of_wp hf hb ?_
  rw [enter_Fr _ _ (Nat.le_of_ble_eq_true hl)]
  exact h

theorem wpList_want {o : Oper} (hg : wantF ops σ n o.guard = true)
    (h : ∀ K : Act → World → Prop, (∀ a w, wpList P ops Q rest a w → K a w) → o.wp P (Fr n σ) w K Q) : wpList P ops Q (o :: rest) (Fr n σ) w :=
  wpList_step fun K hK => by rw [want_of hg, if_pos rfl]; exact h K hK

theorem op_val {v : Value} {w' : World} (hg : wantF ops σ n g = true) (h : (execOp (Fr n σ).eval ⟨some d, op, ty, pos, aft, g⟩).run P w = .ok (.value v) w')
    (k : wpList P ops Q rest (Fr n (upd σ d v)) w') : wpList P ops Q (⟨some d, op, ty, pos, aft, g⟩ :: rest) (Fr n σ) w := by
  refine wpList_want hg fun K hK => ?_
  unfold Oper.wp
  rw [h, Oper.upon_value, Fr_put]
  exact hK _ _ k

theorem op_skip {w' : World} (hg : wantF ops σ n g = true) (h : (execOp (Fr n σ).eval ⟨none, op, ty, pos, aft, g⟩).run P w = .ok .skip w')
    (k : wpList P ops Q rest (Fr n σ) w') : wpList P ops Q (⟨none, op, ty, pos, aft, g⟩ :: rest) (Fr n σ) w := by
  refine wpList_want hg fun K hK => ?_
  unfold Oper.wp
  rw [h, Oper.upon_skip]
  exact hK _ _ k

theorem op_enter {f : Nat} {args : Array Value} {w1 : World} {R : Value → World → Prop} (hg : wantF ops σ n g = true) (h : (execOp (Fr n σ).eval ⟨some d, op, ty, pos, aft, g⟩).run P w = .ok (.enter f args) w1)
    (hc : Calls P f args w1 (Ret R)) (k : ∀ v w', R v w' → wpList P ops Q rest (Fr n (upd σ d v)) w') :
    wpList P ops Q (⟨some d, op, ty, pos, aft, g⟩ :: rest) (Fr n σ) w := by
  refine wpList_want hg fun K hK => ?_
  unfold Oper.wp
  rw [h, Oper.upon_enter]
  refine hc.mono fun e w' he => ?_
  cases e with
  | returned v => show K ((Fr n σ).put (some d) v) w'; rw [Fr_put]; exact hK _ _ (k v w' he)
  | panicked c => exact he.elim
  | outgrown => exact he.elim

/-- An operation whose guard says no. -/
theorem op_not (hg : skipF ops σ n g = true) (k : wpList P ops Q rest (Fr n (upd σ d undef)) w) :
    wpList P ops Q (⟨some d, op, ty, pos, aft, g⟩ :: rest) (Fr n σ) w :=
  wpList_step fun K hK => by rw [skip_of (o := ⟨some d, op, ty, pos, aft, g⟩) hg, if_neg (by simp)]; show K ((Fr n σ).put (some d) undef) w; rw [Fr_put]; exact hK _ _ k
theorem op_not0 (hg : skipF ops σ n g = true) (k : wpList P ops Q rest (Fr n σ) w) :
    wpList P ops Q (⟨none, op, ty, pos, aft, g⟩ :: rest) (Fr n σ) w :=
  wpList_step fun K hK => by rw [skip_of (o := ⟨none, op, ty, pos, aft, g⟩) hg, if_neg (by simp)]; exact hK _ _ k

theorem upd_self {σ : Nat → Value} {t : Nat} {v : Value} (h : σ t = v) : upd σ t v = σ := by
  funext i; unfold upd
  cases hb : Nat.beq i t with
  | false => rfl
  | true => have := Nat.eq_of_beq_eq_true hb; subst this; exact h.symm
/-- Part on a slot's Bool. -/
theorem op_part {p : Prop} [Decidable p] {l : List Oper} (t : Nat) (h : σ t = .bool (decide p)) (ht : p → wpList P ops Q l (Fr n (upd σ t (.bool true))) w)
    (hf : ¬ p → wpList P ops Q l (Fr n (upd σ t (.bool false))) w) : wpList P ops Q l (Fr n σ) w := by
  by_cases hp : p
  · have := ht hp; rwa [upd_self (by simpa [hp] using h)] at this
  · have := hf hp; rwa [upd_self (by simpa [hp] using h)] at this
theorem op_partN {p : Prop} [Decidable p] {l : List Oper} (t : Nat) (h : σ t = .bool (decide (¬ p))) (ht : ¬ p → wpList P ops Q l (Fr n (upd σ t (.bool true))) w)
    (hf : p → wpList P ops Q l (Fr n (upd σ t (.bool false))) w) : wpList P ops Q l (Fr n σ) w :=
  op_part t h ht fun h => hf (Decidable.not_not.1 h)
theorem op_partNB {b : Bool} {l : List Oper} (t : Nat) (h : σ t = .bool (!b)) (ht : b = false → wpList P ops Q l (Fr n (upd σ t (.bool true))) w)
    (hf : b = true → wpList P ops Q l (Fr n (upd σ t (.bool false))) w) : wpList P ops Q l (Fr n σ) w := by
  cases b
  · have := ht rfl; rwa [upd_self (show σ t = .bool true from h)] at this
  · have := hf rfl; rwa [upd_self (show σ t = .bool false from h)] at this
theorem op_partB {b : Bool} {l : List Oper} (t : Nat) (h : σ t = .bool b) (ht : b = true → wpList P ops Q l (Fr n (upd σ t (.bool true))) w)
    (hf : b = false → wpList P ops Q l (Fr n (upd σ t (.bool false))) w) : wpList P ops Q l (Fr n σ) w := by
  cases b
  · have := hf rfl; rwa [upd_self h] at this
  · have := ht rfl; rwa [upd_self h] at this

theorem c_seq {x y : Code} {a : Act} (h : ∀ K : Act → World → Prop, (∀ a w, y.wp P Q a w → K a w) → x.wp P (Exit.then K Q) a w) : (Code.seq x y).wp P Q a w := wp_seq_k h
theorem c_if {c : Operand} {x y : Code} {p : Prop} [Decidable p] (hx : okO n c = true) (hc : ev σ c = .bool (decide p)) (ht : p → x.wp P Q (Fr n σ) w) (hf : ¬ p → y.wp P Q (Fr n σ) w) :
    (Code.cond c x y).wp P Q (Fr n σ) w := by
  rw [← eval_Fr hx] at hc
  by_cases hp : p
  · exact wp_cond (t := true) (by simpa [hp] using hc) (ht hp)
  · exact wp_cond (t := false) (by simpa [hp] using hc) (hf hp)
theorem c_ifB {c : Operand} {x y : Code} {b : Bool} (hx : okO n c = true) (hc : ev σ c = .bool b) (ht : b = true → x.wp P Q (Fr n σ) w) (hf : b = false → y.wp P Q (Fr n σ) w) :
    (Code.cond c x y).wp P Q (Fr n σ) w := by
  rw [← eval_Fr hx] at hc
  exact wp_cond_split hc ht hf
theorem c_ifN {c : Operand} {x y : Code} {p : Prop} [Decidable p] (hx : okO n c = true) (hc : ev σ c = .bool (decide (¬ p))) (ht : ¬ p → x.wp P Q (Fr n σ) w) (hf : p → y.wp P Q (Fr n σ) w) :
    (Code.cond c x y).wp P Q (Fr n σ) w :=
  c_if hx hc ht fun h => hf (Decidable.not_not.1 h)
theorem c_ifNB {c : Operand} {x y : Code} {b : Bool} (hx : okO n c = true) (hc : ev σ c = .bool (!b)) (ht : b = false → x.wp P Q (Fr n σ) w) (hf : b = true → y.wp P Q (Fr n σ) w) :
    (Code.cond c x y).wp P Q (Fr n σ) w :=
  c_ifB hx hc (fun h => ht (by cases b <;> simp_all)) (fun h => hf (by cases b <;> simp_all))
theorem c_ifT {c : Operand} {x y : Code} (hx : okO n c = true) (hc : ev σ c = .bool true) (ht : x.wp P Q (Fr n σ) w) : (Code.cond c x y).wp P Q (Fr n σ) w := by
  rw [← eval_Fr hx] at hc; exact wp_cond_true hc ht
theorem c_ifF {c : Operand} {x y : Code} (hx : okO n c = true) (hc : ev σ c = .bool false) (hf : y.wp P Q (Fr n σ) w) : (Code.cond c x y).wp P Q (Fr n σ) w := by
  rw [← eval_Fr hx] at hc; exact wp_cond_false hc hf
theorem c_reg {id : Nat} {l : List Oper} {a : Act} (h : wpList P l.toArray Q l a w) : (Code.region id l.toArray false).wp P Q a w := wp_region_lit h
/-- A region that draws, all of whose operations are quiet. -/
theorem c_quiet {id : Nat} {l : List Oper} {a : Act} (hm : P.follows .mixedOrders = true) (hB : Region.lexB .any l.toArray = true)
    (h : wpQuiet P l.toArray (Upd0 w) (fun a' => ∀ w', Upd0 w w' → Q .normal a' w') l a) : (Code.region id l.toArray true).wp P Q a w :=
  wp_region_quiet (C := Upd0 w) hm hB ⟨rfl, rfl, rfl, Nat.le_refl _, fun _ _ _ => rfl⟩ (by simpa using h)

theorem ret1 {fn : Func} {t : Nat} {R : Value → World → Prop} (hr : fn.results = #[.tmp t]) (ht : Nat.blt t n = true) (h : R (σ t) w) : bodyPost P fn (Ret R) .ret (Fr n σ) w :=
  bodyPost_ret (results_tmp hr _ _ _) rfl (by rw [Fr_getD (by simpa using ht)]; exact h)
theorem results_tmp3 {fn : Func} {t u v : Tmp} (h : fn.results = #[.tmp t, .tmp u, .tmp v]) (tmps : Array Value) (P : Program) (w : World) :
    (results fn tmps).run P w = .ok (.tuple #[tmps.getD t undef, tmps.getD u undef, tmps.getD v undef]) w := by
  simp [results, h]
theorem ret0 {fn : Func} {R : Value → World → Prop} (hr : fn.results = #[]) (h : R (.tuple #[]) w) : bodyPost P fn (Ret R) .ret (Fr n σ) w :=
  bodyPost_ret (results_none hr _ _ _) rfl h
theorem ret0n {fn : Func} {R : Value → World → Prop} (hr : fn.results = #[]) (h : R (.tuple #[]) w) : bodyPost P fn (Ret R) .normal (Fr n σ) w :=
  bodyPost_end (results_none hr _ _ _) rfl h
theorem ret3 {fn : Func} {t u v : Nat} {R : Value → World → Prop} (hr : fn.results = #[.tmp t, .tmp u, .tmp v]) (ht : (Nat.blt t n && Nat.blt u n && Nat.blt v n) = true) (h : R (.tuple #[σ t, σ u, σ v]) w) : bodyPost P fn (Ret R) .ret (Fr n σ) w :=
  bodyPost_ret (results_tmp3 hr _ _ _) rfl (by
    simp only [Bool.and_eq_true] at ht
    rw [Fr_getD (by simpa using ht.1.1), Fr_getD (by simpa using ht.1.2), Fr_getD (by simpa using ht.2)]; exact h)
theorem ret2 {fn : Func} {t u : Nat} {R : Value → World → Prop} (hr : fn.results = #[.tmp t, .tmp u]) (ht : (Nat.blt t n && Nat.blt u n) = true) (h : R (.tuple #[σ t, σ u]) w) : bodyPost P fn (Ret R) .ret (Fr n σ) w :=
  bodyPost_ret (results_tmp2 hr _ _ _) rfl (by
    simp only [Bool.and_eq_true] at ht
    rw [Fr_getD (by simpa using ht.1), Fr_getD (by simpa using ht.2)]; exact h)

def upds : List (Nat × Value) → (Nat → Value) → Nat → Value
  | [], σ => σ
  | (i, v) :: l, σ => upd (upds l σ) i v
def chk : List (Nat × Value) → (Nat → Value) → Prop
  | [], _ => True
  | (i, v) :: l, σ => σ i = v ∧ chk l σ
def agree (ms : List Nat) (τ σ : Nat → Value) : Prop := ∀ i, mem? ms i = false → τ i = σ i
theorem agree.refl (ms : List Nat) (σ : Nat → Value) : agree ms σ σ := fun _ _ => rfl
theorem agree.upd {ms : List Nat} {τ σ : Nat → Value} {d : Nat} {v : Value} (hd : mem? ms d = true) (h : agree ms τ σ) : agree ms (upd τ d v) σ := fun i hi => by
  unfold Sx.upd
  cases hb : Nat.beq i d with
  | false => exact h i hi
  | true => have := Nat.eq_of_beq_eq_true hb; subst this; rw [hd] at hi; cases hi
def sub? : List Nat → List Nat → Bool
  | [], _ => true
  | d :: l, ms => cond (mem? ms d) (sub? l ms) false
theorem sub?_spec : ∀ (l ms : List Nat), sub? l ms = true → ∀ i, mem? ms i = false → mem? l i = false
  | [], _, _, _, _ => rfl
  | d :: l, ms, h, i, hi => by
    unfold sub? at h
    cases hd : mem? ms d with
    | false => rw [hd] at h; cases h
    | true =>
      rw [hd] at h
      unfold mem?
      cases hb : Nat.beq i d with
      | false => exact sub?_spec l ms h i hi
      | true => have := Nat.eq_of_beq_eq_true hb; subst this; rw [hd] at hi; cases hi
theorem agree.mix {ms ms' : List Nat} {τ σ' σ : Nat → Value} (hs : sub? ms' ms = true) (h : agree ms σ' σ) : agree ms (mix ms' τ σ') σ := fun i hi => by
  unfold Sx.mix
  rw [sub?_spec _ _ hs i hi]; exact h i hi
def keys : List (Nat × Value) → List Nat
  | [] => []
  | (i, _) :: l => i :: keys l
theorem agree.upds {ms : List Nat} {τ σ : Nat → Value} : ∀ {l : List (Nat × Value)}, sub? (keys l) ms = true → agree ms τ σ → agree ms (upds l τ) σ
  | [], _, h => h
  | (i, v) :: l, hs, h => by
    unfold keys sub? at hs
    cases hd : mem? ms i with
    | false => rw [hd] at hs; cases hs
    | true => rw [hd] at hs; exact agree.upd hd (agree.upds hs h)
theorem then_normal {next : Act → World → Prop} {Q : Exit → Act → World → Prop} {a : Act} {w : World} (h : next a w) : Exit.then next Q .normal a w := h
theorem inBlock_normal {id : Nat} {Q : Exit → Act → World → Prop} {a : Act} {w : World} (h : Q .normal a w) : Exit.inBlock id Q .normal a w := h
theorem lc {α : Type} {a a' : α} {l l' : List α} (h : a = a') (h' : l = l') : a :: l = a' :: l' := by rw [h, h']
theorem tup_eq {l l' : List Value} (h : l = l') : Value.tuple l.toArray = Value.tuple l'.toArray := by rw [h]
theorem agg_eq {l l' : List Value} (h : l = l') : Value.agg l.toArray = Value.agg l'.toArray := by rw [h]
theorem slc_eq {α : Type} {l l' : List α} {a : Option Addr} {c : Nat} (h : l = l') : Value.slice a l.length c = Value.slice a l'.length c := by rw [h]
theorem upds_chk : ∀ (l : List (Nat × Value)) (σ : Nat → Value), chk l σ → upds l σ = σ
  | [], _, _ => rfl
  | (i, v) :: l, σ, h => by
    unfold upds
    rw [upds_chk l σ h.2]
    exact upd_self h.1
theorem mix_agree {ms : List Nat} {τ σ : Nat → Value} (h : agree ms τ σ) : mix ms τ σ = τ := by
  funext i
  unfold Sx.mix
  cases hm : mem? ms i with
  | true => rfl
  | false => exact (h i hm).symm
theorem frame_eq {ms : List Nat} {l : List (Nat × Value)} {τ σ : Nat → Value} (h : agree ms τ σ) (hc : chk l τ) : upds l (mix ms τ σ) = τ := by
  rw [mix_agree h, upds_chk l τ hc]

theorem loop_ghost {P : Program} {Q : Exit → Act → World → Prop} {c : Code} {X : Type} (I : X → Act → World → Prop) (μ : X → Nat)
    (round : ∀ x a w, I x a w → c.wp P (Exit.then (fun a' w' => ∃ x', μ x' < μ x ∧ I x' a' w') Q) a w) : ∀ x a w, I x a w → (Code.loop c).wp P Q a w := by
  have key : ∀ n x a w, μ x = n → I x a w → ∀ (b : Frame) (k : List Item) (cs : List Frame),
      ∃ e a' w', Q e a' w' ∧ Arrives P (lone (b.at a (.code c :: .inLoop c :: k)) cs w) b k cs e a' w' := by
    intro n
    induction n using Nat.strongRecOn with
    | _ n ih =>
      intro x a w hn hI b k cs
      obtain ⟨e, a₁, w₁, hq, harr⟩ := round x a w hI b (.inLoop c :: k) cs
      cases e with
      | normal =>
        obtain ⟨x', hlt, hI₁⟩ := hq
        obtain ⟨e₂, a₂, w₂, hq₂, harr₂⟩ := ih (μ x') (hn ▸ hlt) x' a₁ w₁ rfl hI₁ b k cs
        exact ⟨e₂, a₂, w₂, hq₂, .of_steps (Steps.trans harr (.one step_inLoop)) harr₂⟩
      | exit id => exact ⟨_, a₁, w₁, hq, .pass (x := .inLoop c) rfl (fun _ _ => .inl (by simp)) harr⟩
      | goto l => exact ⟨_, a₁, w₁, hq, .pass (x := .inLoop c) rfl (fun _ _ => .inl (by simp)) harr⟩
      | ret => exact ⟨_, a₁, w₁, hq, .pass (x := .inLoop c) rfl (fun _ _ => .inl (by simp)) harr⟩
      | panic ch => exact ⟨_, a₁, w₁, hq, .pass (x := .inLoop c) rfl (fun _ _ => .inl (by simp)) harr⟩
      | outgrown => exact ⟨_, a₁, w₁, hq, .pass (x := .inLoop c) rfl (fun _ _ => .inl (by simp)) harr⟩
  intro x a w hI b k cs
  obtain ⟨e, a', w', hq, harr⟩ := key _ x a w rfl hI b k cs
  exact ⟨e, a', w', hq, .of_steps (.one step_loop) harr⟩

/-- A loop: ms the slots that its body writes; sl what is known of slots at its head; J what is known else; x the ghost. -/
theorem c_loop {c : Code} {X : Type} (ms : List Nat) (sl : X → List (Nat × Value)) (J : X → World → Prop) (μ : X → Nat) (x0 : X) (hs : chk (sl x0) σ) (h0 : J x0 w)
    (round : ∀ x τ w1, J x w1 → c.wp P (Exit.then (fun a' w' => ∃ x', μ x' < μ x ∧ J x' w' ∧ ∃ σ', a' = Fr n σ' ∧ agree ms σ' σ ∧ chk (sl x') σ') Q) (Fr n (upds (sl x) (mix ms τ σ))) w1) :
    (Code.loop c).wp P Q (Fr n σ) w := by
  refine loop_ghost (I := fun x a w1 => J x w1 ∧ ∃ σ', a = Fr n σ' ∧ agree ms σ' σ ∧ chk (sl x) σ') μ ?_ x0 _ _ ⟨h0, σ, rfl, agree.refl _ _, hs⟩
  rintro x a w1 ⟨hJ, σ', rfl, ha, hc⟩
  have := round x σ' w1 hJ
  rwa [frame_eq ha hc] at this
/-- A cut behind the first part: all its ways come to one description. -/
theorem c_cut {c y : Code} {X : Type} (ms : List Nat) (sl : X → List (Nat × Value)) (J : X → World → Prop)
    (h : c.wp P (Exit.then (fun a' w' => ∃ x', J x' w' ∧ ∃ σ', a' = Fr n σ' ∧ agree ms σ' σ ∧ chk (sl x') σ') Q) (Fr n σ) w)
    (k : ∀ x τ w1, J x w1 → y.wp P Q (Fr n (upds (sl x) (mix ms τ σ))) w1) : (Code.seq c y).wp P Q (Fr n σ) w := by
  refine wp_seq (Code.wp_mono ?_ h)
  intro e a w1 hq
  cases e with
  | normal =>
    obtain ⟨x', hJ, σ', rfl, ha, hc⟩ := hq
    have := k x' σ' w1 hJ
    rw [frame_eq ha hc] at this
    exact this
  | _ => exact hq
end

/-! ### Memory -/

theorem Upd.refl (S : List Nat) (w : World) : Upd S w w := ⟨rfl, rfl, rfl, Nat.le_refl _, fun _ _ _ => rfl⟩
theorem Upd.trans {S : List Nat} {a b c : World} (h : Upd S a b) (k : Upd S b c) : Upd S a c :=
  ⟨k.os.trans h.os, k.tape.trans h.tape, k.output.trans h.output, Nat.le_trans h.size k.size,
   fun i hi hs => (k.same i (Nat.lt_of_lt_of_le hi h.size) hs).trans (h.same i hi hs)⟩
theorem Upd.mono {S T : List Nat} {a b : World} (h : Upd S a b) (hs : ∀ x ∈ S, x ∈ T) : Upd T a b :=
  ⟨h.os, h.tape, h.output, h.size, fun i hi hn => h.same i hi fun hm => hn (hs i hm)⟩
theorem Upd.drew (S : List Nat) (w : World) : Upd S w { w with drawn := w.drawn + 1 } := ⟨rfl, rfl, rfl, Nat.le_refl _, fun _ _ _ => rfl⟩
theorem Upd.below {w w' : World} (h : Upd [] w w') : Below w.heap.size w w' :=
  ⟨h.os, h.tape, h.output, h.size, fun k hk => h.same k hk (by simp)⟩
theorem Upd.of_below {w w' : World} (h : Below w.heap.size w w') : Upd [] w w' :=
  ⟨h.os, h.tape, h.output, h.size, fun k hk _ => h.block k hk⟩

/-- What is read through blocks that are not in M reads so in the later world, through blocks that are not in M'. -/
structure Tr (M : List Nat) (w : World) (M' : List Nat) (w' : World) : Prop where
  keep : ∀ b, b < w.heap.size → b ∉ M → b ∉ M' ∧ w'.heap[b]? = w.heap[b]?
theorem Tr.refl (M : List Nat) (w : World) : Tr M w M w := ⟨fun _ _ h => ⟨h, rfl⟩⟩
theorem Tr.lt {M M' : List Nat} {w w' : World} (h : Tr M w M' w') {b : Nat} (hb : b < w.heap.size) (hm : b ∉ M) : b < w'.heap.size := by
  have := (h.keep b hb hm).2
  rw [Array.getElem?_eq_getElem hb] at this
  rcases Nat.lt_or_ge b w'.heap.size with h' | h'
  · exact h'
  · rw [Array.getElem?_eq_none h'] at this; cases this
theorem Tr.trans {M M' M'' : List Nat} {w w' w'' : World} (h : Tr M w M' w') (k : Tr M' w' M'' w'') : Tr M w M'' w'' :=
  ⟨fun b hb hm => by
    obtain ⟨h1, h2⟩ := h.keep b hb hm
    obtain ⟨h3, h4⟩ := k.keep b (h.lt hb hm) h1
    exact ⟨h3, h4.trans h2⟩⟩
theorem Tr.sub {M M' : List Nat} (w : World) (h : ∀ b ∈ M', b ∈ M) : Tr M w M' w := ⟨fun b _ hm => ⟨fun h' => hm (h b h'), rfl⟩⟩

/-- From (m, w) to (m', w'): m the blocks that are our own and may turn. -/
structure Evo (m : List Nat) (w : World) (m' : List Nat) (w' : World) : Prop where
  os : w'.os = w.os
  tape : w'.tape = w.tape
  output : w'.output = w.output
  size : w.heap.size ≤ w'.heap.size
  own : ∀ b ∈ m', b ∈ m ∨ w.heap.size ≤ b
  lo : (∀ b ∈ m, b < w.heap.size) → ∀ b ∈ m', b < w'.heap.size
  same : ∀ b, b < w.heap.size → b ∉ m → w'.heap[b]? = w.heap[b]?
theorem Evo.refl (m : List Nat) (w : World) : Evo m w m w := ⟨rfl, rfl, rfl, Nat.le_refl _, fun _ h => .inl h, fun h => h, fun _ _ _ => rfl⟩
theorem Evo.trans {m m' m'' : List Nat} {w w' w'' : World} (h : Evo m w m' w') (k : Evo m' w' m'' w'') : Evo m w m'' w'' :=
  ⟨k.os.trans h.os, k.tape.trans h.tape, k.output.trans h.output, Nat.le_trans h.size k.size,
   fun b hb => by
     rcases k.own b hb with h1 | h1
     · exact h.own b h1
     · exact .inr (Nat.le_trans h.size h1),
   fun hl => k.lo (h.lo hl),
   fun b hb hm => by
     refine (k.same b (Nat.lt_of_lt_of_le hb h.size) fun h' => ?_).trans (h.same b hb hm)
     rcases h.own b h' with h1 | h1
     · exact hm h1
     · omega⟩
theorem Evo.tr {m m' : List Nat} {w w' : World} (h : Evo m w m' w') (M : List Nat) : Tr (m ++ M) w (m' ++ M) w' :=
  ⟨fun b hb hm => by
    simp only [List.mem_append, not_or] at hm ⊢
    refine ⟨⟨fun h' => ?_, hm.2⟩, h.same b hb hm.1⟩
    rcases h.own b h' with h1 | h1
    · exact hm.1 h1
    · omega⟩
theorem Evo.old {m : List Nat} {w w' : World} (h : Evo [] w m w') : Upd [] w w' :=
  ⟨h.os, h.tape, h.output, h.size, fun b hb _ => h.same b hb (by simp)⟩
theorem Upd.evo {S m : List Nat} {w w' : World} (h : Upd S w w') (hs : ∀ b ∈ S, b ∈ m) : Evo m w m w' :=
  ⟨h.os, h.tape, h.output, h.size, fun _ h => .inl h, fun hl b hb => Nat.lt_of_lt_of_le (hl b hb) h.size, fun b hb hm => h.same b hb fun h' => hm (hs b h')⟩
theorem Upd.evo0 {m : List Nat} {w w' : World} (h : Upd [] w w') : Evo m w m w' := h.evo (by simp)
/-- A new block of ours. -/
theorem Upd.evoN {m : List Nat} {w w' : World} (h : Upd [] w w') {β : Nat} (hb : w.heap.size = β) (hz : w'.heap.size = β + 1) : Evo m w (β :: m) w' :=
  ⟨h.os, h.tape, h.output, h.size, fun b hb' => by
    simp only [List.mem_cons] at hb'
    rcases hb' with rfl | h'
    · exact .inr (by omega)
    · exact .inl h', fun hl b hb' => by
    simp only [List.mem_cons] at hb'
    rcases hb' with rfl | h'
    · omega
    · have := hl b h'; omega, fun b hb _ => h.same b hb (by simp)⟩
theorem Evo.drop {m m' m'' : List Nat} {w w' : World} (h : Evo m w m' w') (hs : ∀ b ∈ m'', b ∈ m') : Evo m w m'' w' :=
  ⟨h.os, h.tape, h.output, h.size, fun b hb => h.own b (hs b hb), fun hl b hb => h.lo hl b (hs b hb), h.same⟩
/-- All of M lies below the heap's end. -/
def Lo (M : List Nat) (w : World) : Prop := ∀ b ∈ M, b < w.heap.size
theorem Evo.loM {m M : List Nat} {w w' : World} (h : Evo [] w m w') (hM : Lo M w) : Lo (m ++ M) w' := fun b hb => by
  simp only [List.mem_append] at hb
  rcases hb with h1 | h1
  · exact h.lo (by simp) b h1
  · exact Nat.lt_of_lt_of_le (hM b h1) h.size
theorem Lo.mono {M : List Nat} {w w' : World} (h : Lo M w) (hs : w.heap.size ≤ w'.heap.size) : Lo M w' := fun b hb => Nat.lt_of_lt_of_le (h b hb) hs

/-! ### Data -/

/-- One cell's value. -/
def one : Value → Bool
  | .agg _ => false
  | .tuple _ => false
  | _ => true
class Dat (α : Type) where
  sz : Nat
  enc : List Nat → World → List Value → α → Prop
  len : ∀ {M w cs x}, enc M w cs x → cs.length = sz
  mono : ∀ {M M' w w' cs x}, enc M w cs x → Tr M w M' w' → enc M' w' cs x
  ones : ∀ {M w cs x}, enc M w cs x → cs.all one = true
open Dat (enc)

/-- A slice (at a, of capacity cap) whose elements are l. -/
def SL {α : Type} [Dat α] (M : List Nat) (w : World) (a : Option Addr) (cap : Nat) (l : List α) : Prop :=
  (l.length ≤ cap ∧ cap < 9223372036854775808) ∧
    (l = [] ∨ ∃ b off cells t fz, a = some ⟨b, off, none⟩ ∧ b ∉ M ∧ w.heap[b]? = some (.cells cells t fz) ∧
      ∀ i (h : i < l.length), ∃ cs, enc M w cs l[i] ∧ ∀ j, j < Dat.sz α → cells[off + i * Dat.sz α + j]? = cs[j]?)

theorem heap_lt {w : World} {b : Nat} {o : Obj} (hh : w.heap[b]? = some o) : b < w.heap.size := by
  rcases Nat.lt_or_ge b w.heap.size with h' | h'
  · exact h'
  · rw [Array.getElem?_eq_none h'] at hh; cases hh

theorem SL.mono {α : Type} [Dat α] {M M' : List Nat} {w w' : World} {a : Option Addr} {cap : Nat} {l : List α} (h : SL M w a cap l) (t : Tr M w M' w') : SL M' w' a cap l := by
  obtain ⟨hc, h⟩ := h
  refine ⟨hc, ?_⟩
  rcases h with h | ⟨b, off, cells, ty, fz, ha, hb, hh, hi⟩
  · exact .inl h
  · obtain ⟨h1, h2⟩ := t.keep b (heap_lt hh) hb
    refine .inr ⟨b, off, cells, ty, fz, ha, h1, h2.trans hh, fun i h => ?_⟩
    obtain ⟨cs, he, hcs⟩ := hi i h
    exact ⟨cs, Dat.mono he t, hcs⟩
theorem SL.nil {α : Type} [Dat α] {M : List Nat} {w : World} : SL M w none 0 ([] : List α) := ⟨⟨Nat.le_refl _, by omega⟩, .inl rfl⟩
theorem SL.lt63 {α : Type} [Dat α] {M : List Nat} {w : World} {a : Option Addr} {cap : Nat} {l : List α} (h : SL M w a cap l) : l.length < 9223372036854775808 := Nat.lt_of_le_of_lt h.1.1 h.1.2
theorem drop_of {α : Type} {l : List α} {k : Nat} {x : α} (h : l[k]? = some x) : l.drop k = x :: l.drop (k + 1) := by
  obtain ⟨hk, rfl⟩ := List.getElem?_eq_some_iff.1 h
  exact List.drop_eq_getElem_cons hk
theorem drop_end {α : Type} {l : List α} {k : Nat} (h : l.length ≤ k) : l.drop k = [] := List.drop_eq_nil_of_le h

instance : Dat Int where
  sz := 1
  enc _ _ cs x := cs = [.int .i64 x]
  len h := by rw [h]; rfl
  mono h _ := h
  ones h := by rw [h]; rfl
instance : Dat UInt8 where
  sz := 1
  enc _ _ cs x := cs = [.int .u8 x.toNat]
  len h := by rw [h]; rfl
  mono h _ := h
  ones h := by rw [h]; rfl
instance : Dat Bool where
  sz := 1
  enc _ _ cs x := cs = [.bool x]
  len h := by rw [h]; rfl
  mono h _ := h
  ones h := by rw [h]; rfl
instance : Dat ByteArray where
  sz := 1
  enc _ _ cs x := cs = [.string x]
  len h := by rw [h]; rfl
  mono h _ := h
  ones h := by rw [h]; rfl
instance {α : Type} [Dat α] : Dat (List α) where
  sz := 1
  enc M w cs l := ∃ a cap, cs = [.slice a l.length cap] ∧ SL M w a cap l
  len h := by obtain ⟨a, c, h, _⟩ := h; rw [h]; rfl
  mono h t := by obtain ⟨a, c, h, hs⟩ := h; exact ⟨a, c, h, hs.mono t⟩
  ones h := by obtain ⟨a, c, h, _⟩ := h; rw [h]; rfl

/-- At an address lies an x. -/
def At {α : Type} [Dat α] (M : List Nat) (w : World) (ad : Addr) (x : α) : Prop :=
  ad.spot = none ∧ ad.block ∉ M ∧ ad.block < w.heap.size ∧ ∃ cs, enc M w cs x ∧ ∀ j, j < Dat.sz α → w.cell? ⟨ad.block, ad.off + j, none⟩ = cs[j]?
theorem At.mono {α : Type} [Dat α] {M M' : List Nat} {w w' : World} {ad : Addr} {x : α} (h : At M w ad x) (t : Tr M w M' w') : At M' w' ad x := by
  obtain ⟨h0, h1, h2, cs, h3, h4⟩ := h
  obtain ⟨h5, h6⟩ := t.keep _ h2 h1
  refine ⟨h0, h5, t.lt h2 h1, cs, Dat.mono h3 t, fun j hj => ?_⟩
  rw [← h4 j hj]
  simp only [World.cell?, h6]

theorem SL.at {α : Type} [Dat α] {M : List Nat} {w : World} {a : Option Addr} {cap : Nat} {l : List α} (h : SL M w a cap l) {i : Nat} (hi : i < l.length) :
    ∃ b off, a = some ⟨b, off, none⟩ ∧ At M w ⟨b, off + i * Dat.sz α, none⟩ l[i] := by
  obtain ⟨hc, h⟩ := h
  rcases h with h | ⟨b, off, cells, ty, fz, ha, hb, hh, hall⟩
  · subst h; simp at hi
  · subst ha
    obtain ⟨cs, he, hcs⟩ := hall i hi
    refine ⟨b, off, rfl, rfl, hb, heap_lt hh, cs, he, fun j hj => ?_⟩
    rw [← hcs j hj]; simp [World.cell?, hh]

/-- A block of our own. -/
def Box (w : World) (β : Nat) (cs : List Value) : Prop := ∃ t, w.heap[β]? = some (.cells cs.toArray t (0, 0))
theorem Box.lt {w : World} {β : Nat} {cs : List Value} (h : Box w β cs) : β < w.heap.size := by
  obtain ⟨t, h⟩ := h
  rcases Nat.lt_or_ge β w.heap.size with h' | h'
  · exact h'
  · rw [Array.getElem?_eq_none h'] at h; cases h
theorem Box.mono {S : List Nat} {w w' : World} {β : Nat} {cs : List Value} (h : Box w β cs) (u : Upd S w w') (hs : β ∉ S) : Box w' β cs := by
  have := h.lt
  obtain ⟨t, h⟩ := h
  exact ⟨t, (u.same β this hs).trans h⟩
theorem Box.mono0 {w w' : World} {β : Nat} {cs : List Value} (h : Box w β cs) (u : Upd [] w w') : Box w' β cs := h.mono u (by simp)
theorem Box.cell {w : World} {β : Nat} {cs : List Value} (h : Box w β cs) (j : Nat) : w.cell? ⟨β, j, none⟩ = cs[j]? := by
  obtain ⟨t, h⟩ := h
  simp [World.cell?, h]
end Go.Sx
