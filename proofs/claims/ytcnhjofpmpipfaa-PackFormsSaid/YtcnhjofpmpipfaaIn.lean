/- A walk inside the wide fence, also in a round of a range over a function; the law of such a range for a plain iterator. -/
import Derived.Test.YtcnhjofpmpipfaaEq
import Derived.RangeFuncNested
import Derived.TacticsIn
set_option linter.unusedVariables false
namespace Go.Sx
open Go Go.RowKit
open Go.Sx.Dat (enc)

def noDef (o : Oper) : Bool := match o.op with | .defer _ => false | _ => true
section
variable {F : Fence} {m : Nat} {P : Program} {ops : Array Oper} {Q : Exit → Act → World → Prop}
theorem callsIn_of {f : Nat} {args : Array Value} {w : World} {R : Ending → World → Prop} (hF : F.plain = Fence.wide) (h : Calls P f args w R) : CallsIn F m P f args w R := by
  have h1 : CallsIn F.plain m P f args w R := by rw [hF]; exact callsIn_wide.2 h
  exact h1
theorem calls_of {f : Nat} {args : Array Value} {w : World} {R : Ending → World → Prop} (hF : F.plain = Fence.wide) (h : CallsIn F m P f args w R) : Calls P f args w R := by
  have h1 : CallsIn F.plain m P f args w R := h
  rw [hF] at h1; exact callsIn_wide.1 h1
theorem rowsIn_of {row : String} {args : Array Value} {w : World} {R : Value → World → Prop} (hF : F.plain = Fence.wide) (h : Rows P row args w R) : RowsIn F m P row args w R := by
  have h1 : RowsIn F.plain m P row args w R := by
    rw [hF]; exact fun c cs _ => let ⟨v, w', r, s⟩ := h c cs; ⟨v, w', r, stepsIn_wide.2 s⟩
  exact h1
theorem fn_of (hF : F.plain = Fence.wide) (f : Nat) : F.fn f := by
  have : F.plain.fn f := by rw [hF]; trivial
  exact this
theorem depth_of (hF : F.plain = Fence.wide) : F.depth = none := by
  have : F.plain.depth = none := by rw [hF]; rfl
  exact this
theorem uponIn_of {next0 : Act → World → Prop} {o : Oper} {a : Act} {next next' : Act → World → Prop} (hF : F.plain = Fence.wide) (hn : ∀ a w, next a w → next' a w) :
    ∀ r : Result Next, o.upon P a next (Exit.then next0 Q) r → o.uponIn F m P a next' Q r
  | .ok (.value v) w', h => hn _ _ h
  | .ok .skip w', h => hn _ _ h
  | .ok (.defer d) w', h => hn _ _ h
  | .ok (.enter f args) w', h => ⟨fun h0 => (by rw [depth_of hF] at h0; cases h0), callsIn_of hF (h.mono fun e w'' hq => by cases e <;> first | exact hn _ _ hq | exact hq)⟩
  | .ok (.row row args) w', h => ⟨fun h0 => (by rw [depth_of hF] at h0; cases h0), rowsIn_of hF (h.mono fun v w'' hq => hn _ _ hq)⟩
  | .ok (.round ..) w', h => False.elim h
  | .ok (.callThen ..) w', h => False.elim h
  | .ok (.stack ..) w', h => False.elim h
  | .halt (.panic v) w', h => h
  | .halt .blocked w', h => False.elim h

theorem sem_of {o : Oper} (h : noDef o = true) (ro : Option Nat) (ρ : Operand → Value) : Oper.semAt ro ρ o = execOp ρ o :=
  Oper.semAt_eq ro ρ o (fun c hc => by simp [noDef, hc] at h)
/-- A walk of the first operations of a region, taken into the fence. -/
theorem in_app {l1 l2 : List Oper} (hF : F.plain = Fence.wide) (hq : ¬ LetsOut Q) : ∀ {a : Act} {w : World}, l1.all noDef = true → wpList P ops (Exit.then (wpListIn F m P ops Q l2) Q) l1 a w → wpListIn F m P ops Q (l1 ++ l2) a w := by
  induction l1 with
  | nil => intro a w _ h; exact h
  | cons o l ih =>
    intro a w hd h
    simp only [List.all_cons, Bool.and_eq_true] at hd
    simp only [List.cons_append, wpListIn, wpList] at h ⊢
    split at h
    · rename_i hw
      rw [if_pos hw]
      refine ⟨fun f _ => fn_of hF f, ?_⟩
      rw [sem_of hd.1]
      rcases h with h | h
      · exact uponIn_of hF (fun a w h => ih hd.2 h) _ h
      · exact absurd h.2 hq
    · rename_i hw
      rw [if_neg hw]
      exact ⟨fun f _ => fn_of hF f, ih hd.2 h⟩
theorem in_all {l : List Oper} {a : Act} {w : World} (hF : F.plain = Fence.wide) (hq : ¬ LetsOut Q) (hd : l.all noDef = true) (h : wpList P ops Q l a w) : wpListIn F m P ops Q l a w := by
  have := in_app (F := F) (m := m) (l1 := l) (l2 := []) (ops := ops) (Q := Q) (a := a) (w := w) hF hq hd (by
    have e : Exit.then (wpListIn F m P ops Q []) Q = Q := by funext e a w; cases e <;> rfl
    rw [e]; exact h)
  simpa using this
theorem in_take {l : List Oper} {a : Act} {w : World} (k : Nat) (hF : F.plain = Fence.wide) (hq : ¬ LetsOut Q) (hd : (l.take k).all noDef = true) (h : wpList P ops (Exit.then (wpListIn F m P ops Q (l.drop k)) Q) (l.take k) a w) : wpListIn F m P ops Q l a w := by
  have := in_app (F := F) (m := m) (l1 := l.take k) (l2 := l.drop k) (ops := ops) (Q := Q) (a := a) (w := w) hF hq hd h
  rwa [List.take_append_drop] at this
theorem in_reg {id : Nat} {l : List Oper} {a : Act} {w : World} (hF : F.plain = Fence.wide) (hq : ¬ LetsOut Q) (hd : l.all noDef = true) (h : wpList P l.toArray Q l a w) : (Code.region id l.toArray false).wpIn F m P Q a w :=
  wpIn_region_lit (in_all hF hq hd h)
theorem in_seq {x y : Code} {a : Act} {w : World} (h : ∀ K : Act → World → Prop, (∀ a w, y.wpIn F m P Q a w → K a w) → x.wpIn F m P (Exit.then K Q) a w) : (Code.seq x y).wpIn F m P Q a w :=
  wpIn_seq (h _ fun _ _ h => h)
/-- A call of yield whose round is known. -/
theorem in_yield {l : Nat} {n d : Nat} {σ : Nat → Value} {w : World} {rest : List Oper} {ty : TypeId} {pos : String} {aft : Array Edge} {g : Option (Nat × Bool)} {x y : Operand} {v : Value} {ts : Array TypeId} {R : Ending → World → Prop}
    (hF : F.plain = Fence.wide) (hg : wantF ops σ n g = true) (hx : (okO n x && okO n y) = true) (ex : ev σ x = .func (.yield l) #[] #[]) (ey : ev σ y = v)
    (hy : YieldAt F (m - 1) P l #[v] w R)
    (k : ∀ e w', R e w' → ∃ r, e = .returned r ∧ wpListIn F m P ops Q rest (Fr n (upd σ d r)) w') :
    wpListIn F m P ops Q (⟨some d, .call ⟨.value x, #[y], ts⟩, ty, pos, aft, g⟩ :: rest) (Fr n σ) w := by
  simp only [Bool.and_eq_true] at hx
  obtain ⟨fn, tmps, assign, body, hr, hR⟩ := hy
  unfold wpListIn
  rw [if_pos (want_of hg)]
  refine ⟨fun f _ => fn_of hF f, ?_⟩
  rw [sem_of rfl]
  have he : (#[y].map (Fr n σ).eval) = #[v] := by simp [eval_Fr hx.2, ey]
  have h1 : (execOp (Fr n σ).eval ⟨some d, .call ⟨.value x, #[y], ts⟩, ty, pos, aft, g⟩).run P w = .ok (.round l fn tmps assign body) w := by
    have h2 : (Deferred.ofValue (.func (.yield l) #[] #[]) #[v]).run P w = .ok { target := .fn (.yield l) #[], args := #[v] } w := by simp only [Deferred.ofValue, Sem.run_pure]; rfl
    simp only [execOp, resolve, eval_Fr hx.1, ex, he, Sem.run_bind, h2, Result.andThen_ok, invoke, hr]
  rw [h1]
  refine ⟨fun h0 => (by rw [depth_of hF] at h0; cases h0), hR.mono fun e w' hq => ?_⟩
  obtain ⟨r, rfl, hk⟩ := k e w' hq
  simp only [Fr_put]
  exact hk
end

/-- What an iterator promises: it hands over these values, one after the other. -/
def Iter (P : Program) (gf : Nat) (lb : Array Value) {α : Type} (encs : α → Value) (Rd : World → Prop) (xs : List α) : Prop :=
  ∀ (l : Nat) (J : List α → World → Prop) (W : World), (∀ s A B, J s A → Upd [] A B → J s B) → (∀ s A, J s A → Rd A) →
    (∀ pre x post A, xs = pre ++ x :: post → J pre A → YieldAt Fence.wide 0 P l #[encs x] A fun e B => e = .returned (.bool true) ∧ J (pre ++ [x]) B) →
    J [] W → CallsIn Fence.wide 0 P gf (#[.func (.yield l) #[] #[]] ++ lb) W fun e B => (∃ v, e = .returned v) ∧ J xs B
theorem Upd.putObj (w : World) (r : Nat) (o : Obj) : Upd [r] w (w.putObj r o) := ⟨rfl, rfl, rfl, by simp, fun b _ hb => World.putObj_heap_other (fun h => hb (by simp [h]))⟩
theorem Upd.alloc (w : World) (o : Obj) : Upd [] w (w.alloc o) := ⟨rfl, rfl, rfl, by simp, fun b hb _ => Below.heap_alloc _ _ _ hb⟩
/-- A range over such an iterator whose rounds end normally. -/
theorem c_range {P : Program} {α : Type} {g : Operand} {p : Tmp} {assign body : Code} {Q : Exit → Act → World → Prop} {n gf : Nat} {σ : Nat → Value} {w : World} {lb : Array Value} {encs : α → Value} {Rd : World → Prop} {xs : List α}
    (hx : okO n g = true) (hg : ev σ g = .func (.func gf) #[] lb) (eg : ∀ args w, (callFunc gf args).run P w = .ok (.enter gf args) w)
    (hit : Iter P gf lb encs Rd xs) (I : List α → World → Prop) (hI : ∀ s A B, I s A → Upd [w.heap.size, w.heap.size + 1] A B → I s B) (hR : ∀ s A, I s A → Rd A) (h0 : I [] w)
    (a1 : α → Act)
    (hassign : ∀ (l : Nat) (x : α) (W : World) (K : Act → World → Prop), K (a1 x) W → assign.wpIn (Fence.wide.inRound l) 0 P (Exit.then K (fun _ _ _ => False)) ⟨(Fr n σ).tmps.setIfInBounds p (encs x), []⟩ W)
    (hbody : ∀ (l : Nat) (pre : List α) (x : α) (post : List α) (W : World), xs = pre ++ x :: post → I pre W → w.heap.size + 2 ≤ W.heap.size → body.wpIn (Fence.wide.inRound l) 0 P (fun e _ W' => e = .normal ∧ I (pre ++ [x]) W' ∧ W'.heap[w.heap.size]? = W.heap[w.heap.size]? ∧ W'.heap[w.heap.size + 1]? = W.heap[w.heap.size + 1]?) (a1 x) W)
    (hdone : ∀ W, I xs W → W.heap[w.heap.size]? = some (.deferred (some [])) → w.heap.size + 2 ≤ W.heap.size → Q .normal ⟨(Fr n σ).tmps, [{ target := .collected w.heap.size, args := #[] }]⟩ W) :
    (Code.rangeFunc g #[p] assign body).wp P Q (Fr n σ) w := by
  refine (wpIn_wide (n := 0)).1 (wpIn_rangeFunc ?_)
  intro fn hfn
  obtain ⟨rec, hrec⟩ : ∃ rec : LoopState → Option Code → Loop, rec = fun st pe => { state := st, pending := pe, fn, tmps := (Fr n σ).tmps, params := #[p], assign, body, defers := w.heap.size } := ⟨_, rfl⟩
  obtain ⟨W1, hW1⟩ : ∃ W1, (w.alloc (.deferred (some []))).alloc (.loop (rec .ready none)) = W1 := ⟨_, rfl⟩
  have hL1 : W1.heap[w.heap.size + 1]? = some (.loop (rec .ready none)) := by
    rw [← hW1]; have := World.alloc_heap_new (w.alloc (.deferred (some []))) (.loop (rec .ready none)); rwa [World.size_alloc] at this
  have hK1 : W1.heap[w.heap.size]? = some (.deferred (some [])) := by
    rw [← hW1]; exact (Below.heap_alloc _ _ _ (by simp)).trans (World.alloc_heap_new w _)
  have hI0 : ∀ s A B, I s A → Upd [] A B → I s B := fun s A B h u => hI s A B h (u.mono (by simp))
  have hI1 : I [] W1 := by rw [← hW1]; exact hI0 _ _ _ (hI0 _ _ _ h0 (Upd.alloc _ _)) (Upd.alloc _ _)
  refine ⟨w.heap.size + 1, [{ target := .collected w.heap.size, args := #[] }], W1, { target := .fn (.func gf) lb, args := #[.func (.yield (w.heap.size + 1)) #[] #[]] }, W1, gf,
    #[.func (.yield (w.heap.size + 1)) #[] #[]] ++ lb, W1, ?_, ?_, fun _ _ => trivial, ?_, fun h => by simp [Fence.wide] at h, ?_⟩
  · rw [← hW1, hrec]; exact run_enterLoop_outer _ _ _ _ _
  · simp only [resolve, eval_Fr hx, hg]
    simp [go_sem]
  · simp [invoke, go_sem, eg]
  · refine (hit (w.heap.size + 1)
      (fun pre W => I pre W ∧ W.heap[w.heap.size + 1]? = some (.loop (rec .ready none)) ∧ W.heap[w.heap.size]? = some (.deferred (some [])))
      W1 (fun s A B hs u => ⟨hI0 _ _ _ hs.1 u, (u.same _ (heap_lt hs.2.1) (by simp)).trans hs.2.1, (u.same _ (heap_lt hs.2.2) (by simp)).trans hs.2.2⟩)
      (fun s A hs => hR s A hs.1) ?_ ⟨hI1, hL1, hK1⟩).mono ?_
    · rintro pre x post W hxs ⟨hi, hl, hk⟩
      have hlt : w.heap.size + 1 < W.heap.size := heap_lt hl
      have hy := run_yield (P := P) (args := #[encs x]) hl (by rw [hrec]; rfl)
      rw [hrec] at hy
      refine ⟨fn, _, assign, body, hy, roundIn_of_wpIn hfn ?_⟩
      have ha := hassign (w.heap.size + 1) x W (fun a₁ w₁ => ∃ w₂, (Instr.beginRound (w.heap.size + 1)).run P w₁ = .ok () w₂ ∧ body.wpIn (Fence.wide.inRound (w.heap.size + 1)) 0 P (roundPost P (w.heap.size + 1) fun e B => e = .returned (.bool true) ∧ I (pre ++ [x]) B ∧ B.heap[w.heap.size + 1]? = some (.loop (rec .ready none)) ∧ B.heap[w.heap.size]? = some (.deferred (some []))) a₁ w₂) ?_
      · simpa using ha
      · refine ⟨_, run_beginRound hl (by rw [hrec]), ?_⟩
        have hl2 : (W.putObj (w.heap.size + 1) (.loop { rec .ready none with state := .busy })).heap[w.heap.size + 1]? = some (.loop { rec .ready none with state := .busy }) := World.putObj_heap_same hlt
        have hk2 : (W.putObj (w.heap.size + 1) (.loop { rec .ready none with state := .busy })).heap[w.heap.size]? = some (.deferred (some [])) := (World.putObj_heap_other (by omega)).trans hk
        refine wpIn_mono (hbody _ pre x post _ hxs (hI _ _ _ hi ((Upd.putObj _ _ _).mono (by simp))) (by simp; omega)) ?_
        rintro e a3 W3 ⟨rfl, hi3, hk3, hl3⟩
        rw [hl2] at hl3; rw [hk2] at hk3
        have := run_endRound (P := P) none hl3
        refine ⟨_, _, this, rfl, hI _ _ _ hi3 ((Upd.putObj _ _ _).mono (by simp)), ?_, (World.putObj_heap_other (by omega)).trans hk3⟩
        rw [World.putObj_heap_same (heap_lt hl3)]; rw [hrec]; rfl
    · rintro e W2 ⟨⟨v, rfl⟩, hi, hl, hk⟩
      have h := run_endLoop (P := P) hl (by rw [hrec]; simp)
      refine ⟨none, _, by rw [h]; rw [hrec], hdone _ (hI _ _ _ hi ((Upd.putObj _ _ _).mono (by simp))) ((World.putObj_heap_other (by omega)).trans hk) (by have := heap_lt hl; simp; omega)⟩
theorem enterM {P : Program} {f : Nat} {fn : Func} {c : Code} {l : List Value} {R : Ending → World → Prop} {nt : Nat} {w : World} (hf : P.funcs[f]? = some fn) (hb : fn.body = some c) (hn : fn.ntmps = nt)
    (hl : Nat.ble l.length nt = true) (h : c.wp P (bodyPostM Fence.wide 0 P fn R) (Fr nt (argF l)) w) : Calls P f l.toArray w R := by
  subst hn
  refine (callsIn_wide (n := 0)).1 (callsIn_of_wp_marks hf hb trivial ((wpIn_wide (n := 0)).2 ?_))
  rw [enter_Fr _ _ (Nat.le_of_ble_eq_true hl)]
  exact h
theorem ret0M {P : Program} {fn : Func} {R : Value → World → Prop} {n D : Nat} {σ : Nat → Value} {W : World} (hr : fn.results = #[]) (hD : W.heap[D]? = some (.deferred (some []))) (h : R (.tuple #[]) (W.putObj D (.deferred none))) :
    bodyPostM Fence.wide 0 P fn (Ret R) .normal ⟨(Fr n σ).tmps, [{ target := .collected D, args := #[] }]⟩ W :=
  ⟨by simp, .inl ⟨D, _, rfl, run_takeDeferred hD, ⟨.tuple #[], by simp [results, hr, go_sem], h⟩⟩⟩
end Go.Sx
