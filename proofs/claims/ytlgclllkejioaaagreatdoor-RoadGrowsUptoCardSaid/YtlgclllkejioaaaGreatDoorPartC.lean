/- Part of the proofs about the layer of roads: The abstract machine's run is sound, but for the regions that draw their order (AmDraw). Leaving a function or a round; the results; what an operation has come to. Operations, rounds and calls in a run. The machine's run is sound, given the theorem of regions that draw their order. The machine's run is sound, given the theorem of regions that draw their order. -/
import Derived.Test.YtlgclllkejioaaaGreatDoorPartB
set_option linter.unusedVariables false
set_option linter.unusedSimpArgs false

/- The abstract machine's run is sound, but for the regions that draw their order (AmDraw). -/
namespace Go.Proofs.Am
open Go Go.RowKit
variable {G : Glob}

theorem Runs.runs0 {c : Conf} (h : Runs G c) : Runs0 G c := by
  intro E F cs w hc
  obtain ⟨⟨f, tm, nt, todo, defs, rnd⟩, cs', hp, nx⟩ := c
  cases todo with
  | nil => exact h E F cs w hc
  | cons a k =>
    have ghost : ∀ {p : Prop}, ItRel E a .beginRound ∨ True → (∀ x, ¬ ItRel E a x) → p := fun _ hn => by
      obtain ⟨tv, xs, _, _, ht, _⟩ := hc.fr
      obtain ⟨y, ys, rfl, h1, _⟩ := TodoRel.cons_inv ht
      exact absurd h1 (hn y)
    cases a with
    | inOp r lg => exact ghost (.inr trivial) fun x hx => hx
    | got a lg seen wr => exact ghost (.inr trivial) fun x hx => hx
    | inDraw ops rest rs tm0 hp0 nx0 => exact ghost (.inr trivial) fun x hx => hx
    | _ => exact h E F cs w hc

variable {f : FuncId} {tm : Tm} {nt : Nat} {todo todo' : List AIt} {defs : List Nat} {rnd : Option Nat} {cs : List AFr} {hp : Hp} {nx : Nat}

theorem base_same {f0 : FuncId} {fr fr' : AFr} {cs : List AFr} (h : baseOK f0 fr cs) (e1 : fr'.fn = fr.fn := by rfl) (e2 : fr'.round = fr.round := by rfl) : baseOK f0 fr' cs := by
  cases cs with
  | nil => exact ⟨e1.trans h.1, e2.trans h.2⟩
  | cons c cs => exact h

/-- A step that turns the list of what is to be done alone. -/
theorem runs_todo (h : Runs0 G ⟨⟨f, tm, nt, todo', defs, rnd⟩, cs, hp, nx⟩)
    (hst : ∀ E (tv : Array Value) xs, TodoRel E todo xs → TmRel E tm nt tv → ∃ xs', TodoRel E todo' xs' ∧
      ∀ ds rn cs' w, step G.P (lone (mkF f tv xs ds rn) cs' w) = .next (lone (mkF f tv xs' ds rn) cs' w)) : Runs0 G ⟨⟨f, tm, nt, todo, defs, rnd⟩, cs, hp, nx⟩ := by
  intro E F ics w hc
  obtain ⟨tv, xs, rfl, h1, h2, h3, h4⟩ := hc.fr
  obtain ⟨xs', h5, h6⟩ := hst E tv xs h2 h1
  exact Goal.step (fun bcs => h6 _ _ _ _) (h E _ ics w ⟨⟨tv, xs', rfl, h1, h5, h3, h4⟩, hc.cs, hc.w, hc.nx, base_same hc.base⟩)

theorem exitTo_rel {E : Env} {id : Nat} : ∀ {k k' : List AIt} {xs : List Item}, TodoRel E k xs → exitToA id k = some k' → ∃ xs', exitTo id xs = some xs' ∧ TodoRel E k' xs'
  | [], _, _, _, h => by simp [exitToA] at h
  | a :: k, k', xs, hr, h => by
    obtain ⟨y, ys, rfl, h1, h2⟩ := hr.cons_inv
    cases a <;> simp only [ItRel] at h1 <;> simp only [exitToA] at h
    case inBlock id' =>
      subst h1
      split at h
      · rename_i hb
        simp only [Option.some.injEq] at h
        subst h
        have := beq_t hb
        exact ⟨ys, by simp [exitTo, this], h2⟩
      · rename_i hb
        have := beq_f hb
        obtain ⟨xs', h3, h4⟩ := exitTo_rel h2 h
        exact ⟨xs', by simp [exitTo, this, h3], h4⟩
    case inRange => obtain ⟨_, rfl⟩ := h1; obtain ⟨xs', h3, h4⟩ := exitTo_rel h2 h; exact ⟨xs', by simp [exitTo, h3], h4⟩
    case endRange => obtain ⟨_, rfl⟩ := h1; obtain ⟨xs', h3, h4⟩ := exitTo_rel h2 h; exact ⟨xs', by simp [exitTo, h3], h4⟩
    case inReg => obtain ⟨rfl, _⟩ := h1; obtain ⟨xs', h3, h4⟩ := exitTo_rel h2 h; exact ⟨xs', by simp [exitTo, h3], h4⟩
    all_goals (first | exact h1.elim | (subst h1; obtain ⟨xs', h3, h4⟩ := exitTo_rel h2 h; exact ⟨xs', by simp [exitTo, h3], h4⟩))

theorem exitTo_none {E : Env} {id : Nat} : ∀ {k : List AIt} {xs : List Item}, TodoRel E k xs → exitToA id k = none → exitTo id xs = none
  | [], xs, hr, h => by obtain rfl := hr.nil_inv; rfl
  | a :: k, xs, hr, h => by
    obtain ⟨y, ys, rfl, h1, h2⟩ := hr.cons_inv
    cases a <;> simp only [ItRel] at h1 <;> simp only [exitToA] at h
    case inBlock id' =>
      subst h1
      split at h
      · cases h
      · rename_i hb
        have := beq_f hb
        simp [exitTo, this, exitTo_none h2 h]
    case inRange => obtain ⟨_, rfl⟩ := h1; simp [exitTo, exitTo_none h2 h]
    case endRange => obtain ⟨_, rfl⟩ := h1; simp [exitTo, exitTo_none h2 h]
    case inReg => obtain ⟨rfl, _⟩ := h1; simp [exitTo, exitTo_none h2 h]
    all_goals (first | exact h1.elim | (subst h1; simp [exitTo, exitTo_none h2 h]))

theorem number_spec : ∀ (l : List Oper) (i : Nat) (p : Nat × Oper), p ∈ number i l → i ≤ p.1 ∧ l[p.1 - i]? = some p.2
  | [], i, p, h => by simp [number] at h
  | o :: os, i, p, h => by
    simp only [number, List.mem_cons] at h
    rcases h with rfl | h
    · simp
    · obtain ⟨h1, h2⟩ := number_spec os (i + 1) p h
      refine ⟨by omega, ?_⟩
      rw [show p.1 - i = p.1 - (i + 1) + 1 by omega, List.getElem?_cons_succ]
      exact h2
theorem number_fst : ∀ (l : List Oper) (i : Nat), (number i l).map (·.1) = List.range' i l.length
  | [], i => rfl
  | o :: os, i => by simp [number, number_fst os (i + 1), List.range'_succ]

theorem wantedA_sound {E : Env} {tm : Tm} {nt : Nat} {tv : Array Value} (ht : TmRel E tm nt tv) {ops : Array Oper} {o : Oper} {q : Bool} (h : wantedA ops tm o = some q) :
    Region.wanted o (yielded ops tv) = q := by
  unfold wantedA at h
  unfold Region.wanted
  cases hg : o.guard with
  | none => rw [hg] at h; simp only [Option.some.injEq] at h; exact h
  | some jw =>
    obtain ⟨j, want⟩ := jw
    rw [hg] at h
    simp only at h ⊢
    unfold yielded
    cases hd : (ops[j]?).bind (·.dst) with
    | none => rw [hd] at h; simp only [Option.some.injEq] at h; subst h; rfl
    | some d =>
      rw [hd] at h
      simp only at h
      split at h
      · rename_i b hb
        obtain ⟨x, hx, hr⟩ := ht.2 d _ hb
        obtain rfl := hr.t_inv
        simp only [Option.some.injEq] at h
        subst h
        simp [hx]
      · rename_i hb
        obtain ⟨x, hx, hr⟩ := ht.2 d _ hb
        obtain ⟨vs, rfl, hvs⟩ := hr.tup_inv
        simp only [Option.some.injEq] at h
        subst h
        simp [hx]
      · cases h

theorem notDefer_of {C : Ctx} {nx : Nat} {tm : Tm} {o : Oper} {hp : Hp} {e : Eff} {lg : List Nat} (h : (aop C nx tm o).evalL hp [] = some (e, lg)) : notDefer o := by
  intro c hc
  simp [aop, hc, RM.evalL] at h

theorem undef_rel (E : Env) : Rel E (.tup []) undef := RelL.tup (vs := #[]) (.nil E)

theorem put_rel {E : Env} {tm tm' : Tm} {nt : Nat} {tv : Array Value} (r : TmRel E tm nt tv) {ops : Array Oper} {i : Nat} {o : Oper} (ho : ops[i]? = some o) {a : AV} {x : Value} (hx : Rel E a x)
    (h : putTm nt tm o.dst a = some tm') : TmRel E tm' nt (putV ops i tv x) := by
  unfold putV
  rw [ho]
  simp only [Option.bind_some]
  cases hd : o.dst with
  | none => rw [hd] at h; exact r.put hx h
  | some d => rw [hd] at h; exact r.put hx h

/-- The result of an operation of a region without a draw goes into the frame. -/
theorem got_reg {a : AV} {lg seen : List Nat} {wr : List (Nat × AB)} {ops : Array Oper} {i : Nat} {o : Oper} {rest : List (Nat × Oper)} {k : List AIt} {a' : AV} {tm' : Tm}
    (ha : ∀ E v, Rel E a v → Rel E a' v) (ht : putTm nt tm o.dst a' = some tm') (h : Runs0 G ⟨⟨f, tm', nt, .inReg ops rest :: k, defs, rnd⟩, cs, gotHp a seen hp, nx⟩) :
    Runs G ⟨⟨f, tm, nt, .got a lg seen wr :: .inReg ops ((i, o) :: rest) :: k, defs, rnd⟩, cs, hp, nx⟩ := by
  intro E F v ics w hc hr
  obtain ⟨tv, xs, rfl, h1, h2, h3, h4⟩ := hc.fr
  obtain ⟨y, ys, rfl, ⟨rfl, h5⟩, h6⟩ := h2.cons_inv
  have ho := h5 (i, o) (List.mem_cons_self ..)
  simp only [List.map_cons]
  rw [finish_mkF]
  exact h E _ ics w ⟨⟨_, _, rfl, put_rel h1 ho (ha E v hr) ht, ⟨⟨rfl, fun p hp => h5 p (List.mem_cons_of_mem _ hp)⟩, h6⟩, h3, h4⟩, hc.cs, hc.w, hc.nx, base_same hc.base⟩
end Go.Proofs.Am

/- Leaving a function or a round; the results; what an operation has come to. -/
namespace Go.Proofs.Am
open Go Go.RowKit
variable {G : Glob} {f : FuncId} {tm : Tm} {nt : Nat} {todo : List AIt} {defs : List Nat} {rnd : Option Nat} {cs : List AFr} {hp : Hp} {nx : Nat}

def Ok (G : Glob) (S : Go1) : Prop := ∀ fr cs hp nx, EvOK G (S fr cs hp nx) → Runs G ⟨fr, cs, hp, nx⟩

theorem Goal.steps {F F' : Frame} {cs cs' : List Frame} {w w' : World} (hs : ∀ bcs, Steps G.P (lone F (cs ++ bcs) w) (lone F' (cs' ++ bcs) w')) (h : Goal G F' cs' w') : Goal G F cs w := by
  intro bcs
  obtain ⟨v, w2, F2, h1, h2, h3⟩ := h bcs
  exact ⟨v, w2, F2, h1, Steps.trans (hs bcs) h2, h3⟩

theorem finish_sound {S : Go1} (hS : Ok G S) {v : AV} {g : AFr} {gs : List AFr} (h : EvOK G (finish S v (g :: gs) hp nx)) {E : Env} {F : Frame} {x : Value} {ics : List Frame} {w : World}
    (hc : Conc G E ⟨g, gs, hp, nx⟩ F ics w) (hx : Rel E v x) : Goal G (F.finish x) ics w := by
  obtain ⟨f, tm, nt, todo, defs, rnd⟩ := g
  have h1 := hS _ _ _ _ h
  cases todo with
  | nil => exact h1.elim
  | cons a k =>
    cases a with
    | inReg ops rest => exact h1 E F x ics w hc hx
    | inRange l => exact h1 E F x ics w hc hx
    | inDraw ops rest rs tm0 hp0 nx0 =>
      obtain ⟨tv, xs, _, _, h2, _⟩ := hc.fr
      obtain ⟨y, ys, _, h3, _⟩ := h2.cons_inv
      exact h3.elim
    | _ => exact h1.elim

/-- An own block that is no row is turned. -/
theorem WRel.setObj {P : Program} {w0 : Base} {m0 : Mem} {E : Env} {hp : Hp} {w : World} (h : WRel w0 m0 E hp w) {b : Nat} (hb : E.lv b) (x : AB) (o : Obj)
    (hx : ∀ w' : World, w'.heap[E.ρ b]? = some o → BRel E w' b x) : WRel w0 m0 E ((b, x) :: hp) { w with heap := w.heap.setIfInBounds (E.ρ b) o } := by
  have hlt := (h.own b hb).1
  refine h.set hb x (fun k hk => ?_) (by simp) rfl rfl rfl (hx _ ?_)
  · show (w.heap.setIfInBounds (E.ρ b) o)[k]? = _
    rw [Array.getElem?_setIfInBounds_ne (Ne.symm hk)]
  · show (w.heap.setIfInBounds (E.ρ b) o)[E.ρ b]? = _
    simp [hlt]

theorem unwind_sound {E : Env} {cs' : List Frame} : ∀ {defs : List Nat} {hp hp' : Hp} {w : World} {F : Frame}, takeDefs defs hp = some hp' → WRel G.w0 G.m0 E hp w → F.mode = .returning → F.defers = defsOf E defs →
    ∃ w', (∀ cs, Steps G.P (lone F cs w) (lone { F with defers := [] } cs w')) ∧ WRel G.w0 G.m0 E hp' w'
  | [], hp, hp', w, F, h, hw, hm, hd => by
    simp only [takeDefs, Option.some.injEq] at h
    subst h
    refine ⟨w, fun cs => ?_, hw⟩
    have : ({ F with defers := [] } : Frame) = F := by
      have : F.defers = [] := hd
      cases F
      simp_all
    rw [this]
    exact Steps.refl _ _
  | d :: ds, hp, hp', w, F, h, hw, hm, hd => by
    simp only [takeDefs] at h
    split at h
    · rename_i hq
      obtain ⟨h1, h2, h3⟩ := hw.blk d _ hq
      have hw2 := hw.setObj (P := G.P) h2 (.dfr true) (.deferred none) (fun w' hw' => ⟨h1, h2, by simpa using hw'⟩)
      obtain ⟨w', h4, h5⟩ := unwind_sound (cs' := cs') (F := { F with defers := defsOf E ds }) h hw2 hm rfl
      refine ⟨w', fun cs => .head (st_unwind (b := E.ρ d) (rest := defsOf E ds) hm (by rw [hd]; rfl) (by simpa using h3)) (h4 cs), h5⟩
    · cases h

def resF (tv : Array Value) (r : ResultVar) : Sem Value := match r with
  | .tmp t => pure (tv.getD t undef)
  | .cell a t => do loadVar t (← asAddr (tv.getD a undef))

theorem mapM_cons_run {P : Program} {α β : Type} {g : α → Sem β} {a : α} {as : List α} {x : β} {xs : List β} {w : World} (h1 : (g a).run P w = .ok x w) (h2 : (as.mapM g).run P w = .ok xs w) :
    ((a :: as).mapM g).run P w = .ok (x :: xs) w := by
  rw [List.mapM_cons, Sem.run_bind, h1]
  simp only [Result.andThen_ok]
  rw [Sem.run_bind, h2]
  rfl

theorem cell_run {P : Program} {C : Ctx} (hC : CtxOK P C) {w0 : Base} {m0 : Mem} {E : Env} {w : World} (hw : WRel w0 m0 E hp w) {tv : Array Value} (ht : TmRel E tm nt tv) {rs : List ResultVar} {xs : List AV} (h : resV C.tt tm hp rs = some xs) :
    ∃ vs : List Value, (rs.mapM (resF tv)).run P w = .ok vs w ∧ RelL E xs vs := by
  induction rs generalizing xs with
  | nil =>
    simp only [resV, Option.some.injEq] at h
    subst h
    exact ⟨[], rfl, .nil E⟩
  | cons r rs ih =>
    cases r with
    | tmp t =>
      simp only [resV] at h
      split at h
      · rename_i a as ha has
        simp only [Option.some.injEq] at h
        subst h
        obtain ⟨vs, h1, h2⟩ := ih has
        exact ⟨tv.getD t undef :: vs, mapM_cons_run rfl h1, .cons (ht.getD ha) h2⟩
      · cases h
    | cell a t =>
      simp only [resV] at h
      split at h
      · rename_i b off ti as ha hti has
        split at h
        · rename_i cs tt hb
          obtain ⟨vs, h1, h2⟩ := ih has
          have hT := hC.tt _ _ hti
          obtain ⟨hd, hlv, cells, hh, hr⟩ := hw.blk b _ hb
          obtain ⟨_, hpv⟩ := (ht.getD ha).ptr_inv
          have key : ∀ q, mkVal ti (sub cs off ti.size) = .ret q → q :: as = xs → ∃ vs : List Value, ((ResultVar.cell a t :: rs).mapM (resF tv)).run P w = .ok vs w ∧ RelL E xs vs := fun q hq he => by
            obtain ⟨x, hx, hrx⟩ := run_loadVar_cells (w := w) (b := E.ρ b) (o := off) hT (hr.sub off ti.size) (fun j x hj => by
              have := sub_get hj
              exact cell_of_heap hh (by simpa using this)) hq
            subst he
            refine ⟨x :: vs, mapM_cons_run ?_ h1, .cons hrx h2⟩
            simp only [resF]
            rw [hpv]
            simpa [asAddr] using hx
          split at h
          · rename_i hl
            split at h
            · rename_i hg
              exact key _ (by unfold mkVal; rw [hl, hg]) (by simpa using h)
            · rename_i hg
              split at h
              · rename_i c hc
                exact key c (by rw [hc] at hl ⊢; unfold mkVal; rw [hl, hg]) (by simpa using h)
              · cases h
          · cases h
        · cases h
      · cases h

theorem results_sound {P : Program} {C : Ctx} (hC : CtxOK P C) {w0 : Base} {m0 : Mem} {E : Env} {w : World} (hw : WRel w0 m0 E hp w) {tv : Array Value} (ht : TmRel E tm nt tv) {fn : Func} {xs : List AV}
    (h : resV C.tt tm hp fn.results.toList = some xs) : ∃ v, (results fn tv).run P w = .ok v w ∧ Rel E (oneOr xs) v := by
  obtain ⟨vs, h1, h2⟩ := cell_run hC hw ht h
  refine ⟨if h : vs.toArray.size = 1 then vs.toArray[0] else .tuple vs.toArray, ?_, ?_⟩
  · show (do let vs ← fn.results.mapM (resF tv); pure (if h : vs.size = 1 then vs[0] else .tuple vs) : Sem Value).run P w = _
    rw [Array.mapM_eq_mapM_toList, bind_map_left, Sem.run_bind, h1]
    rfl
  · unfold oneOr
    split
    · rename_i x
      obtain ⟨y, ys, rfl, hy, hys⟩ := h2.cons_inv
      obtain rfl := hys.nil_inv
      exact hy
    · rename_i hne
      have : ¬ vs.toArray.size = 1 := fun hs => by
        have hl := h2.1
        simp at hs
        rw [hs] at hl
        match xs, hl, hne with
        | [x], _, hne => exact hne x rfl
      rw [dif_neg this]
      exact RelL.tup (by simpa using h2)

theorem viewM_post {E : Env} {w : World} (hw : WRel G.w0 G.m0 E hp w) {a r : AV} {v : Value} {s lg : List Nat} (hc : (close 6 a).evalL hp [] = some ((r, s), lg)) (hr : G.R (.av r)) (hv : Rel E a v) :
    PostX G.w0 G.m0 G.R v w := by
  obtain ⟨h1, _⟩ := close_sound hw 6 hc hv
  refine ⟨.av r, viewM E w s, hr, hw.keep, fun b o hb => viewM_heap hw hb, fun b hb => ?_, h1⟩
  unfold viewM
  have h0 := hw.mem0 b hb
  cases hm : E.m b with
  | some o => simp only; rw [← h0, hm]
  | none =>
    simp only
    rw [if_neg, ← h0, hm]
    rintro ⟨q, _, hq, he⟩
    exact (hw.own q hq).2.2 (he ▸ hb)

theorem row_post {E : Env} {w : World} (hw : WRel G.w0 G.m0 E hp w) {b k n sz : Nat} {get : Nat → List AV} {t : TypeId} {v : Value} (hb : tget hp b = some (.row n sz get t k)) (hr : G.R (.row n sz get t)) (hv : Rel E (.osl b k) v) :
    PostX G.w0 G.m0 G.R v w := by
  obtain ⟨hvd, hvn, hnd, hlen, u, hu, husz, hun, hrow⟩ := hw.blk b _ hb
  refine ⟨_, E.m, hr, hw.keep, hw.mem, hw.mem0, ?_⟩
  cases hv with
  | c _ _ h => cases h
  | osl _ _ aa n' cap' _ hx =>
    have hval := hx u hu
    rcases hrow with ⟨⟨a0, h1, ha0⟩, rfl⟩ | ⟨hlv, hblk, cs, cap, h1, hcap, hvs2, hh, hc⟩
    · rw [h1] at hval
      exact ⟨none, ⟨hlen, .inl ⟨rfl, ⟨a0, hval, ha0⟩, rfl⟩⟩, fun b hb => by cases hb⟩
    · rw [h1] at hval
      obtain ⟨h4, h5, h6⟩ := hw.own b hlv
      exact ⟨some (E.ρ b), ⟨hlen, .inr ⟨_, rfl, h4, h5, cs, cap, hval, hcap, hvs2, hh, hc⟩⟩, fun q hq => by simp only [Option.some.injEq] at hq; subst hq; exact h6⟩

theorem leaveF_sound {S : Go1} (hS : Ok G S) (h : EvOK G (leaveF G.C S f tm nt defs cs hp nx)) {E : Env} {tv : Array Value} {xs : List Item} {ics : List Frame} {w : World} (ht : TmRel E tm nt tv)
    (hds : ∀ d ∈ defs, E.dom d) (hcs : FrsRel E cs ics) (hw : WRel G.w0 G.m0 E hp w) (hnx : ∀ b, E.has b → b < nx) (hb : baseOK G.f0 ⟨f, tm, nt, todo, defs, none⟩ cs) :
    Goal G (outF (mkF f tv xs (defsOf E defs) none)) ics w := by
  unfold leaveF at h
  split at h
  · exact h.elim
  rename_i fn hfn
  split at h
  · exact h.elim
  rename_i hp' htd
  split at h
  · exact h.elim
  rename_i rv hrv
  obtain ⟨w', hst, hw'⟩ := unwind_sound (cs' := []) (F := outF (mkF f tv xs (defsOf E defs) none)) htd hw rfl rfl
  obtain ⟨v, hv, hr⟩ := results_sound G.ok hw' ht hrv
  have hfun := G.ok.fs _ _ hfn
  cases cs with
  | nil =>
    cases ics with
    | cons => exact hcs.elim
    | nil =>
    intro bcs
    rcases h with ⟨r, s, lg, hc, hR⟩ | ⟨b, k, n, sz, get, t, he, hbk, hR⟩
    · exact ⟨v, w', _, viewM_post hw' hc hR hr, hst bcs, hb.1, rfl, rfl, rfl, fn, hfun, hv⟩
    · exact ⟨v, w', _, row_post hw' hbk hR (he ▸ hr), hst bcs, hb.1, rfl, rfl, rfl, fn, hfun, hv⟩
  | cons g gs =>
    obtain ⟨c, ics', rfl, hg, hgs⟩ := hcs.cons_inv
    refine Goal.steps (cs := c :: ics') (F' := c.finish v) (cs' := ics') (w' := w') (fun bcs => ?_) (finish_sound hS h (F := c) ⟨hg, hgs, hw', hnx, hb⟩ hr)
    exact Steps.trans (hst _) (.head (st_return rfl rfl rfl hfun hv) (.refl _ _))

theorem leaveA_sound {S : Go1} (hS : Ok G S) {jump : Option Code} (h : EvOK G (leaveA G.C S f tm nt defs rnd cs hp nx jump))
    (htd : ∀ E xs, TodoRel E todo xs → (xs = [] ∧ jump = none) ∨ (∃ k, xs = .code .ret :: k ∧ jump = some .ret) ∨ (∃ k id, xs = .code (.exit id) :: k ∧ exitTo id k = none ∧ jump = some (.exit id))) :
    Runs0 G ⟨⟨f, tm, nt, todo, defs, rnd⟩, cs, hp, nx⟩ := by
  intro E F ics w hc
  obtain ⟨tv, xs, rfl, h1, h2, h3, h4⟩ := hc.fr
  have htd := htd E xs h2
  cases rnd with
  | none =>
    simp only [leaveA] at h
    rcases htd with ⟨rfl, rfl⟩ | ⟨k, rfl, rfl⟩ | ⟨k, id, rfl, hx, rfl⟩
    · exact Goal.step (fun bcs => st_end) (leaveF_sound hS h h1 h3 hc.cs hc.w hc.nx hc.base)
    · exact Goal.step (fun bcs => st_ret) (leaveF_sound hS h h1 h3 hc.cs hc.w hc.nx hc.base)
    · exact h.elim
  | some l =>
    simp only [leaveA] at h
    split at h
    · rename_i st pd f' tm' nt' ps as b d hl
      obtain ⟨hd, hlv, hdd, tvl, htl, hh⟩ := hc.w.blk l _ hl
      cases cs with
      | nil => cases jump <;> exact h.elim
      | cons g gs =>
        obtain ⟨c, ics', hics, hg, hgs⟩ := FrsRel.cons_inv hc.cs
        subst hics
        have hstep : ∀ bcs, _ := fun bcs => st_leaveRound (P := G.P) (f := f) (tv := tv) (ds := defsOf E defs) (cs := ics' ++ bcs) hh xs htd c
        cases jump with
        | none =>
          refine Goal.step (cs := c :: ics') (cs' := ics') hstep (finish_sound hS h (F := c) ⟨hg, hgs, ?_, hc.nx, hc.base⟩ (.t true))
          exact hc.w.setObj (P := G.P) hlv _ _ fun w' hw' => ⟨hd, hlv, hdd, tvl, htl, hw'⟩
        | some j =>
          refine Goal.step (cs := c :: ics') (cs' := ics') hstep (finish_sound hS h (F := c) ⟨hg, hgs, ?_, hc.nx, hc.base⟩ (.t false))
          exact hc.w.setObj (P := G.P) hlv _ _ fun w' hw' => ⟨hd, hlv, hdd, tvl, htl, hw'⟩
    · exact h.elim
end Go.Proofs.Am

/- Operations, rounds and calls in a run. -/
namespace Go.Proofs.Am
open Go Go.RowKit
variable {G : Glob} {f : FuncId} {tm : Tm} {nt : Nat} {todo k : List AIt} {defs : List Nat} {rnd : Option Nat} {cs : List AFr} {hp : Hp} {nx : Nat}

theorem tget_init (t : Nat) : ∀ (args : List AV) (i : Nat), tget (initTm i args) t = if i ≤ t then args[t - i]? else none
  | [], i => by simp [initTm, tget]
  | a :: as, i => by
    simp only [initTm]
    rw [tget_cons]
    by_cases h : i = t
    · subst h; simp
    · rw [if_neg h, tget_init t as (i + 1)]
      by_cases h2 : i ≤ t
      · rw [if_pos h2, if_pos (by omega), show t - i = t - (i + 1) + 1 by omega, List.getElem?_cons_succ]
      · rw [if_neg h2, if_neg (by omega)]

theorem tmRel_init {E : Env} {args : List AV} {vs : Array Value} (h : RelL E args vs.toList) (hn : args.length ≤ nt) : TmRel E (initTm 0 args) nt (vs ++ Array.replicate (nt - vs.size) undef) := by
  have hl : args.length = vs.size := by simpa using h.1
  refine ⟨by simp; omega, fun t a ht => ?_⟩
  rw [tget_init, if_pos (Nat.zero_le _), Nat.sub_zero] at ht
  obtain ⟨x, hx, hr⟩ := h.get ht
  refine ⟨x, ?_, hr⟩
  have hlt : t < vs.size := by
    obtain ⟨hi, _⟩ := List.getElem?_eq_some_iff.1 ht
    omega
  rw [Array.getElem?_append_left hlt]
  simpa using hx

theorem enter_rel {P : Program} {C : Ctx} (hC : CtxOK P C) {fn : Func} {g : FuncId} {args : List AV} {h : AFr} (hf : findF g C.fs = some fn) (he : enterA fn g args = some h) {E : Env} {vs : Array Value}
    (hr : RelL E args vs.toList) : FrRel E h (Frame.enter P g vs .normal) ∧ h.round = none := by
  unfold enterA at he
  split at he
  · cases he
  rename_i b hb
  split at he
  · rename_i hn
    simp only [Option.some.injEq] at he
    subst he
    rw [enter_mkF (hC.fs _ _ hf) hb]
    exact ⟨⟨_, _, rfl, tmRel_init hr (Nat.le_of_ble_eq_true hn), ⟨rfl, trivial⟩, fun d hd => (List.not_mem_nil hd).elim, fun l hl => nomatch hl⟩, rfl⟩
  · cases he

theorem setFor_rel {E : Env} : ∀ {ps : List Tmp} {args : List AV} {vs : List Value} {tm tm' : Tm} {tv : Array Value}, setFor nt tm ps args = some tm' → TmRel E tm nt tv → RelL E args vs →
    TmRel E tm' nt ((ps.zip vs).foldl (fun tv p => tv.setIfInBounds p.1 p.2) tv) ∧ ps.length = vs.length
  | [], [], vs, tm, tm', tv, h, ht, hr => by
    simp only [setFor, Option.some.injEq] at h
    subst h
    obtain rfl := hr.nil_inv
    exact ⟨ht, rfl⟩
  | t :: ts, a :: as, vs, tm, tm', tv, h, ht, hr => by
    simp only [setFor] at h
    split at h
    · rename_i hb
      obtain ⟨x, xs, rfl, hx, hxs⟩ := hr.cons_inv
      have h1 : TmRel E ((t, a) :: tm) nt (tv.setIfInBounds t x) := ht.put (d := some t) hx (by simp only [putTm, hb])
      obtain ⟨h2, h3⟩ := setFor_rel h h1 hxs
      exact ⟨h2, by simp [h3]⟩
    · cases h
  | [], _ :: _, _, _, _, _, h, _, _ => by simp [setFor] at h
  | _ :: _, [], _, _, _, _, h, _, _ => by simp [setFor] at h

theorem bare_rel {m m' : Mem} : ∀ (d : Nat) {a : AV} {v : Value}, RelC m a v → a.bare d = true → RelC m' a v
  | 0, a, v, _, h => by simp [AV.bare] at h
  | d + 1, a, v, r, h => by
    cases r with
    | v => exact .v _
    | n => exact .n _ _
    | t => exact .t _
    | agg cs vs hl hr =>
      simp only [AV.bare, List.all_eq_true] at h
      exact .agg cs vs hl fun i hi hj => bare_rel d (hr i hi hj) (h _ (List.getElem_mem hi))
    | tup cs vs hl hr =>
      simp only [AV.bare, List.all_eq_true] at h
      exact .tup cs vs hl fun i hi hj => bare_rel d (hr i hi hj) (h _ (List.getElem_mem hi))
    | _ => simp [AV.bare] at h

theorem yield_run {P : Program} {l : Nat} {w : World} {st : LoopState} {pd : Option Code} {f' : FuncId} {tv : Array Value} {ps : List Tmp} {as b : Code} {d : Nat} {vs : Array Value}
    (hh : w.heap[l]? = some (.loop { state := st, pending := pd, fn := f', tmps := tv, params := ps.toArray, assign := as, body := b, defers := d })) (hl : ps.length = vs.toList.length) :
    (Instr.yield l vs).run P w = .ok (.round l f' ((ps.zip vs.toList).foldl (fun tv p => tv.setIfInBounds p.1 p.2) tv) as b) w := by
  unfold Instr.yield Instr.getLoop
  have hget : (getObj l).run P w = .ok (.loop { state := st, pending := pd, fn := f', tmps := tv, params := ps.toArray, assign := as, body := b, defers := d }) w := by simp [getObj, Sem.run, hh]
  have hsz : vs.size = ps.length := by simpa using hl.symm
  simp [hget, hsz]
  have := Array.foldl_toList (fun (tmps : Array Value) (x : Tmp × Value) => tmps.setIfInBounds x.fst x.snd) (init := tv) (xs := ps.toArray.zip vs)
  simp [hsz] at this
  exact this.symm

theorem Runs.op_mono {r r' : RM Eff} {lg lg' : List Nat} (h : Runs G ⟨⟨f, tm, nt, .inOp r' lg' :: k, defs, rnd⟩, cs, hp, nx⟩)
    (hm : ∀ e l, r'.evalL hp lg' = some (e, l) → r.evalL hp lg = some (e, l)) : Runs G ⟨⟨f, tm, nt, .inOp r lg :: k, defs, rnd⟩, cs, hp, nx⟩ := by
  cases k with
  | nil => trivial
  | cons a k =>
    cases a with
    | inReg ops rest =>
      cases rest with
      | nil => trivial
      | cons p rest => obtain ⟨i, o⟩ := p; exact fun h1 h2 => h h1 fun e l he => h2 e l (hm e l he)
    | inDraw ops rest rs tm0 hp0 nx0 =>
      cases rest with
      | nil => trivial
      | cons p rest => obtain ⟨i, o⟩ := p; exact fun id h0 h1 h2 h3 => h id h0 h1 h2 fun e l he => h3 e l (hm e l he)
    | _ => trivial

/-- An operation that has come to a value. -/
theorem Runs.op_val {a : AV} {wr : List (Nat × AB)} {fresh : Bool} {lg : List Nat}
    (h : Runs G ⟨⟨f, tm, nt, .got a lg [] wr :: k, defs, rnd⟩, cs, wr ++ hp, bump fresh nx⟩) :
    Runs G ⟨⟨f, tm, nt, .inOp (.ret ⟨.val a, wr, fresh⟩) lg :: k, defs, rnd⟩, cs, hp, nx⟩ := by
  cases k with
  | nil => trivial
  | cons b k =>
    cases b with
    | inReg ops rest =>
      cases rest with
      | nil => trivial
      | cons p rest =>
        obtain ⟨i, o⟩ := p
        intro hw he E F ics w hc
        have he := he _ _ rfl
        obtain ⟨tv, xs, rfl, h1, h2, h3, h4⟩ := hc.fr
        obtain ⟨y, ys, rfl, ⟨rfl, h5⟩, h6⟩ := h2.cons_inv
        have ho := h5 (i, o) (List.mem_cons_self ..)
        have hi : ¬ E.has nx := fun hn => Nat.lt_irrefl _ (hc.nx _ hn)
        obtain ⟨x, w', E', hr, hle, hx, hw', hnew⟩ := op_sound G.ok hc.w hi (a := actOf tv) h1 he
        refine Goal.step (fun bcs => st_opValue ho ((wantedA_sound h1 hw)) (notDefer_of he) hr) ?_
        have := h E' _ x ics w' ⟨hc.fr.mono hle, hc.cs.mono hle, hw', fun b hb => ?_, base_same hc.base⟩ hx
        · rwa [List.map_cons, finish_mkF] at this
        · rcases hnew b hb with hb | ⟨rfl, rfl⟩
          · have : b < nx := hc.nx b hb
            cases fresh <;> simp only [bump] <;> omega
          · exact Nat.lt_succ_self _
    | inDraw ops rest rs tm0 hp0 nx0 =>
      cases rest with
      | nil => trivial
      | cons p rest =>
        obtain ⟨i, o⟩ := p
        intro id h0 h1 h2 h3
        exact h id hp nx h0 h1 (.val a lg wr fresh h2 (h3 _ _ rfl))
    | _ => trivial

/-- What a call leaves of the memory. -/
theorem WRel.called {w0 : Base} {m0 : Mem} {E : Env} {w w' : World} (hw : WRel w0 m0 E hp w) {seen : List Nat} {m' : Mem} (hb : Below w.heap.size w w') (hm : ∀ b o, m' b = some o → w'.heap[b]? = some o)
    (hv : ∀ b, b < w.heap.size → m' b = viewM E w seen b) {a : AV} {v : Value} (hr : RelC m' a v) :
    ∃ E', E.le E' ∧ WRel w0 m0 E' (gotHp a seen hp) w' ∧ Rel E' a v ∧ ∀ b, E'.has b → E.has b := by
  have hmem : ∀ b o, E.m b = some o → b < w.heap.size := fun b o h => by
    have := hw.mem b o h
    rcases Nat.lt_or_ge b w.heap.size with h1 | h1
    · exact h1
    · simp [Array.getElem?_eq_none h1] at this
  have hsz := hb.size
  have gen : ∀ seen' : List Nat, (∀ s, s ∈ seen' ↔ s ∈ seen) → ∃ E', E.le E' ∧ WRel w0 m0 E' (gones seen' ++ hp) w' ∧ Rel E' a v ∧ ∀ b, E'.has b → E.has b := fun seen' hs => by
    have hle : E.le { E with m := m', lv := fun b => E.lv b ∧ b ∉ seen } := ⟨fun _ _ => rfl, fun _ h => h, fun b o h => by
      show m' b = some o
      rw [hv b (hmem b o h)]; exact viewM_le h, fun _ _ h => h, fun _ _ _ _ h => h⟩
    refine ⟨{ E with m := m', lv := fun b => E.lv b ∧ b ∉ seen }, hle, ?_, .c _ _ hr, ?_⟩
    · refine ⟨hw.keep.trans (.of_below hb hw.keep.size), hm, fun b h => ?_, fun b h => ?_, fun b c h1 h2 h3 => hw.inj b c h1.1 h2.1 h3, fun b x hx => ?_⟩
      · show m' b = m0 b
        rw [hv b (Nat.lt_of_lt_of_le h.1 hw.keep.size), ← hw.mem0 b h]
        unfold viewM
        cases hq : E.m b with
        | some o => rfl
        | none =>
          simp only
          rw [if_neg]
          rintro ⟨q, _, hl, he⟩
          exact (hw.own q hl).2.2 (he ▸ h)
      · obtain ⟨h1, h2, h3⟩ := hw.own b h.1
        refine ⟨Nat.lt_of_lt_of_le h1 hsz, ?_, h3⟩
        show m' (E.ρ b) = none
        rw [hv _ h1]
        unfold viewM
        rw [h2]
        simp only
        rw [if_neg]
        rintro ⟨q, hq, hl, he⟩
        exact h.2 (hw.inj q b hl h.1 he ▸ hq)
      · have hg : ∀ (l : List Nat), tget (gones l ++ hp) b = some x → (b ∈ l ∧ x = .gone) ∨ (b ∉ l ∧ tget hp b = some x) := by
          intro l
          induction l with
          | nil => intro h; exact .inr ⟨by simp, h⟩
          | cons c l ih =>
            intro h
            simp only [gones, List.cons_append] at h
            rw [tget_cons] at h
            by_cases e : c = b
            · rw [if_pos e] at h
              simp only [Option.some.injEq] at h
              exact .inl ⟨e ▸ List.mem_cons_self .., h.symm⟩
            · rw [if_neg e] at h
              rcases ih h with ⟨h1, h2⟩ | ⟨h1, h2⟩
              · exact .inl ⟨List.mem_cons_of_mem _ h1, h2⟩
              · exact .inr ⟨by simp; exact ⟨fun q => e q.symm, h1⟩, h2⟩
        rcases hg _ hx with ⟨_, rfl⟩ | ⟨h1, h2⟩
        · trivial
        · have h1 : b ∉ seen := fun q => h1 ((hs b).2 q)
          exact (hw.blk b x h2).keep hle (fun _ => rfl) (fun q => ⟨q, h1⟩) (fun q => q) (fun _ q => q) (fun _ => rfl) (fun q => hb.block _ (hw.own b q).1)
    · rintro b (h | h | h)
      · exact .inl h.1
      · exact .inr (.inl h)
      · exact .inr (.inr h)
  cases seen with
  | nil => exact gen [] (fun s => .rfl)
  | cons s ss =>
    unfold gotHp
    simp only
    cases hba : AV.bare 6 a with
    | false => exact gen (s :: ss) (fun s => .rfl)
    | true =>
      refine ⟨E, .refl E, ⟨hw.keep.trans (.of_below hb hw.keep.size), fun b o h => ?_, hw.mem0, fun b h => ?_, hw.inj, fun b x hx => ?_⟩, ?_, fun b h => h⟩
      · rw [hb.block b (hmem b o h)]; exact hw.mem b o h
      · obtain ⟨h1, h2, h3⟩ := hw.own b h; exact ⟨Nat.lt_of_lt_of_le h1 hsz, h2, h3⟩
      · exact (hw.blk b x hx).keep (.refl E) (fun _ => rfl) (fun q => q) (fun q => q) (fun _ q => q) (fun _ => rfl) (fun q => hb.block _ (hw.own b q).1)
      · exact .c _ _ (bare_rel 6 hr hba)

/-- A block that nobody knew becomes one's own row. -/
theorem WRel.adopt {w0 : Base} {m0 : Mem} {E : Env} {w : World} (h : WRel w0 m0 E hp w) {b k : Nat} {H : RowH} {r : Option Nat} (hd : ¬ E.dom b) (hv : ¬ E.vd b k) (hl : ¬ E.lv b)
    (hr : ∀ q, r = some q → q < w.heap.size ∧ E.m q = none ∧ ¬ w0.guards q ∧ ∀ c, E.lv c → E.ρ c ≠ q)
    (x : AB) (hx : BRel (E.rowAt b k H r) w b x) : WRel w0 m0 (E.rowAt b k H r) ((b, x) :: hp) w where
  keep := h.keep
  mem := h.mem
  mem0 := h.mem0
  own := fun c hc => by
    rcases hc with ⟨rfl, hc⟩ | ⟨hcb, hc⟩
    · cases r with
      | none => simp at hc
      | some q => rw [Env.rowAt_same]; obtain ⟨h1, h2, h3, _⟩ := hr q rfl; exact ⟨h1, h2, h3⟩
    · rw [Env.rowAt_ne hcb]; exact h.own c hc
  inj := fun c d hc hd' hcd => by
    rcases hc with ⟨rfl, hc⟩ | ⟨hcb, hc⟩ <;> rcases hd' with ⟨rfl, hd'⟩ | ⟨hdb, hd'⟩
    · rfl
    · cases r with
      | none => simp at hc
      | some q => rw [Env.rowAt_same, Env.rowAt_ne hdb] at hcd; exact absurd hcd.symm ((hr q rfl).2.2.2 d hd')
    · cases r with
      | none => simp at hd'
      | some q => rw [Env.rowAt_same, Env.rowAt_ne hcb] at hcd; exact absurd hcd ((hr q rfl).2.2.2 c hc)
    · rw [Env.rowAt_ne hcb, Env.rowAt_ne hdb] at hcd
      exact h.inj c d hc hd' hcd
  blk := fun c y hy => by
    rw [tget_cons] at hy
    by_cases e : b = c
    · subst e
      rw [if_pos rfl] at hy
      simp only [Option.some.injEq] at hy
      subst hy
      exact hx
    · rw [if_neg e] at hy
      have e' : c ≠ b := fun q => e q.symm
      exact (h.blk c y hy).keep (Env.rowAt_le hd hv) (fun _ => Env.rowAt_ne e') (fun q => .inr ⟨e', q⟩) (fun q => q) (fun q hq => hq.resolve_left (fun z => e' z.1)) (fun q => by simp [Env.rowAt, e']) (fun q => rfl)

theorem gones_get {hp : Hp} {b : Nat} {x : AB} : ∀ (l : List Nat), tget (gones l ++ hp) b = some x → (b ∈ l ∧ x = .gone) ∨ (b ∉ l ∧ tget hp b = some x) := by
  intro l
  induction l with
  | nil => intro h; exact .inr ⟨by simp, h⟩
  | cons c l ih =>
    intro h
    simp only [gones, List.cons_append] at h
    rw [tget_cons] at h
    by_cases e : c = b
    · rw [if_pos e] at h
      simp only [Option.some.injEq] at h
      exact .inl ⟨e ▸ List.mem_cons_self .., h.symm⟩
    · rw [if_neg e] at h
      rcases ih h with ⟨h1, h2⟩ | ⟨h1, h2⟩
      · exact .inl ⟨List.mem_cons_of_mem _ h1, h2⟩
      · exact .inr ⟨by simp; exact ⟨fun q => e q.symm, h1⟩, h2⟩

/-- What a call of a function that may own memory leaves. -/
theorem WRel.calledX {w0 : Base} {m0 : Mem} {E : Env} {w w' : World} (hw : WRel w0 m0 E hp w) {seen : List Nat} {r : Option Nat} {out : OutA} {v : Value} (hpost : PostX ⟨w, r⟩ E.m (· = out) v w')
    (hseen : ∀ q, r = some q → ∃ b ∈ seen, E.lv b ∧ q = E.ρ b) (hn : ¬ E.has nx) :
    ∃ E', E.le E' ∧ WRel w0 m0 E' (outWr nx seen out ++ hp) w' ∧ Rel E' (outV nx out) v ∧ ∀ b, E'.has b → E.has b ∨ b = nx ∧ outNx nx out = nx + 1 := by
  obtain ⟨o, m', rfl, hk, hm, hv, hout⟩ := hpost
  have hmem : ∀ b o, E.m b = some o → b < w.heap.size := fun b o h => by
    have := hw.mem b o h
    rcases Nat.lt_or_ge b w.heap.size with h1 | h1
    · exact h1
    · simp [Array.getElem?_eq_none h1] at this
  have hne : ∀ b o, E.m b = some o → some b ≠ r := fun b o h e => by
    obtain ⟨c, _, hc, hq⟩ := hseen b e.symm
    have := (hw.own c hc).2.1
    rw [← hq, h] at this; cases this
  have hg : ∀ b, w0.guards b → b < w.heap.size ∧ some b ≠ r := fun b h => ⟨Nat.lt_of_lt_of_le h.1 hw.keep.size, fun e => by
    obtain ⟨c, _, hc, hq⟩ := hseen b e.symm
    exact (hw.own c hc).2.2 (hq ▸ h)⟩
  have hot : ∀ b, E.lv b → b ∉ seen → some (E.ρ b) ≠ r := fun b hb hs e => by
    obtain ⟨c, hcs, hc, hq⟩ := hseen _ e.symm
    exact hs (hw.inj b c hb hc hq ▸ hcs)
  have hle : E.le { E with m := m', lv := fun b => E.lv b ∧ b ∉ seen } := ⟨fun _ _ => rfl, fun _ h => h, fun b o h => by
    show m' b = some o
    rw [hv b ⟨hmem b o h, hne b o h⟩]; exact h, fun _ _ h => h, fun _ _ _ _ h => h⟩
  have h1 : WRel w0 m0 { E with m := m', lv := fun b => E.lv b ∧ b ∉ seen } (gones seen ++ hp) w' := by
    refine ⟨hw.keep.trans ⟨hk.os, hk.tape, hk.output, hk.size, fun q hq hx => ?_⟩, hm, fun b h => ?_, fun b h => ?_, fun b c h1 h2 h3 => hw.inj b c h1.1 h2.1 h3, fun b x hx => ?_⟩
    · obtain ⟨g1, g2⟩ := hg q ⟨hq, hx⟩
      exact hk.block q g1 g2
    · show m' b = m0 b
      rw [hv b (hg b h)]; exact hw.mem0 b h
    · obtain ⟨a1, a2, a3⟩ := hw.own b h.1
      refine ⟨Nat.lt_of_lt_of_le a1 hk.size, ?_, a3⟩
      show m' (E.ρ b) = none
      rw [hv _ ⟨a1, hot b h.1 h.2⟩]; exact a2
    · rcases gones_get _ hx with ⟨_, rfl⟩ | ⟨b1, b2⟩
      · trivial
      · exact (hw.blk b x b2).keep hle (fun _ => rfl) (fun q => ⟨q, b1⟩) (fun q => q) (fun _ q => q) (fun _ => rfl) (fun q => hk.block _ (hw.own b q).1 (hot b q b1))
  cases o with
  | av a =>
    refine ⟨_, hle, h1, .c _ _ hout, fun b hb => .inl ?_⟩
    rcases hb with h | h | h
    · exact .inl h.1
    · exact .inr (.inl h)
    · exact .inr (.inr h)
  | row n sz get t =>
    obtain ⟨q, hrow, hq⟩ := hout
    have hd : ¬ E.dom nx := fun h => hn (.inr (.inl h))
    have hvd : ∀ k, ¬ E.vd nx k := fun k h => hn (.inr (.inr ⟨k, h⟩))
    have hl : ¬ (E.lv nx ∧ nx ∉ seen) := fun h => hn (.inl h.1)
    have hR : RowRel { E with m := m', lv := fun b => E.lv b ∧ b ∉ seen } w' n sz get t ⟨v, q.getD 0, sz, n⟩ q := by
      obtain ⟨g1, g2⟩ := hrow
      refine ⟨g1, rfl, rfl, ?_⟩
      rcases g2 with ⟨rfl, ha, h0⟩ | ⟨g, rfl, hlt, hmg, vs, cap, a1, a2, a3, a4, a5⟩
      · exact .inl ⟨rfl, ha, h0⟩
      · exact .inr ⟨g, rfl, rfl, vs, cap, a1, a2, a3, a4, a5⟩
    have h2 := h1.adopt (b := nx) (k := 0) (H := ⟨v, q.getD 0, sz, n⟩) (r := q) hd (hvd 0) hl (fun g hg' => by
      obtain ⟨_, g2⟩ := hrow
      rcases g2 with ⟨e, _⟩ | ⟨g0, e, hlt, hmg, _⟩
      · rw [e] at hg'; cases hg'
      · rw [e] at hg'
        simp only [Option.some.injEq] at hg'
        subst hg'
        refine ⟨hlt, hmg, fun hgu => hq g0 e (hg g0 hgu), fun c hc hcg => ?_⟩
        exact hq g0 e ⟨hcg ▸ (hw.own c hc.1).1, hcg ▸ hot c hc.1 hc.2⟩) (.row n sz get t 0) (hR.brel hd fun k' _ => hvd k')
    refine ⟨_, hle.trans (Env.rowAt_le hd (hvd 0)), h2, ?_, fun b hb => ?_⟩
    · obtain ⟨_, g2⟩ := hrow
      have hs : ∃ a n' c, v = .slice a n' c := by
        rcases g2 with ⟨_, ⟨a, e, _⟩, _⟩ | ⟨g, _, _, _, vs, cap, a1, _⟩
        · exact ⟨_, _, _, e⟩
        · exact ⟨_, _, _, a1⟩
      obtain ⟨a, n', c, rfl⟩ := hs
      refine .osl nx 0 a n' c (.inl ⟨rfl, rfl⟩) fun u hu => ?_
      rw [Env.rowAt_hdr] at hu
      simp only [Option.some.injEq] at hu
      rw [← hu]
    · rcases Env.rowAt_has hb with h | h
      · left
        rcases h with h | h | h
        · exact .inl h.1
        · exact .inr (.inl h)
        · exact .inr (.inr h)
      · exact .inr ⟨h, rfl⟩

/-- An operation that calls a function that may own memory. -/
theorem Runs.op_callx {g : FuncId} {inp : InA} {seen : List Nat} {wr : List (Nat × AB)} {fresh : Bool} {lg : List Nat} {out : OutA} (hf : FunX G.P g inp (· = out))
    (h : Runs G ⟨⟨f, tm, nt, .got (outV nx out) lg [] (outWr nx seen out) :: k, defs, rnd⟩, cs, outWr nx seen out ++ hp, outNx nx out⟩) :
    Runs G ⟨⟨f, tm, nt, .inOp (.ret ⟨.callx g inp seen, wr, fresh⟩) lg :: k, defs, rnd⟩, cs, hp, nx⟩ := by
  cases k with
  | nil => trivial
  | cons b k =>
    cases b with
    | inReg ops rest =>
      cases rest with
      | nil => trivial
      | cons p rest =>
        obtain ⟨i, o⟩ := p
        intro hw he E F ics w hc
        have he := he _ _ rfl
        obtain ⟨tv, xs, rfl, h1, h2, h3, h4⟩ := hc.fr
        obtain ⟨y, ys, rfl, ⟨rfl, h5⟩, h6⟩ := h2.cons_inv
        have ho := h5 (i, o) (List.mem_cons_self ..)
        have hi : ¬ E.has nx := fun hn => Nat.lt_irrefl _ (hc.nx _ hn)
        obtain ⟨vs, r0, hrun, hin, _, hseen⟩ := op_sound G.ok hc.w hi (a := actOf tv) h1 he
        obtain ⟨hcall, hfun⟩ := hf
        intro bcs
        have hst := fun cs' => st_opEnter (P := G.P) (f := f) (k := ys) (ds := defsOf E defs) (rnd := rnd.map E.ρ) (cs := cs') ho ((wantedA_sound h1 hw)) (notDefer_of he) (rest := rest.map (·.1)) (hrun.trans (hcall vs w))
        obtain ⟨e, w', fr, ⟨v, rfl, hpost⟩, hsteps, hfn, hleave⟩ := hfun E.m w vs r0 hc.w.mem hin
          (mkF f tv (.inRegion ops (i :: rest.map (·.1)) :: ys) (defsOf E defs) (rnd.map E.ρ) :: (ics ++ bcs))
        obtain ⟨E', hle, hw', hx, hhas⟩ := hc.w.calledX hpost hseen hi
        obtain ⟨v2, w2, F2, g1, g2, g3⟩ := h E' _ v ics w' ⟨hc.fr.mono hle, hc.cs.mono hle, hw', fun b hb => by
          rcases hhas b hb with hb | ⟨rfl, he⟩
          · have := hc.nx b hb
            have : nx ≤ outNx nx out := by cases out <;> simp [outNx]
            show b < outNx nx out
            have h9 : b < nx := hc.nx b hb
            omega
          · show b < outNx b out
            rw [he]; exact Nat.lt_succ_self b, base_same hc.base⟩ hx bcs
        exact ⟨v2, w2, F2, g1, .head (hst _) (Steps.trans hsteps (.head (step_leave_returned hleave) g2)), g3⟩
    | inDraw ops rest rs tm0 hp0 nx0 =>
      cases rest with
      | nil => trivial
      | cons p rest =>
        obtain ⟨i, o⟩ := p
        intro id h0 h1 h2 h3
        exact h id hp nx h0 h1 (.callx out lg g inp seen wr fresh h2 (h3 _ _ rfl) hf)
    | _ => trivial

/-- An operation that calls a function by its contract. -/
theorem Runs.op_call {g : FuncId} {args : List AV} {seen : List Nat} {wr : List (Nat × AB)} {fresh : Bool} {lg : List Nat} {a : AV} (hf : Fun G.P g args a)
    (h : Runs G ⟨⟨f, tm, nt, .got a lg seen [] :: k, defs, rnd⟩, cs, hp, nx⟩) :
    Runs G ⟨⟨f, tm, nt, .inOp (.ret ⟨.call g args seen, wr, fresh⟩) lg :: k, defs, rnd⟩, cs, hp, nx⟩ := by
  cases k with
  | nil => trivial
  | cons b k =>
    cases b with
    | inReg ops rest =>
      cases rest with
      | nil => trivial
      | cons p rest =>
        obtain ⟨i, o⟩ := p
        intro hw he E F ics w hc
        have he := he _ _ rfl
        obtain ⟨tv, xs, rfl, h1, h2, h3, h4⟩ := hc.fr
        obtain ⟨y, ys, rfl, ⟨rfl, h5⟩, h6⟩ := h2.cons_inv
        have ho := h5 (i, o) (List.mem_cons_self ..)
        have hi : ¬ E.has nx := fun hn => Nat.lt_irrefl _ (hc.nx _ hn)
        obtain ⟨vs, hrun, hargs, _⟩ := op_sound G.ok hc.w hi (a := actOf tv) h1 he
        obtain ⟨hcall, hfun⟩ := hf
        intro bcs
        have hst := fun cs' => st_opEnter (P := G.P) (f := f) (k := ys) (ds := defsOf E defs) (rnd := rnd.map E.ρ) (cs := cs') ho ((wantedA_sound h1 hw)) (notDefer_of he) (rest := rest.map (·.1)) (hrun.trans (hcall vs w))
        obtain ⟨e, w', fr, ⟨v, rfl, r, m', rfl, hb, hm, hv, hr⟩, hsteps, hfn, hleave⟩ := hfun (viewM E w seen) w vs (fun b o hb => viewM_heap hc.w hb) hargs
          (mkF f tv (.inRegion ops (i :: rest.map (·.1)) :: ys) (defsOf E defs) (rnd.map E.ρ) :: (ics ++ bcs))
        obtain ⟨E', hle, hw', hx, hhas⟩ := hc.w.called hb hm hv hr
        obtain ⟨v2, w2, F2, g1, g2, g3⟩ := h E' _ v ics w' ⟨hc.fr.mono hle, hc.cs.mono hle, hw', fun b hb => hc.nx b (hhas b hb), base_same hc.base⟩ hx bcs
        exact ⟨v2, w2, F2, g1, .head (hst _) (Steps.trans hsteps (.head (step_leave_returned hleave) g2)), g3⟩
    | inDraw ops rest rs tm0 hp0 nx0 =>
      cases rest with
      | nil => trivial
      | cons p rest =>
        obtain ⟨i, o⟩ := p
        intro id h0 h1 h2 h3
        exact h id hp nx h0 h1 (.call a lg g args seen wr fresh h2 (h3 _ _ rfl) hf)
    | _ => trivial

/-- An operation that enters a function. -/
theorem Runs.op_inl {g : FuncId} {args : List AV} {wr : List (Nat × AB)} {fresh : Bool} {lg : List Nat} {fn : Func} {h' : AFr} (hf : findF g G.C.fs = some fn) (he' : enterA fn g args = some h')
    {ops : Array Oper} {rest : List (Nat × Oper)} (h : Runs0 G ⟨h', ⟨f, tm, nt, .inReg ops rest :: k, defs, rnd⟩ :: cs, hp, nx⟩) :
    Runs G ⟨⟨f, tm, nt, .inOp (.ret ⟨.inl g args, wr, fresh⟩) lg :: .inReg ops rest :: k, defs, rnd⟩, cs, hp, nx⟩ := by
  cases rest with
  | nil => trivial
  | cons p rest =>
    obtain ⟨i, o⟩ := p
    intro hw he E F ics w hc
    have he := he _ _ rfl
    obtain ⟨tv, xs, rfl, h1, h2, h3, h4⟩ := hc.fr
    obtain ⟨y, ys, rfl, ⟨rfl, h5⟩, h6⟩ := h2.cons_inv
    have ho := h5 (i, o) (List.mem_cons_self ..)
    have hi : ¬ E.has nx := fun hn => Nat.lt_irrefl _ (hc.nx _ hn)
    obtain ⟨hcall, vs, hrun, hargs⟩ := op_sound G.ok hc.w hi (a := actOf tv) h1 he
    refine Goal.step (cs' := mkF f tv (.inRegion ops (i :: rest.map (·.1)) :: ys) (defsOf E defs) (rnd.map E.ρ) :: ics) (fun bcs => st_opEnter ho ((wantedA_sound h1 hw)) (notDefer_of he) (hrun.trans (hcall vs w))) ?_
    obtain ⟨hfr, hrn⟩ := enter_rel G.ok hf he' hargs
    exact h E _ (_ :: ics) w ⟨hfr, ⟨hc.fr, hc.cs⟩, hc.w, hc.nx, hc.base⟩

/-- An operation that makes a round of a loop. -/
theorem Runs.op_yld {l : Nat} {args : List AV} {wr : List (Nat × AB)} {fresh : Bool} {lg : List Nat} {st : LoopState} {pd : Option Code} {f' : FuncId} {tm' tm'' : Tm} {nt' : Nat} {ps : List Tmp} {as b : Code} {d : Nat}
    (hl : tget hp l = some (.loop st pd f' tm' nt' ps as b d)) (hset : setFor nt' tm' ps args = some tm'')
    {ops : Array Oper} {rest : List (Nat × Oper)} (h : Runs0 G ⟨⟨f', tm'', nt', [.code as, .begin, .code b], [], some l⟩, ⟨f, tm, nt, .inReg ops rest :: k, defs, rnd⟩ :: cs, hp, nx⟩) :
    Runs G ⟨⟨f, tm, nt, .inOp (.ret ⟨.yld l args, wr, fresh⟩) lg :: .inReg ops rest :: k, defs, rnd⟩, cs, hp, nx⟩ := by
  cases rest with
  | nil => trivial
  | cons p rest =>
    obtain ⟨i, o⟩ := p
    intro hw he E F ics w hc
    have he := he _ _ rfl
    obtain ⟨tv, xs, rfl, h1, h2, h3, h4⟩ := hc.fr
    obtain ⟨y, ys, rfl, ⟨rfl, h5⟩, h6⟩ := h2.cons_inv
    have ho := h5 (i, o) (List.mem_cons_self ..)
    have hi : ¬ E.has nx := fun hn => Nat.lt_irrefl _ (hc.nx _ hn)
    obtain ⟨vs, hrun, hdom, hargs⟩ := op_sound G.ok hc.w hi (a := actOf tv) h1 he
    obtain ⟨hd, hlv, hdd, tvl, htl, hh⟩ := hc.w.blk l _ hl
    obtain ⟨hset, hlen⟩ := setFor_rel hset htl hargs
    refine Goal.step (cs' := mkF f tv (.inRegion ops (i :: rest.map (·.1)) :: ys) (defsOf E defs) (rnd.map E.ρ) :: ics) (fun bcs => st_opRound ho ((wantedA_sound h1 hw)) (notDefer_of he) (hrun.trans (yield_run hh hlen))) ?_
    refine h E _ (_ :: ics) w ⟨⟨_, _, rfl, hset, ⟨rfl, rfl, rfl, trivial⟩, fun d hd => (List.not_mem_nil hd).elim, fun q hq => ?_⟩, ⟨hc.fr, hc.cs⟩, hc.w, hc.nx, hc.base⟩
    simp only [Option.some.injEq] at hq
    exact hq ▸ hdom
end Go.Proofs.Am

/- The machine's run is sound, given the theorem of regions that draw their order. -/
namespace Go.Proofs.Am
open Go Go.RowKit
variable {G : Glob} {f : FuncId} {tm : Tm} {nt : Nat} {todo k : List AIt} {defs : List Nat} {rnd : Option Nat} {cs : List AFr} {hp : Hp} {nx : Nat}

/-- Regions that draw their order. -/
def DrawOK (G : Glob) : Prop := ∀ {f : FuncId} {tm : Tm} {nt : Nat} {k : List AIt} {defs : List Nat} {rnd : Option Nat} {cs : List AFr} {hp : Hp} {nx : Nat} {tm0 : Tm} {hp0 : Hp} {nx0 : Nat} {ops : Array Oper} {rs : List Rec} {id : Nat},
  Hist G ops nt tm0 hp0 nx0 rs tm hp nx → number 0 ops.toList = rs.reverse.map recIO → okDraw ops rs.reverse = true → Runs0 G ⟨⟨f, tm, nt, k, defs, rnd⟩, cs, hp, nx⟩ →
  Runs0 G ⟨⟨f, tm0, nt, .code (.region id ops true) :: k, defs, rnd⟩, cs, hp0, nx0⟩

theorem sx_got {C : Ctx} {n : Nat} {a : AV} {lg seen : List Nat} {wr : List (Nat × AB)} :
    sx C (n + 1) ⟨f, tm, nt, .got a lg seen wr :: k, defs, rnd⟩ cs hp nx = gotA (sx C n) f tm nt k defs rnd cs (gotHp a seen hp) nx a lg (gotWr a seen wr) := by
  cases seen with
  | nil => rfl
  | cons s ss =>
    show (match AV.bare 6 a with
        | true => gotA (sx C n) f tm nt k defs rnd cs hp nx a lg wr
        | false => gotA (sx C n) f tm nt k defs rnd cs (gones (s :: ss) ++ hp) nx a lg (gones (s :: ss))) = _
    unfold gotHp gotWr
    cases AV.bare 6 a <;> rfl

theorem split_sound {g : Bool} {a : AV} {T : AV → Ev} {I : Bool → AV → AV → Ev} {Q : AV → Prop} (h : EvOK G (splitA g a T I)) (hT : ∀ a, EvOK G (T a) → Q a) (hI : ∀ b, EvOK G (I b (.t true) (.t false)) → Q (.t b)) :
    ∃ a', Q a' ∧ ∀ E v, Rel E a v → Rel E a' v := by
  unfold splitA at h
  split at h
  · exact ⟨a, hT a h, fun _ _ h => h⟩
  · split at h
    · rename_i b
      exact ⟨.t b, hI b h, fun E v r => by obtain rfl := r.v_inv; exact .t b⟩
    · rename_i b
      exact ⟨.t b, hT _ h, fun _ _ h => h⟩
    · exact ⟨.tup [], hT _ h, fun _ _ h => h⟩
    · exact h.elim

theorem got_sound {S : Go1} (hS : Ok G S) {a : AV} {lg seen : List Nat} {wr : List (Nat × AB)} (h : EvOK G (gotA S f tm nt k defs rnd cs (gotHp a seen hp) nx a lg (gotWr a seen wr))) :
    Runs G ⟨⟨f, tm, nt, .got a lg seen wr :: k, defs, rnd⟩, cs, hp, nx⟩ := by
  unfold gotA at h
  split at h
  · rename_i ops i o rest k
    have := split_sound (Q := fun a' => ∃ tm', putTm nt tm o.dst a' = some tm' ∧ Runs G ⟨⟨f, tm', nt, .inReg ops rest :: k, defs, rnd⟩, cs, gotHp a seen hp, nx⟩) h (fun a' h => by
      simp only at h
      split at h
      · exact h.elim
      · rename_i tm' ht; exact ⟨tm', ht, hS _ _ _ _ h⟩) (fun b h => by
      simp only at h
      split at h
      · exact h.elim
      · rename_i t1 ht1
        split at h
        · exact h.elim
        · rename_i t2 ht2
          cases b
          · exact ⟨t2, ht2, h.2 rfl⟩
          · exact ⟨t1, ht1, h.1 rfl⟩)
    obtain ⟨a', ⟨tm', ht, hr⟩, ha⟩ := this
    exact got_reg ha ht hr.runs0
  · rename_i ops i o rest rs tm0 hp0 nx0 k
    have := split_sound (Q := fun a' => ∃ tm', putTm nt tm o.dst a' = some tm' ∧ Runs G ⟨⟨f, tm', nt, .inDraw ops rest (⟨i, o, a', lg, gotWr a seen wr⟩ :: rs) tm0 hp0 nx0 :: k, defs, rnd⟩, cs, gotHp a seen hp, nx + 1⟩) h (fun a' h => by
      simp only at h
      split at h
      · exact h.elim
      · rename_i tm' ht; exact ⟨tm', ht, hS _ _ _ _ h⟩) (fun b h => by
      simp only at h
      split at h
      · exact h.elim
      · rename_i t1 ht1
        split at h
        · exact h.elim
        · rename_i t2 ht2
          cases b
          · exact ⟨t2, ht2, h.2 rfl⟩
          · exact ⟨t1, ht1, h.1 rfl⟩)
    obtain ⟨a', ⟨tm', ht, hr⟩, ha⟩ := this
    intro id hpb nxb hH hn hres
    refine hr id (.cons rs tm tm' hpb hp nxb nx i o a a' lg seen wr hH hres ha ht) ?_
    rw [hn]
    simp [recIO]
  · rename_i l k
    have hr := hS _ _ _ _ h
    intro E F v ics w hc hv
    obtain ⟨tv, xs, rfl, h1, h2, h3, h4⟩ := hc.fr
    obtain ⟨y, ys, rfl, ⟨hd, rfl⟩, h6⟩ := h2.cons_inv
    exact hr.runs0 E (mkF f tv (.endRangeFunc (E.ρ l) :: ys) (defsOf E defs) (rnd.map E.ρ)) ics w ⟨⟨tv, _, rfl, h1, ⟨⟨hd, rfl⟩, h6⟩, h3, h4⟩, hc.cs, hc.w, hc.nx, base_same hc.base⟩
  · exact h.elim

theorem op_sound' {C : Ctx} (hCg : C = G.C) {n : Nat} (hS : Ok G (sx C n)) {r : RM Eff} {lg : List Nat} (h : EvOK G (sx C (n + 1) ⟨f, tm, nt, .inOp r lg :: k, defs, rnd⟩ cs hp nx)) :
    Runs G ⟨⟨f, tm, nt, .inOp r lg :: k, defs, rnd⟩, cs, hp, nx⟩ := by
  subst hCg
  cases r with
  | fail => exact h.elim
  | rd b g =>
    have h : EvOK G (match (generalizing := false) tget hp b with
        | none => .fail
        | some x => sx G.C n ⟨f, tm, nt, .inOp (g x) (b :: lg) :: k, defs, rnd⟩ cs hp nx) := h
    split at h
    · exact h.elim
    · rename_i x hx
      exact Runs.op_mono (hS _ _ _ _ h) fun e l he => by simp only [RM.evalL, hx]; exact he
  | grd c r =>
    obtain ⟨rfl, h2⟩ := h
    exact Runs.op_mono h2 fun e l he => he
  | br c x y =>
    cases c
    · exact Runs.op_mono (h.2 rfl) fun e l he => he
    · exact Runs.op_mono (h.1 rfl) fun e l he => he
  | num z g =>
    obtain ⟨j, rfl, h2⟩ := h
    exact Runs.op_mono h2 fun e l he => he
  | ret e =>
    obtain ⟨res, wr, fresh⟩ := e
    cases res with
    | val a =>
      have h : EvOK G (forceA a fun a => match (generalizing := false) wr with
            | [] => match (generalizing := false) fresh with
              | true => .fail
              | false => sx G.C n ⟨f, tm, nt, .got a lg [] [] :: k, defs, rnd⟩ cs hp nx
            | [(b, x)] => match (generalizing := false) fresh with
              | true => sx G.C n ⟨f, tm, nt, .got a lg [] [(b, x)] :: k, defs, rnd⟩ cs ((b, x) :: hp) (nx + 1)
              | false => sx G.C n ⟨f, tm, nt, .got a lg [] [(b, x)] :: k, defs, rnd⟩ cs ((b, x) :: hp) nx
            | _ => .fail) := h
      rw [forceA_eq] at h
      split at h
      · cases fresh
        · exact Runs.op_val (hS _ _ _ _ h)
        · exact h.elim
      · rename_i b x
        cases fresh
        · exact Runs.op_val (hS _ _ _ _ h)
        · exact Runs.op_val (hS _ _ _ _ h)
      · exact h.elim
    | call g args seen =>
      have h : EvOK G (forceL args fun args => .call g args ⟨⟨f, tm, nt, .got (.tup []) lg seen [] :: k, defs, rnd⟩, cs, hp, nx⟩) := h
      rw [forceL_eq] at h
      obtain ⟨a, hf, hr⟩ := h
      exact Runs.op_call hf hr
    | callx g inp seen =>
      have h : EvOK G (.callx g inp seen ⟨⟨f, tm, nt, .got (.tup []) lg [] [] :: k, defs, rnd⟩, cs, hp, nx⟩) := h
      obtain ⟨out, hf, hr⟩ := h
      exact Runs.op_callx hf hr
    | inl g args =>
      cases k with
      | nil => trivial
      | cons b k =>
        cases b with
        | inReg ops rest =>
          cases rest with
          | nil => trivial
          | cons p rest =>
            have h : EvOK G (match (generalizing := false) findF g G.C.fs with
              | none => .fail
              | some fn => match enterA fn g args with
                | none => .fail
                | some h => sx G.C n h (⟨f, tm, nt, .inReg ops (p :: rest) :: k, defs, rnd⟩ :: cs) hp nx) := h
            split at h
            · exact h.elim
            · rename_i fn hfn
              split at h
              · exact h.elim
              · rename_i h' he
                exact Runs.op_inl hfn he (hS _ _ _ _ h).runs0
        | _ => first | exact h.elim | trivial
    | yld l args =>
      cases k with
      | nil => trivial
      | cons b k =>
        cases b with
        | inReg ops rest =>
          cases rest with
          | nil => trivial
          | cons p rest =>
            have h : EvOK G (match (generalizing := false) tget hp l with
              | some (.loop _ _ f' tm' nt' ps as b _) => match setFor nt' tm' ps args with
                | none => .fail
                | some tm'' => sx G.C n ⟨f', tm'', nt', [.code as, .begin, .code b], [], some l⟩ (⟨f, tm, nt, .inReg ops (p :: rest) :: k, defs, rnd⟩ :: cs) hp nx
              | _ => .fail) := h
            split at h
            · rename_i st pd f' tm' nt' ps as b d hl
              split at h
              · exact h.elim
              · rename_i tm'' hset
                exact Runs.op_yld hl hset (hS _ _ _ _ h).runs0
            · exact h.elim
        | _ => first | exact h.elim | trivial
end Go.Proofs.Am

/- The machine's run is sound, given the theorem of regions that draw their order. -/
namespace Go.Proofs.Am
open Go Go.RowKit
variable {G : Glob} {f : FuncId} {tm : Tm} {nt : Nat} {todo k : List AIt} {defs : List Nat} {rnd : Option Nat} {cs : List AFr} {hp : Hp} {nx : Nat}

theorem begin_sound {l : Nat} {pd : Option Code} {f' : FuncId} {tm' : Tm} {nt' : Nat} {ps : List Tmp} {as b : Code} {d : Nat} (hl : tget hp l = some (.loop .ready pd f' tm' nt' ps as b d))
    (h : Runs0 G ⟨⟨f, tm, nt, k, defs, some l⟩, cs, (l, .loop .busy pd f' tm' nt' ps as b d) :: hp, nx⟩) : Runs0 G ⟨⟨f, tm, nt, .begin :: k, defs, some l⟩, cs, hp, nx⟩ := by
  intro E F ics w hc
  obtain ⟨tv, xs, rfl, h1, h2, h3, h4⟩ := hc.fr
  obtain ⟨y, ys, rfl, rfl, h6⟩ := h2.cons_inv
  obtain ⟨hd, hlv, hdd, tvl, htl, hh⟩ := hc.w.blk l _ hl
  refine Goal.step (fun bcs => st_begin hh rfl) (h E _ ics _ ⟨⟨_, _, rfl, h1, h6, h3, h4⟩, hc.cs, ?_, hc.nx, base_same hc.base⟩)
  exact hc.w.setObj (P := G.P) hlv _ _ fun w' hw' => ⟨hd, hlv, hdd, tvl, htl, hw'⟩

theorem endRange_sound {l : Nat} {st : LoopState} {pd : Option Code} {f' : FuncId} {tm' : Tm} {nt' : Nat} {ps : List Tmp} {as b : Code} {d : Nat} (hl : tget hp l = some (.loop st pd f' tm' nt' ps as b d)) (hst : st ≠ .busy)
    (h : Runs0 G ⟨⟨f, tm, nt, (pd.map AIt.code).toList ++ k, defs, rnd⟩, cs, (l, .loop .exhausted pd f' tm' nt' ps as b d) :: hp, nx⟩) : Runs0 G ⟨⟨f, tm, nt, .endRange l :: k, defs, rnd⟩, cs, hp, nx⟩ := by
  intro E F ics w hc
  obtain ⟨tv, xs, rfl, h1, h2, h3, h4⟩ := hc.fr
  obtain ⟨y, ys, rfl, ⟨_, rfl⟩, h6⟩ := h2.cons_inv
  obtain ⟨hd, hlv, hdd, tvl, htl, hh⟩ := hc.w.blk l _ hl
  refine Goal.step (fun bcs => st_endRange hh hst) (h E _ ics _ ⟨⟨_, _, rfl, h1, ?_, h3, h4⟩, hc.cs, ?_, hc.nx, base_same hc.base⟩)
  · cases pd with
    | none => exact h6
    | some j => exact ⟨rfl, h6⟩
  · exact hc.w.setObj (P := G.P) hlv _ _ fun w' hw' => ⟨hd, hlv, hdd, tvl, htl, hw'⟩

theorem rangeFunc_sound {x : Operand} {ps : Array Tmp} {as b : Code} {g : FuncId} {caps : List AV} {fn : Func} {h' : AFr} (hx : ev tm x = some (.fn (.func g) caps)) (hm : memF g G.C.inl = true)
    (hf : findF g G.C.fs = some fn) (he : enterA fn g (.fn (.yield (nx + 1)) [] :: caps) = some h')
    (h : Runs0 G ⟨h', ⟨f, tm, nt, .inRange (nx + 1) :: k, nx :: defs, none⟩ :: cs, (nx + 1, .loop .ready none f tm nt ps.toList as b nx) :: (nx, .dfr false) :: hp, nx + 2⟩) :
    Runs0 G ⟨⟨f, tm, nt, .code (.rangeFunc x ps as b) :: k, defs, none⟩, cs, hp, nx⟩ := by
  intro E F ics w hc
  obtain ⟨tv, xs, rfl, h1, h2, h3, h4⟩ := hc.fr
  obtain ⟨y, ys, rfl, rfl, h6⟩ := h2.cons_inv
  have rx := ev_rel (a := actOf tv) h1 hx
  obtain ⟨f', vs, hv, hf', hcaps⟩ := rx.fn_inv
  simp only [fnRel] at hf'
  subst hf'
  have hi : ¬ E.has nx := fun hn => Nat.lt_irrefl _ (hc.nx _ hn)
  have hle1 := Env.new_le (r := w.heap.size) hi
  have hw1 := hc.w.new hi (.deferred (some [])) (.dfr false) ⟨.inl rfl, .inl rfl, by rw [Env.new_ρ, heap_alloc_eq]; rfl⟩
  have hnx1 : ∀ b, (E.new nx w.heap.size).has b → b < nx + 1 := fun b hb => by
    rcases Env.new_has hb with hb | rfl
    · have := hc.nx b hb; exact Nat.lt_succ_of_lt this
    · exact Nat.lt_succ_self _
  have hi2 : ¬ (E.new nx w.heap.size).has (nx + 1) := fun hn => Nat.lt_irrefl _ (hnx1 _ hn)
  have hsz : (w.alloc (.deferred (some []))).heap.size = w.heap.size + 1 := by simp
  have hle2 := Env.new_le (r := w.heap.size + 1) hi2
  have hw2 := hw1.new hi2 (.loop { state := .ready, pending := none, fn := f, tmps := tv, params := ps, assign := as, body := b, defers := w.heap.size }) (.loop .ready none f tm nt ps.toList as b nx) (by
    refine ⟨.inl rfl, .inl rfl, .inr (.inl rfl), tv, (h1.mono hle1).mono (Env.new_le hi2), ?_⟩
    rw [Env.new_ρ, heap_alloc_eq, Env.new_ne _ (by omega), Env.new_ρ])
  rw [hsz] at hw2
  have hle := hle1.trans hle2
  obtain ⟨hfr, hrn⟩ := enter_rel G.ok hf he (E := (E.new nx w.heap.size).new (nx + 1) (w.heap.size + 1)) (vs := #[.func (.yield (w.heap.size + 1)) #[] #[]] ++ vs) (by
    rw [Array.toList_append]
    refine RelL.cons ?_ (hcaps.mono hle)
    exact RelL.fn (vs := #[]) ⟨.inl rfl, by rw [Env.new_ρ]⟩ (.nil _))
  refine Goal.step (cs' := mkF f tv (.inRangeFunc (w.heap.size + 1) :: ys) ({ target := .collected w.heap.size, args := #[] } :: defsOf E defs) none :: ics) (fun bcs => st_rangeFunc hv (G.ok.inl _ hm)) ?_
  refine h _ _ (_ :: ics) _ ⟨hfr, ⟨⟨tv, .inRangeFunc (w.heap.size + 1) :: ys, ?_, h1.mono hle, ⟨⟨.inl rfl, by rw [Env.new_ρ]⟩, TodoRel.mono hle h6⟩, ?_, fun l hl => nomatch hl⟩, hc.cs.mono hle⟩, hw2, ?_, (base_same hc.base : baseOK G.f0 ⟨f, tm, nt, .inRange (nx + 1) :: k, nx :: defs, none⟩ cs)⟩
  · congr 1
    unfold defsOf
    simp only [List.map_cons]
    congr 1
    · rw [Env.new_ne _ (by omega), Env.new_ρ]
    · exact List.map_congr_left fun d hd => by rw [hle.ρ d (h3 d hd)]
  · intro d hd
    rcases List.mem_cons.1 hd with rfl | hd
    · exact .inr (.inl rfl)
    · exact hle.dom d (h3 d hd)
  · intro b hb
    rcases Env.new_has hb with hb | rfl
    · exact Nat.lt_succ_of_lt (hnx1 b hb)
    · exact Nat.lt_succ_self _

theorem rangeFuncIn_sound {x : Operand} {ps : Array Tmp} {as b : Code} {g : FuncId} {caps : List AV} {fn : Func} {h' : AFr} {r : Nat} {st : LoopState} {pd : Option Code} {f' : FuncId} {tm' : Tm} {nt' : Nat} {ps' : List Tmp} {as' b' : Code} {d : Nat}
    (hl : tget hp r = some (.loop st pd f' tm' nt' ps' as' b' d)) (hx : ev tm x = some (.fn (.func g) caps)) (hm : memF g G.C.inl = true)
    (hf : findF g G.C.fs = some fn) (he : enterA fn g (.fn (.yield nx) [] :: caps) = some h')
    (h : Runs0 G ⟨h', ⟨f, tm, nt, .inRange nx :: k, defs, some r⟩ :: cs, (nx, .loop .ready none f tm nt ps.toList as b d) :: hp, nx + 1⟩) :
    Runs0 G ⟨⟨f, tm, nt, .code (.rangeFunc x ps as b) :: k, defs, some r⟩, cs, hp, nx⟩ := by
  intro E F ics w hc
  obtain ⟨tv, xs, rfl, h1, h2, h3, h4⟩ := hc.fr
  obtain ⟨y, ys, rfl, rfl, h6⟩ := h2.cons_inv
  have rx := ev_rel (a := actOf tv) h1 hx
  obtain ⟨f'', vs, hv, hf', hcaps⟩ := rx.fn_inv
  simp only [fnRel] at hf'
  subst hf'
  obtain ⟨hd, hlv, hdd, tvl, htl, hh⟩ := hc.w.blk r _ hl
  have hi : ¬ E.has nx := fun hn => Nat.lt_irrefl _ (hc.nx _ hn)
  have hle := Env.new_le (r := w.heap.size) hi
  have hdn : d ≠ nx := fun e => hi (e ▸ .inr (.inl hdd))
  have hw1 := hc.w.new hi (.loop { state := .ready, pending := none, fn := f, tmps := tv, params := ps, assign := as, body := b, defers := E.ρ d }) (.loop .ready none f tm nt ps.toList as b d) (by
    refine ⟨.inl rfl, .inl rfl, .inr hdd, tv, h1.mono hle, ?_⟩
    rw [Env.new_ρ, heap_alloc_eq, Env.new_ne _ hdn])
  obtain ⟨hfr, hrn⟩ := enter_rel G.ok hf he (E := E.new nx w.heap.size) (vs := #[.func (.yield w.heap.size) #[] #[]] ++ vs) (by
    rw [Array.toList_append]
    refine RelL.cons ?_ (hcaps.mono hle)
    exact RelL.fn (vs := #[]) ⟨.inl rfl, by rw [Env.new_ρ]⟩ (.nil _))
  have hr := h4 r rfl
  refine Goal.step (cs' := mkF f tv (.inRangeFunc w.heap.size :: ys) (defsOf E defs) (some (E.ρ r)) :: ics) (fun bcs => st_rangeFuncIn hh hv (G.ok.inl _ hm)) ?_
  have hfr0 : FrRel (E.new nx w.heap.size) ⟨f, tm, nt, .inRange nx :: k, defs, some r⟩ (mkF f tv (.inRangeFunc w.heap.size :: ys) (defsOf E defs) (some (E.ρ r))) := by
    refine ⟨tv, .inRangeFunc w.heap.size :: ys, ?_, h1.mono hle, ⟨⟨.inl rfl, by rw [Env.new_ρ]⟩, TodoRel.mono hle h6⟩, fun d hd => hle.dom d (h3 d hd), fun l hl => hle.dom l (h4 l hl)⟩
    congr 1
    · unfold defsOf
      exact List.map_congr_left fun d hd => by rw [hle.ρ d (h3 d hd)]
    · simp [hle.ρ r hr]
  refine h _ _ (_ :: ics) _ ⟨hfr, ⟨hfr0, hc.cs.mono hle⟩, hw1, ?_, (base_same hc.base : baseOK G.f0 ⟨f, tm, nt, .inRange nx :: k, defs, some r⟩ cs)⟩
  intro b hb
  rcases Env.new_has hb with hb | rfl
  · have := hc.nx b hb; exact Nat.lt_succ_of_lt this
  · exact Nat.lt_succ_self _

theorem skip_sound {ops : Array Oper} {i : Nat} {o : Oper} {rest : List (Nat × Oper)} (hw : wantedA ops tm o = some false)
    (h : Runs G ⟨⟨f, tm, nt, .got (.tup []) [] [] [] :: .inReg ops ((i, o) :: rest) :: k, defs, rnd⟩, cs, hp, nx⟩) : Runs0 G ⟨⟨f, tm, nt, .inReg ops ((i, o) :: rest) :: k, defs, rnd⟩, cs, hp, nx⟩ := by
  intro E F ics w hc
  have hg := h E F undef ics w hc (undef_rel E)
  obtain ⟨tv, xs, rfl, h1, h2, h3, h4⟩ := hc.fr
  obtain ⟨y, ys, rfl, ⟨rfl, h5⟩, h6⟩ := h2.cons_inv
  have ho := h5 (i, o) (List.mem_cons_self ..)
  rw [List.map_cons, finish_mkF] at hg
  refine Goal.step (fun bcs => st_opSkip ?_) hg
  have := wantedA_sound h1 hw
  rw [ho]
  simpa using this

/-- The machine's run. -/
theorem sx_sound (hD : DrawOK G) : ∀ n, Ok G (sx G.C n)
  | 0 => fun fr cs hp nx h => h
  | n + 1 => by
    have hS := sx_sound hD n
    rintro ⟨f, tm, nt, todo, defs, rnd⟩ cs hp nx h
    cases todo with
    | nil => exact leaveA_sound hS (jump := none) h (fun E xs hx => .inl ⟨hx.nil_inv, rfl⟩)
    | cons a k =>
      cases a with
      | inBlock i => exact runs_todo (hS _ _ _ _ h).runs0 fun E tv xs hx ht => by obtain ⟨y, ys, rfl, rfl, h2⟩ := hx.cons_inv; exact ⟨ys, h2, fun _ _ _ _ => st_inBlock⟩
      | inScope b => exact runs_todo (hS _ _ _ _ h).runs0 fun E tv xs hx ht => by obtain ⟨y, ys, rfl, rfl, h2⟩ := hx.cons_inv; exact ⟨ys, h2, fun _ _ _ _ => st_inScope⟩
      | inLoop b =>
        have h : Runs G ⟨⟨f, tm, nt, .code b :: .inLoop b :: k, defs, rnd⟩, cs, hp, nx⟩ := h
        exact runs_todo h.runs0 fun E tv xs hx ht => by obtain ⟨y, ys, rfl, rfl, h2⟩ := hx.cons_inv; exact ⟨.code b :: .inLoop b :: ys, ⟨rfl, rfl, h2⟩, fun _ _ _ _ => st_inLoop⟩
      | inReg ops rest =>
        cases rest with
        | nil => exact runs_todo (hS _ _ _ _ h).runs0 fun E tv xs hx ht => by obtain ⟨y, ys, rfl, ⟨rfl, _⟩, h2⟩ := hx.cons_inv; exact ⟨ys, h2, fun _ _ _ _ => st_regionEnd⟩
        | cons p rest =>
          obtain ⟨i, o⟩ := p
          have h : EvOK G (match (generalizing := false) wantedA ops tm o with
            | none => .fail
            | some false => sx G.C n ⟨f, tm, nt, .got (.tup []) [] [] [] :: .inReg ops ((i, o) :: rest) :: k, defs, rnd⟩ cs hp nx
            | some true => sx G.C n ⟨f, tm, nt, .inOp (aop G.C nx tm o) [] :: .inReg ops ((i, o) :: rest) :: k, defs, rnd⟩ cs hp nx) := h
          split at h
          · exact h.elim
          · rename_i hw; exact skip_sound hw (hS _ _ _ _ h)
          · rename_i hw
            exact hS _ _ _ _ h hw fun e l he => he
      | inDraw ops rest rs tm0 hp0 nx0 =>
        cases rest with
        | nil =>
          intro id hH hn
          obtain ⟨hb, hr⟩ := h
          exact hD hH (by simpa using hn) hb hr.runs0
        | cons p rest =>
          obtain ⟨i, o⟩ := p
          intro id hH hn
          have h : EvOK G (match (generalizing := false) wantedA ops tm o with
            | none => .fail
            | some false => sx G.C n ⟨f, tm, nt, .got (.tup []) [] [] [] :: .inDraw ops ((i, o) :: rest) rs tm0 hp0 nx0 :: k, defs, rnd⟩ cs hp nx
            | some true => sx G.C n ⟨f, tm, nt, .inOp (aop G.C nx tm o) [] :: .inDraw ops ((i, o) :: rest) rs tm0 hp0 nx0 :: k, defs, rnd⟩ cs hp nx) := h
          split at h
          · exact h.elim
          · rename_i hw; exact hS _ _ _ _ h id _ _ hH hn (.skip hw)
          · rename_i hw; exact hS _ _ _ _ h id hH hn hw fun e l he => he
      | inOp r lg => exact op_sound' rfl hS h
      | got a lg seen wr => rw [sx_got] at h; exact got_sound hS h
      | inRange l => exact h.elim
      | begin =>
        cases rnd with
        | none => exact h.elim
        | some l =>
          have h : EvOK G (match (generalizing := false) tget hp l with
            | some (.loop .ready pd f' tm' nt' ps as b d) => sx G.C n ⟨f, tm, nt, k, defs, some l⟩ cs ((l, .loop .busy pd f' tm' nt' ps as b d) :: hp) nx
            | _ => .fail) := h
          split at h
          · rename_i hl; exact begin_sound hl (hS _ _ _ _ h).runs0
          · exact h.elim
      | endRange l =>
        have h : EvOK G (match (generalizing := false) tget hp l with
          | some (.loop st pd f' tm' nt' ps as b d) => match st with
            | .busy => .fail
            | _ => match pd with
              | none => sx G.C n ⟨f, tm, nt, k, defs, rnd⟩ cs ((l, .loop .exhausted none f' tm' nt' ps as b d) :: hp) nx
              | some j => sx G.C n ⟨f, tm, nt, .code j :: k, defs, rnd⟩ cs ((l, .loop .exhausted (some j) f' tm' nt' ps as b d) :: hp) nx
          | _ => .fail) := h
        split at h
        · rename_i st pd f' tm' nt' ps as b d hl
          cases st with
          | busy => exact h.elim
          | _ =>
            refine endRange_sound hl (by intro h; cases h) ?_
            cases pd <;> exact (hS _ _ _ _ h).runs0
        · exact h.elim
      | code cd =>
        cases cd with
        | ret => exact leaveA_sound hS (jump := some .ret) h (fun E xs hx => by obtain ⟨y, ys, rfl, rfl, h2⟩ := hx.cons_inv; exact .inr (.inl ⟨ys, rfl, rfl⟩))
        | skip => exact runs_todo (hS _ _ _ _ h).runs0 fun E tv xs hx ht => by obtain ⟨y, ys, rfl, rfl, h2⟩ := hx.cons_inv; exact ⟨ys, h2, fun _ _ _ _ => st_skip⟩
        | label l => exact runs_todo (hS _ _ _ _ h).runs0 fun E tv xs hx ht => by obtain ⟨y, ys, rfl, rfl, h2⟩ := hx.cons_inv; exact ⟨ys, h2, fun _ _ _ _ => st_label⟩
        | seq a b => exact runs_todo (hS _ _ _ _ h).runs0 fun E tv xs hx ht => by obtain ⟨y, ys, rfl, rfl, h2⟩ := hx.cons_inv; exact ⟨.code a :: .code b :: ys, ⟨rfl, rfl, h2⟩, fun _ _ _ _ => st_seq⟩
        | block id b => exact runs_todo (hS _ _ _ _ h).runs0 fun E tv xs hx ht => by obtain ⟨y, ys, rfl, rfl, h2⟩ := hx.cons_inv; exact ⟨.code b :: .inBlock id :: ys, ⟨rfl, rfl, h2⟩, fun _ _ _ _ => st_block⟩
        | scope b => exact runs_todo (hS _ _ _ _ h).runs0 fun E tv xs hx ht => by obtain ⟨y, ys, rfl, rfl, h2⟩ := hx.cons_inv; exact ⟨.code b :: .inScope b :: ys, ⟨rfl, rfl, h2⟩, fun _ _ _ _ => st_scope⟩
        | loop b =>
          have h : Runs G ⟨⟨f, tm, nt, .code b :: .inLoop b :: k, defs, rnd⟩, cs, hp, nx⟩ := h
          exact runs_todo h.runs0 fun E tv xs hx ht => by obtain ⟨y, ys, rfl, rfl, h2⟩ := hx.cons_inv; exact ⟨.code b :: .inLoop b :: ys, ⟨rfl, rfl, h2⟩, fun _ _ _ _ => st_loop⟩
        | cond x a b =>
          have h : EvOK G (match (generalizing := false) ev tm x with
            | some (.t true) => sx G.C n ⟨f, tm, nt, .code a :: k, defs, rnd⟩ cs hp nx
            | some (.t false) => sx G.C n ⟨f, tm, nt, .code b :: k, defs, rnd⟩ cs hp nx
            | some (.v (.bool q)) => .ite q ⟨⟨f, tm, nt, .code a :: k, defs, rnd⟩, cs, hp, nx⟩ ⟨⟨f, tm, nt, .code b :: k, defs, rnd⟩, cs, hp, nx⟩
            | _ => .fail) := h
          split at h
          · rename_i hx
            exact runs_todo (hS _ _ _ _ h).runs0 fun E tv xs hx' ht => by
              obtain ⟨y, ys, rfl, rfl, h2⟩ := hx'.cons_inv
              exact ⟨.code a :: ys, ⟨rfl, h2⟩, fun _ _ _ _ => st_cond (q := true) (ev_rel (a := actOf tv) ht hx).t_inv⟩
          · rename_i hx
            exact runs_todo (hS _ _ _ _ h).runs0 fun E tv xs hx' ht => by
              obtain ⟨y, ys, rfl, rfl, h2⟩ := hx'.cons_inv
              exact ⟨.code b :: ys, ⟨rfl, h2⟩, fun _ _ _ _ => st_cond (q := false) (ev_rel (a := actOf tv) ht hx).t_inv⟩
          · rename_i q hx
            cases q
            · exact runs_todo (h.2 rfl).runs0 fun E tv xs hx' ht => by
                obtain ⟨y, ys, rfl, rfl, h2⟩ := hx'.cons_inv
                exact ⟨.code b :: ys, ⟨rfl, h2⟩, fun _ _ _ _ => st_cond (q := false) (ev_rel (a := actOf tv) ht hx).v_inv⟩
            · exact runs_todo (h.1 rfl).runs0 fun E tv xs hx' ht => by
                obtain ⟨y, ys, rfl, rfl, h2⟩ := hx'.cons_inv
                exact ⟨.code a :: ys, ⟨rfl, h2⟩, fun _ _ _ _ => st_cond (q := true) (ev_rel (a := actOf tv) ht hx).v_inv⟩
          · exact h.elim
        | exit id =>
          have h : EvOK G (match (generalizing := false) exitToA id k with
            | some k' => sx G.C n ⟨f, tm, nt, k', defs, rnd⟩ cs hp nx
            | none => leaveA G.C (sx G.C n) f tm nt defs rnd cs hp nx (some (.exit id))) := h
          split at h
          · rename_i k' hk
            exact runs_todo (hS _ _ _ _ h).runs0 fun E tv xs hx ht => by
              obtain ⟨y, ys, rfl, rfl, h2⟩ := hx.cons_inv
              obtain ⟨xs', h3, h4⟩ := exitTo_rel h2 hk
              exact ⟨xs', h4, fun _ _ _ _ => st_exit h3⟩
          · rename_i hk
            exact leaveA_sound hS (jump := some (.exit id)) h (fun E xs hx => by obtain ⟨y, ys, rfl, rfl, h2⟩ := hx.cons_inv; exact .inr (.inr ⟨ys, id, rfl, exitTo_none h2 hk, rfl⟩))
        | region id ops draw =>
          cases draw with
          | false =>
            refine runs_todo (hS _ _ _ _ h).runs0 fun E tv xs hx ht => ?_
            obtain ⟨y, ys, rfl, rfl, h2⟩ := hx.cons_inv
            refine ⟨.inRegion ops ((number 0 ops.toList).map (·.1)) :: ys, ⟨⟨rfl, fun p hp => ?_⟩, h2⟩, fun _ _ _ _ => ?_⟩
            · have := (number_spec _ _ _ hp).2
              simpa using this
            · rw [number_fst, ← List.range_eq_range']
              simpa using st_region
          | true => exact hS _ _ _ _ h id .nil (by simp)
        | rangeFunc x ps as b =>
          have h : EvOK G (match (generalizing := false) ev tm x with
            | some (.fn (.func g) caps) => match (generalizing := false) memF g G.C.inl with
             | false => .fail
             | true => match (generalizing := false) findF g G.C.fs with
              | none => .fail
              | some fn => match (generalizing := false) rnd with
                | none => match (generalizing := false) enterA fn g (.fn (.yield (nx + 1)) [] :: caps) with
                  | none => .fail
                  | some h => sx G.C n h (⟨f, tm, nt, .inRange (nx + 1) :: k, nx :: defs, rnd⟩ :: cs)
                      ((nx + 1, .loop .ready none f tm nt ps.toList as b nx) :: (nx, .dfr false) :: hp) (nx + 2)
                | some r => match (generalizing := false) tget hp r with
                  | some (.loop _ _ _ _ _ _ _ _ d) => match (generalizing := false) enterA fn g (.fn (.yield nx) [] :: caps) with
                    | none => .fail
                    | some h => sx G.C n h (⟨f, tm, nt, .inRange nx :: k, defs, rnd⟩ :: cs) ((nx, .loop .ready none f tm nt ps.toList as b d) :: hp) (nx + 1)
                  | _ => .fail
            | _ => .fail) := h
          split at h
          · rename_i g caps hx
            split at h
            · exact h.elim
            · rename_i hm
              split at h
              · exact h.elim
              · rename_i fn hf
                cases rnd with
                | none =>
                  simp only at h
                  split at h
                  · exact h.elim
                  · rename_i h' he; exact rangeFunc_sound hx hm hf he (hS _ _ _ _ h).runs0
                | some r =>
                  simp only at h
                  split at h
                  · rename_i hl
                    split at h
                    · exact h.elim
                    · rename_i h' he; exact rangeFuncIn_sound hl hx hm hf he (hS _ _ _ _ h).runs0
                  · exact h.elim
          · exact h.elim
        | _ => exact h.elim
end Go.Proofs.Am
