/- Part of the proofs about the layer of roads: Own memory that nobody writes any more becomes read-only. A road with its points in the reverse order: plain laws. Bends, the program's. The arguments of a statement whose input is of bounded bulk, opened. The statement RoadReversed, walked. -/
import Derived.Test.YtlgclllkejioaaaGreatDoorPartF
import Derived.Test.YtlgclllkejioaaaGreatDoorPartL
import Derived.Test.YtlgclllkejioaaaGreatDoorPartK
import Derived.Test.YtlgclllkejioaaaGreatDoorRows
set_option linter.unusedVariables false
set_option linter.unusedSimpArgs false

/- Own memory that nobody writes any more becomes read-only. -/
namespace Go.Proofs.Am
open Go Go.RowKit

/-- What becomes of a value: it stays, or it is closed. -/
def FzA (hp : Hp) (seen : List Nat) (a a' : AV) : Prop := a' = a ∨ ∃ a1 s lg, (close 6 a).evalL hp [] = some ((a1, s), lg) ∧ (∀ x ∈ s, x ∈ seen) ∧ ArgTo a1 a'
def FzTm (hp : Hp) (seen : List Nat) (tm tm' : Tm) : Prop := ∀ t a', tget tm' t = some a' → ∃ a, tget tm t = some a ∧ FzA hp seen a a'
def FzL (hp : Hp) (seen : List Nat) : List AV → List AV → Prop
  | [], [] => True
  | a :: l, a' :: l' => FzA hp seen a a' ∧ FzL hp seen l l'
  | _, _ => False
def FzB (hp : Hp) (seen : List Nat) (x x' : AB) : Prop := x' = x ∨ ∃ cs cs' t, x = .flat cs t ∧ x' = .flat cs' t ∧ FzL hp seen cs cs'
def FzHp (hp : Hp) (seen : List Nat) (hp' : Hp) : Prop := ∀ b x', tget hp' b = some x' → x' = .gone ∨ (b ∉ seen ∧ ∃ x, tget hp b = some x ∧ FzB hp seen x x')

theorem FzA.same {hp : Hp} {seen : List Nat} {a : AV} : FzA hp seen a a := .inl rfl
theorem FzA.row {hp : Hp} {b n sz k : Nat} {get : Nat → List AV} {t : TypeId} {seen : List Nat} (h : tget hp b = some (.row n sz get t k)) (hb : memF b seen = true) : FzA hp seen (.osl b k) (.rsl n sz get) := by
  refine .inr ⟨_, [b], [b], ?_, fun x hx => ?_, .refl _⟩
  · simp [close, RM.evalL, h, Nat.beq_refl]
  · rw [List.mem_singleton] at hx; subst hx; exact memF_mem.1 hb
theorem FzA.rowTo {hp : Hp} {b n n' sz k : Nat} {get get' : Nat → List AV} {t : TypeId} {seen : List Nat} (h : tget hp b = some (.row n sz get t k)) (hb : memF b seen = true) (e : n' = n) (g : ∀ i, i < n → get' i = get i) : FzA hp seen (.osl b k) (.rsl n' sz get') := by
  subst e
  refine .inr ⟨_, [b], [b], ?_, fun x hx => ?_, rsl_to g⟩
  · simp [close, RM.evalL, h, Nat.beq_refl]
  · rw [List.mem_singleton] at hx; subst hx; exact memF_mem.1 hb
theorem FzA.close {hp : Hp} {seen : List Nat} {a a' : AV} {s lg : List Nat} (h : (close 6 a).evalL hp [] = some ((a', s), lg)) (hs : s.all (fun b => memF b seen) = true) : FzA hp seen a a' :=
  .inr ⟨_, s, lg, h, fun x hx => memF_mem.1 (List.all_eq_true.1 hs x hx), .refl _⟩
theorem FzTm.nil {hp : Hp} {seen : List Nat} {tm : Tm} : FzTm hp seen tm [] := fun t a h => by simp [tget] at h
theorem FzTm.refl {hp : Hp} {seen : List Nat} {tm : Tm} : FzTm hp seen tm tm := fun t a h => ⟨a, h, .same⟩
theorem FzTm.cons {hp : Hp} {seen : List Nat} {tm tm' : Tm} {t : Nat} {a a' : AV} (h : tget tm t = some a) (ha : FzA hp seen a a') (hr : FzTm hp seen tm tm') : FzTm hp seen tm ((t, a') :: tm') := fun s b hs => by
  rw [tget_cons] at hs
  by_cases e : t = s
  · subst e
    rw [if_pos rfl] at hs
    simp only [Option.some.injEq] at hs
    subst hs
    exact ⟨a, h, ha⟩
  · rw [if_neg e] at hs
    exact hr s b hs
theorem FzHp.nil {hp : Hp} {seen : List Nat} : FzHp hp seen [] := fun t a h => by simp [tget] at h
theorem FzHp.cons {hp hp' : Hp} {seen : List Nat} {b : Nat} {x x' : AB} (h : tget hp b = some x) (hb : memF b seen = false) (ha : FzB hp seen x x') (hr : FzHp hp seen hp') : FzHp hp seen ((b, x') :: hp') := fun s y hs => by
  rw [tget_cons] at hs
  by_cases e : b = s
  · subst e
    rw [if_pos rfl] at hs
    simp only [Option.some.injEq] at hs
    subst hs
    exact .inr ⟨fun hm => (by rw [memF_mem.2 hm] at hb; cases hb), x, h, ha⟩
  · rw [if_neg e] at hs
    exact hr s y hs
theorem FzB.same {hp : Hp} {seen : List Nat} {x : AB} : FzB hp seen x x := .inl rfl
theorem FzB.flat {hp : Hp} {seen : List Nat} {cs cs' : List AV} {t : TypeId} (h : FzL hp seen cs cs') : FzB hp seen (.flat cs t) (.flat cs' t) := .inr ⟨cs, cs', t, rfl, rfl, h⟩
theorem FzL.cons {hp : Hp} {seen : List Nat} {a a' : AV} {l l' : List AV} (h : FzA hp seen a a') (hl : FzL hp seen l l') : FzL hp seen (a :: l) (a' :: l') := ⟨h, hl⟩
theorem FzL.refl {hp : Hp} {seen : List Nat} : ∀ {l : List AV}, FzL hp seen l l
  | [] => trivial
  | _ :: _ => ⟨.same, FzL.refl⟩

/-- One block that becomes read-only: the others are told anew, as far as they are turned. -/
def FzX (hp : Hp) (b0 : Nat) (l : Hp) : Prop := ∀ b x', b ≠ b0 → tget l b = some x' → ∃ x, tget hp b = some x ∧ FzB hp [b0] x x'
theorem FzX.refl {hp : Hp} {b0 : Nat} : FzX hp b0 hp := fun b x _ h => ⟨x, h, .inl rfl⟩
theorem FzX.set {hp l : Hp} {b0 c : Nat} {x x' : AB} (h : tget hp c = some x) (ha : FzB hp [b0] x x') (hr : FzX hp b0 l) : FzX hp b0 ((c, x') :: l) := fun b y hb hs => by
  rw [tget_cons] at hs
  by_cases e : c = b
  · subst e
    rw [if_pos rfl] at hs
    simp only [Option.some.injEq] at hs
    subst hs
    exact ⟨x, h, ha⟩
  · rw [if_neg e] at hs
    exact hr b y hb hs
theorem FzX.hp {hp l : Hp} {b0 : Nat} (h : FzX hp b0 l) : FzHp hp [b0] ((b0, .gone) :: l) := fun b x' hx => by
  rw [tget_cons] at hx
  by_cases e : b0 = b
  · rw [if_pos e] at hx
    simp only [Option.some.injEq] at hx
    exact .inl hx.symm
  · rw [if_neg e] at hx
    exact .inr ⟨by simpa using fun q => e q.symm, h b x' (fun q => e q.symm) hx⟩
/-- The environment behind it. -/
noncomputable def Env.fz (E : Env) (w : World) (seen : List Nat) : Env := { E with m := viewM E w seen, lv := fun b => E.lv b ∧ b ∉ seen }
theorem Env.fz_le (E : Env) (w : World) (seen : List Nat) : E.le (E.fz w seen) := ⟨fun _ _ => rfl, fun _ h => h, fun _ _ h => viewM_le h, fun _ _ h => h, fun _ _ _ _ h => h⟩

variable {w0 : Base} {m0 : Mem}
theorem FzA.rel {E : Env} {hp : Hp} {w : World} (hw : WRel w0 m0 E hp w) {seen : List Nat} {a a' : AV} (h : FzA hp seen a a') {v : Value} (r : Rel E a v) : Rel (E.fz w seen) a' v := by
  rcases h with rfl | ⟨a1, s, lg, h, hs, ht⟩
  · exact r.mono (E.fz_le w seen)
  · exact .c _ _ (ht _ _ ((close_sound hw 6 h r).1.mono fun b o hb => viewM_mono hs hb))
theorem FzL.rel {E : Env} {hp : Hp} {w : World} (hw : WRel w0 m0 E hp w) {seen : List Nat} : ∀ {l l' : List AV} {vs : List Value}, FzL hp seen l l' → RelL E l vs → RelL (E.fz w seen) l' vs
  | [], [], vs, _, r => by obtain rfl := r.nil_inv; exact .nil _
  | a :: l, a' :: l', vs, h, r => by
    obtain ⟨x, xs, rfl, hx, hxs⟩ := r.cons_inv
    exact .cons (h.1.rel hw hx) (FzL.rel hw h.2 hxs)
  | [], _ :: _, _, h, _ => h.elim
  | _ :: _, [], _, h, _ => h.elim
theorem FzTm.rel {E : Env} {hp : Hp} {w : World} (hw : WRel w0 m0 E hp w) {seen : List Nat} {tm tm' : Tm} {nt : Nat} {tv : Array Value} (h : FzTm hp seen tm tm') (r : TmRel E tm nt tv) : TmRel (E.fz w seen) tm' nt tv :=
  ⟨r.1, fun t a' ht => let ⟨a, ha, hf⟩ := h t a' ht; let ⟨x, hx, hr⟩ := r.2 t a ha; ⟨x, hx, hf.rel hw hr⟩⟩
theorem BRel.fz {E : Env} {w : World} {seen : List Nat} {b : Nat} (hb : b ∉ seen) : ∀ {x : AB}, BRel E w b x → BRel (E.fz w seen) w b x
  | .flat cs t, ⟨h1, h2, vs, h3, h4⟩ => ⟨h1, ⟨h2, hb⟩, vs, h3, h4.mono (E.fz_le w seen)⟩
  | .row n sz get t k, ⟨h1, h2, h3, h4, u, h5, h6, h7, h8⟩ => ⟨h1, h2, h3, h4, u, h5, h6, h7, by
      rcases h8 with h8 | ⟨a1, a2, vs, cap, a3, a4, a5, a6, a7⟩
      · exact .inl h8
      · exact .inr ⟨⟨a1, hb⟩, a2, vs, cap, a3, a4, a5, a6, fun i hi j hj => let ⟨x, hx, hx1, hr⟩ := a7 i hi j hj; ⟨x, hx, hx1, hr.mono fun _ _ h => viewM_le h⟩⟩⟩
  | .loop st pd f tm nt ps as' bd d, ⟨h1, h2, h3, tv, h4, h5⟩ => ⟨h1, ⟨h2, hb⟩, h3, tv, h4.mono (E.fz_le w seen), h5⟩
  | .dfr q, ⟨h1, h2, h3⟩ => ⟨h1, ⟨h2, hb⟩, h3⟩
  | .gone, _ => trivial
theorem WRel.fz {E : Env} {hp hp' : Hp} {w : World} {seen : List Nat} (hw : WRel w0 m0 E hp w) (h : FzHp hp seen hp') : WRel w0 m0 (E.fz w seen) hp' w where
  keep := hw.keep
  mem := fun b o hb => viewM_heap hw hb
  mem0 := fun b hb => by
    rw [← hw.mem0 b hb]
    show viewM E w seen b = E.m b
    unfold viewM
    cases hm : E.m b with
    | some o => rfl
    | none =>
      simp only
      rw [if_neg]
      rintro ⟨s, _, hl, rfl⟩
      exact (hw.own s hl).2.2 hb
  own := fun b hb => by
    obtain ⟨h1, h2, h3⟩ := hw.own b hb.1
    refine ⟨h1, ?_, h3⟩
    show viewM E w seen (E.ρ b) = none
    unfold viewM
    rw [h2]
    simp only
    rw [if_neg]
    rintro ⟨s, hs, hl, e⟩
    exact hb.2 (hw.inj s b hl hb.1 e ▸ hs)
  inj := fun b c hb hc e => hw.inj b c hb.1 hc.1 e
  blk := fun b x' hx => by
    rcases h b x' hx with rfl | ⟨hb, x, hx0, hf⟩
    · trivial
    have h0 := hw.blk b x hx0
    rcases hf with rfl | ⟨cs, cs', t, rfl, rfl, hl⟩
    · exact h0.fz hb
    · obtain ⟨h1, h2, vs, h3, h4⟩ := h0
      exact ⟨h1, ⟨h2, hb⟩, vs, h3, hl.rel hw h4⟩

theorem Runs0.freeze {G : Glob} {fn : FuncId} {tm tm' : Tm} {nt : Nat} {todo : List AIt} {defs : List Nat} {rnd : Option Nat} {cs : List AFr} {hp hp' : Hp} {nx : Nat} (seen : List Nat)
    (ht : FzTm hp seen tm tm') (hh : FzHp hp seen hp') (hr : Runs0 G ⟨⟨fn, tm', nt, todo, defs, rnd⟩, cs, hp', nx⟩) : Runs0 G ⟨⟨fn, tm, nt, todo, defs, rnd⟩, cs, hp, nx⟩ := by
  intro E F ics w hc
  obtain ⟨tv, xs, rfl, h1, h2, h3, h4⟩ := hc.fr
  have le := E.fz_le w seen
  refine hr (E.fz w seen) _ ics w ⟨⟨tv, xs, rfl, ht.rel hc.w h1, h2.mono le, h3, h4⟩, hc.cs.mono le, hc.w.fz hh, fun b hb => ?_, base_same hc.base⟩
  rcases hb with hb | hb | ⟨k, hb⟩
  · exact hc.nx b (.inl hb.1)
  · exact hc.nx b (.inr (.inl hb))
  · exact hc.nx b (.inr (.inr ⟨k, hb⟩))

theorem RnX.freeze {P : Program} {C : Ctx} {ok : CtxOK P C} {f : FuncId} {X : OutA → Prop} {fn : FuncId} {tm : Tm} {nt : Nat} {b : Code} {k : List AIt} {defs : List Nat} {rnd : Option Nat} {cs : List AFr} {hp : Hp} {nx : Nat}
    (seen : List Nat) (tm' : Tm) (hp' : Hp) (ht : FzTm hp seen tm tm') (hh : FzHp hp seen hp')
    (hr : RnX ok f X ⟨⟨fn, tm', nt, .code b :: k, defs, rnd⟩, cs, hp', nx⟩) : RnX ok f X ⟨⟨fn, tm, nt, .code b :: k, defs, rnd⟩, cs, hp, nx⟩ := fun w0 m0 =>
  Runs0.freeze seen ht hh (hr w0 m0).runs0
theorem Rn.freeze {P : Program} {C : Ctx} {ok : CtxOK P C} {f : FuncId} {R : AV → Prop} {fn : FuncId} {tm : Tm} {nt : Nat} {b : Code} {k : List AIt} {defs : List Nat} {rnd : Option Nat} {cs : List AFr} {hp : Hp} {nx : Nat}
    (seen : List Nat) (tm' : Tm) (hp' : Hp) (ht : FzTm hp seen tm tm') (hh : FzHp hp seen hp')
    (hr : Rn ok f R ⟨⟨fn, tm', nt, .code b :: k, defs, rnd⟩, cs, hp', nx⟩) : Rn ok f R ⟨⟨fn, tm, nt, .code b :: k, defs, rnd⟩, cs, hp, nx⟩ := RnX.freeze seen tm' hp' ht hh hr

/-! A branch that is known. -/
theorem RnX.yes {P : Program} {C : Ctx} {ok : CtxOK P C} {f : FuncId} {X : OutA → Prop} {c : Conf} {b : Bool} {x y : Conf} (n : Nat) (h : c.run C n = .ite b x y) (hb : b = true) (h1 : RnX ok f X x) : RnX ok f X c :=
  RnX.ite n h (fun _ => h1) fun e => by rw [hb] at e; cases e
theorem RnX.no {P : Program} {C : Ctx} {ok : CtxOK P C} {f : FuncId} {X : OutA → Prop} {c : Conf} {b : Bool} {x y : Conf} (n : Nat) (h : c.run C n = .ite b x y) (hb : b = false) (h1 : RnX ok f X y) : RnX ok f X c :=
  RnX.ite n h (fun e => by rw [hb] at e; cases e) fun _ => h1
theorem Rn.yes {P : Program} {C : Ctx} {ok : CtxOK P C} {f : FuncId} {R : AV → Prop} {c : Conf} {b : Bool} {x y : Conf} (n : Nat) (h : c.run C n = .ite b x y) (hb : b = true) (h1 : Rn ok f R x) : Rn ok f R c := RnX.yes n h hb h1
theorem Rn.no {P : Program} {C : Ctx} {ok : CtxOK P C} {f : FuncId} {R : AV → Prop} {c : Conf} {b : Bool} {x y : Conf} (n : Nat) (h : c.run C n = .ite b x y) (hb : b = false) (h1 : Rn ok f R y) : Rn ok f R c := RnX.no n h hb h1

/-! A nil slice is an own row without elements. -/
def NlA (b : Nat) (a a' : AV) : Prop := a' = a ∨ (a = .v (.slice none 0 0) ∧ a' = .osl b 0)
def NlTm (b : Nat) (tm tm' : Tm) : Prop := ∀ t a', tget tm' t = some a' → ∃ a, tget tm t = some a ∧ NlA b a a'
def NlL (b : Nat) : List AV → List AV → Prop
  | [], [] => True
  | a :: l, a' :: l' => NlA b a a' ∧ NlL b l l'
  | _, _ => False
def NlB (b : Nat) (x x' : AB) : Prop := x' = x ∨ ∃ cs cs' t, x = .flat cs t ∧ x' = .flat cs' t ∧ NlL b cs cs'
def NlHp (b : Nat) (hp hp' : Hp) : Prop := ∀ c x', tget hp' c = some x' → ∃ x, tget hp c = some x ∧ NlB b x x'
theorem NlA.same {b : Nat} {a : AV} : NlA b a a := .inl rfl
theorem NlA.nil {b : Nat} : NlA b (.v (.slice none 0 0)) (.osl b 0) := .inr ⟨rfl, rfl⟩
theorem NlTm.refl {b : Nat} {tm : Tm} : NlTm b tm tm := fun t a h => ⟨a, h, .same⟩
theorem NlTm.nil {b : Nat} {tm : Tm} : NlTm b tm [] := fun t a h => by simp [tget] at h
theorem NlTm.cons {b : Nat} {tm tm' : Tm} {t : Nat} {a a' : AV} (h : tget tm t = some a) (ha : NlA b a a') (hr : NlTm b tm tm') : NlTm b tm ((t, a') :: tm') := fun s c hs => by
  rw [tget_cons] at hs
  by_cases e : t = s
  · subst e
    rw [if_pos rfl] at hs
    simp only [Option.some.injEq] at hs
    subst hs
    exact ⟨a, h, ha⟩
  · rw [if_neg e] at hs
    exact hr s c hs
theorem NlHp.refl {b : Nat} {hp : Hp} : NlHp b hp hp := fun c x h => ⟨x, h, .inl rfl⟩
theorem NlHp.set {b : Nat} {hp hp' : Hp} {c : Nat} {x x' : AB} (h : tget hp c = some x) (ha : NlB b x x') (hr : NlHp b hp hp') : NlHp b hp ((c, x') :: hp') := fun s y hs => by
  rw [tget_cons] at hs
  by_cases e : c = s
  · subst e
    rw [if_pos rfl] at hs
    simp only [Option.some.injEq] at hs
    subst hs
    exact ⟨x, h, ha⟩
  · rw [if_neg e] at hs
    exact hr s y hs
theorem NlHp.nil {b : Nat} {hp : Hp} : NlHp b hp [] := fun t a h => by simp [tget] at h
theorem NlHp.cons {b : Nat} {hp hp' : Hp} {c : Nat} {x x' : AB} (h : tget hp c = some x) (ha : NlB b x x') (hr : NlHp b hp hp') : NlHp b hp ((c, x') :: hp') := fun s y hs => by
  rw [tget_cons] at hs
  by_cases e : c = s
  · subst e
    rw [if_pos rfl] at hs
    simp only [Option.some.injEq] at hs
    subst hs
    exact ⟨x, h, ha⟩
  · rw [if_neg e] at hs
    exact hr s y hs
theorem NlB.same {b : Nat} {x : AB} : NlB b x x := .inl rfl
theorem NlB.flat {b : Nat} {cs cs' : List AV} {t : TypeId} (h : NlL b cs cs') : NlB b (.flat cs t) (.flat cs' t) := .inr ⟨cs, cs', t, rfl, rfl, h⟩
theorem NlL.refl {b : Nat} : ∀ {l : List AV}, NlL b l l
  | [] => trivial
  | _ :: _ => ⟨.same, NlL.refl⟩
theorem NlA.rel {E : Env} {b : Nat} (hv : E.vd b 0) (hh : ∀ u, E.hdr b 0 = some u → u.val = .slice none 0 0) {a a' : AV} (h : NlA b a a') {v : Value} (r : Rel E a v) : Rel E a' v := by
  rcases h with rfl | ⟨rfl, rfl⟩
  · exact r
  · obtain rfl := r.v_inv
    exact .osl b 0 none 0 0 hv fun u hu => (hh u hu).symm
theorem NlL.rel {E : Env} {b : Nat} (hv : E.vd b 0) (hh : ∀ u, E.hdr b 0 = some u → u.val = .slice none 0 0) : ∀ {l l' : List AV} {vs : List Value}, NlL b l l' → RelL E l vs → RelL E l' vs
  | [], [], vs, _, r => r
  | a :: l, a' :: l', vs, h, r => by
    obtain ⟨x, xs, rfl, hx, hxs⟩ := r.cons_inv
    exact .cons (h.1.rel hv hh hx) (NlL.rel hv hh h.2 hxs)
  | [], _ :: _, _, h, _ => h.elim
  | _ :: _, [], _, h, _ => h.elim
theorem Runs0.nilRow {G : Glob} {fn : FuncId} {tm tm' : Tm} {nt : Nat} {todo : List AIt} {defs : List Nat} {rnd : Option Nat} {cs : List AFr} {hp hp' : Hp} {nx : Nat} (sz : Nat) (get : Nat → List AV) (t : TypeId)
    (ht : NlTm nx tm tm') (hh : NlHp nx hp hp') (hr : Runs0 G ⟨⟨fn, tm', nt, todo, defs, rnd⟩, cs, (nx, .row 0 sz get t 0) :: hp', nx + 1⟩) : Runs0 G ⟨⟨fn, tm, nt, todo, defs, rnd⟩, cs, hp, nx⟩ := by
  intro E F ics w hc
  obtain ⟨tv, xs, rfl, h1, h2, h3, h4⟩ := hc.fr
  have hn : ¬ E.has nx := fun h => Nat.lt_irrefl _ (hc.nx nx h)
  have hd : ¬ E.dom nx := fun h => hn (.inr (.inl h))
  have hvd : ∀ k, ¬ E.vd nx k := fun k h => hn (.inr (.inr ⟨k, h⟩))
  have le := Env.rowAt_le (E := E) (b := nx) (k := 0) (H := ⟨.slice none 0 0, E.ρ nx, sz, 0⟩) (r := none) hd (hvd 0)
  have hv' : (E.rowAt nx 0 ⟨.slice none 0 0, E.ρ nx, sz, 0⟩ none).vd nx 0 := .inl ⟨rfl, rfl⟩
  have hh' : ∀ u, (E.rowAt nx 0 ⟨.slice none 0 0, E.ρ nx, sz, 0⟩ none).hdr nx 0 = some u → u.val = .slice none 0 0 := fun u hu => by
    rw [Env.rowAt_hdr] at hu
    simp only [Option.some.injEq] at hu
    rw [← hu]
  have hw := hc.w.row (w' := w) (b := nx) (k := 0) (H := ⟨.slice none 0 0, E.ρ nx, sz, 0⟩) (r := none) hd (hvd 0) (fun q hq => by cases hq) (fun q hq => by cases hq) (fun _ _ _ => rfl) (Nat.le_refl _) rfl rfl rfl (.row 0 sz get t 0)
    ⟨hv', fun k hk hv => by
      rcases hv with ⟨_, rfl⟩ | hv
      · exact Nat.lt_irrefl _ hk
      · exact hvd k hv, hd, fun i hi => absurd hi (Nat.not_lt_zero _), ⟨.slice none 0 0, E.ρ nx, sz, 0⟩, Env.rowAt_hdr, rfl, rfl, .inl ⟨⟨none, rfl, fun p hp => by cases hp⟩, rfl⟩⟩
  refine hr _ _ ics w ⟨⟨tv, xs, ?_, ⟨h1.1, fun q a' hq => ?_⟩, h2.mono le, fun d hd' => le.dom d (h3 d hd'), fun l hl => le.dom l (h4 l hl)⟩, hc.cs.mono le, ⟨hw.keep, hw.mem, hw.mem0, hw.own, hw.inj, fun c x' hx => ?_⟩, fun b hb => ?_, base_same hc.base⟩
  · congr 1
    · unfold defsOf
      exact List.map_congr_left fun d hd' => by rw [le.ρ d (h3 d hd')]
    · cases hrd : rnd with
      | none => rfl
      | some l => simp [le.ρ l (h4 l hrd)]
  · obtain ⟨a, ha, hn⟩ := ht q a' hq
    obtain ⟨x, hx, hr⟩ := h1.2 q a ha
    exact ⟨x, hx, hn.rel hv' hh' (hr.mono le)⟩
  · rw [tget_cons] at hx
    by_cases e : nx = c
    · rw [if_pos e] at hx
      exact hw.blk c x' (by rw [tget_cons, if_pos e]; exact hx)
    · rw [if_neg e] at hx
      obtain ⟨x, hx0, hb⟩ := hh c x' hx
      have h0 := hw.blk c x (by rw [tget_cons, if_neg e]; exact hx0)
      rcases hb with rfl | ⟨l, l', t', rfl, rfl, hl⟩
      · exact h0
      · obtain ⟨q1, q2, vs, q3, q4⟩ := h0
        exact ⟨q1, q2, vs, q3, hl.rel hv' hh' q4⟩
  · rcases Env.rowAt_has hb with hb | rfl
    · exact Nat.lt_succ_of_lt (hc.nx b hb)
    · exact Nat.lt_succ_self _
theorem RnX.nilRow {P : Program} {C : Ctx} {ok : CtxOK P C} {f : FuncId} {X : OutA → Prop} {fn : FuncId} {tm : Tm} {nt : Nat} {b : Code} {k : List AIt} {defs : List Nat} {rnd : Option Nat} {cs : List AFr} {hp : Hp} {nx : Nat}
    (sz : Nat) (get : Nat → List AV) (t : TypeId) (tm' : Tm) (hp' : Hp) (ht : NlTm nx tm tm') (hh : NlHp nx hp hp')
    (hr : RnX ok f X ⟨⟨fn, tm', nt, .code b :: k, defs, rnd⟩, cs, (nx, .row 0 sz get t 0) :: hp', nx + 1⟩) : RnX ok f X ⟨⟨fn, tm, nt, .code b :: k, defs, rnd⟩, cs, hp, nx⟩ := fun w0 m0 =>
  Runs0.nilRow sz get t ht hh (hr w0 m0).runs0
theorem Rn.nilRow {P : Program} {C : Ctx} {ok : CtxOK P C} {f : FuncId} {R : AV → Prop} {fn : FuncId} {tm : Tm} {nt : Nat} {b : Code} {k : List AIt} {defs : List Nat} {rnd : Option Nat} {cs : List AFr} {hp : Hp} {nx : Nat}
    (sz : Nat) (get : Nat → List AV) (t : TypeId) (tm' : Tm) (hp' : Hp) (ht : NlTm nx tm tm') (hh : NlHp nx hp hp')
    (hr : Rn ok f R ⟨⟨fn, tm', nt, .code b :: k, defs, rnd⟩, cs, (nx, .row 0 sz get t 0) :: hp', nx + 1⟩) : Rn ok f R ⟨⟨fn, tm, nt, .code b :: k, defs, rnd⟩, cs, hp, nx⟩ := RnX.nilRow sz get t tm' hp' ht hh hr

/-- Weakening wherever a statement is to begin. -/
theorem RnX.weakenC {P : Program} {C : Ctx} {ok : CtxOK P C} {f : FuncId} {X : OutA → Prop} {fn : FuncId} {tm : Tm} {nt : Nat} {b : Code} {k : List AIt} {defs : List Nat} {rnd : Option Nat} {cs : List AFr} {hp : Hp} {nx : Nat} {c' : Conf}
    (h : CfTo ⟨⟨fn, tm, nt, .code b :: k, defs, rnd⟩, cs, hp, nx⟩ c') (hr : RnX ok f X c') : RnX ok f X ⟨⟨fn, tm, nt, .code b :: k, defs, rnd⟩, cs, hp, nx⟩ := fun w0 m0 => Runs0.weaken h (hr w0 m0).runs0
theorem Rn.weakenC {P : Program} {C : Ctx} {ok : CtxOK P C} {f : FuncId} {R : AV → Prop} {fn : FuncId} {tm : Tm} {nt : Nat} {b : Code} {k : List AIt} {defs : List Nat} {rnd : Option Nat} {cs : List AFr} {hp : Hp} {nx : Nat} {c' : Conf}
    (h : CfTo ⟨⟨fn, tm, nt, .code b :: k, defs, rnd⟩, cs, hp, nx⟩ c') (hr : Rn ok f R c') : Rn ok f R ⟨⟨fn, tm, nt, .code b :: k, defs, rnd⟩, cs, hp, nx⟩ := RnX.weakenC h hr

/-- Contracts up to what reads alike. -/
theorem Fun.of_to {P : Program} {f : FuncId} {args : List AV} {r : AV} (h : FunR P f args fun a => ArgTo a r) : Fun P f args r :=
  ⟨h.1, fun m w vs hm ha => Calls.mono (h.2 m w vs hm ha) fun e w' ⟨v, he, a, m', hr, h1, h2, h3, h4⟩ => ⟨v, he, r, m', rfl, h1, h2, h3, hr _ _ h4⟩⟩
theorem nilr_to {sz : Nat} {get : Nat → List AV} : ArgTo (.v (.slice none 0 0)) (.rsl 0 sz get) := fun m v r => by cases r; exact .rsl0 sz get none 0
end Go.Proofs.Am

/- A road with its points in the reverse order: plain laws. -/
namespace Go.Proofs.Am
open Go Go.Proofs.Geo
set_option maxRecDepth 100000

/-- One answer about a patch is at most another one. -/
theorem Area.le2 {K K' : Pa → Int} {F F' : Nat → Pt → Prop} {n n' : Nat} (h : Area K F n) (h' : Area K' F' n') {p p' : Pa} (hp : roughB p = false) (hp' : roughB p' = false) (f : Pt → Pt)
    (hin : ∀ q, InBox (box1 p) q → InBox (box1 p') (f q)) (hsur : ∀ q', InBox (box1 p') q' → ∃ q, InBox (box1 p) q ∧ f q = q') (g : ∀ k, k < n → ∃ k', k' < n' ∧ ∀ q, F k q → F' k' (f q)) : K p ≤ K' p' := by
  rcases h.rng p with e | e | e
  · rcases h'.rng p' with e' | e' | e' <;> omega
  · rcases h'.rng p' with e' | e' | e'
    · exfalso
      have := (h'.none p' hp').1 e'
      have h0 : K p = 0 := (h.none p hp).2 fun k hk q hq hF => by
        obtain ⟨k', hk', hg⟩ := g k hk
        exact this k' hk' (f q) (hin q hq) (hg q hF)
      omega
    · omega
    · omega
  · obtain ⟨k, hk, ha⟩ := (h.all p hp).1 e
    obtain ⟨k', hk', hg⟩ := g k hk
    have : K' p' = 2 := (h'.all p' hp').2 ⟨k', hk', fun q' hq' => by
      obtain ⟨q, hq, rfl⟩ := hsur q' hq'
      exact hg q (ha q hq)⟩
    omega
theorem Area.le {K K' : Pa → Int} {F F' : Nat → Pt → Prop} {n n' : Nat} (h : Area K F n) (h' : Area K' F' n') {p : Pa} (hp : roughB p = false) (g : ∀ k, k < n → ∃ k', k' < n' ∧ ∀ q, F k q → F' k' q) : K p ≤ K' p :=
  h.le2 h' hp hp id (fun _ h => h) (fun q h => ⟨q, h, rfl⟩) g

theorem fstE_all {e : Nat → Int} {n : Nat} (h : ∀ j, j < n → e j = 0) : fstE e n = (0, 0) := by
  unfold fstE
  have : (List.range n).find? (fun i => !(e i == 0)) = none := by
    rw [List.find?_eq_none]
    intro j hj
    simp [h j (List.mem_range.1 hj)]
  rw [this]
theorem good_of {s : Sc} (h0 : longB s = false) (h1 : ∀ i, i < s.roads.length → roadE (s.roads.take i) (s.roads.getD i default) = 0) (h2 : ∀ i, i < s.trees.length → treeE (s.trees.getD i default) = 0)
    (h3 : ∀ i, i < s.fronts.length → frontE (s.fronts.getD i default) = 0) (h4 : ∀ i, i < s.cols.length → colE (s.cols.take i) (s.cols.getD i default) = 0) : goodE s = 0 := by
  unfold goodE chkE rdsE trsE ftsE clsE
  rw [h0, fstE_all h1, fstE_all h2, fstE_all h3, fstE_all h4]
  rfl

def revR (r : Rd) : Rd := ⟨r.name, r.kind, r.pts.reverse, r.width⟩
def revS (s : Sc) : Sc := ⟨s.roads.map revR, s.trees, s.fronts, s.cols⟩
theorem rev_getD {l : List (Int × Int)} {k : Nat} (h : k < l.length) : l.reverse.getD k (0, 0) = l.getD (l.length - 1 - k) (0, 0) := by
  rw [List.getD_eq_getElem?_getD, List.getD_eq_getElem?_getD, List.getElem?_reverse h]
theorem map_getD {α β : Type} (f : α → β) (l : List α) (d : α) (k : Nat) : (l.map f).getD k (f d) = f (l.getD k d) := by
  rw [List.getD_eq_getElem?_getD, List.getD_eq_getElem?_getD, List.getElem?_map]
  cases l[k]? <;> rfl
theorem map_getD' {α β : Type} (f : α → β) {l : List α} {d : α} {e : β} {k : Nat} (h : k < l.length) : (l.map f).getD k e = f (l.getD k d) := by
  rw [List.getD_eq_getElem?_getD, List.getD_eq_getElem?_getD, List.getElem?_map, List.getElem?_eq_getElem h]; rfl
theorem compact_same : ∀ {l : List (Int × Int)}, (∀ k, k + 1 < l.length → l.getD k (0, 0) ≠ l.getD (k + 1) (0, 0)) → compactZ l = l
  | [], _ => rfl
  | [_], _ => rfl
  | a :: b :: r, h => by
    have h0 : a ≠ b := h 0 (by simp)
    unfold compactZ
    rw [if_neg h0, compact_same (l := b :: r) fun k hk => h (k + 1) (by simpa using hk)]
theorem rev_E {b : List Rd} {r : Rd} (h : roadE b r = 0) : roadE (b.map revR) (revR r) = 0 := by
  have e3 : decide (((compactZ r.pts).length : Int) < (r.pts.length : Int)) = false := by
    unfold roadE at h
    split at h; · simp at h
    split at h; · simp at h
    split at h; · simp at h
    split at h; · simp at h
    split at h; · simp at h
    split at h; · simp at h
    split at h; · simp at h
    rename_i h7
    simpa using h7
  have hne := compact_ne (l := r.pts) (by have := of_decide_eq_false e3; omega)
  have e1 : (b.map revR).any (sameR (revR r)) = b.any (sameR r) := by rw [List.any_map]; rfl
  have e4 : compactZ (revR r).pts = (revR r).pts := compact_same fun k hk => by
    simp only [revR, List.length_reverse] at hk ⊢
    rw [rev_getD (by omega), rev_getD (by omega)]
    have := hne (r.pts.length - 1 - (k + 1)) (by omega)
    rw [show r.pts.length - 1 - (k + 1) + 1 = r.pts.length - 1 - k by omega] at this
    exact fun e => this e.symm
  unfold roadE at h ⊢
  rw [e1, e4, show decide (((revR r).pts.length : Int) < ((revR r).pts.length : Int)) = false from decide_eq_false (by omega)]
  rw [e3] at h
  simp only [revR, List.length_reverse, List.any_reverse]
  exact h
theorem rev_get (s : Sc) (i : Nat) : (revS s).roads.getD i default = revR (s.roads.getD i default) := map_getD revR s.roads default i
theorem rev_good {s : Sc} (h : goodE s = 0) : goodE (revS s) = 0 := by
  obtain ⟨h0, h1, h2, h3, h4⟩ := good_parts h
  refine good_of ?_ (fun i hi => ?_) h2 h3 h4
  · unfold longB at h0 ⊢
    simpa [revS] using h0
  · rw [rev_get]
    have : (revS s).roads.take i = (s.roads.take i).map revR := by simp [revS, List.map_take]
    rw [this]
    exact rev_E (h1 i (by simpa [revS] using hi))
theorem rev_idx {s : Sc} (h : goodE s = 0) (i n : Int) : idxE (revS s) i n = idxE s i n := by unfold idxE; rw [h, rev_good h]
theorem rev_err {s : Sc} (h : goodE s = 0) (i : Int) (n : Nat) (b : Bool) : errS (revS s) i n b = errS s i n b := by unfold errS; rw [rev_idx h]
theorem rev_ok {s : Sc} (h : s.ok) : (revS s).ok := by
  obtain ⟨h1, h2, h3, h4, h5, h6, h7⟩ := h
  refine ⟨by simpa [revS] using h1, h2, h3, h4, fun r hr => ?_, h6, h7⟩
  obtain ⟨q, hq, rfl⟩ := List.mem_map.1 hr
  have := h5 q hq
  exact ⟨this.1, by simpa [revR] using this.2⟩

theorem near_flip {a b p : Pt} {q : Rat} (h : Near a b p q) : Near b a p q := by
  obtain ⟨t, h0, h1, hd⟩ := h
  refine ⟨1 - t, by grind, by grind, ?_⟩
  have : on b a (1 - t) = on a b t := by unfold on; simp only [Pt.mk.injEq]; constructor <;> grind
  rw [this]; exact hd
theorem revA {r : Rd} {k : Nat} (h : k + 1 < r.pts.length) : pcA (revR r) k = pcB r (r.pts.length - 2 - k) := by
  unfold pcA pcB revR
  simp only
  rw [rev_getD (by omega), show r.pts.length - 2 - k + 1 = r.pts.length - 1 - k by omega]
theorem revB {r : Rd} {k : Nat} (h : k + 1 < r.pts.length) : pcB (revR r) k = pcA r (r.pts.length - 2 - k) := by
  unfold pcA pcB revR
  simp only
  rw [rev_getD (by omega), show r.pts.length - 1 - (k + 1) = r.pts.length - 2 - k by omega]
theorem rev_on {r : Rd} {k : Nat} (h : k + 1 < r.pts.length) {q : Pt} (ho : OnK (revR r) k q) : OnK r (r.pts.length - 2 - k) q := by
  unfold OnK at ho ⊢
  rw [revA h, revB h] at ho
  exact near_flip ho
theorem rev_rev (r : Rd) : revR (revR r) = r := by unfold revR; simp
theorem rev_on' {r : Rd} {k : Nat} (h : k + 1 < r.pts.length) {q : Pt} (ho : OnK r k q) : OnK (revR r) (r.pts.length - 2 - k) q := by
  have e : (revR r).pts.length = r.pts.length := by simp [revR]
  have := rev_on (r := revR r) (k := k) (by rw [e]; exact h) (q := q) (by rw [rev_rev]; exact ho)
  rwa [e] at this
theorem rev_onZ (r : Rd) (x y : Int) : onZ (revR r) x y = onZ r x y := by
  have e : (revR r).pts.length = r.pts.length := by simp [revR]
  rw [Bool.eq_iff_iff, on_iff, on_iff, e]
  constructor
  · rintro ⟨k, hk, h⟩; exact ⟨_, by omega, rev_on (by omega) h⟩
  · rintro ⟨k, hk, h⟩; exact ⟨_, by omega, rev_on' (by omega) h⟩
theorem rev_meets {r : Rd} (hr : RdOk r) (hr' : RdOk (revR r)) {p : Pa} (hp : roughB p = false) : meetsZ (revR r) (bx p) = meetsZ r (bx p) := by
  have e : (revR r).pts.length = r.pts.length := by simp [revR]
  rw [meetsZ_eq hr (rough_ok hp).2, meetsZ_eq hr' (rough_ok hp).2]
  have a := meets_area hr
  have b := meets_area hr'
  have h1 := a.le b hp fun k hk => ⟨r.pts.length - 2 - k, by rw [e]; omega, fun q h => rev_on' (by omega) h⟩
  have h2 := b.le a hp fun k hk => ⟨r.pts.length - 2 - k, by omega, fun q h => rev_on (by omega) h⟩
  exact Int.le_antisymm h2 h1
theorem rev_onS {s : Sc} (h : goodE s = 0) (i x y : Int) : onS (revS s) i x y = onS s i x y := by
  have e : (revS s).roads.length = s.roads.length := by simp [revS]
  unfold onS
  rw [e, rev_err h, rev_get, rev_onZ]
theorem rev_meetsS {s : Sc} (h : goodE s = 0) (i : Int) (p : Pa) : meetsS (revS s) i p = meetsS s i p := by
  have e : (revS s).roads.length = s.roads.length := by simp [revS]
  unfold meetsS
  rw [e, rev_err h, rev_get]
  by_cases h0 : idxE s i s.roads.length = 0
  · obtain ⟨g, i0, i1⟩ := idxE_zero h0
    have h1 := (good_ok h).rd i.toNat (by omega)
    have h2 := (good_ok (rev_good h)).rd i.toNat (by rw [e]; omega)
    rw [rev_get] at h2
    cases hp : roughB p with
    | true => unfold errS; rw [h0]; rfl
    | false => rw [rev_meets h1 h2 hp]
  · have : (errS s i s.roads.length (roughB p) == 0) = false := by
      have hb : (idxE s i s.roads.length == 0) = false := by simpa using h0
      rw [errS_1 hb]; exact hb
    rw [this]; rfl

/-! ## Bends -/
def ptN (r : Rd) (k : Nat) : Int × Int := r.pts.getD k (0, 0)
def turnB (r : Rd) (k : Nat) : Bool := decide (((ptN r (k + 1)).1 - (ptN r k).1) * ((ptN r (k + 2)).1 - (ptN r (k + 1)).1) + ((ptN r (k + 1)).2 - (ptN r k).2) * ((ptN r (k + 2)).2 - (ptN r (k + 1)).2) ≤ 0)
/-- The bends among the first n inner points. -/
def bendN (r : Rd) : Nat → List Int
  | 0 => []
  | n + 1 => bendN r n ++ if turnB r n then [((n + 1 : Nat) : Int)] else []
def bendZ (r : Rd) : List Int := bendN r (r.pts.length - 2)
def bendS (s : Sc) (i : Int) : List Int × Int := if idxE s i s.roads.length == 0 then (bendZ (s.roads.getD i.toNat default), 0) else ([], idxE s i s.roads.length)
theorem bendN_len (r : Rd) : ∀ n, (bendN r n).length = ((List.range n).filter (turnB r)).length
  | 0 => rfl
  | n + 1 => by
    rw [bendN, List.length_append, bendN_len r n, List.range_succ, List.filter_append, List.length_append]
    congr 1
    cases h : turnB r n <;> simp [h]
theorem filter_flip (P Q : Nat → Bool) : ∀ n, (∀ k, k < n → P k = Q (n - 1 - k)) → ((List.range n).filter P).length = ((List.range n).filter Q).length := fun n h => by
  have e : (List.range n).reverse = (List.range n).map fun k => n - 1 - k := by
    apply List.ext_getElem (by simp)
    intro i h1 h2
    simp at h1 ⊢
  have h1 : (List.range n).filter P = (List.range n).filter (fun k => Q (n - 1 - k)) := List.filter_congr fun k hk => h k (List.mem_range.1 hk)
  have h2 : (((List.range n).map fun k => n - 1 - k).filter Q).length = ((List.range n).filter (fun k => Q (n - 1 - k))).length := by
    rw [List.filter_map, List.length_map]; rfl
  rw [h1, ← h2, ← e, List.filter_reverse, List.length_reverse]
theorem rev_turn {r : Rd} {k : Nat} (h : k + 2 < r.pts.length) : turnB (revR r) k = turnB r (r.pts.length - 2 - 1 - k) := by
  unfold turnB ptN revR
  simp only
  rw [rev_getD (by omega), rev_getD (by omega), rev_getD (by omega)]
  rw [show r.pts.length - 1 - (k + 1) = r.pts.length - 2 - 1 - k + 1 by omega, show r.pts.length - 1 - (k + 2) = r.pts.length - 2 - 1 - k by omega, show r.pts.length - 1 - k = r.pts.length - 2 - 1 - k + 2 by omega]
  apply decide_eq_decide.2
  constructor <;> intro h <;> grind
theorem rev_bend (r : Rd) : (bendZ (revR r)).length = (bendZ r).length := by
  have e : (revR r).pts.length = r.pts.length := by simp [revR]
  unfold bendZ
  rw [bendN_len, bendN_len, e]
  exact filter_flip _ _ _ fun k hk => rev_turn (by omega)
theorem rev_bendS {s : Sc} (h : goodE s = 0) (i : Int) : (bendS (revS s) i).1.length = (bendS s i).1.length ∧ (bendS (revS s) i).2 = (bendS s i).2 := by
  have e : (revS s).roads.length = s.roads.length := by simp [revS]
  unfold bendS
  rw [e, rev_idx h, rev_get]
  split
  · exact ⟨rev_bend _, rfl⟩
  · exact ⟨rfl, rfl⟩
end Go.Proofs.Am

/- Bends, the program's. -/
namespace Go.Proofs.Am
open Go Go.Proofs.Geo
set_option maxRecDepth 100000

abbrev insA (l : List Int) : AV := rowOf 1 iC 0 l
theorem tup_to {l l' : List AV} (h : ArgsTo l l') : ArgTo (.tup l) (.tup l') := fun m v r => by
  cases r with
  | tup _ vs hl hr => exact .tup _ vs (by rw [← h.len]; exact hl) fun i hi hj => h.at i (by rw [h.len]; exact hi) hi _ _ (hr i (by rw [h.len]; exact hi) hj)
theorem AbTo.flat2 {n b : Nat} {a a' c c' : AV} {t : TypeId} (hb : Nat.blt b n = true) (h : AvTo n a a') (h2 : AvTo n c c') : AbTo n b (.flat [a, c] t) (.flat [a', c'] t) :=
  AbTo.flat hb rfl fun i hi _ => by
    match i, hi with
    | 0, _ => exact h
    | 1, _ => exact h2
noncomputable abbrev fsBe : List (Nat × Func) := [(83, Tryz.f83), (128, Tryz.f128), (34, Tryz.f34), (39, Tryz.f39)]
theorem cBe : CtxOK Tryz.prog (ctx inN fsBe) := ctx_ok (show FsOK Tryz.prog fsBe from ⟨Tryz.func83, Tryz.call83, Tryz.func128, Tryz.call128, Tryz.func34, Tryz.call34, Tryz.func39, Tryz.call39, trivial⟩) rfl
theorem insA_get {l : List Int} {x : Int} {h : Nat → List AV} (hh : h 0 = [I x]) : ∀ i, i < l.length + 1 → iC ((l ++ [x]).getD i 0) = appGet l.length (fun j => iC (l.getD j 0)) h i := fun i hi => by
  unfold appGet
  by_cases e : i < l.length
  · have : Nat.blt i l.length = true := by rw [Nat.blt_eq]; exact e
    rw [this]
    simp only
    rw [List.getD_eq_getElem?_getD, List.getD_eq_getElem?_getD, List.getElem?_append_left e]
  · have hb : Nat.blt i l.length = false := by
      cases hq : Nat.blt i l.length with
      | false => rfl
      | true => rw [Nat.blt_eq] at hq; exact absurd hq e
    have ei : i = l.length := by omega
    rw [hb]
    simp only
    rw [ei, Nat.sub_self, hh, List.getD_eq_getElem?_getD, List.getElem?_append_right (Nat.le_refl _), Nat.sub_self]
    rfl
/-- The way of a piece. -/
def wayD (r : Rd) (k : Nat) : Int × Int := (2 * (ptN r (k + 1)).1 - 2 * (ptN r k).1, 2 * (ptN r (k + 1)).2 - 2 * (ptN r k).2)
def befD (r : Rd) : Nat → Int × Int
  | 0 => (0, 0)
  | k + 1 => wayD r k
theorem way_eq {r : Rd} (hr : RdOk r) {k : Nat} (h : k + 1 < r.pts.length) : subV (pcB r k) (pcA r k) = wayD r k := by
  obtain ⟨⟨a1, a2⟩, a3, a4⟩ := hr.get (k := k) (by omega)
  obtain ⟨⟨b1, b2⟩, b3, b4⟩ := hr.get (k := k + 1) h
  unfold subV pcA pcB dbl wayD ptN
  simp only
  rw [w64_id (by omega), w64_id (by omega)]
theorem mul4 {a b : Int} (ha : Bd 400000 a) (hb : Bd 400000 b) : Bd 160000000000 (a * b) := mulbd' ha hb (by decide)
theorem turn_iff {r : Rd} (hr : RdOk r) {k : Nat} (h : k + 2 < r.pts.length) : decide (dotV (wayD r (k + 1)) (wayD r k) ≤ 0) = turnB r k := by
  have e0 := hr.get (k := k) (by omega)
  have e1 := hr.get (k := k + 1) (by omega)
  have e2 := hr.get (k := k + 2) (by omega)
  unfold dotV wayD turnB ptN
  simp only
  obtain ⟨⟨a1, a2⟩, a3, a4⟩ := e0
  obtain ⟨⟨b1, b2⟩, b3, b4⟩ := e1
  obtain ⟨⟨c1, c2⟩, c3, c4⟩ := e2
  generalize r.pts.getD k (0, 0) = p at *
  generalize r.pts.getD (k + 1) (0, 0) = q at *
  generalize r.pts.getD (k + 1 + 1) (0, 0) = u at *
  have m1 := mul4 (a := 2 * u.1 - 2 * q.1) (b := 2 * q.1 - 2 * p.1) ⟨by omega, by omega⟩ ⟨by omega, by omega⟩
  have m2 := mul4 (a := 2 * u.2 - 2 * q.2) (b := 2 * q.2 - 2 * p.2) ⟨by omega, by omega⟩ ⟨by omega, by omega⟩
  rw [w64_id (x := (2 * u.1 - 2 * q.1) * (2 * q.1 - 2 * p.1)) (by omega), w64_id (x := (2 * u.2 - 2 * q.2) * (2 * q.2 - 2 * p.2)) (by omega), w64_id (by omega)]
  apply decide_eq_decide.2
  have e : (2 * u.1 - 2 * q.1) * (2 * q.1 - 2 * p.1) + (2 * u.2 - 2 * q.2) * (2 * q.2 - 2 * p.2) = 4 * ((q.1 - p.1) * (u.1 - q.1) + (q.2 - p.2) * (u.2 - q.2)) := by grind
  rw [e]
  omega
theorem bend_le (r : Rd) (n : Nat) : (bendN r n).length ≤ n := by
  rw [bendN_len]
  exact Nat.le_trans (List.length_filter_le _ _) (by simp)

theorem Bends_fun (s : Sc) (hs : s.ok) (i : Int) : Fun Tryz.prog 34 [scA s, I i] (.tup [insA (bendS s i).1, I (bendS s i).2]) := by
  refine Fun.of_to (FunR.of_run cBe rfl ?_)
  refine Rn.call 1000 rfl _ (checked1_fun s hs i s.roads.length hs.1) ?_
  refine Rn.ite (b := !(idxE s i s.roads.length == 0)) 1000 rfl (fun h => ?_) (fun h => ?_)
  · rw [Bool.not_eq_true'] at h
    exact Rn.ret 1000 rfl rfl (by unfold bendS; rw [h]; exact tup_to (l' := [insA [], I (idxE s i s.roads.length)]) ⟨nilr_to, ArgTo.refl _, trivial⟩)
  rw [Bool.not_eq_false'] at h
  obtain ⟨g, i0, i1⟩ := idxE_zero (eq_of_beq h)
  have in1 : inB i s.roads.length = true := by simp only [inB, Bool.and_eq_true, decide_eq_true_eq]; omega
  have hr := (good_ok g).rd i.toNat (by omega)
  have res : bendS s i = (bendZ (s.roads.getD i.toNat default), 0) := by unfold bendS; rw [h]; rfl
  rw [res]
  clear res h
  refine Rn.asr 1000 rfl in1 ?_
  refine Rn.stop 1000 rfl ?_
  obtain ⟨r, hre⟩ : ∃ r, r = s.roads.getD i.toNat default := ⟨_, rfl⟩
  rw [← hre] at hr ⊢
  refine Rn.nilRow 1 (fun j => iC (([] : List Int).getD j 0)) 3 _ _ .refl (.set (c := 2) (x' := .flat [.osl 8 0] 73) rfl (.flat ⟨.nil, trivial⟩) .refl) ?_
  have hhi := hr.hi
  have hlo := hr.lo
  refine Rn.loop2 (fun _ => [[(7, .ptr 2 0)]]) (fun x : Nat × Nat => [(0, .fn (.yield 7) []), (1, .ptr 5 0), (9, I ((r.pts.length : Int) - 1)), (10, I (x.1 : Int))])
    (fun x => [(7, .loop .ready none 34 [(7, .ptr 2 0), (8, .ptr 3 0), (9, .ptr 4 0)] Tryz.f34.ntmps [28] (rgAs Tryz.f34) (rgBody Tryz.f34) 6), (6, .dfr false), (5, .flat (rdC r) 54), (4, .flat [I (x.1 : Int)] 3), (3, .flat [I (befD r x.1).1, I (befD r x.1).2] 95),
      (2, .flat [.osl 8 x.2] 73), (8, .row (bendN r (x.1 - 1)).length 1 (fun j => iC ((bendN r (x.1 - 1)).getD j 0)) 3 x.2)]) 9
    (fun x => x.1 + 1 ≤ r.pts.length) (fun x => r.pts.length - x.1) (0, 0) (by simp only; omega) ?_ ?_
  · refine ⟨⟨rfl, rfl, rfl, rfl, rfl, .cons rfl (.refl rfl) (.cons rfl (.refl rfl) (.cons rfl (.eq rfl (congrArg I (w64_id (by omega)))) (.cons rfl (.int _ _) .nil))), rfl⟩,
      ⟨⟨rfl, rfl, rfl, rfl, rfl, .cons rfl (.refl rfl) .nil, rfl⟩, trivial⟩, ?_⟩
    exact .cons rfl (.loop rfl rfl (.cons rfl (.refl rfl) (.cons rfl (.refl rfl) (.cons rfl (.refl rfl) .nil)))) (.cons rfl (.dfr rfl) (.cons rfl (.flat' rfl rfl) (.cons rfl (.flat1 rfl (.int _ _)) (.cons rfl (.flat2 rfl (.int _ _) (.int _ _)) (.cons rfl (.flat' rfl rfl) (.cons rfl (.row rfl fun i hi => rfl) .nil))))))
  rintro ⟨k, v⟩ hk ih
  simp only at hk
  refine Rn.ite (b := decide ((k : Int) < (r.pts.length : Int) - 1)) 1000 rfl (fun h => ?_) (fun h => ?_)
  · have h : k + 1 < r.pts.length := by have := of_decide_eq_true h; omega
    have e1 : w64 ((k : Int) + 1) = ((k + 1 : Nat) : Int) := w64_nat (m := 8) (by omega) (by omega)
    have in1 : inB (k : Int) r.pts.length = true := by simp only [inB, Bool.and_eq_true, decide_eq_true_eq]; omega
    have in2 : inB (w64 ((k : Int) + 1)) r.pts.length = true := by rw [e1]; simp only [inB, Bool.and_eq_true, decide_eq_true_eq]; omega
    refine Rn.asr 1000 rfl in1 ?_
    refine Rn.asr 1000 rfl in2 ?_
    refine Rn.chk 1000 rfl (by kernel_rfl) ?_
    have kd : Fun Tryz.prog 84 [V (dblW (r.pts.getD (w64 ((k : Int) + 1)).toNat (0, 0))).1 (dblW (r.pts.getD (w64 ((k : Int) + 1)).toNat (0, 0))).2, V (dblW (r.pts.getD ((k : Int)).toNat (0, 0))).1 (dblW (r.pts.getD ((k : Int)).toNat (0, 0))).2] (V (wayD r k).1 (wayD r k).2) := by
      rw [e1, Int.toNat_natCast, Int.toNat_natCast, dblW_eq (hr.get (by omega)), dblW_eq (hr.get (by omega)), ← way_eq hr h]
      exact minus_fun _ _ _ _
    refine Rn.call 1000 rfl _ kd ?_
    match k, hk, ih, h, e1 with
    | 0, hk, ih, h, e1 =>
      refine Rn.no 1000 rfl rfl ?_
      refine Rn.stop 1000 rfl ?_
      refine Rn.weaken trivial ?_ (ih (1, v) (by simp only; omega) (by simp only; omega))
      refine ⟨⟨rfl, rfl, rfl, rfl, rfl, .cons rfl (.refl rfl) (.cons rfl (.refl rfl) (.cons rfl (.refl rfl) (.cons rfl (.eq rfl (congrArg I e1)) .nil))), rfl⟩,
        ⟨⟨rfl, rfl, rfl, rfl, rfl, .cons rfl (.refl rfl) .nil, rfl⟩, trivial⟩, ?_⟩
      exact .cons rfl (.loop rfl rfl (.cons rfl (.refl rfl) (.cons rfl (.refl rfl) (.cons rfl (.refl rfl) .nil)))) (.cons rfl (.dfr rfl) (.cons rfl (.flat' rfl rfl) (.cons rfl (.flat1 rfl (.eq rfl (congrArg I e1))) (.cons rfl (.flat' rfl rfl) (.cons rfl (.flat' rfl rfl) (.cons rfl (.row rfl fun i hi => rfl) .nil))))))
    | k + 1, hk, ih, h, e1 =>
      refine Rn.yes 1000 rfl (decide_eq_true (by omega)) ?_
      have kt : Fun Tryz.prog 85 [V (wayD r (k + 1)).1 (wayD r (k + 1)).2, V (wayD r k).1 (wayD r k).2] (I (dotV (wayD r (k + 1)) (wayD r k))) := dot_fun _ _ _ _
      refine Rn.call 1000 rfl _ kt ?_
      have et := turn_iff hr (k := k) (by omega)
      have hl := bend_le r k
      have nb : bendN r (k + 1) = bendN r k ++ if turnB r k then [((k + 1 : Nat) : Int)] else [] := rfl
      refine Rn.ite (b := decide (dotV (wayD r (k + 1)) (wayD r k) ≤ 0)) 1000 rfl (fun hd => ?_) (fun hd => ?_)
      · rw [et] at hd
        rw [hd, if_pos rfl] at nb
        refine Rn.asr 1000 rfl (Nat.beq_refl v) ?_
        refine Rn.asr (b := Nat.ble ((bendN r k).length + 1) 4194304) 1000 rfl (Nat.ble_eq_true_of_le (by omega)) ?_
        refine Rn.stop 1000 rfl ?_
        refine Rn.weaken trivial ?_ (ih (k + 2, v + 1) (by simp only; omega) (by simp only; omega))
        refine ⟨⟨rfl, rfl, rfl, rfl, rfl, .cons rfl (.refl rfl) (.cons rfl (.refl rfl) (.cons rfl (.refl rfl) (.cons rfl (.eq rfl (congrArg I e1)) .nil))), rfl⟩,
          ⟨⟨rfl, rfl, rfl, rfl, rfl, .cons rfl (.refl rfl) .nil, rfl⟩, trivial⟩, ?_⟩
        refine .cons rfl (.loop rfl rfl (.cons rfl (.refl rfl) (.cons rfl (.refl rfl) (.cons rfl (.refl rfl) .nil)))) (.cons rfl (.dfr rfl) (.cons rfl (.flat' rfl rfl) (.cons rfl (.flat1 rfl (.eq rfl (congrArg I e1))) (.cons rfl (.flat' rfl rfl) (.cons rfl (.flat' rfl rfl) (.cons rfl ?_ .nil))))))
        show AbTo 9 8 _ (.row (bendN r (k + 1)).length 1 (fun j => iC ((bendN r (k + 1)).getD j 0)) 3 (v + 1))
        rw [nb]
        exact .row_eq rfl (by simp) rfl (insA_get rfl)
      · rw [et] at hd
        rw [hd, if_neg (by simp), List.append_nil] at nb
        refine Rn.stop 1000 rfl ?_
        refine Rn.weaken trivial ?_ (ih (k + 2, v) (by simp only; omega) (by simp only; omega))
        refine ⟨⟨rfl, rfl, rfl, rfl, rfl, .cons rfl (.refl rfl) (.cons rfl (.refl rfl) (.cons rfl (.refl rfl) (.cons rfl (.eq rfl (congrArg I e1)) .nil))), rfl⟩,
          ⟨⟨rfl, rfl, rfl, rfl, rfl, .cons rfl (.refl rfl) .nil, rfl⟩, trivial⟩, ?_⟩
        refine .cons rfl (.loop rfl rfl (.cons rfl (.refl rfl) (.cons rfl (.refl rfl) (.cons rfl (.refl rfl) .nil)))) (.cons rfl (.dfr rfl) (.cons rfl (.flat' rfl rfl) (.cons rfl (.flat1 rfl (.eq rfl (congrArg I e1))) (.cons rfl (.flat' rfl rfl) (.cons rfl (.flat' rfl rfl) (.cons rfl ?_ .nil))))))
        show AbTo 9 8 _ (.row (bendN r (k + 1)).length 1 (fun j => iC ((bendN r (k + 1)).getD j 0)) 3 v)
        rw [nb]
        exact .row rfl fun i hi => rfl
  · have h : ¬ (k : Int) < (r.pts.length : Int) - 1 := of_decide_eq_false h
    have hkl : k - 1 = r.pts.length - 2 := by omega
    refine Rn.freeze [8] _ _ .refl (FzX.hp (.set (c := 2) (x' := .flat [insA (bendN r (k - 1))] 73) rfl (.flat ⟨.rowTo rfl rfl rfl fun i hi => rfl, trivial⟩) .refl)) ?_
    exact Rn.ret 1000 rfl rfl (by unfold bendZ; rw [hkl]; exact .refl _)
end Go.Proofs.Am

/- The arguments of a statement whose input is of bounded bulk, opened. -/
namespace Go.Proofs.Am
open Go Go.ChangeShapes Go.WideShapes Go.RowKit
open Go.Proofs.YtlgclllkejioaaaGreatDoor
set_option maxRecDepth 100000
variable {H : Type} {enc : TypeId × Value → H} {P : Program} {W : World} {B : Nat}

theorem bulk_one {H : Type} (d : DataW H) : 1 ≤ Rows.uptoBulk d := by
  cases d with
  | lit l => cases l <;> simp [Rows.uptoBulk]
  | nil => simp [Rows.uptoBulk]
  | ptr d => simp [Rows.uptoBulk]
  | slice elems spare => simp [Rows.uptoBulk]
  | agg parts => simp [Rows.uptoBulk]
  | iface t d => simp [Rows.uptoBulk]
  | map entries => simp [Rows.uptoBulk]
  | held h => simp [Rows.uptoBulk]
theorem bulk_part {H : Type} {d : DataW H} {l : List (DataW H)} (h : d ∈ l) : Rows.uptoBulk d ≤ Rows.uptoBulkAll l := by
  induction l with
  | nil => cases h
  | cons x r ih =>
    simp only [Rows.uptoBulkAll]
    cases List.mem_cons.1 h with
    | inl e => subst e; omega
    | inr e => have := ih e; omega
theorem bulk_len {H : Type} (l : List (DataW H)) : l.length ≤ Rows.uptoBulkAll l := by
  induction l with
  | nil => simp [Rows.uptoBulkAll]
  | cons x r ih => have := bulk_one x; simp only [Rows.uptoBulkAll, List.length_cons]; omega

/-- What reads as this type, and is of bulk B at the most, is told by f. -/
def OpensU (enc : TypeId × Value → H) (P : Program) (W : World) (B : Nat) (t : TypeId) {α : Type} (f : α → List AV) (ok : α → Prop) : Prop :=
  ∀ fuel cs x, DataW.trod enc P W 0 (fun _ => true) true fuel t cs = some x → Rows.uptoBulk x.1 ≤ B → ∃ a, ok a ∧ RC (memW W) (f a) cs
theorem Opens.u {t : TypeId} {α : Type} {f : α → List AV} {ok : α → Prop} (h : Opens enc P W t f ok) : OpensU enc P W B t f ok := fun fuel cs x hx _ => h fuel cs x hx
theorem OpensU.slice {t e : TypeId} {α : Type} {f : α → List AV} {ok : α → Prop} (d : α) {sz : Nat} (ht : P.underlying t = some (.slice e)) (hsz : P.cellsOf e = sz) (h0 : 0 < sz) (he : OpensU enc P W B e f ok) :
    OpensU enc P W B t (fun l : List α => [rowOf sz f d l]) (fun l => (small l.length ∧ l.length ≤ B) ∧ ∀ a ∈ l, ok a) := fun fuel cs x h hB => by
  rcases Go.Deep.open_slice ht h with ⟨rfl, rfl⟩ | ⟨a, len, cap, m, n, D, Pl, rfl, _, hl, hcap, hm, rfl, hall⟩
  · exact ⟨[], ⟨⟨Nat.zero_le _, Nat.zero_le _⟩, fun a ha => by cases ha⟩, RC.one (.rsl0 sz _ none 0) rfl⟩
  simp only [if_true] at hm
  simp only [Rows.uptoBulk] at hB
  have hcap' : cap ≤ 9223372036854775807 := Nat.le_trans hcap (by decide)
  have hlB : len ≤ B := by
    have := bulk_len ((List.range len).map D)
    simp only [List.length_map, List.length_range] at this
    omega
  by_cases hz : len = 0
  · subst hz
    exact ⟨[], ⟨⟨Nat.zero_le _, Nat.zero_le _⟩, fun a ha => by cases ha⟩, RC.one (.rsl0 sz _ (some a) cap) rfl⟩
  have ex : ∀ i, i < len → ∃ y, ok y ∧ RelCL (memW W) (f y) ((List.range sz).map fun j => (W.cell? (a.add (i * sz + j))).getD (.bool false)) ∧ ∀ j, j < sz → ∃ v, W.cell? (a.add (i * sz + j)) = some v ∧ v.oneCell' = true := fun i hi => by
    obtain ⟨cs', hc, ht'⟩ := hall i (by omega)
    rw [hsz] at hc
    obtain ⟨_, hlen, hcell⟩ := World.cells?_some hc
    have hDi : Rows.uptoBulk (D i) ≤ Rows.uptoBulkAll ((List.range len).map D) := bulk_part (List.mem_map.2 ⟨i, List.mem_range.2 hi, rfl⟩)
    obtain ⟨y, hy, hr⟩ := he _ _ _ ht' (by show Rows.uptoBulk (D i) ≤ B; omega)
    have e : cs' = (List.range sz).map fun j => (W.cell? (a.add (i * sz + j))).getD (.bool false) := by
      apply List.ext_getElem (by simp [hlen])
      intro j h1 h2
      have hj : j < sz := by omega
      have := hcell j hj
      rw [Go.Deep.add_add] at this
      simp [this, List.getElem?_eq_getElem h1]
    refine ⟨y, hy, e ▸ hr.1, fun j hj => ?_⟩
    have hj' : j < cs'.length := by omega
    have := hcell j hj
    rw [Go.Deep.add_add, List.getElem?_eq_getElem hj'] at this
    exact ⟨_, this, hr.2 _ (List.getElem_mem hj')⟩
  letI : Inhabited α := ⟨d⟩
  obtain ⟨A, hA⟩ := Go.Deep.choose_lt ex
  obtain ⟨bk, o, spot⟩ := a
  have hsp : spot = none := by
    obtain ⟨v, hv, _⟩ := (hA 0 (by omega)).2.2 0 h0
    have := (cell_m hv).1
    simpa [Addr.add] using this
  subst hsp
  have hadd : ∀ k, (⟨bk, o, none⟩ : Addr).add k = ⟨bk, o + k, none⟩ := fun k => by
    unfold Addr.add; split
    · rename_i hk; subst hk; rfl
    · rfl
  have gl : ∀ i, i < len → ((List.range len).map A).getD i d = A i := fun i hi => by
    simp [List.getD_eq_getElem?_getD, hi]
  refine ⟨(List.range len).map A, ⟨⟨by show ((List.range len).map A).length ≤ _; simp; omega, by simpa using hlB⟩, fun y hy => ?_⟩, RC.one ?_ rfl⟩
  · obtain ⟨i, hi, rfl⟩ := List.mem_map.1 hy
    exact (hA i (List.mem_range.1 hi)).1
  have hlen : ((List.range len).map A).length = len := by simp
  show RelC (memW W) (.rsl ((List.range len).map A).length sz fun i => f (((List.range len).map A).getD i d)) _
  rw [hlen]
  refine .rsl len sz _ bk o cap (fun i j => (W.cell? ⟨bk, o + (i * sz + j), none⟩).getD (.bool false)) hl (fun i hi => ?_) (fun i hi j hj => ?_) (fun i hi j hj => ?_) fun i hi j hj => ?_
  · rw [gl i hi]
    have := (hA i hi).2.1.1
    simpa using this
  · obtain ⟨v, hv, _⟩ := (hA i hi).2.2 j hj
    rw [hadd] at hv
    rw [hv]
    have := (cell_m hv).2
    simpa [Nat.add_assoc] using this
  · obtain ⟨v, hv, h1⟩ := (hA i hi).2.2 j hj
    rw [hadd] at hv
    rw [hv]; exact h1
  · have e := gl i hi
    have hj2 : j < (f (A i)).length := by simp only [e] at hj; exact hj
    have hr := (hA i hi).2.1
    have hjs : j < sz := by
      have := hr.1
      simp at this; omega
    have := hr.2 j hj2 (by simpa using hjs)
    simp only [List.getElem_map, List.getElem_range, hadd] at this
    have e2 : (f (((List.range len).map A).getD i d))[j] = (f (A i))[j] := by simp only [e]
    rw [e2]; exact this
theorem field_ofU {t : TypeId} {fs : Array Field} {fuel : Nat} {cs : List Value} {x : DataW H × List MemPlace} (ht : P.underlying t = some (.struct fs)) (h : DataW.trod enc P W 0 (fun _ => true) true fuel t cs = some x) :
    cs.length = P.cellsOf t ∧ ∃ n, ∀ (i : Nat) (f : Field), fs[i]? = some f → ∃ y, DataW.trod enc P W 0 (fun _ => true) true n f.type ((cs.drop f.offset).take (P.cellsOf f.type)) = some y ∧ Rows.uptoBulk y.1 ≤ Rows.uptoBulk x.1 := by
  obtain ⟨xs, n, _, rfl, hl, hlen, hf⟩ := DataW.trod_struct ht h
  refine ⟨hl, n, fun i f hi => ?_⟩
  have h1 := hf i f hi
  have hlt : i < xs.length := by
    rw [hlen]
    exact (Array.getElem?_eq_some_iff.1 hi).1
  rw [List.getElem?_eq_getElem hlt] at h1
  refine ⟨_, h1, ?_⟩
  simp only [Rows.uptoBulk]
  have := bulk_part (List.mem_map.2 ⟨xs[i], List.getElem_mem hlt, rfl⟩ : (xs[i]).1 ∈ xs.map (·.1))
  omega

theorem opU52 : OpensU enc Tryz.prog W B 52 (fun l => [rowOf 2 ptC (0, 0) l]) (fun l => (small l.length ∧ l.length ≤ B) ∧ ∀ a ∈ l, (Lit.int .i64 a.1).wf = true ∧ (Lit.int .i64 a.2).wf = true) := OpensU.slice (0, 0) Tryz.underlying52 cel72 (by decide) op72.u
theorem opU54 : OpensU enc Tryz.prog W B 54 rdC (fun r => Rd.ok r ∧ r.pts.length ≤ B) := fun fuel cs x h hB => by
  obtain ⟨hl, m, hf⟩ := field_ofU Tryz.underlying54 h
  obtain ⟨_, f0, b0⟩ := hf 0 _ rfl
  obtain ⟨a0, h0, r0⟩ := op9 _ _ _ f0
  have r0 := RC.cut (off := 0) cel9 r0
  obtain ⟨_, f1, b1⟩ := hf 1 _ rfl
  obtain ⟨a1, h1, r1⟩ := op3 _ _ _ f1
  have r1 := RC.cut (off := 1) cel3 r1
  obtain ⟨_, f2, b2⟩ := hf 2 _ rfl
  obtain ⟨a2, h2, r2⟩ := opU52 (B := B) _ _ _ f2 (by omega)
  have r2 := RC.cut (off := 2) cel52 r2
  obtain ⟨_, f3, b3⟩ := hf 3 _ rfl
  obtain ⟨a3, h3, r3⟩ := op3 _ _ _ f3
  have r3 := RC.cut (off := 3) cel3 r3
  exact ⟨⟨a0, a1, a2, a3⟩, ⟨⟨h0, h2.1.1⟩, h2.1.2⟩, whole_of (hl.trans cel54) (RC.join (off := 0) (n := 3) (k := 1) (RC.join (off := 0) (n := 2) (k := 1) (RC.join (off := 0) (n := 1) (k := 1) r0 r1) r2) r3)⟩
theorem opU22 : OpensU enc Tryz.prog W B 22 (fun l => [rowOf 4 rdC default l]) (fun l => (small l.length ∧ l.length ≤ B) ∧ ∀ a ∈ l, Rd.ok a ∧ a.pts.length ≤ B) := OpensU.slice default Tryz.underlying22 cel54 (by decide) opU54
theorem opU23 : OpensU enc Tryz.prog W B 23 (fun l => [rowOf 5 trC default l]) (fun l => (small l.length ∧ l.length ≤ B) ∧ ∀ a ∈ l, True) := OpensU.slice default Tryz.underlying23 cel57 (by decide) op57.u
/-- What is so of scenes of bulk B at the most. -/
structure Sc.upto (s : Sc) (B : Nat) : Prop where
  ok : s.ok
  roads : s.roads.length ≤ B
  trees : s.trees.length ≤ B
  pts : ∀ r ∈ s.roads, r.pts.length ≤ B
theorem opU27 : OpensU enc Tryz.prog W B 27 (fun s : Sc => [rdsA s.roads, trsA s.trees, ftsA s.fronts, clsA s.cols]) (fun s => s.upto B) := fun fuel cs x h hB => by
  obtain ⟨hl, m, hf⟩ := field_ofU Tryz.underlying27 h
  obtain ⟨_, f0, b0⟩ := hf 0 _ rfl
  obtain ⟨a0, h0, r0⟩ := opU22 (B := B) _ _ _ f0 (by omega)
  have r0 := RC.cut (off := 0) cel22 r0
  obtain ⟨_, f1, b1⟩ := hf 1 _ rfl
  obtain ⟨a1, h1, r1⟩ := opU23 (B := B) _ _ _ f1 (by omega)
  have r1 := RC.cut (off := 1) cel23 r1
  obtain ⟨_, f2, b2⟩ := hf 2 _ rfl
  obtain ⟨a2, h2, r2⟩ := op24 _ _ _ f2
  have r2 := RC.cut (off := 2) cel24 r2
  obtain ⟨_, f3, b3⟩ := hf 3 _ rfl
  obtain ⟨a3, h3, r3⟩ := op25 _ _ _ f3
  have r3 := RC.cut (off := 3) cel25 r3
  exact ⟨⟨a0, a1, a2, a3⟩, ⟨⟨h0.1.1, h1.1.1, h2.1, h3.1, fun r hr => (h0.2 r hr).1, h2.2, h3.2⟩, h0.1.2, h1.1.2, fun r hr => (h0.2 r hr).2⟩, whole_of (hl.trans cel27) (RC.join (off := 0) (n := 3) (k := 1) (RC.join (off := 0) (n := 2) (k := 1) (RC.join (off := 0) (n := 1) (k := 1) r0 r1) r2) r3)⟩

/-- An argument that is a struct. -/
theorem arg_aggU {P : Program} {t : TypeId} {fs : Array Field} {α : Type} {f : α → List AV} {ok : α → Prop} (ht : P.underlying t = some (.struct fs)) (ho : OpensU enc P W B t f ok) {b0 : Nat} {v : Value} {d : DataW H} {ps : List MemPlace}
    (hB : Rows.uptoBulk d ≤ B) (hval : Value.okWide P W .any b0 t v) (hd : DataW.Trod enc P W 0 (fun _ => true) true t v d ps) : ∃ a, ok a ∧ RelC (memW W) (.agg (f a)) v := by
  unfold Value.okWide at hval
  rw [ht] at hval
  obtain ⟨cs, rfl, _, _⟩ := hval
  obtain ⟨fuel, hf⟩ := hd
  obtain ⟨a, ha, hr, _⟩ := ho _ _ _ hf hB
  refine ⟨a, ha, .agg _ cs ?_ fun i hi hj => ?_⟩
  · have := hr.1
    simpa [Value.cells] using this
  · have := hr.2 i hi (by simpa [Value.cells] using hj)
    simpa [Value.cells] using this
/-- A part of an input of bounded bulk. -/
theorem small_part {H : Type} {l : List (DataW H)} (hk : Rows.uptoSmall H l = true) {d : DataW H} (h : d ∈ l) : Rows.uptoBulk d ≤ 1048576 := Nat.le_trans (bulk_part h) (of_decide_eq_true hk)
end Go.Proofs.Am

/- The statement RoadReversed, walked. -/
namespace Go.Proofs.Am
open Go Go.Proofs.Geo
set_option maxRecDepth 100000

noncomputable abbrev fsLH : List (Nat × Func) := [(10, Tryz.f10), (7, Tryz.f7)]
theorem cLH : CtxOK Tryz.prog (ctx [] fsLH) := ctx_ok (show FsOK Tryz.prog fsLH from ⟨Tryz.func10, Tryz.call10, Tryz.func7, Tryz.call7, trivial⟩) rfl
/-- The roads, the first n of them reversed. -/
def revGet (l : List Rd) (n : Nat) (j : Nat) : List AV := if j < n then rdC (revR (l.getD j default)) else rdC (l.getD j default)
theorem revGet_all (l : List Rd) : ∀ i, i < l.length → rdC ((l.map revR).getD i default) = revGet l l.length i := fun i hi => by
  unfold revGet
  rw [if_pos hi, map_getD' revR (d := default) hi]
theorem revGet_step (l : List Rd) (n : Nat) (a : AV) (ha : a = ptsA (revR (l.getD n default)).pts) : ∀ i, revGet l (n + 1) i = setGet (revGet l n) n 2 [a] i := fun i => by
  subst ha
  unfold setGet revGet
  by_cases e : i = n
  · subst e
    rw [Nat.beq_refl, if_pos (by omega), if_neg (by omega)]
    rfl
  · have : Nat.beq i n = false := by
      cases hq : Nat.beq i n with
      | false => rfl
      | true => exact absurd (beq_t hq) e
    rw [this]
    simp only
    by_cases h : i < n
    · rw [if_pos h, if_pos (by omega)]
    · rw [if_neg h, if_neg (by omega)]
theorem ptC_app {l : List (Int × Int)} {c : Nat} (hc : c < l.length) {h : Nat → List AV} (hh : h 0 = ptC (l.getD c (0, 0))) : ∀ i, i < c + 1 → ptC (l.getD i (0, 0)) = appGet c (fun j => ptC (l.getD j (0, 0))) h i := fun i hi => by
  unfold appGet
  by_cases e : i < c
  · have : Nat.blt i c = true := by rw [Nat.blt_eq]; exact e
    rw [this]
  · have hb : Nat.blt i c = false := by
      cases hq : Nat.blt i c with
      | false => rfl
      | true => rw [Nat.blt_eq] at hq; exact absurd hq e
    have ei : i = c := by omega
    rw [hb]
    simp only
    rw [ei, Nat.sub_self, hh]

theorem roadReversed_fun (s : Sc) (hs : s.ok) (hr : s.roads.length ≤ 1048576) (hp : ∀ r ∈ s.roads, r.pts.length ≤ 1048576) (a : Sp) : Fun Tryz.prog 10 [scA s, .agg [I a.i, I a.x, I a.y, I a.p.x0, I a.p.y0, I a.p.x1, I a.p.y1]] (B true) := by
  refine Fun.of_run cLH rfl ?_
  refine Rn.asr (b := Nat.ble s.roads.length 4194304) 1000 rfl (Nat.ble_eq_true_of_le (by omega)) ?_
  refine Rn.stop 1000 rfl ?_
  refine Rn.loop2 (fun _ => []) (fun n : Nat => [(2, .ptr 0 0), (3, .ptr 1 0), (5, .ptr 2 0), (6, I (n : Int))])
    (fun n => [(0, .flat [rdsA s.roads, trsA s.trees, ftsA s.fronts, clsA s.cols] 27), (1, .flat [I a.i, I a.x, I a.y, I a.p.x0, I a.p.y0, I a.p.x1, I a.p.y1] 31), (2, .flat [.osl 4 0, trsA s.trees, ftsA s.fronts, clsA s.cols] 27),
      (4, .row s.roads.length 4 (revGet s.roads n) 54 0)]) 5
    (fun n => n ≤ s.roads.length) (fun n => s.roads.length - n) 0 (Nat.zero_le _)
    ⟨⟨rfl, rfl, rfl, rfl, rfl, .cons rfl (.refl rfl) (.cons rfl (.refl rfl) (.cons rfl (.refl rfl) (.cons rfl (.int _ _) .nil))), rfl⟩, trivial,
      .cons rfl (.flat' rfl rfl) (.cons rfl (.flat' rfl rfl) (.cons rfl (.flat' rfl rfl) (.cons rfl (.row rfl fun i hi => rfl) .nil)))⟩ ?_
  rintro n hn ih
  refine Rn.asr 1000 rfl rfl ?_
  refine Rn.ite (b := decide ((n : Int) < (s.roads.length : Int))) 1000 rfl (fun h => ?_) (fun h => ?_)
  · have h : n < s.roads.length := by have := of_decide_eq_true h; omega
    have in1 : inB (n : Int) s.roads.length = true := by simp only [inB, Bool.and_eq_true, decide_eq_true_eq]; omega
    have hpn := hp _ (getD_mem (d := default) h)
    obtain ⟨r, hre⟩ : ∃ r, r = s.roads.getD n default := ⟨_, rfl⟩
    refine Rn.asr 1000 rfl in1 ?_
    refine Rn.stop 1000 rfl ?_
    refine Rn.nilRow 2 (fun j => ptC ((revR r).pts.getD j (0, 0))) 72 _ _ (.cons (t := 7) rfl .nil .refl) .refl ?_
    rw [← hre] at hpn
    have hlen : (revR r).pts.length = r.pts.length := by simp [revR]
    refine Rn.loop2 (fun _ => []) (fun c : Nat => [(2, .ptr 0 0), (3, .ptr 1 0), (5, .ptr 2 0), (6, I (n : Int)), (7, .osl 5 c), (8, I ((r.pts.length : Int) - 1 - c))])
      (fun c => [(0, .flat [rdsA s.roads, trsA s.trees, ftsA s.fronts, clsA s.cols] 27), (1, .flat [I a.i, I a.x, I a.y, I a.p.x0, I a.p.y0, I a.p.x1, I a.p.y1] 31), (2, .flat [.osl 4 0, trsA s.trees, ftsA s.fronts, clsA s.cols] 27),
        (4, .row s.roads.length 4 (revGet s.roads n) 54 0), (5, .row c 2 (fun j => ptC ((revR r).pts.getD j (0, 0))) 72 c)]) 6
      (fun c => c ≤ r.pts.length) (fun c => r.pts.length - c) 0 (Nat.zero_le _)
      ⟨⟨rfl, rfl, rfl, rfl, rfl, .cons rfl (.refl rfl) (.cons rfl (.refl rfl) (.cons rfl (.refl rfl) (.cons rfl (.refl rfl) (.cons rfl (.refl rfl) (.cons rfl (.eq rfl (congrArg I ?_)) .nil))))), rfl⟩, trivial,
        .cons rfl (.flat' rfl rfl) (.cons rfl (.flat' rfl rfl) (.cons rfl (.flat' rfl rfl) (.cons rfl (.row rfl fun i hi => rfl) (.cons rfl (.row rfl fun i hi => rfl) .nil))))⟩ ?_
    · show w64 (((s.roads.getD ((n : Int)).toNat default).pts.length : Int) - 1) = (r.pts.length : Int) - 1 - ((0 : Nat) : Int)
      rw [Int.toNat_natCast, ← hre, w64_id (by omega)]
      omega
    rintro c hc ih2
    refine Rn.ite (b := decide ((r.pts.length : Int) - 1 - c ≥ 0)) 1000 rfl (fun h' => ?_) (fun h' => ?_)
    · have h' : c < r.pts.length := by have := of_decide_eq_true h'; omega
      have in2 : inB ((r.pts.length : Int) - 1 - c) (s.roads.getD ((n : Int)).toNat default).pts.length = true := by rw [Int.toNat_natCast, ← hre]; simp only [inB, Bool.and_eq_true, decide_eq_true_eq]; omega
      refine Rn.asr 1000 rfl in1 ?_
      refine Rn.asr 1000 rfl in2 ?_
      refine Rn.asr 1000 rfl (Nat.beq_refl c) ?_
      refine Rn.asr (b := Nat.ble (c + 1) 4194304) 1000 rfl (Nat.ble_eq_true_of_le (by omega)) ?_
      refine Rn.stop 1000 rfl ?_
      refine Rn.weaken trivial ?_ (ih2 (c + 1) (by omega) h')
      refine ⟨⟨rfl, rfl, rfl, rfl, rfl, .cons rfl (.refl rfl) (.cons rfl (.refl rfl) (.cons rfl (.refl rfl) (.cons rfl (.refl rfl) (.cons rfl (.refl rfl) (.cons rfl (.eq rfl (congrArg I ?_)) .nil))))), rfl⟩, trivial,
        .cons rfl (.flat' rfl rfl) (.cons rfl (.flat' rfl rfl) (.cons rfl (.flat' rfl rfl) (.cons rfl (.row rfl fun i hi => rfl) (.cons rfl (.row_eq rfl rfl rfl (ptC_app (l := (revR r).pts) (by omega) ?_)) .nil))))⟩
      · show w64 ((r.pts.length : Int) - 1 - c - 1) = (r.pts.length : Int) - 1 - ((c + 1 : Nat) : Int)
        rw [w64_id (by omega)]
        omega
      · show ptC ((s.roads.getD ((n : Int)).toNat default).pts.getD ((r.pts.length : Int) - 1 - c).toNat (0, 0)) = _
        rw [Int.toNat_natCast, ← hre, show ((r.pts.length : Int) - 1 - c).toNat = r.pts.length - 1 - c by omega]
        unfold revR
        simp only
        rw [rev_getD h']
    · have h' : c = r.pts.length := by have := of_decide_eq_false h'; omega
      subst h'
      refine Rn.freeze [5] _ _ (.cons (t := 7) (a' := ptsA (revR r).pts) rfl (.rowTo rfl rfl hlen fun i hi => rfl) .refl) (FzX.hp .refl) ?_
      refine Rn.asr 1000 rfl rfl ?_
      refine Rn.asr 1000 rfl in1 ?_
      refine Rn.asr 1000 rfl rfl ?_
      refine Rn.asr 1000 rfl rfl ?_
      refine Rn.stop 1000 rfl ?_
      refine Rn.weaken trivial ?_ (ih (n + 1) (by omega) h)
      exact ⟨⟨rfl, rfl, rfl, rfl, rfl, .cons rfl (.refl rfl) (.cons rfl (.refl rfl) (.cons rfl (.refl rfl) (.cons rfl (.eq rfl (congrArg I (w64_nat (m := 1048577) (by omega) (by omega)))) .nil))), rfl⟩, trivial,
        .cons rfl (.flat' rfl rfl) (.cons rfl (.flat' rfl rfl) (.cons rfl (.flat' rfl rfl) (.cons rfl (.row rfl fun i _ => revGet_step s.roads n (ptsA (revR r).pts) (by rw [hre]) i) .nil)))⟩
  · have h : n = s.roads.length := by have := of_decide_eq_false h; omega
    subst h
    refine Rn.freeze [4] _ _ .refl (FzX.hp (.set (c := 2) (x' := .flat [rdsA (revS s).roads, trsA s.trees, ftsA s.fronts, clsA s.cols] 27) rfl
      (.flat ⟨.rowTo rfl rfl (by simp [revS]) (revGet_all s.roads), .same, .same, .same, trivial⟩) .refl)) ?_
    refine Rn.call 1000 rfl _ (check_fun s hs) ?_
    refine Rn.ite (b := !(goodE s == 0)) 1000 rfl (fun h => ?_) (fun h => ?_)
    · refine Rn.call 1000 rfl _ awake_fun ?_
      exact Rn.ret 1000 rfl rfl rfl
    have g : goodE s = 0 := by simpa using h
    have hs' := rev_ok hs
    have k1 := On_fun s hs a.i a.x a.y
    have k2 := (On_fun (revS s) hs' a.i a.x a.y).as (congrArg (fun p : Bool × Int => AV.tup [B p.1, I p.2]) (rev_onS g a.i a.x a.y).symm)
    have k3 := Meets_fun s hs a.i a.p
    have k4 := (Meets_fun (revS s) hs' a.i a.p).as (congrArg PI (rev_meetsS g a.i a.p).symm)
    have k5 := Bends_fun s hs a.i
    obtain ⟨el, ee⟩ := rev_bendS g a.i
    have k6 := Bends_fun (revS s) hs' a.i
    rw [ee] at k6
    generalize (bendS (revS s) a.i).1 = L' at *
    generalize bendS s a.i = q at *
    generalize onS s a.i a.x a.y = o at *
    generalize meetsS s a.i a.p = m at *
    obtain ⟨L, e1⟩ := q
    obtain ⟨o1, o2⟩ := o
    obtain ⟨m1, m2⟩ := m
    simp only at el k1 k2 k3 k4 k5 k6
    refine Rn.call 1000 rfl _ k1 ?_
    refine Rn.call 1000 rfl _ k2 ?_
    refine Rn.call 1000 rfl _ k3 ?_
    refine Rn.call 1000 rfl _ k4 ?_
    refine Rn.call 1000 rfl _ k5 ?_
    refine Rn.call 1000 rfl _ k6 ?_
    refine Rn.yes (b := o1 == o1) 1000 rfl (by simp) ?_
    refine Rn.yes (b := o2 == o2) 1000 rfl (by simp) ?_
    refine Rn.yes (b := m1 == m1) 1000 rfl (by simp) ?_
    refine Rn.yes (b := m2 == m2) 1000 rfl (by simp) ?_
    refine Rn.yes (b := e1 == e1) 1000 rfl (by simp) ?_
    refine Rn.yes (b := (L.length : Int) == (L'.length : Int)) 1000 rfl (by rw [el]; simp) ?_
    refine Rn.call 1000 rfl _ awake_fun ?_
    exact Rn.ret 1000 rfl rfl rfl
end Go.Proofs.Am
