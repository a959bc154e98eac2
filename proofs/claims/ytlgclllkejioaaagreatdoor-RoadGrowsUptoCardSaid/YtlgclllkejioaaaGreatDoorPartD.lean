/- Part of the proofs about the layer of roads: Regions that draw their order: association lists, ancestors, what an operation looks at. Regions that draw their order: every order comes to what the order of the text comes to. Regions that draw their order: the run. What a run of the abstract machine says of a function; runs of concrete data. Weakening of configurations, for loops: what is dead is dropped, numbers of blocks begin again. Loops whose callers' temporaries are told anew. -/
import Derived.Test.YtlgclllkejioaaaGreatDoorPartC
set_option linter.unusedVariables false
set_option linter.unusedSimpArgs false

/- Regions that draw their order: association lists, ancestors, what an operation looks at. -/
namespace Go.Proofs.Am
open Go Go.RowKit

section lists
variable {α : Type}

theorem tget_append (xs s : List (Nat × α)) (b : Nat) : tget (xs ++ s) b = match tget xs b with | some a => some a | none => tget s b := by
  induction xs with
  | nil => rfl
  | cons p xs ih =>
    obtain ⟨k, a⟩ := p
    rw [List.cons_append, tget_cons, tget_cons, ih]
    by_cases h : k = b
    · simp [h]
    · simp [h]
theorem tget_none {xs : List (Nat × α)} {b : Nat} : b ∉ keys xs ↔ tget xs b = none := by
  induction xs with
  | nil => simp [keys, tget]
  | cons p xs ih =>
    obtain ⟨k, a⟩ := p
    rw [tget_cons]
    simp only [keys, List.mem_cons, not_or]
    by_cases h : k = b
    · simp [h]
    · simp only [if_neg h, ← ih]
      exact ⟨fun q => q.2, fun q => ⟨fun e => h e.symm, q⟩⟩
theorem tget_skip {xs s : List (Nat × α)} {b : Nat} (h : b ∉ keys xs) : tget (xs ++ s) b = tget s b := by
  rw [tget_append, tget_none.1 h]
theorem tget_congr {xs s s' : List (Nat × α)} {b : Nat} (h : tget s b = tget s' b) : tget (xs ++ s) b = tget (xs ++ s') b := by
  rw [tget_append, tget_append, h]
theorem tget_hit {xs s s' : List (Nat × α)} {b : Nat} (h : b ∈ keys xs) : tget (xs ++ s) b = tget (xs ++ s') b := by
  rw [tget_append, tget_append]
  cases hx : tget xs b with
  | some a => rfl
  | none => exact absurd h (tget_none.2 hx)

/-- What a list of records has written, the latest first. -/
def genF (w : Rec → List (Nat × α)) (s : List (Nat × α)) (l : List Rec) : List (Nat × α) := l.foldl (fun s r => w r ++ s) s

variable {w : Rec → List (Nat × α)}

theorem genF_congr {b : Nat} : ∀ (l : List Rec) {s s' : List (Nat × α)}, tget s b = tget s' b → tget (genF w s l) b = tget (genF w s' l) b
  | [], s, s', h => h
  | r :: l, s, s', h => genF_congr l (tget_congr h)

theorem genF_agree {b : Nat} {D D' : Rec → Bool} : ∀ (R : List Rec) {s s' : List (Nat × α)}, tget s b = tget s' b → (∀ r ∈ R, b ∈ keys (w r) → D r = D' r) →
    tget (genF w s (R.filter D)) b = tget (genF w s' (R.filter D')) b
  | [], s, s', h, _ => h
  | r :: R, s, s', h, hr => by
    have ih := fun (s s' : List (Nat × α)) (h : tget s b = tget s' b) => genF_agree R h fun q hq => hr q (List.mem_cons_of_mem _ hq)
    by_cases hb : b ∈ keys (w r)
    · have e := hr r (List.mem_cons_self ..) hb
      rw [List.filter_cons, List.filter_cons, ← e]
      cases hD : D r
      · exact ih _ _ h
      · exact ih (w r ++ s) (w r ++ s') (tget_congr h)
    · rw [List.filter_cons, List.filter_cons]
      cases hD : D r <;> cases hD' : D' r
      · exact ih _ _ h
      · exact ih s (w r ++ s') (by rw [tget_skip hb]; exact h)
      · exact ih (w r ++ s) s' (by rw [tget_skip hb]; exact h)
      · exact ih (w r ++ s) (w r ++ s') (tget_congr h)

theorem genF_swap {b : Nat} (xs : List (Nat × α)) : ∀ (l : List Rec) (s : List (Nat × α)), (∀ q ∈ l, b ∈ keys (w q) → b ∉ keys xs) → tget (genF w (xs ++ s) l) b = tget (xs ++ genF w s l) b
  | [], s, _ => rfl
  | q :: l, s, h => by
    have h1 : tget (w q ++ (xs ++ s)) b = tget (xs ++ (w q ++ s)) b := by
      by_cases hq : b ∈ keys (w q)
      · have hx := h q (List.mem_cons_self ..) hq
        rw [tget_skip hx]
        exact tget_hit hq
      · rw [tget_skip hq]
        by_cases hx : b ∈ keys xs
        · exact tget_hit hx
        · rw [tget_skip hx, tget_skip hx, tget_skip hq]
    exact (genF_congr l h1).trans (genF_swap xs l (w q ++ s) fun r hr => h r (List.mem_cons_of_mem _ hr))

theorem genF_append (s : List (Nat × α)) (l l' : List Rec) : genF w s (l ++ l') = genF w (genF w s l) l' := by
  simp [genF, List.foldl_append]

theorem genF_insert {b : Nat} {R1 R2 : List Rec} {r : Rec} {D D' : Rec → Bool} (s : List (Nat × α)) (h1 : ∀ q ∈ R1, D' q = D q) (h2 : ∀ q ∈ R2, D' q = D q) (hr : D r = false) (hr' : D' r = true)
    (h : ∀ q ∈ R2, D q = true → b ∈ keys (w q) → b ∉ keys (w r)) :
    tget (genF w s ((R1 ++ r :: R2).filter D')) b = tget (w r ++ genF w s ((R1 ++ r :: R2).filter D)) b := by
  have e1 : R1.filter D' = R1.filter D := List.filter_congr h1
  have e2 : R2.filter D' = R2.filter D := List.filter_congr h2
  rw [List.filter_append, List.filter_append, List.filter_cons, List.filter_cons, hr, hr', e1, e2]
  simp only [if_true, Bool.false_eq_true, if_false]
  rw [genF_append, genF_append]
  refine genF_swap (w r) (R2.filter D) _ fun q hq => ?_
  rw [List.mem_filter] at hq
  exact h q hq.1 hq.2
end lists

def tmW (r : Rec) : Tm := match r.o.dst with | some d => [(d, r.a)] | none => []
theorem tmW_key {r : Rec} {b : Nat} : b ∈ keys (tmW r) ↔ r.o.dst = some b := by
  unfold tmW
  cases h : r.o.dst with
  | none => simp [keys]
  | some d => simp [keys]; exact eq_comm

theorem memF_mem {f : Nat} : ∀ {l : List Nat}, memF f l = true ↔ f ∈ l
  | [] => by simp [memF]
  | x :: xs => by
    simp only [memF]
    split
    · rename_i h; simp [beq_t h]
    · rename_i h; rw [memF_mem, List.mem_cons]; exact ⟨.inr, fun q => q.resolve_left fun e => beq_f h e.symm⟩
theorem hits_false {a b : List Nat} (h : hits a b = false) : ∀ x ∈ a, x ∉ b := by
  induction a with
  | nil => intro x hx; cases hx
  | cons y ys ih =>
    simp only [hits] at h
    split at h
    · cases h
    · rename_i hm
      intro x hx
      rcases List.mem_cons.1 hx with rfl | hx
      · intro q; rw [memF_mem.2 q] at hm; cases hm
      · exact ih h x hx

/-! ## Ancestors -/

def Down (ops : List Oper) (D : Nat → Prop) : Prop := ∀ (q : Nat) (o : Oper), ops[q]? = some o → D q → ∀ e ∈ o.after, Region.binds .any e = true → D e.on
def GoodM (ops : List Oper) (q m : Nat) : Prop := ∀ D : Nat → Prop, Down ops D → (∀ o, ops[q]? = some o → ∀ e ∈ o.after, Region.binds .any e = true → D e.on) → ∀ p, m.testBit p = true → D p

theorem mask_fold (ops : List Oper) (acc : List Nat) (hacc : ∀ q m, acc[q]? = some m → GoodM ops q m) (hlen : acc.length ≤ ops.length) (D : Nat → Prop) (hD : Down ops D) :
    ∀ (es : List Edge) (s : Nat), (∀ e ∈ es, Region.binds .any e = true → D e.on) → (∀ p, s.testBit p = true → D p) →
      ∀ p, (es.foldl (fun s e => match Region.binds .any e with
        | true => s ||| (2 ^ e.on) ||| ((acc[e.on]?).getD 0)
        | false => s) s).testBit p = true → D p
  | [], s, _, hs, p, hp => hs p hp
  | e :: es, s, he, hs, p, hp => by
    simp only [List.foldl_cons] at hp
    refine mask_fold ops acc hacc hlen D hD es _ (fun x hx => he x (List.mem_cons_of_mem _ hx)) ?_ p hp
    intro q hq
    cases hb : Region.binds .any e with
    | false => rw [hb] at hq; exact hs q hq
    | true =>
      rw [hb] at hq
      simp only [Nat.testBit_or, Bool.or_eq_true, Nat.testBit_two_pow, decide_eq_true_eq] at hq
      have hon := he e (List.mem_cons_self ..) hb
      rcases hq with (hq | hq) | hq
      · exact hs q hq
      · rw [← hq]; exact hon
      · cases hm : acc[e.on]? with
        | none => rw [hm] at hq; simp at hq
        | some m =>
          rw [hm] at hq
          exact hacc _ m hm D hD (fun o ho e' he' hb' => hD _ o ho hon e' he' hb') q hq

theorem masks_good (ops : List Oper) : ∀ (os : List Oper) (acc : List Nat), acc.length + os.length = ops.length → ops.drop acc.length = os → (∀ q m, acc.reverse[q]? = some m → GoodM ops q m) →
    ∀ q m, (masks os acc)[q]? = some m → GoodM ops q m
  | [], acc, _, _, hg, q, m, h => hg q m h
  | o :: os, acc, hl, hd, hg, q, m, h => by
    simp only [masks] at h
    have ho : ops[acc.length]? = some o := by
      have := congrArg (fun l => l[0]?) hd
      simpa using this
    refine masks_good ops os _ ?_ ?_ ?_ q m h
    · simp at hl ⊢; omega
    · simp only [List.length_cons]
      rw [← List.drop_drop, hd]
      rfl
    · intro q m hq
      rw [List.reverse_cons] at hq
      by_cases hlt : q < acc.reverse.length
      · rw [List.getElem?_append_left hlt] at hq; exact hg q m hq
      · rw [List.getElem?_append_right (by omega)] at hq
        have hq0 : q - acc.reverse.length = 0 := by
          rcases Nat.eq_zero_or_pos (q - acc.reverse.length) with h0 | h0
          · exact h0
          · rw [List.getElem?_eq_none (by simp only [List.length_cons, List.length_nil]; omega)] at hq; cases hq
        rw [hq0] at hq
        simp only [List.getElem?_cons_zero, Option.some.injEq] at hq
        subst hq
        have hqe : q = acc.length := by simp at hlt hq0; omega
        subst hqe
        intro D hD hedge
        exact mask_fold ops acc.reverse hg (by simp; omega) D hD o.after.toList 0 (fun e he hb => hedge o ho e (by simpa using he) hb) (fun p hp => by simp at hp)

/-! ## What an operation looks at -/

theorem mapO_congr {α β : Type} {f g : α → Option β} : ∀ {l : List α}, (∀ x ∈ l, f x = g x) → mapO f l = mapO g l
  | [], _ => rfl
  | x :: xs, h => by
    simp only [mapO]
    rw [h x (List.mem_cons_self ..), mapO_congr fun y hy => h y (List.mem_cons_of_mem _ hy)]

theorem aop_congr {C : Ctx} {nx : Nat} {tm tm' : Tm} {o : Oper} (h : ∀ x ∈ o.op.operands, ev tm x = ev tm' x) : aop C nx tm o = aop C nx tm' o := by
  obtain ⟨dst, op, type, pos, after, guard⟩ := o
  have pairs : ∀ ps : Array (Nat × Operand), (∀ x ∈ ps.map (·.2), ev tm x = ev tm' x) →
      mapO (fun p : Nat × Operand => (ev tm p.2).map fun a => (p.1, a)) ps.toList = mapO (fun p : Nat × Operand => (ev tm' p.2).map fun a => (p.1, a)) ps.toList := fun ps hp =>
    mapO_congr fun p hm => by rw [hp p.2 (Array.mem_map.2 ⟨p, by simpa using hm, rfl⟩)]
  have evsc : ∀ xs : Array Operand, (∀ x ∈ xs, ev tm x = ev tm' x) → evs tm xs.toList = evs tm' xs.toList := fun xs hx => mapO_congr fun x hm => hx x (by simpa using hm)
  cases op <;> simp only [Op.operands] at h <;> simp only [aop, opPick, opBuild, opBuildSlice, opMakeSlice, opNilCheck, opBin, opConvert, opSlice, opFieldAddr, opField, opIndex, opCall]
  case build t ps => rw [pairs ps fun x hx => h x (by simpa using hx)]
  case buildSlice t n ps => rw [pairs ps fun x hx => h x (by simpa using hx)]
  case makeFunc fn first captured =>
    cases fn <;> simp only
    rw [evsc captured fun x hx => h x (by simp [hx])]
  case call c =>
    cases hc : c.callee with
    | value f => simp only; rw [h f (by simp [Call.operands, hc]), evsc c.args fun x hx => h x (by simp [Call.operands, hx])]
    | invoke r m => rfl
    | builtin b => simp only; rw [evsc c.args fun x hx => h x (by simp [Call.operands, hx])]
  case slice t x lo hi mx => cases lo <;> cases hi <;> cases mx <;> simp_all
  all_goals (first | rfl | (simp_all; done))

theorem ev_looks {ops : Array Oper} {tm tm' : Tm} {o : Oper} (h : ∀ t ∈ o.looksAt ops, tget tm t = tget tm' t) : ∀ x ∈ o.op.operands, ev tm x = ev tm' x := by
  intro x hx
  cases x with
  | tmp t => exact h t (List.mem_append_left _ (List.mem_filterMap.2 ⟨.tmp t, by simpa using hx, rfl⟩))
  | _ => rfl

theorem wanted_looks {ops : Array Oper} {tm tm' : Tm} {o : Oper} (h : ∀ t ∈ o.looksAt ops, tget tm t = tget tm' t) : wantedA ops tm o = wantedA ops tm' o := by
  unfold wantedA
  cases hg : o.guard with
  | none => rfl
  | some jw =>
    obtain ⟨j, want⟩ := jw
    simp only
    cases hd : (ops[j]?).bind (·.dst) with
    | none => rfl
    | some d =>
      simp only
      rw [h d (by simp [Oper.looksAt, hg, hd])]
end Go.Proofs.Am

/- Regions that draw their order: every order comes to what the order of the text comes to. -/
namespace Go.Proofs.Am
open Go Go.RowKit
variable {G : Glob} {ops : Array Oper} {nt : Nat} {tm0 : Tm} {hp0 : Hp} {nx0 : Nat}

theorem HistRes.wr_eq {tm : Tm} {hp hp1 : Hp} {nx nx1 : Nat} {o : Oper} {a : AV} {lg seen : List Nat} {wr : List (Nat × AB)} (h : HistRes G ops tm hp nx o a lg seen wr hp1 nx1) :
    gotHp a seen hp1 = gotWr a seen wr ++ hp ∧ nx ≤ nx1 := by
  cases h with
  | skip => exact ⟨rfl, Nat.le_refl _⟩
  | val a lg wr fresh _ _ => exact ⟨rfl, by cases fresh <;> simp [bump]⟩
  | callx out lg g inp seen wr fresh _ _ _ => exact ⟨rfl, by cases out <;> simp [outNx]⟩
  | call a lg g args seen wr fresh _ _ _ =>
    refine ⟨?_, Nat.le_refl _⟩
    cases seen with
    | nil => rfl
    | cons s ss => unfold gotHp gotWr; cases AV.bare 6 a <;> rfl

/-- What is known of record j. -/
structure HI (G : Glob) (ops : Array Oper) (nt : Nat) (tm0 : Tm) (hp0 : Hp) (N : Nat → Nat) (R : List Rec) (j : Nat) (r : Rec) : Prop where
  ex : ∃ a lg seen wr hp1 nx1, HistRes G ops (genF tmW tm0 (R.take j)) (genF Rec.wr hp0 (R.take j)) (N j) r.o a lg seen wr hp1 nx1 ∧ (∀ E v, Rel E a v → Rel E r.a v) ∧ r.rd = lg ∧ r.wr = gotWr a seen wr
  dst : ∀ d, r.o.dst = some d → d < nt

theorem putTm_tmW {tm tm' : Tm} {r : Rec} (h : putTm nt tm r.o.dst r.a = some tm') : tm' = tmW r ++ tm ∧ ∀ d, r.o.dst = some d → d < nt := by
  unfold tmW
  cases hd : r.o.dst with
  | none => rw [hd] at h; simp only [putTm, Option.some.injEq] at h; exact ⟨h.symm, fun d hd => nomatch hd⟩
  | some d =>
    rw [hd] at h
    simp only [putTm] at h
    split at h
    · rename_i hb
      simp only [Option.some.injEq] at h
      refine ⟨h.symm, fun d' hd' => ?_⟩
      simp only [Option.some.injEq] at hd'
      subst hd'
      have : Nat.ble (d + 1) nt = true := hb
      exact Nat.le_of_ble_eq_true this
    · cases h

theorem Hist.info {rs : List Rec} {tm : Tm} {hp : Hp} {nx : Nat} (h : Hist G ops nt tm0 hp0 nx0 rs tm hp nx) :
    ∃ N : Nat → Nat, (∀ j, j < rs.length → nx0 ≤ N j ∧ N j < nx) ∧ (∀ i j, i < j → j < rs.length → N i < N j) ∧ nx0 ≤ nx ∧ tm = genF tmW tm0 rs.reverse ∧ hp = genF Rec.wr hp0 rs.reverse ∧
      ∀ j r, rs.reverse[j]? = some r → HI G ops nt tm0 hp0 N rs.reverse j r := by
  induction h with
  | nil => exact ⟨fun _ => nx0, fun j hj => absurd hj (by simp), fun i j _ hj => absurd hj (by simp), Nat.le_refl _, rfl, rfl, fun j r hr => by simp at hr⟩
  | cons rs tm tm' hp hp1 nx nx1 i o a a' lg seen wr h hr ha ht ih =>
    obtain ⟨N, h1, h2, h3, h4, h5, h6⟩ := ih
    obtain ⟨hwr, hnx⟩ := hr.wr_eq
    obtain ⟨htm, hdst⟩ := putTm_tmW (r := ⟨i, o, a', lg, gotWr a seen wr⟩) ht
    have hN : ∀ j, j < rs.length → (if j = rs.length then nx else N j) = N j := fun j hj => if_neg (by omega)
    refine ⟨fun j => if j = rs.length then nx else N j, fun j hj => ?_, fun i j hij hj => ?_, by omega, ?_, ?_, fun j r hrj => ?_⟩
    · simp only [List.length_cons] at hj
      show nx0 ≤ (if j = rs.length then nx else N j) ∧ (if j = rs.length then nx else N j) < nx1 + 1
      by_cases e : j = rs.length
      · subst e; simp only [if_true]; omega
      · rw [if_neg e]; have := h1 j (by omega); omega
    · simp only [List.length_cons] at hj
      have hi : i < rs.length := by omega
      show (if i = rs.length then nx else N i) < (if j = rs.length then nx else N j)
      rw [hN i hi]
      by_cases e : j = rs.length
      · subst e; simp only [if_true]; exact (h1 i hi).2
      · rw [if_neg e]; exact h2 i j hij (by omega)
    · rw [htm, List.reverse_cons, genF_append, ← h4]; rfl
    · rw [hwr, List.reverse_cons, genF_append, ← h5]; rfl
    · rw [List.reverse_cons] at hrj ⊢
      by_cases e : j < rs.reverse.length
      · rw [List.getElem?_append_left e] at hrj
        have hj : j < rs.length := by simpa using e
        obtain ⟨⟨b, lg', s', wr', hp', nx', g1, g2⟩, g3⟩ := h6 j r hrj
        refine ⟨⟨b, lg', s', wr', hp', nx', ?_, g2⟩, g3⟩
        rw [List.take_append_of_le_length (by omega)]
        show HistRes G ops _ _ (if j = rs.length then nx else N j) _ _ _ _ _ _ _
        rw [hN j hj]
        exact g1
      · rw [List.getElem?_append_right (by omega)] at hrj
        have hj0 : j - rs.reverse.length = 0 := by
          rcases Nat.eq_zero_or_pos (j - rs.reverse.length) with h0 | h0
          · exact h0
          · rw [List.getElem?_eq_none (by simp only [List.length_cons, List.length_nil]; omega)] at hrj; cases hrj
        rw [hj0] at hrj
        simp only [List.getElem?_cons_zero, Option.some.injEq] at hrj
        subst hrj
        have hj : j = rs.length := by simp at e hj0; omega
        subst hj
        refine ⟨⟨a, lg, seen, wr, hp1, nx1, ?_, ha, rfl, rfl⟩, hdst⟩
        rw [List.take_append_of_le_length (by simp), show rs.length = rs.reverse.length by simp, List.take_length]
        simp only [List.length_reverse, if_true]
        rw [← h4, ← h5]
        exact hr

theorem number_get : ∀ (l : List Oper) (i j : Nat), (number i l)[j]? = (l[j]?).map fun o => (i + j, o)
  | [], i, j => by simp [number]
  | o :: os, i, j => by
    cases j with
    | zero => simp [number]
    | succ j => simp only [number, List.getElem?_cons_succ]; rw [number_get os (i + 1) j]; simp [Nat.add_assoc, Nat.add_comm 1 j]

theorem calmTo_spec {ms : List Nat} {p : Rec} : ∀ {l : List Rec}, calmTo ops ms p l = true → ∀ q ∈ l, ((ms[q.i]?).getD 0).testBit p.i = true ∨ calm p q ops = true
  | [], _, q, hq => by cases hq
  | r :: l, h, q, hq => by
    simp only [calmTo, Bool.and_eq_true, Bool.or_eq_true] at h
    rcases List.mem_cons.1 hq with rfl | hq
    · exact h.1
    · exact calmTo_spec h.2 q hq
theorem calmAll_spec {ms : List Nat} : ∀ {l : List Rec}, calmAll ops ms l = true → ∀ (i j : Nat) (p q : Rec), i < j → l[i]? = some p → l[j]? = some q → (((ms[q.i]?).getD 0).testBit p.i = true ∨ calm p q ops = true)
  | [], _, i, j, p, q, _, hp, _ => by simp at hp
  | r :: l, h, i, j, p, q, hij, hp, hq => by
    simp only [calmAll, Bool.and_eq_true] at h
    cases j with
    | zero => omega
    | succ j =>
      rw [List.getElem?_cons_succ] at hq
      cases i with
      | zero =>
        simp only [List.getElem?_cons_zero, Option.some.injEq] at hp
        subst hp
        exact calmTo_spec h.1 q (List.mem_of_getElem? hq)
      | succ i =>
        rw [List.getElem?_cons_succ] at hp
        exact calmAll_spec h.2 i j p q (by omega) hp hq

theorem take_filter (i : Nat) : ∀ (l : List Rec) (s : Nat), (∀ (j : Nat) (r : Rec), l[j]? = some r → r.i = s + j) → l.filter (fun r => decide (r.i < i)) = l.take (i - s)
  | [], s, _ => by simp
  | r :: l, s, h => by
    have h0 := h 0 r rfl
    have ih := take_filter i l (s + 1) fun j q hq => by have := h (j + 1) q (by simpa using hq); omega
    rw [List.filter_cons]
    by_cases hi : s < i
    · rw [if_pos (by simp; omega), ih, show i - s = (i - (s + 1)) + 1 by omega, List.take_succ_cons]
    · rw [if_neg (by simp; omega), ih, show i - s = 0 by omega, show i - (s + 1) = 0 by omega]; rfl

theorem TmRel.congr {E : Env} {tm tm' : Tm} {tv : Array Value} (h : TmRel E tm nt tv) (he : ∀ t, tget tm' t = tget tm t) : TmRel E tm' nt tv :=
  ⟨h.1, fun t a ht => h.2 t a (by rw [← he]; exact ht)⟩
theorem WRel.congr {w0 : Base} {m0 : Mem} {E : Env} {hp hp' : Hp} {w : World} (h : WRel w0 m0 E hp w) (he : ∀ t, tget hp' t = tget hp t) : WRel w0 m0 E hp' w :=
  ⟨h.keep, h.mem, h.mem0, h.own, h.inj, fun b x hb => h.blk b x (by rw [← he]; exact hb)⟩

/-- What the whole region's records are known for. -/
structure Whole (G : Glob) (ops : Array Oper) (nt : Nat) (tm0 : Tm) (hp0 : Hp) (nx0 nx : Nat) (N : Nat → Nat) (R : List Rec) : Prop where
  io : ∀ (j : Nat) (r : Rec), R[j]? = some r → r.i = j ∧ ops[j]? = some r.o
  len : R.length = ops.size
  hi : ∀ (j : Nat) (r : Rec), R[j]? = some r → HI G ops nt tm0 hp0 N R j r
  num : ∀ j, j < R.length → nx0 ≤ N j ∧ N j < nx
  inc : ∀ i j, i < j → j < R.length → N i < N j
  calm : ∀ (i j : Nat) (p q : Rec), i < j → R[i]? = some p → R[j]? = some q → (∀ D : Nat → Prop, Down ops.toList D → (∀ e ∈ q.o.after, Region.binds .any e = true → D e.on) → D i) ∨ calm p q ops = true

/-- The state when the operations of a set are done. -/
structure DSt (G : Glob) (ops : Array Oper) (nt : Nat) (tm0 : Tm) (hp0 : Hp) (nx0 : Nat) (N : Nat → Nat) (R : List Rec) (listed : Array Bool) (E : Env) (tv : Array Value) (w : World) : Prop where
  size : listed.size = ops.size
  down : Down ops.toList fun j => listed.getD j false = true
  tm : TmRel E (genF tmW tm0 (R.filter fun r => listed.getD r.i false)) nt tv
  w : WRel G.w0 G.m0 E (genF Rec.wr hp0 (R.filter fun r => listed.getD r.i false)) w
  has : ∀ b, E.has b → b < nx0 ∨ ∃ j, listed.getD j false = true ∧ b = N j

variable {nx : Nat} {N : Nat → Nat} {R : List Rec} {listed : Array Bool} {E : Env} {tv : Array Value} {w : World}

theorem getD_lt {j : Nat} (h : listed.getD j false = true) : j < listed.size := by
  rcases Nat.lt_or_ge j listed.size with h' | h'
  · exact h'
  · simp [Array.getElem?_eq_none h'] at h

theorem calm_sep {p q : Rec} (h : calm p q ops = true) : (∀ d, p.o.dst = some d → d ∉ q.o.looksAt ops) ∧ (∀ d, q.o.dst = some d → d ∉ p.o.looksAt ops) ∧ (∀ d, p.o.dst = some d → q.o.dst ≠ some d) ∧
    (∀ b ∈ keys p.wr, b ∉ q.rd ∧ b ∉ keys q.wr) ∧ ∀ b ∈ keys q.wr, b ∉ p.rd := by
  simp only [calm, Bool.and_eq_true, Bool.not_eq_true', Bool.or_eq_false_iff] at h
  obtain ⟨h1, h2, h3⟩ := Oper.apart_spec h.1
  obtain ⟨⟨g1, g2⟩, g3⟩ := h.2
  exact ⟨h1, h3, h2, fun b hb => ⟨hits_false g1 b hb, hits_false g2 b hb⟩, fun b hb hp => hits_false g3 b hp hb⟩

/-- What stands between an operation that is next and one that is out of the text's order. -/
theorem sep (hW : Whole G ops nt tm0 hp0 nx0 nx N R) (hS : DSt G ops nt tm0 hp0 nx0 N R listed E tv w) {i j : Nat} {r q : Rec} (hr : R[i]? = some r) (hq : R[j]? = some q) (hne : j ≠ i)
    (hun : listed.getD i false = false) (hed : ∀ e ∈ r.o.after, Region.binds .any e = true → listed.getD e.on false = true) (hd : decide (j < i) ≠ listed.getD j false) :
    (∀ d, q.o.dst = some d → d ∉ r.o.looksAt ops) ∧ (∀ d, q.o.dst = some d → r.o.dst ≠ some d) ∧ ∀ b ∈ keys q.wr, b ∉ r.rd ∧ b ∉ keys r.wr := by
  by_cases hlt : j < i
  · have hdj : listed.getD j false = false := by
      cases h : listed.getD j false with
      | false => rfl
      | true => rw [h] at hd; simp [hlt] at hd
    rcases hW.calm j i q r hlt hq hr with ha | hc
    · have := ha _ hS.down hed
      rw [hdj] at this; cases this
    · obtain ⟨h1, h2, h3, h4, h5⟩ := calm_sep hc
      exact ⟨h1, h3, h4⟩
  · have hdj : listed.getD j false = true := by
      cases h : listed.getD j false with
      | true => rfl
      | false => rw [h] at hd; simp [hlt] at hd
    rcases hW.calm i j r q (by omega) hr hq with ha | hc
    · have := ha _ hS.down (hS.down j q.o (by simpa using (hW.io j q hq).2) hdj)
      rw [hun] at this; cases this
    · obtain ⟨h1, h2, h3, h4, h5⟩ := calm_sep hc
      refine ⟨h2, fun d hd1 hd2 => h3 d hd2 hd1, fun b hb => ⟨h5 b hb, fun hb2 => (h4 b hb2).2 hb⟩⟩

theorem mem_idx {q : Rec} (h : q ∈ R) : ∃ j : Nat, R[j]? = some q := List.getElem?_of_mem h

/-- The text's order, at what an operation looks at, is the order that was drawn. -/
theorem agree {α : Type} {wf : Rec → List (Nat × α)} {s : List (Nat × α)} (hW : Whole G ops nt tm0 hp0 nx0 nx N R) {i : Nat} (hun : listed.getD i false = false) {b : Nat}
    (hs : ∀ (j : Nat) (q : Rec), R[j]? = some q → j ≠ i → decide (j < i) ≠ listed.getD j false → b ∉ keys (wf q)) :
    tget (genF wf s (R.filter fun r => listed.getD r.i false)) b = tget (genF wf s (R.take i)) b := by
  have ht := take_filter i R 0 fun j r hr => by rw [(hW.io j r hr).1]; omega
  rw [Nat.sub_zero] at ht
  rw [← ht]
  refine genF_agree R rfl fun q hq hb => ?_
  obtain ⟨j, hj⟩ := mem_idx hq
  have hji := (hW.io j q hj).1
  rw [hji]
  by_cases e : j = i
  · subst e; rw [hun]; simp
  · cases hx : listed.getD j false <;> cases hy : decide (j < i)
    · rfl
    · exact absurd hb (hs j q hj e (by rw [hx, hy]; simp))
    · exact absurd hb (hs j q hj e (by rw [hx, hy]; simp))
    · rfl

/-- One more operation is done. -/
theorem insert_at {α : Type} {wf : Rec → List (Nat × α)} {s : List (Nat × α)} (hW : Whole G ops nt tm0 hp0 nx0 nx N R) (hsz : listed.size = ops.size) {i : Nat} {r : Rec} (hr : R[i]? = some r) (hun : listed.getD i false = false) {b : Nat}
    (hs : ∀ (j : Nat) (q : Rec), R[j]? = some q → j ≠ i → decide (j < i) ≠ listed.getD j false → b ∈ keys (wf q) → b ∉ keys (wf r)) :
    tget (genF wf s (R.filter fun r => (listed.setIfInBounds i true).getD r.i false)) b = tget (wf r ++ genF wf s (R.filter fun r => listed.getD r.i false)) b := by
  obtain ⟨hlt, hri⟩ := List.getElem?_eq_some_iff.1 hr
  have hsplit : R = R.take i ++ r :: R.drop (i + 1) := by
    rw [← hri, ← List.drop_eq_getElem_cons hlt, List.take_append_drop]
  have h1 : ∀ q ∈ R.take i, ∃ j : Nat, R[j]? = some q ∧ j < i := fun q hq => by
    obtain ⟨j, hj⟩ := List.getElem?_of_mem hq
    rw [List.getElem?_take] at hj
    split at hj
    · exact ⟨j, hj, by assumption⟩
    · cases hj
  have h2 : ∀ q ∈ R.drop (i + 1), ∃ j : Nat, R[j]? = some q ∧ i < j := fun q hq => by
    obtain ⟨j, hj⟩ := List.getElem?_of_mem hq
    rw [List.getElem?_drop] at hj
    exact ⟨_, hj, by omega⟩
  have hset : ∀ (j : Nat) (q : Rec), R[j]? = some q → j ≠ i → (listed.setIfInBounds i true).getD q.i false = listed.getD q.i false := fun j q hj hne => by
    rw [(hW.io j q hj).1]
    exact getD_set_ne false (Ne.symm hne)
  have hii := (hW.io i r hr).1
  have hsz' : i < listed.size := by rw [hsz, ← hW.len]; exact hlt
  have := genF_insert (w := wf) (b := b) (R1 := R.take i) (R2 := R.drop (i + 1)) (r := r) (D := fun r => listed.getD r.i false) (D' := fun r => (listed.setIfInBounds i true).getD r.i false) s
    (fun q hq => let ⟨j, hj, hl⟩ := h1 q hq; hset j q hj (by omega)) (fun q hq => let ⟨j, hj, hl⟩ := h2 q hq; hset j q hj (by omega)) (by rw [hii]; exact hun) (by rw [hii]; simp [hsz'])
    (fun q hq hD hb => by
      obtain ⟨j, hj, hl⟩ := h2 q hq
      rw [(hW.io j q hj).1] at hD
      exact hs j q hj (by omega) (by rw [hD]; simp; omega) hb)
  rw [← hsplit] at this
  exact this
end Go.Proofs.Am

/- Regions that draw their order: the run. -/
namespace Go.Proofs.Am
open Go Go.RowKit
variable {G : Glob} {ops : Array Oper} {nt : Nat} {tm0 : Tm} {hp0 : Hp} {nx0 nx : Nat} {N : Nat → Nat} {R : List Rec} {listed : Array Bool} {E : Env} {tv : Array Value} {w : World}

/-- One operation that is ready. -/
theorem dstep (hW : Whole G ops nt tm0 hp0 nx0 nx N R) (hS : DSt G ops nt tm0 hp0 nx0 N R listed E tv w) {i : Nat} (hi : i ∈ Region.ready .any ops listed) {f : FuncId} {ys : List Item} {ds : List Deferred} {rn : Option Nat} {ics : List Frame} {rest : List Nat}
    (K : ∀ E' tv' w', DSt G ops nt tm0 hp0 nx0 N R (listed.setIfInBounds i true) E' tv' w' → E.le E' → Goal G (mkF f tv' (.inRegion ops rest :: ys) ds rn) ics w') :
    Goal G (mkF f tv (.inRegion ops (i :: rest) :: ys) ds rn) ics w := by
  obtain ⟨hun0, o, ho, hed⟩ := mem_ready.1 hi
  have hlt : i < ops.size := (Array.getElem?_eq_some_iff.1 ho).1
  have hun : listed.getD i false = false := by
    have : i < listed.size := by rw [hS.size]; exact hlt
    simp [this] at hun0 ⊢
    exact hun0
  have hltR : i < R.length := by rw [hW.len]; exact hlt
  obtain ⟨r, hr⟩ : ∃ r, R[i]? = some r := ⟨R[i], List.getElem?_eq_getElem hltR⟩
  obtain ⟨hri, hro⟩ := hW.io i r hr
  have hoo : r.o = o := by rw [ho] at hro; exact (Option.some.inj hro).symm
  subst hoo
  obtain ⟨⟨a, lg, seen, wr, hp1, nx1, hres, hra, hrd, hrwr⟩, hdst⟩ := hW.hi i r hr
  have hsep := fun (j : Nat) (q : Rec) (hq : R[j]? = some q) (hne : j ≠ i) (hd : decide (j < i) ≠ listed.getD j false) => sep hW hS hr hq hne hun hed hd
  have hlook : ∀ t ∈ r.o.looksAt ops, tget (genF tmW tm0 (R.filter fun r => listed.getD r.i false)) t = tget (genF tmW tm0 (R.take i)) t := fun t ht =>
    agree hW hun fun j q hq hne hd hk => (hsep j q hq hne hd).1 t (tmW_key.1 hk) ht
  have hheap : ∀ b ∈ r.rd, tget (genF Rec.wr hp0 (R.filter fun r => listed.getD r.i false)) b = tget (genF Rec.wr hp0 (R.take i)) b := fun b hb =>
    agree hW hun fun j q hq hne hd hk => ((hsep j q hq hne hd).2.2 b hk).1 hb
  have hwant := wanted_looks (ops := ops) (o := r.o) hlook
  have haop : ∀ nx, aop G.C nx (genF tmW tm0 (R.filter fun r => listed.getD r.i false)) r.o = aop G.C nx (genF tmW tm0 (R.take i)) r.o := fun nx => aop_congr (ev_looks hlook)
  have hnew : ¬ E.has (N i) := fun h => by
    rcases hS.has _ h with h | ⟨j, hj, he⟩
    · have := (hW.num i hltR).1; omega
    · have hjl : j < R.length := by rw [hW.len, ← hS.size]; exact getD_lt hj
      rcases Nat.lt_trichotomy i j with hij | rfl | hij
      · have := hW.inc i j hij hjl; omega
      · rw [hun] at hj; cases hj
      · have := hW.inc j i hij hltR; omega
  have hisz : i < listed.size := by rw [hS.size]; exact hlt
  -- the state behind it
  have fin : ∀ E' v w', E.le E' → Rel E' r.a v → WRel G.w0 G.m0 E' (r.wr ++ genF Rec.wr hp0 (R.filter fun r => listed.getD r.i false)) w' → (∀ b, E'.has b → E.has b ∨ b = N i) →
      Goal G (mkF f (putV ops i tv v) (.inRegion ops rest :: ys) ds rn) ics w' := fun E' v w' hle hv hw' hhas => by
    refine K E' _ w' ⟨by simpa using hS.size, ?_, ?_, ?_, ?_⟩ hle
    · intro q oq hq hD e he hb
      by_cases hqi : q = i
      · subst hqi
        have : oq = r.o := by
          have h1 : ops.toList[q]? = some r.o := by simpa using ho
          rw [h1] at hq; exact (Option.some.inj hq).symm
        subst this
        exact getD_set_true (hed e he hb)
      · have hD : (listed.setIfInBounds i true).getD q false = true := hD
        rw [getD_set_ne false (Ne.symm hqi)] at hD
        exact getD_set_true (hS.down q oq hq hD e he hb)
    · have h1 : putTm nt (genF tmW tm0 (R.filter fun r => listed.getD r.i false)) r.o.dst r.a = some (tmW r ++ genF tmW tm0 (R.filter fun r => listed.getD r.i false)) := by
        unfold tmW
        cases hd : r.o.dst with
        | none => rfl
        | some d =>
          have := hdst d hd
          have hb : Nat.blt d nt = true := Nat.ble_eq_true_of_le this
          simp only [putTm, hb]
          rfl
      have h2 := put_rel (hS.tm.mono hle) ho hv h1
      refine h2.congr fun t => insert_at hW hS.size hr hun fun j q hq hne hd hk hk2 => ?_
      exact (hsep j q hq hne hd).2.1 t (tmW_key.1 hk) (tmW_key.1 hk2)
    · refine hw'.congr fun b => insert_at hW hS.size hr hun fun j q hq hne hd hk hk2 => ?_
      exact ((hsep j q hq hne hd).2.2 b hk).2 hk2
    · intro b hb
      rcases hhas b hb with hb | rfl
      · rcases hS.has b hb with h | ⟨j, hj, he⟩
        · exact .inl h
        · exact .inr ⟨j, getD_set_true hj, he⟩
      · exact .inr ⟨i, by simp [hisz], rfl⟩
  cases hres with
  | skip hw =>
    rw [← hwant] at hw
    refine Goal.step (fun bcs => st_opSkip ?_) (fin E undef w (.refl E) (hra _ _ (undef_rel E)) ?_ fun b hb => .inl hb)
    · have := wantedA_sound hS.tm hw
      rw [ho]
      simpa using this
    · rw [hrwr]; exact hS.w
  | val a lg wr fresh hw he =>
    rw [← hwant] at hw
    rw [← haop] at he
    have he2 := RM.evalL_congr _ he (hp' := genF Rec.wr hp0 (R.filter fun r => listed.getD r.i false)) fun b hb => hheap b (by rw [hrd]; exact hb)
    obtain ⟨x, w', E', hrun, hle, hx, hw', hh⟩ := op_sound G.ok hS.w hnew (a := actOf tv) hS.tm he2
    refine Goal.step (fun bcs => st_opValue ho (wantedA_sound hS.tm hw) (notDefer_of he2) hrun) (fin E' x w' hle (hra _ _ hx) ?_ fun b hb => (hh b hb).imp id fun q => q.2)
    rw [hrwr]; exact hw'
  | callx out lg g inp seen wr fresh hw he hf =>
    rw [← hwant] at hw
    rw [← haop] at he
    have he2 := RM.evalL_congr _ he (hp' := genF Rec.wr hp0 (R.filter fun r => listed.getD r.i false)) fun b hb => hheap b (by rw [hrd]; exact hb)
    obtain ⟨vs, r0, hrun, hin, _, hseen⟩ := op_sound G.ok hS.w hnew (a := actOf tv) hS.tm he2
    obtain ⟨hcall, hfun⟩ := hf
    intro bcs
    have hst := fun cs' => st_opEnter (P := G.P) (f := f) (k := ys) (ds := ds) (rnd := rn) (cs := cs') ho (wantedA_sound hS.tm hw) (notDefer_of he2) (rest := rest) (hrun.trans (hcall vs w))
    obtain ⟨e, w', fr, ⟨v, rfl, hpost⟩, hsteps, hfn, hleave⟩ := hfun E.m w vs r0 hS.w.mem hin (mkF f tv (.inRegion ops (i :: rest) :: ys) ds rn :: (ics ++ bcs))
    obtain ⟨E', hle, hw', hx, hhas⟩ := hS.w.calledX hpost hseen hnew
    obtain ⟨v2, w2, F2, g1, g2, g3⟩ := fin E' v w' hle (hra _ _ hx) (by rw [hrwr]; exact hw') (fun b hb => (hhas b hb).imp id fun q => q.1) bcs
    refine ⟨v2, w2, F2, g1, .head (hst _) (Steps.trans hsteps (.head (step_leave_returned hleave) ?_)), g3⟩
    rw [finish_mkF]
    exact g2
  | call a lg g args seen wr fresh hw he hf =>
    rw [← hwant] at hw
    rw [← haop] at he
    have he2 := RM.evalL_congr _ he (hp' := genF Rec.wr hp0 (R.filter fun r => listed.getD r.i false)) fun b hb => hheap b (by rw [hrd]; exact hb)
    obtain ⟨vs, hrun, hargs, _⟩ := op_sound G.ok hS.w hnew (a := actOf tv) hS.tm he2
    obtain ⟨hcall, hfun⟩ := hf
    intro bcs
    have hst := fun cs' => st_opEnter (P := G.P) (f := f) (k := ys) (ds := ds) (rnd := rn) (cs := cs') ho (wantedA_sound hS.tm hw) (notDefer_of he2) (rest := rest) (hrun.trans (hcall vs w))
    obtain ⟨e, w', fr, ⟨v, rfl, rr, m', rfl, hb, hm, hv, hrr⟩, hsteps, hfn, hleave⟩ := hfun (viewM E w seen) w vs (fun b o hb => viewM_heap hS.w hb) hargs (mkF f tv (.inRegion ops (i :: rest) :: ys) ds rn :: (ics ++ bcs))
    obtain ⟨E', hle, hw', hx, hhas⟩ := hS.w.called hb hm hv hrr
    have hwe : gotHp rr seen (genF Rec.wr hp0 (R.filter fun r => listed.getD r.i false)) = r.wr ++ genF Rec.wr hp0 (R.filter fun r => listed.getD r.i false) := by
      rw [hrwr]
      cases seen with
      | nil => rfl
      | cons s ss => unfold gotHp gotWr; cases AV.bare 6 rr <;> rfl
    rw [hwe] at hw'
    obtain ⟨v2, w2, F2, g1, g2, g3⟩ := fin E' v w' hle (hra _ _ hx) hw' (fun b hb => .inl (hhas b hb)) bcs
    refine ⟨v2, w2, F2, g1, .head (hst _) (Steps.trans hsteps (.head (step_leave_returned hleave) ?_)), g3⟩
    rw [finish_mkF]
    exact g2

theorem countP_lt {p p' : Nat → Bool} : ∀ {l : List Nat}, (∀ x ∈ l, p' x = true → p x = true) → ∀ i ∈ l, p i = true → p' i = false → l.countP p' < l.countP p
  | [], _, i, hi, _, _ => by cases hi
  | x :: l, h, i, hi, hp, hp' => by
    have hle : l.countP p' ≤ l.countP p := List.countP_mono_left fun y hy => h y (List.mem_cons_of_mem _ hy)
    rw [List.countP_cons, List.countP_cons]
    rcases List.mem_cons.1 hi with rfl | hi
    · rw [if_pos hp, hp']; simp; omega
    · have := countP_lt (fun y hy => h y (List.mem_cons_of_mem _ hy)) i hi hp hp'
      have hx := h x (List.mem_cons_self ..)
      cases h1 : p' x <;> cases h2 : p x <;> simp [h1, h2] at hx ⊢ <;> omega

theorem fwd_spec : ∀ (l : List Oper) (i : Nat), fwd i l = true → ∀ (j : Nat) (o : Oper), l[j]? = some o → ∀ e ∈ o.after, Region.binds .any e = true → e.on < i + j
  | [], i, _, j, o, h => by simp at h
  | p :: l, i, h, j, o, ho => by
    simp only [fwd, Bool.and_eq_true, List.all_eq_true, Bool.or_eq_true, Bool.not_eq_true'] at h
    intro e he hb
    cases j with
    | zero =>
      simp only [List.getElem?_cons_zero, Option.some.injEq] at ho
      subst ho
      rcases h.1 e (by simpa using he) with h1 | h1
      · rw [h1] at hb; cases hb
      · have : Nat.ble (e.on + 1) i = true := h1
        exact Nat.le_of_ble_eq_true this
    | succ j =>
      rw [List.getElem?_cons_succ] at ho
      have := fwd_spec l (i + 1) h.2 j o ho e he hb
      omega

theorem ready_some (hf : fwd 0 ops.toList = true) (hsz : listed.size = ops.size) : ∀ n i, i = n → i < ops.size → listed.getD i false = false → Region.ready .any ops listed ≠ [] := by
  intro n
  induction n using Nat.strongRecOn with
  | ind n ih =>
    rintro i rfl hlt hun hnil
    obtain ⟨o, ho⟩ : ∃ o, ops[i]? = some o := ⟨ops[i], by simp [hlt]⟩
    by_cases hall : ∀ e ∈ o.after, Region.binds .any e = true → listed.getD e.on false = true
    · have : i ∈ Region.ready .any ops listed := mem_ready.2 ⟨by
        have : i < listed.size := by rw [hsz]; exact hlt
        simp [this] at hun ⊢; exact hun, o, ho, hall⟩
      rw [hnil] at this
      cases this
    · obtain ⟨e, he⟩ := Classical.not_forall.1 hall
      obtain ⟨he, hx⟩ := Classical.not_imp.1 he
      obtain ⟨hb, hx⟩ := Classical.not_imp.1 hx
      have hon := fwd_spec _ _ hf i o (by simpa using ho) e he hb
      exact ih e.on (by omega) e.on rfl (by omega) (by simpa using hx) hnil

/-- The whole schedule. -/
theorem dexec (hW : Whole G ops nt tm0 hp0 nx0 nx N R) (hf : fwd 0 ops.toList = true) {f : FuncId} {ys : List Item} {ds : List Deferred} {rn : Option Nat} {ics : List Frame} {E0 : Env}
    (hend : ∀ (listed : Array Bool) E tv w, DSt G ops nt tm0 hp0 nx0 N R listed E tv w → E0.le E → (∀ i, i < ops.size → listed.getD i false = true) → Goal G (mkF f tv (.inRegion ops [] :: ys) ds rn) ics w) :
    ∀ (fuel t : Nat) (listed : Array Bool) (E : Env) (tv : Array Value) (w : World), DSt G ops nt tm0 hp0 nx0 N R listed E tv w → E0.le E → (List.range ops.size).countP (fun i => !listed.getD i false) ≤ fuel →
      Goal G (mkF f tv (.inRegion ops (Region.linearise.go .any ops fuel t listed []) :: ys) ds rn) ics w
  | 0, t, listed, E, tv, w, hS, hle, hc => by
    refine hend listed E tv w hS hle fun i hi => ?_
    have := List.countP_eq_zero.1 (Nat.le_zero.1 hc) i (List.mem_range.2 hi)
    simpa using this
  | fuel + 1, t, listed, E, tv, w, hS, hle, hc => by
    have hgo : Region.linearise.go .any ops (fuel + 1) t listed [] = (match (Region.ready .any ops listed)[t % (Region.ready .any ops listed).length]? with
      | some i => Region.linearise.go .any ops fuel (t / (Region.ready .any ops listed).length) (listed.setIfInBounds i true) [i]
      | none => [].reverse) := rfl
    rw [hgo]
    cases hi : (Region.ready .any ops listed)[t % (Region.ready .any ops listed).length]? with
    | none =>
      have hnil : Region.ready .any ops listed = [] := by
        cases hr : Region.ready .any ops listed with
        | nil => rfl
        | cons x xs =>
          rw [hr] at hi
          have hlt : t % (x :: xs).length < (x :: xs).length := Nat.mod_lt _ (by simp)
          simp at hi
          simp at hlt
          omega
      refine hend listed E tv w hS hle fun i hi => ?_
      cases h : listed.getD i false with
      | true => rfl
      | false => exact absurd hnil (ready_some hf hS.size i i rfl hi h)
    | some i =>
      simp only []
      rw [linearise_go_acc, List.reverse_singleton, List.singleton_append]
      have hir := List.mem_of_getElem? hi
      obtain ⟨hun0, o, ho, _⟩ := mem_ready.1 hir
      have hlt : i < ops.size := (Array.getElem?_eq_some_iff.1 ho).1
      have hlt2 : i < listed.size := by rw [hS.size]; exact hlt
      refine dstep hW hS hir fun E' tv' w' hS' hle' => dexec hW hf hend fuel _ _ E' tv' w' hS' (hle.trans hle') ?_
      have : (List.range ops.size).countP (fun j => !(listed.setIfInBounds i true).getD j false) < (List.range ops.size).countP (fun j => !listed.getD j false) :=
        countP_lt (fun x hx h => by
          cases hh : listed.getD x false with
          | false => rfl
          | true => rw [getD_set_true hh] at h; cases h) i (List.mem_range.2 hlt) (by simp [hlt2] at hun0 ⊢; exact hun0) (by simp [hlt2])
      omega

theorem draw_ok (G : Glob) : DrawOK G := by
  intro f tm nt k defs rnd cs hp nx tm0 hp0 nx0 ops rs id hH hn hok hr E F ics w hc
  obtain ⟨N, h1, h2, h3, h4, h5, h6⟩ := hH.info
  simp only [okDraw, Bool.and_eq_true] at hok
  obtain ⟨hcalm, _, hfwd⟩ := hok
  have hio : ∀ (j : Nat) (r : Rec), rs.reverse[j]? = some r → r.i = j ∧ ops[j]? = some r.o := fun j r hj => by
    have := congrArg (fun l => l[j]?) hn
    simp only [number_get, List.getElem?_map, hj, Option.map_some, Nat.zero_add] at this
    cases ho : ops.toList[j]? with
    | none => rw [ho] at this; cases this
    | some o =>
      rw [ho] at this
      simp only [Option.map_some, Option.some.injEq, recIO, Prod.mk.injEq] at this
      exact ⟨this.1.symm, by rw [← this.2]; simpa using ho⟩
  have hlen : rs.reverse.length = ops.size := by
    have h7 := congrArg List.length hn
    have h8 : ∀ (l : List Oper) (i : Nat), (number i l).length = l.length := fun l => by
      induction l with
      | nil => intro i; rfl
      | cons o l ih => intro i; simp [number, ih]
    rw [h8] at h7
    simpa using h7.symm
  have hgood := masks_good ops.toList ops.toList [] (by simp) (by simp) (fun q m hq => by simp at hq)
  have hW : Whole G ops nt tm0 hp0 nx0 nx N rs.reverse := by
    refine ⟨hio, hlen, h6, fun j hj => h1 j (by simpa using hj), fun i j hij hj => h2 i j hij (by simpa using hj), fun i j p q hij hp hq => ?_⟩
    rcases calmAll_spec hcalm i j p q hij hp hq with h | h
    · left
      intro D hD hedge
      obtain ⟨hpi, _⟩ := hio i p hp
      obtain ⟨hqj, hqo⟩ := hio j q hq
      rw [hpi, hqj] at h
      cases hm : (masks ops.toList [])[j]? with
      | none => rw [hm] at h; simp at h
      | some m =>
        rw [hm] at h
        refine hgood j m hm D hD (fun o ho => ?_) i h
        have : o = q.o := by
          have h9 : ops.toList[j]? = some q.o := by simpa using hqo
          rw [h9] at ho; exact (Option.some.inj ho).symm
        subst this
        exact hedge
    · exact .inr h
  obtain ⟨tv, xs, rfl, g1, g2, g3, g4⟩ := hc.fr
  obtain ⟨y, ys, rfl, rfl, g6⟩ := g2.cons_inv
  refine Goal.step (fun bcs => st_region_draw) ?_
  have hmix := G.ok.mixed
  rw [hmix]
  have hsched : ∀ t, Region.schedule true ops t = Region.linearise.go .any ops ops.size t (Array.replicate ops.size false) [] := fun t => by
    simp [Region.schedule, Region.linearise]
  rw [hsched]
  have hnone : ∀ j, (Array.replicate ops.size false).getD j false = false := fun j => by
    by_cases h : j < ops.size
    · simp [h]
    · simp [h]
  have hfil : rs.reverse.filter (fun r => (Array.replicate ops.size false).getD r.i false) = [] := List.filter_eq_nil_iff.2 fun r hr => by rw [hnone]; simp
  refine dexec hW hfwd (E0 := E) (fun listed E' tv' w' hS hle hall => ?_) ops.size _ _ E tv w.drew ⟨by simp, fun q o hq hD => (by
      have hD : (Array.replicate ops.size false).getD q false = true := hD
      rw [hnone] at hD; cases hD), ?_, ?_, fun b hb => .inl (hc.nx b hb)⟩ (.refl E) ?_
  · have hfull : rs.reverse.filter (fun r => listed.getD r.i false) = rs.reverse := List.filter_eq_self.2 fun r hr => by
      obtain ⟨j, hj⟩ := List.getElem?_of_mem hr
      obtain ⟨hji, hjo⟩ := hio j r hj
      rw [hji]
      exact hall j (Array.getElem?_eq_some_iff.1 hjo).1
    have htm := hS.tm
    have hw' := hS.w
    rw [hfull, ← h4] at htm
    rw [hfull, ← h5] at hw'
    refine Goal.step (fun bcs => st_regionEnd) (hr E' _ ics w' ⟨⟨tv', ys, ?_, htm, TodoRel.mono hle g6, fun d hd => hle.dom d (g3 d hd), fun l hl => hle.dom l (g4 l hl)⟩, hc.cs.mono hle, hw', fun b hb => ?_, base_same hc.base⟩)
    · congr 1
      · unfold defsOf
        exact List.map_congr_left fun d hd => by rw [hle.ρ d (g3 d hd)]
      · cases hrn : rnd with
        | none => rfl
        | some l => simp [hle.ρ l (g4 l hrn)]
    · rcases hS.has b hb with h | ⟨j, hj, rfl⟩
      · exact Nat.lt_of_lt_of_le h h3
      · exact (h1 j (by have := getD_lt hj; rw [hS.size, ← hlen] at this; simpa using this)).2
  · rw [hfil]; exact g1
  · rw [hfil]; exact hc.w.drew
  · exact Nat.le_trans List.countP_le_length (by simp)

/-- The machine's run. -/
theorem run_sound (G : Glob) {n : Nat} {c : Conf} (h : EvOK G (c.run G.C n)) : Runs G c := by
  obtain ⟨fr, cs, hp, nx⟩ := c
  exact sx_sound (draw_ok G) n fr cs hp nx h
end Go.Proofs.Am

/- What a run of the abstract machine says of a function; runs of concrete data. -/
namespace Go.Proofs.Am
open Go Go.RowKit
variable {P : Program} {C : Ctx}

def start (C : Ctx) (f : FuncId) (args : List AV) : Option Conf := match findF f C.fs with
  | none => none
  | some fn => match enterA fn f args with
    | none => none
    | some fr => some ⟨fr, [], [], 0⟩

/-- A configuration is good for what is given back, whatever the world. -/
def RnX (ok : CtxOK P C) (f : FuncId) (R : OutA → Prop) (c : Conf) : Prop := ∀ w0 m0, Runs ⟨P, C, ok, f, w0, m0, R⟩ c
/-- A value is given back. -/
def avR (R : AV → Prop) (o : OutA) : Prop := ∃ a, o = .av a ∧ R a
abbrev Rn (ok : CtxOK P C) (f : FuncId) (R : AV → Prop) (c : Conf) : Prop := RnX ok f (avR R) c

def Env.empty (m : Mem) : Env := { ρ := id, dom := fun _ => False, lv := fun _ => False, m := m, vd := fun _ _ => False, hdr := fun _ _ => none }

theorem enter_fn {fn : Func} {f : FuncId} {args : List AV} {fr : AFr} (he : enterA fn f args = some fr) : fr.fn = f := by
  unfold enterA at he
  split at he
  · cases he
  · split at he
    · simp only [Option.some.injEq] at he; subst he; rfl
    · cases he

theorem FunX.of_run (ok : CtxOK P C) {f : FuncId} {args : List AV} {c : Conf} {R : OutA → Prop} (hs : start C f args = some c) (h : RnX ok f R c) : FunX P f (.args args) R := by
  unfold start at hs
  split at hs
  · cases hs
  rename_i fn hf
  split at hs
  · cases hs
  rename_i fr he
  simp only [Option.some.injEq] at hs
  subst hs
  refine ⟨ok.cal _ _ hf, fun m w vs r hm ⟨hargs, hr0⟩ cs => ?_⟩
  have hE : RelL (Env.empty m) args vs.toList := RelCL.rel (E := Env.empty m) hargs
  obtain ⟨hfr, hrn⟩ := enter_rel ok hf he hE
  have hr := (h ⟨w, r⟩ m).runs0
  obtain ⟨v, w', F', h1, h2, h3, h4⟩ := hr (Env.empty m) (Frame.enter P f vs .normal) [] w ⟨hfr, trivial, ⟨Keep.refl _ _ _, hm, fun _ _ => rfl, fun b hb => hb.elim, fun b c hb => hb.elim, fun b x hx => by simp [tget] at hx⟩,
    fun b hb => by rcases hb with hb | hb | ⟨_, hb⟩ <;> exact hb.elim, ⟨enter_fn he, hrn⟩⟩ cs
  exact ⟨.returned v, w', F', ⟨v, rfl, h1⟩, h2, h3, h4⟩

theorem FunX.fun {f : FuncId} {args : List AV} {R : AV → Prop} (h : FunX P f (.args args) (avR R)) : FunR P f args R :=
  ⟨h.1, fun m w vs hm ha => Calls.mono (h.2 m w vs none hm ⟨ha, rfl⟩) fun e w' ⟨v, he, out, m', ⟨a, ho, hR⟩, hk, h1, h2, h3⟩ => ⟨v, he, a, m', hR, hk.below, h1, fun b hb => h2 b ⟨hb, by simp⟩, by subst ho; exact h3⟩⟩

theorem FunR.of_run (ok : CtxOK P C) {f : FuncId} {args : List AV} {c : Conf} {R : AV → Prop} (hs : start C f args = some c) (h : Rn ok f R c) : FunR P f args R := (FunX.of_run ok hs h).fun
theorem Fun.of_run (ok : CtxOK P C) {f : FuncId} {args : List AV} {c : Conf} {r : AV} (hs : start C f args = some c) (h : Rn ok f (· = r) c) : Fun P f args r := FunR.of_run ok hs h

/-- The beginning of a function that is handed a row. -/
def startX (C : Ctx) (f : FuncId) (n sz : Nat) (get : Nat → List AV) (t : TypeId) : Option Conf := match findF f C.fs with
  | none => none
  | some fn => match enterA fn f [.osl 0 0] with
    | none => none
    | some fr => some ⟨fr, [], [(0, .row n sz get t 0)], 1⟩

theorem FunX.of_runX (ok : CtxOK P C) {f : FuncId} {n sz : Nat} {get : Nat → List AV} {t : TypeId} {c : Conf} {R : OutA → Prop} (hs : startX C f n sz get t = some c) (h : RnX ok f R c) : FunX P f (.row n sz get t) R := by
  unfold startX at hs
  split at hs
  · cases hs
  rename_i fn hf
  split at hs
  · cases hs
  rename_i fr he
  simp only [Option.some.injEq] at hs
  subst hs
  refine ⟨ok.cal _ _ hf, fun m w vs r hm ⟨v, hvs, hlen, hrow⟩ cs => ?_⟩
  have hsl : ∃ a n' c, v = .slice a n' c := by
    rcases hrow with ⟨_, ⟨a, e, _⟩, _⟩ | ⟨g, _, _, _, vs, cap, a1, _⟩
    · exact ⟨_, _, _, e⟩
    · exact ⟨_, _, _, a1⟩
  obtain ⟨a, n', cp, rfl⟩ := hsl
  have hw0 : WRel ⟨w, r⟩ m (Env.empty m) [] w := ⟨Keep.refl _ _ _, hm, fun _ _ => rfl, fun b hb => hb.elim, fun b c hb => hb.elim, fun b x hx => by simp [tget] at hx⟩
  have hR : RowRel (Env.empty m) w n sz get t ⟨.slice a n' cp, r.getD 0, sz, n⟩ r := by
    refine ⟨hlen, rfl, rfl, ?_⟩
    rcases hrow with ⟨rfl, ha, h0⟩ | ⟨g, rfl, hlt, hmg, vs, cap, a1, a2, a3, a4, a5⟩
    · exact .inl ⟨rfl, ha, h0⟩
    · exact .inr ⟨g, rfl, rfl, vs, cap, a1, a2, a3, a4, a5⟩
  have hw1 := hw0.adopt (b := 0) (k := 0) (H := ⟨.slice a n' cp, r.getD 0, sz, n⟩) (r := r) (fun h => h.elim) (fun h => h.elim) (fun h => h.elim) (fun g hg => by
    rcases hrow with ⟨e, _⟩ | ⟨g0, e, hlt, hmg, _⟩
    · rw [e] at hg; cases hg
    · rw [e] at hg
      simp only [Option.some.injEq] at hg
      subst hg
      exact ⟨hlt, hmg, fun hgu => hgu.2 e.symm, fun c hc => hc.elim⟩) (.row n sz get t 0) (hR.brel (fun h => h.elim) fun k' _ h => h.elim)
  have hE : RelL ((Env.empty m).rowAt 0 0 ⟨.slice a n' cp, r.getD 0, sz, n⟩ r) [.osl 0 0] vs.toList := by
    rw [hvs]
    refine .cons (.osl 0 0 a n' cp (.inl ⟨rfl, rfl⟩) fun u hu => ?_) (.nil _)
    rw [Env.rowAt_hdr] at hu
    simp only [Option.some.injEq] at hu
    rw [← hu]
  obtain ⟨hfr, hrn⟩ := enter_rel ok hf he hE
  have hr := (h ⟨w, r⟩ m).runs0
  obtain ⟨v, w', F', h1, h2, h3, h4⟩ := hr _ (Frame.enter P f vs .normal) [] w ⟨hfr, trivial, hw1,
    fun b hb => by
      rcases Env.rowAt_has hb with hb | rfl
      · rcases hb with hb | hb | ⟨_, hb⟩ <;> exact hb.elim
      · exact Nat.zero_lt_one, ⟨enter_fn he, hrn⟩⟩ cs
  exact ⟨.returned v, w', F', ⟨v, rfl, h1⟩, h2, h3, h4⟩

variable {ok : CtxOK P C} {f : FuncId} {R : AV → Prop} {c : Conf} {X : OutA → Prop}

theorem RnX.ret {a : AV} {hp : Hp} {r : AV} {s lg : List Nat} (n : Nat) (h : c.run C n = .ret a hp) (hc : (close 6 a).evalL hp [] = some ((r, s), lg)) (hr : X (.av r)) : RnX ok f X c :=
  fun w0 m0 => run_sound ⟨P, C, ok, f, w0, m0, X⟩ (n := n) (by rw [h]; exact .inl ⟨r, s, lg, hc, hr⟩)
theorem RnX.retRow {b k : Nat} {hp : Hp} {m sz : Nat} {get : Nat → List AV} {t : TypeId} (n : Nat) (h : c.run C n = .ret (.osl b k) hp) (hb : tget hp b = some (.row m sz get t k)) (hr : X (.row m sz get t)) : RnX ok f X c :=
  fun w0 m0 => run_sound ⟨P, C, ok, f, w0, m0, X⟩ (n := n) (by rw [h]; exact .inr ⟨b, k, m, sz, get, t, rfl, hb, hr⟩)
theorem RnX.ite {b : Bool} {x y : Conf} (n : Nat) (h : c.run C n = .ite b x y) (h1 : b = true → RnX ok f X x) (h2 : b = false → RnX ok f X y) : RnX ok f X c :=
  fun w0 m0 => run_sound ⟨P, C, ok, f, w0, m0, X⟩ (n := n) (by rw [h]; exact ⟨fun e => h1 e w0 m0, fun e => h2 e w0 m0⟩)
theorem RnX.asr {b : Bool} {x : Conf} (n : Nat) (h : c.run C n = .asr b x) (hb : b = true) (h1 : RnX ok f X x) : RnX ok f X c :=
  fun w0 m0 => run_sound ⟨P, C, ok, f, w0, m0, X⟩ (n := n) (by rw [h]; exact ⟨hb, h1 w0 m0⟩)
theorem RnX.chk {b : Bool} {x : Conf} (n : Nat) (h : c.run C n = .chk b x) (hb : b = true) (h1 : RnX ok f X x) : RnX ok f X c :=
  fun w0 m0 => run_sound ⟨P, C, ok, f, w0, m0, X⟩ (n := n) (by rw [h]; exact ⟨hb, h1 w0 m0⟩)
theorem RnX.call {g : FuncId} {args : List AV} {x : Conf} (n : Nat) (h : c.run C n = .call g args x) (r : AV) (hf : Fun P g args r) (h1 : RnX ok f X (x.give r)) : RnX ok f X c :=
  fun w0 m0 => run_sound ⟨P, C, ok, f, w0, m0, X⟩ (n := n) (by rw [h]; exact ⟨r, hf, h1 w0 m0⟩)
theorem RnX.callx {g : FuncId} {inp : InA} {seen : List Nat} {x : Conf} (n : Nat) (h : c.run C n = .callx g inp seen x) (out : OutA) (hf : FunX P g inp (· = out)) (h1 : RnX ok f X (x.giveX seen out)) : RnX ok f X c :=
  fun w0 m0 => run_sound ⟨P, C, ok, f, w0, m0, X⟩ (n := n) (by rw [h]; exact ⟨out, hf, h1 w0 m0⟩)
theorem RnX.num {z : Int} {x : Nat → Conf} (n : Nat) (h : c.run C n = .num z x) (j : Nat) (hj : z = j) (h1 : RnX ok f X (x j)) : RnX ok f X c :=
  fun w0 m0 => run_sound ⟨P, C, ok, f, w0, m0, X⟩ (n := n) (by rw [h]; exact ⟨j, hj, h1 w0 m0⟩)
theorem RnX.stop {x : Conf} (n : Nat) (h : c.run C n = .stop x) (h1 : RnX ok f X x) : RnX ok f X c :=
  fun w0 m0 => run_sound ⟨P, C, ok, f, w0, m0, X⟩ (n := n) (by rw [h]; exact h1 w0 m0)

theorem Rn.ret {a : AV} {hp : Hp} {r : AV} {s lg : List Nat} (n : Nat) (h : c.run C n = .ret a hp) (hc : (close 6 a).evalL hp [] = some ((r, s), lg)) (hr : R r) : Rn ok f R c := RnX.ret n h hc ⟨r, rfl, hr⟩
theorem Rn.ite {b : Bool} {x y : Conf} (n : Nat) (h : c.run C n = .ite b x y) (h1 : b = true → Rn ok f R x) (h2 : b = false → Rn ok f R y) : Rn ok f R c := RnX.ite n h h1 h2
theorem Rn.asr {b : Bool} {x : Conf} (n : Nat) (h : c.run C n = .asr b x) (hb : b = true) (h1 : Rn ok f R x) : Rn ok f R c := RnX.asr n h hb h1
theorem Rn.chk {b : Bool} {x : Conf} (n : Nat) (h : c.run C n = .chk b x) (hb : b = true) (h1 : Rn ok f R x) : Rn ok f R c := RnX.chk n h hb h1
theorem Rn.call {g : FuncId} {args : List AV} {x : Conf} (n : Nat) (h : c.run C n = .call g args x) (r : AV) (hf : Fun P g args r) (h1 : Rn ok f R (x.give r)) : Rn ok f R c := RnX.call n h r hf h1
theorem Rn.callx {g : FuncId} {inp : InA} {seen : List Nat} {x : Conf} (n : Nat) (h : c.run C n = .callx g inp seen x) (out : OutA) (hf : FunX P g inp (· = out)) (h1 : Rn ok f R (x.giveX seen out)) : Rn ok f R c := RnX.callx n h out hf h1
theorem Rn.num {z : Int} {x : Nat → Conf} (n : Nat) (h : c.run C n = .num z x) (j : Nat) (hj : z = j) (h1 : Rn ok f R (x j)) : Rn ok f R c := RnX.num n h j hj h1
theorem Rn.stop {x : Conf} (n : Nat) (h : c.run C n = .stop x) (h1 : Rn ok f R x) : Rn ok f R c := RnX.stop n h h1

/-- A value, its numbers and bools reckoned out. -/
def lit : Nat → AV → AV
  | 0, a => a
  | d + 1, a => match a with
    | .v x => (match x with
      | .int k z => forceI z fun z => .n k z
      | .bool b => (match b with | true => .t true | false => .t false)
      | x => .v x)
    | .agg cs => .agg (cs.map (lit d))
    | .tup cs => .tup (cs.map (lit d))
    | a => a

theorem lit_to {m : Mem} : ∀ (d : Nat) {a : AV} {v : Value}, RelC m a v → RelC m (lit d a) v
  | 0, a, v, h => h
  | d + 1, a, v, h => by
    cases h with
    | v =>
      simp only [lit]
      split
      · rw [forceI_eq]; exact .n _ _
      · split <;> exact .t _
      · exact .v _
    | agg cs vs hl hr => exact .agg _ vs (by simpa using hl) fun i hi hj => by simpa using lit_to d (hr i (by simpa using hi) hj)
    | tup cs vs hl hr => exact .tup _ vs (by simpa using hl) fun i hi hj => by simpa using lit_to d (hr i (by simpa using hi) hj)
    | n k z => exact .n k z
    | t b => exact .t b
    | pat cs off bk o u h hr => exact .pat cs off bk o u h hr
    | fn f caps vs hl hr => exact .fn f caps vs hl hr
    | rsl0 sz get a cap => exact .rsl0 sz get a cap
    | rsl n sz get bk o cap u hc hl h h1 hr => exact .rsl n sz get bk o cap u hc hl h h1 hr

theorem Fun.lit_args {f : FuncId} {args : List AV} {r : AV} (d : Nat) (h : Fun P f (args.map (lit d)) r) : Fun P f args r :=
  ⟨h.1, fun m w vs hm ha => h.2 m w vs hm ⟨by simpa using ha.1, fun i hi hj => by simpa using lit_to d (ha.2 i (by simpa using hi) hj)⟩⟩
theorem Fun.lit_res {f : FuncId} {args : List AV} {r : AV} (d : Nat) (h : Fun P f args r) : Fun P f args (lit d r) :=
  ⟨h.1, fun m w vs hm ha => Calls.mono (h.2 m w vs hm ha) fun e w' ⟨v, he, r', m', hr, h1, h2, h3, h4⟩ => ⟨v, he, lit d r', m', by rw [hr], h1, h2, h3, lit_to d h4⟩⟩

/-- What is already known of functions. -/
def OrcOK (P : Program) (orc : FuncId → List AV → Option AV) : Prop := ∀ f args r, orc f args = some r → Fun P f args r

/-- A run to the end, of concrete data; functions that are called are run likewise, or known. -/
def exec (C : Ctx) (orc : FuncId → List AV → Option AV) (n : Nat) : Nat → Conf → Option AV
  | 0, _ => none
  | m + 1, c => match c.run C n with
    | .ret a hp => (match (close 6 a).evalL hp [] with | some ((r, _), _) => some (lit 6 r) | none => none)
    | .ite b x y => (match b with | true => exec C orc n m x | false => exec C orc n m y)
    | .asr b x => (match b with | true => exec C orc n m x | false => none)
    | .chk b x => (match b with | true => exec C orc n m x | false => none)
    | .call g args x => (match orc g args with
      | some r => exec C orc n m (x.give (lit 6 r))
      | none => match start C g (args.map (lit 6)) with
        | none => none
        | some c0 => match exec C orc n m c0 with
          | none => none
          | some r => exec C orc n m (x.give r))
    | .num z x => (match z with
      | .ofNat j => (match j with | 0 => exec C orc n m (x 0) | q + 1 => exec C orc n m (x (q + 1)))
      | .negSucc _ => none)
    | .stop x => exec C orc n m x
    | .callx .. => none
    | .fail => none

theorem exec_sound {orc : FuncId → List AV → Option AV} (ho : OrcOK P orc) {n : Nat} : ∀ {m : Nat} {c : Conf} {r : AV} {f : FuncId}, exec C orc n m c = some r → ∃ r', r = lit 6 r' ∧ Rn ok f (· = r') c
  | 0, c, r, f, h => by simp [exec] at h
  | m + 1, c, r, f, h => by
    simp only [exec] at h
    split at h
    · rename_i a hp hr
      split at h
      · rename_i r' s lg hc
        simp only [Option.some.injEq] at h
        exact ⟨r', h.symm, Rn.ret n hr hc rfl⟩
      · cases h
    · rename_i b x y hr
      split at h
      · obtain ⟨r', h1, h2⟩ := exec_sound ho (f := f) h; exact ⟨r', h1, Rn.ite n hr (fun _ => h2) (fun e => by cases e)⟩
      · obtain ⟨r', h1, h2⟩ := exec_sound ho (f := f) h; exact ⟨r', h1, Rn.ite n hr (fun e => by cases e) (fun _ => h2)⟩
    · rename_i b x hr
      split at h
      · obtain ⟨r', h1, h2⟩ := exec_sound ho (f := f) h; exact ⟨r', h1, Rn.asr n hr rfl h2⟩
      · cases h
    · rename_i b x hr
      split at h
      · obtain ⟨r', h1, h2⟩ := exec_sound ho (f := f) h; exact ⟨r', h1, Rn.chk n hr rfl h2⟩
      · cases h
    · rename_i g args x hr
      split at h
      · rename_i r0 hor
        obtain ⟨r', h1, h2⟩ := exec_sound ho (f := f) h
        exact ⟨r', h1, Rn.call n hr _ ((ho _ _ _ hor).lit_res 6) h2⟩
      · split at h
        · cases h
        · rename_i c0 hs
          split at h
          · cases h
          · rename_i r0 he
            obtain ⟨r1, rfl, h3⟩ := exec_sound ho (f := g) he
            obtain ⟨r', h1, h2⟩ := exec_sound ho (f := f) h
            exact ⟨r', h1, Rn.call n hr _ (((Fun.of_run ok hs h3).lit_args 6).lit_res 6) h2⟩
    · rename_i z x hr
      split at h
      · split at h
        · obtain ⟨r', h1, h2⟩ := exec_sound ho (f := f) h; exact ⟨r', h1, Rn.num n hr 0 rfl h2⟩
        · rename_i q; obtain ⟨r', h1, h2⟩ := exec_sound ho (f := f) h; exact ⟨r', h1, Rn.num n hr (q + 1) rfl h2⟩
      · cases h
    · rename_i x hr
      obtain ⟨r', h1, h2⟩ := exec_sound ho (f := f) h; exact ⟨r', h1, Rn.stop n hr h2⟩
    · cases h
    · cases h

def execF (C : Ctx) (orc : FuncId → List AV → Option AV) (n m : Nat) (f : FuncId) (args : List AV) : Option AV := match start C f args with
  | none => none
  | some c => exec C orc n m c

/-- What a function returns for concrete arguments, by running it. -/
theorem Fun.of_exec (ok : CtxOK P C) {orc : FuncId → List AV → Option AV} (ho : OrcOK P orc) {f : FuncId} {args : List AV} {r : AV} (n m : Nat) (h : execF C orc n m f args = some r) : Fun P f args r := by
  unfold execF at h
  split at h
  · cases h
  · rename_i c hs
    obtain ⟨r', rfl, h2⟩ := exec_sound ho (f := f) (ok := ok) h
    exact (Fun.of_run ok hs h2).lit_res 6

def noOrc : FuncId → List AV → Option AV := fun _ _ => none
theorem noOrc_ok : OrcOK P noOrc := fun _ _ _ h => by cases h

/-! ## Contexts -/

def FsOK (P : Program) : List (Nat × Func) → Prop
  | [] => True
  | (k, f) :: r => P.funcs[k]? = some f ∧ (∀ (args : Array Value) (w : World), (callFunc k args).run P w = .ok (.enter k args) w) ∧ FsOK P r

theorem FsOK.find {P : Program} : ∀ {fs : List (Nat × Func)}, FsOK P fs → ∀ f fn, findF f fs = some fn → P.funcs[f]? = some fn ∧ Callable P f
  | [], _, f, fn, h => by simp [findF, tget] at h
  | (k, g) :: r, hf, f, fn, h => by
    unfold findF at h
    rw [tget_cons] at h
    by_cases e : k = f
    · subst e
      rw [if_pos rfl] at h
      simp only [Option.some.injEq] at h
      subst h
      exact ⟨hf.1, hf.2.1⟩
    · rw [if_neg e] at h
      exact FsOK.find hf.2.2 f fn h

def inlIn (inl : List Nat) (fs : List (Nat × Func)) : Bool := inl.all fun f => (findF f fs).isSome

theorem info_of {P : Program} {t : Nat} {i : TypeInfo} (h : P.types[t]? = some i) : P.info? t = some i := by
  unfold Tables.info?
  rw [if_pos (Array.getElem?_eq_some_iff.1 h).1]
  exact h

theorem tiOf {P : Program} {t : Nat} {d : TypeDesc} {i : TypeInfo} {z : Value} (hu : P.underlying t = some d) (hi : P.types[t]? = some i) (hz : i.zero = some z) :
    TIok P t ⟨d, i.size, i.bytes, z.cells.toList⟩ := ⟨hu, i, info_of hi, rfl, rfl, z, hz, rfl⟩

def BTok (P : Program) : BT → Prop
  | .l => True
  | .n k x a b => TIok P k x ∧ BTok P a ∧ BTok P b

theorem BTok.find {P : Program} : ∀ {b : BT}, BTok P b → ∀ t ti, b.find t = some ti → TIok P t ti
  | .l, _, t, ti, h => by simp [BT.find] at h
  | .n k x a b, hb, t, ti, h => by
    simp only [BT.find] at h
    split at h
    · rename_i he
      simp only [Option.some.injEq] at h
      subst h
      rw [beq_t he]
      exact hb.1
    · split at h
      · exact hb.2.1.find t ti h
      · exact hb.2.2.find t ti h

def EqOK (P : Program) : List (Nat × List CK) → Prop
  | [] => True
  | (t, sh) :: r => AggEq P t sh ∧ EqOK P r

theorem EqOK.find {P : Program} : ∀ {l : List (Nat × List CK)}, EqOK P l → ∀ t sh, tget l t = some sh → AggEq P t sh
  | [], _, t, sh, h => by simp [tget] at h
  | (k, s) :: r, hl, t, sh, h => by
    rw [tget_cons] at h
    by_cases e : k = t
    · subst e
      rw [if_pos rfl] at h
      simp only [Option.some.injEq] at h
      subst h
      exact hl.1
    · rw [if_neg e] at h
      exact EqOK.find hl.2 t sh h

theorem mkCtx {P : Program} {tt : BT} {eqt : List (Nat × List CK)} {inl own : List Nat} {fs : List (Nat × Func)} (ht : BTok P tt) (he : EqOK P eqt) (hm : P.follows .mixedOrders = true) (hf : FsOK P fs) (hi : inlIn inl fs = true) :
    CtxOK P { tt := tt, eqt := eqt, inl := inl, fs := fs, own := own } where
  tt := ht.find
  eqt := he.find
  fs := fun f fn h => (hf.find f fn h).1
  inl := fun f h => by
    have : f ∈ inl := memF_mem.1 h
    have := List.all_eq_true.1 hi f this
    cases hq : findF f fs with
    | none => rw [hq] at this; cases this
    | some fn => exact (hf.find f fn hq).2
  cal := fun f fn h => (hf.find f fn h).2
  mixed := hm
end Go.Proofs.Am

/- Weakening of configurations, for loops: what is dead is dropped, numbers of blocks begin again. -/
namespace Go.Proofs.Am
open Go Go.RowKit

/-- The environment below a number. -/
def Env.cut (E : Env) (n : Nat) : Env := { ρ := E.ρ, dom := fun b => E.dom b ∧ b < n, lv := fun b => E.lv b ∧ b < n, m := E.m, vd := fun b k => E.vd b k ∧ b < n, hdr := E.hdr }

/-- Does a value know blocks below a number alone? -/
def AV.low (n : Nat) : Nat → AV → Bool
  | 0, _ => false
  | d + 1, a => match a with
    | .v _ => true
    | .n .. => true
    | .t _ => true
    | .ptr b _ => Nat.blt b n
    | .pat .. => true
    | .fn f caps => (match f with | .func _ => true | .yield l => Nat.blt l n | _ => false) && caps.all (AV.low n d)
    | .agg cs => cs.all (AV.low n d)
    | .tup cs => cs.all (AV.low n d)
    | .rsl .. => true
    | .asl b _ _ _ => Nat.blt b n
    | .osl b _ => Nat.blt b n
    | .oel b _ _ _ => Nat.blt b n
    | .oss b _ _ => Nat.blt b n

/-- What becomes of a value when a configuration is weakened. -/
def AvTo (n : Nat) (a a' : AV) : Prop := ∀ E v, Rel E a v → Rel (E.cut n) a' v

theorem AvTo.rel {n : Nat} : ∀ (d : Nat) {a : AV} {E : Env} {v : Value}, a.low n d = true → Rel E a v → Rel (E.cut n) a v
  | 0, a, E, v, h, _ => by simp [AV.low] at h
  | d + 1, a, E, v, h, r => by
    have goL : ∀ (cs : List AV) (vs : List Value), RelL E cs vs → cs.all (AV.low n d) = true → RelL (E.cut n) cs vs := fun cs vs hr hc =>
      ⟨hr.1, fun i hi hj => AvTo.rel d (by rw [List.all_eq_true] at hc; exact hc _ (List.getElem_mem hi)) (hr.2 i hi hj)⟩
    cases a with
    | v y => obtain rfl := r.v_inv; exact .v _
    | n k z => obtain rfl := r.n_inv; exact .n k z
    | t b => obtain rfl := r.t_inv; exact .t b
    | ptr b off =>
      simp only [AV.low] at h
      obtain ⟨hd, rfl⟩ := r.ptr_inv
      exact Rel.ptr (E := E.cut n) b off ⟨hd, blt_lt h⟩
    | pat cs off => exact .c _ _ r.pat_inv
    | rsl m sz get => exact .c _ _ r.rsl_inv
    | fn f caps =>
      simp only [AV.low, Bool.and_eq_true] at h
      obtain ⟨f', vs, rfl, hf, hc⟩ := r.fn_inv
      refine RelL.fn ?_ (goL _ _ hc h.2)
      cases f with
      | func g => exact hf
      | yield l => exact ⟨⟨hf.1, blt_lt h.1⟩, hf.2⟩
      | _ => exact hf.elim
    | agg cs => simp only [AV.low] at h; obtain ⟨vs, rfl, hc⟩ := r.agg_inv; exact (goL _ _ hc h).agg
    | tup cs => simp only [AV.low] at h; obtain ⟨vs, rfl, hc⟩ := r.tup_inv; exact (goL _ _ hc h).tup
    | asl b off m sz =>
      simp only [AV.low] at h
      cases r with
      | c _ _ h => cases h
      | asl _ _ _ _ hd => exact Rel.asl (E := E.cut n) b off m sz ⟨hd, blt_lt h⟩
    | osl b k =>
      simp only [AV.low] at h
      cases r with
      | c _ _ h => cases h
      | osl _ _ a m cap hd hx => exact Rel.osl (E := E.cut n) b k a m cap ⟨hd, blt_lt h⟩ hx
    | oel b k i off =>
      simp only [AV.low] at h
      cases r with
      | c _ _ h => cases h
      | oel _ _ _ _ p hd hx => exact Rel.oel (E := E.cut n) b k i off p ⟨hd, blt_lt h⟩ hx
    | oss b k lo =>
      simp only [AV.low] at h
      cases r with
      | c _ _ h => cases h
      | oss _ _ _ a m cap hd hx => exact Rel.oss (E := E.cut n) b k lo a m cap ⟨hd, blt_lt h⟩ hx

theorem AvTo.refl {n : Nat} {a : AV} (h : a.low n 8 = true) : AvTo n a a := fun E v r => AvTo.rel 8 h r
theorem AvTo.int {n : Nat} (k : IntKind) (z : Int) : AvTo n (.n k z) (.v (.int k z)) := fun E v r => by obtain rfl := r.n_inv; exact .v _
theorem AvTo.bool {n : Nat} (b : Bool) : AvTo n (.t b) (.v (.bool b)) := fun E v r => by obtain rfl := r.t_inv; exact .v _
theorem AvTo.nil {n : Nat} (sz : Nat) (get : Nat → List AV) : AvTo n (.v (.slice none 0 0)) (.rsl 0 sz get) := fun E v r => by obtain rfl := r.v_inv; exact .c _ _ (.rsl0 sz get none 0)
theorem AvTo.eq {n : Nat} {a a' : AV} (h : a.low n 8 = true) (e : a = a') : AvTo n a a' := e ▸ AvTo.refl h

def TmTo (n : Nat) (tm tm' : Tm) : Prop := ∀ t a', tget tm' t = some a' → ∃ a, tget tm t = some a ∧ AvTo n a a'
theorem TmTo.nil {n : Nat} {tm : Tm} : TmTo n tm [] := fun t a h => by simp [tget] at h
theorem TmTo.cons {n : Nat} {tm tm' : Tm} {t : Nat} {a a' : AV} (h : tget tm t = some a) (ha : AvTo n a a') (hr : TmTo n tm tm') : TmTo n tm ((t, a') :: tm') := fun s b hs => by
  rw [tget_cons] at hs
  by_cases e : t = s
  · subst e
    rw [if_pos rfl] at hs
    simp only [Option.some.injEq] at hs
    subst hs
    exact ⟨a, h, ha⟩
  · rw [if_neg e] at hs
    exact hr s b hs
def tmBelow (n : Nat) (tm : Tm) : Bool := tm.all fun p => p.2.low n 8
theorem tget_mem {α : Type} : ∀ {l : List (Nat × α)} {t : Nat} {a : α}, tget l t = some a → (t, a) ∈ l
  | [], t, a, h => by simp [tget] at h
  | (k, b) :: l, t, a, h => by
    rw [tget_cons] at h
    by_cases e : k = t
    · subst e
      rw [if_pos rfl] at h
      simp only [Option.some.injEq] at h
      subst h
      exact List.mem_cons_self ..
    · rw [if_neg e] at h
      exact List.mem_cons_of_mem _ (tget_mem h)
theorem TmTo.refl {n : Nat} {tm : Tm} (h : tmBelow n tm = true) : TmTo n tm tm := fun t a ha => ⟨a, ha, AvTo.refl (by
  unfold tmBelow at h
  rw [List.all_eq_true] at h
  exact h _ (tget_mem ha))⟩

theorem TmRel.to {n : Nat} {tm tm' : Tm} {E : Env} {nt : Nat} {tv : Array Value} (h : TmTo n tm tm') (r : TmRel E tm nt tv) : TmRel (E.cut n) tm' nt tv :=
  ⟨r.1, fun t a' ht => let ⟨a, ha, hto⟩ := h t a' ht; let ⟨x, hx, hr⟩ := r.2 t a ha; ⟨x, hx, hto E x hr⟩⟩

/-- What becomes of a block. -/
def AbTo (n : Nat) (b : Nat) (x x' : AB) : Prop := ∀ E w, BRel E w b x → BRel (E.cut n) w b x'

theorem AbTo.flat {n b : Nat} {cs cs' : List AV} {t : TypeId} (hb : Nat.blt b n = true) (hl : cs.length = cs'.length) (h : ∀ i (hi : i < cs.length) (hj : i < cs'.length), AvTo n cs[i] cs'[i]) : AbTo n b (.flat cs t) (.flat cs' t) :=
  fun E w ⟨h1, h2, vs, h3, h4⟩ => ⟨⟨h1, blt_lt hb⟩, ⟨h2, blt_lt hb⟩, vs, h3, ⟨hl ▸ h4.1, fun i hi hj => h i (hl ▸ hi) hi E _ (h4.2 i (hl ▸ hi) hj)⟩⟩
theorem AbTo.flat' {n b : Nat} {cs : List AV} {t : TypeId} (hb : Nat.blt b n = true) (h : cs.all (AV.low n 8) = true) : AbTo n b (.flat cs t) (.flat cs t) :=
  AbTo.flat hb rfl fun i hi _ => AvTo.refl (List.all_eq_true.1 h _ (List.getElem_mem hi))
theorem AbTo.row {n b : Nat} {m sz : Nat} {get get' : Nat → List AV} {t : TypeId} {k : Nat} (hb : Nat.blt b n = true) (h : ∀ i, i < m → get' i = get i) : AbTo n b (.row m sz get t k) (.row m sz get' t k) :=
  fun E w ⟨h1, h2, h3, h4, u, h5, h6, h7, h8⟩ => ⟨⟨h1, blt_lt hb⟩, fun k' hk hv => h2 k' hk hv.1, fun hd => h3 hd.1, fun i hi => by rw [h i hi]; exact h4 i hi, u, h5, h6, h7, by
    rcases h8 with h8 | ⟨a1, a2, vs, cap, a3, a4, a5, a6, a7⟩
    · exact .inl h8
    · exact .inr ⟨⟨a1, blt_lt hb⟩, a2, vs, cap, a3, a4, a5, a6, fun i hi j hj => by
        have e := h i hi
        have hj' : j < (get i).length := by rw [← e]; exact hj
        obtain ⟨x, hx, hx1, hr⟩ := a7 i hi j hj'
        have e2 : (get' i)[j] = (get i)[j] := by simp only [e]
        exact ⟨x, hx, hx1, by rw [e2]; exact hr⟩⟩⟩
theorem AbTo.row_eq {n b : Nat} {m m' sz : Nat} {get get' : Nat → List AV} {t : TypeId} {k k' : Nat} (hb : Nat.blt b n = true) (hm : m = m') (hk : k = k') (h : ∀ i, i < m → get' i = get i) : AbTo n b (.row m sz get t k) (.row m' sz get' t k') := by
  subst hm; subst hk; exact AbTo.row hb h
theorem AbTo.loop {n b : Nat} {st : LoopState} {pd : Option Code} {f : FuncId} {tm tm' : Tm} {nt : Nat} {ps : List Tmp} {x y : Code} {d : Nat} (hb : Nat.blt b n = true) (hd : Nat.blt d n = true) (h : TmTo n tm tm') :
    AbTo n b (.loop st pd f tm nt ps x y d) (.loop st pd f tm' nt ps x y d) :=
  fun E w ⟨h1, h2, h3, tv, h4, h5⟩ => ⟨⟨h1, blt_lt hb⟩, ⟨h2, blt_lt hb⟩, ⟨h3, blt_lt hd⟩, tv, h4.to h, h5⟩
theorem AbTo.dfr {n b : Nat} {q : Bool} (hb : Nat.blt b n = true) : AbTo n b (.dfr q) (.dfr q) :=
  fun E w ⟨h1, h2, h3⟩ => ⟨⟨h1, blt_lt hb⟩, ⟨h2, blt_lt hb⟩, h3⟩

def HpTo (n : Nat) (hp hp' : Hp) : Prop := ∀ b x', tget hp' b = some x' → ∃ x, tget hp b = some x ∧ AbTo n b x x'
theorem HpTo.nil {n : Nat} {hp : Hp} : HpTo n hp [] := fun t a h => by simp [tget] at h
theorem HpTo.cons {n : Nat} {hp hp' : Hp} {b : Nat} {x x' : AB} (h : tget hp b = some x) (ha : AbTo n b x x') (hr : HpTo n hp hp') : HpTo n hp ((b, x') :: hp') := fun s y hs => by
  rw [tget_cons] at hs
  by_cases e : b = s
  · subst e
    rw [if_pos rfl] at hs
    simp only [Option.some.injEq] at hs
    subst hs
    exact ⟨x, h, ha⟩
  · rw [if_neg e] at hs
    exact hr s y hs

def itBelow (n : Nat) : AIt → Bool
  | .inRange l => Nat.blt l n
  | .endRange l => Nat.blt l n
  | _ => true
def frBelow (n : Nat) (defs : List Nat) (rnd : Option Nat) (todo : List AIt) : Bool :=
  defs.all (fun d => Nat.blt d n) && ((match rnd with | some l => Nat.blt l n | none => true) && todo.all (itBelow n))

structure FrTo (n : Nat) (a a' : AFr) : Prop where
  fn : a.fn = a'.fn
  nt : a.nt = a'.nt
  todo : a.todo = a'.todo
  defs : a.defs = a'.defs
  round : a.round = a'.round
  tm : TmTo n a.tm a'.tm
  below : frBelow n a.defs a.round a.todo = true

theorem TodoRel.cut {E : Env} {n : Nat} : ∀ {l : List AIt} {xs : List Item}, l.all (itBelow n) = true → TodoRel E l xs → TodoRel (E.cut n) l xs
  | [], [], _, _ => trivial
  | a :: l, x :: xs, h, r => by
    simp only [List.all_cons, Bool.and_eq_true] at h
    refine ⟨?_, TodoRel.cut h.2 r.2⟩
    have r1 := r.1
    cases a with
    | inRange l => exact ⟨⟨r1.1, blt_lt h.1⟩, r1.2⟩
    | endRange l => exact ⟨⟨r1.1, blt_lt h.1⟩, r1.2⟩
    | code c => exact r1
    | inBlock i => exact r1
    | inLoop b => exact r1
    | inScope b => exact r1
    | inReg ops rest => exact r1
    | begin => exact r1
    | _ => exact r1.elim
  | [], _ :: _, _, r => r.elim
  | _ :: _, [], _, r => r.elim

theorem FrRel.to {E : Env} {n : Nat} {a a' : AFr} {F : Frame} (h : FrTo n a a') (r : FrRel E a F) : FrRel (E.cut n) a' F := by
  obtain ⟨tv, todo, rfl, h1, h2, h3, h4⟩ := r
  have hb := h.below
  simp only [frBelow, Bool.and_eq_true] at hb
  obtain ⟨f, tm, nt, td, defs, rnd⟩ := a
  obtain ⟨f', tm', nt', td', defs', rnd'⟩ := a'
  obtain ⟨e1, e2, e3, e4, e5, htm, _⟩ := h
  simp only at e1 e2 e3 e4 e5 htm
  subst e1; subst e2; subst e3; subst e4; subst e5
  refine ⟨tv, todo, rfl, h1.to htm, TodoRel.cut hb.2.2 h2, fun d hd => ⟨h3 d hd, ?_⟩, fun l hl => ⟨h4 l hl, ?_⟩⟩
  · exact blt_lt (List.all_eq_true.1 hb.1 d hd)
  · have := hb.2.1
    simp only at hl
    subst hl
    exact blt_lt this

def FrsTo (n : Nat) : List AFr → List AFr → Prop
  | [], [] => True
  | a :: r, a' :: r' => FrTo n a a' ∧ FrsTo n r r'
  | _, _ => False
theorem FrsRel.to {E : Env} {n : Nat} : ∀ {l l' : List AFr} {Fs : List Frame}, FrsTo n l l' → FrsRel E l Fs → FrsRel (E.cut n) l' Fs
  | [], [], [], _, _ => trivial
  | a :: l, a' :: l', F :: Fs, h, r => ⟨r.1.to h.1, FrsRel.to h.2 r.2⟩
  | [], [], _ :: _, _, r => r.elim
  | _ :: _, _ :: _, [], _, r => r.elim
  | [], _ :: _, _, h, _ => h.elim
  | _ :: _, [], _, h, _ => h.elim

theorem FrTo.refl {n : Nat} {a : AFr} (ht : tmBelow n a.tm = true) (hb : frBelow n a.defs a.round a.todo = true) : FrTo n a a := ⟨rfl, rfl, rfl, rfl, rfl, TmTo.refl ht, hb⟩
def frsBelow (n : Nat) (l : List AFr) : Bool := l.all fun a => tmBelow n a.tm && frBelow n a.defs a.round a.todo
theorem FrsTo.refl {n : Nat} : ∀ {l : List AFr}, frsBelow n l = true → FrsTo n l l
  | [], _ => trivial
  | a :: l, h => by
    simp only [frsBelow, List.all_cons, Bool.and_eq_true] at h
    exact ⟨FrTo.refl h.1.1 h.1.2, FrsTo.refl h.2⟩

structure CfTo (c c' : Conf) : Prop where
  fr : FrTo c'.nx c.fr c'.fr
  cs : FrsTo c'.nx c.cs c'.cs
  hp : HpTo c'.nx c.hp c'.hp

theorem baseOK_to {f0 : FuncId} {n : Nat} : ∀ {l l' : List AFr} {a a' : AFr}, FrTo n a a' → FrsTo n l l' → baseOK f0 a l → baseOK f0 a' l'
  | [], [], a, a', h, _, hb => ⟨h.fn ▸ hb.1, h.round ▸ hb.2⟩
  | b :: l, b' :: l', a, a', _, hl, hb => baseOK_to (l := l) (l' := l') hl.1 hl.2 hb
  | [], _ :: _, _, _, _, h, _ => h.elim
  | _ :: _, [], _, _, _, h, _ => h.elim

theorem Runs0.weaken {G : Glob} {c c' : Conf} (h : CfTo c c') (hr : Runs0 G c') : Runs0 G c := by
  intro E F cs w hc
  refine hr (E.cut c'.nx) F cs w ⟨hc.fr.to h.fr, hc.cs.to h.cs, ⟨hc.w.keep, hc.w.mem, hc.w.mem0, fun b hb => hc.w.own b hb.1, fun b d hb hd e => hc.w.inj b d hb.1 hd.1 e, fun b x' hx => ?_⟩, fun b hb => ?_, baseOK_to h.fr h.cs hc.base⟩
  · obtain ⟨x, hx1, hto⟩ := h.hp b x' hx
    exact hto E w (hc.w.blk b x hx1)
  · rcases hb with hb | hb | ⟨k, hb⟩ <;> exact hb.2

/-- A configuration at which a loop begins. -/
def isLoop : Conf → Prop
  | ⟨⟨_, _, _, .code _ :: .inLoop _ :: _, _, _⟩, _, _, _⟩ => True
  | _ => False

/-- A configuration with other temporaries and other blocks. -/
def Conf.put (c : Conf) (tm : Tm) (hp : Hp) (nx : Nat) : Conf := ⟨⟨c.fr.fn, tm, c.fr.nt, c.fr.todo, c.fr.defs, c.fr.round⟩, c.cs, hp, nx⟩

theorem Rn.weaken {P : Program} {C : Ctx} {ok : CtxOK P C} {f : FuncId} {R : AV → Prop} {c c' : Conf} (hl : isLoop c) (h : CfTo c c') (hr : Rn ok f R c') : Rn ok f R c := fun w0 m0 => by
  have h1 := Runs0.weaken h (hr w0 m0).runs0
  obtain ⟨⟨g, tm, nt, todo, defs, rnd⟩, cs, hp, nx⟩ := c
  match todo, hl with
  | .code _ :: .inLoop _ :: _, _ => exact h1

/-- A loop: a family of configurations, each one leading to a smaller one or to the end. -/
theorem Rn.loop {P : Program} {C : Ctx} {ok : CtxOK P C} {f : FuncId} {R : AV → Prop} {c : Conf} {α : Type} (hl : isLoop c) (tm : α → Tm) (hp : α → Hp) (nx : Nat) (Inv : α → Prop) (μ : α → Nat) (x0 : α)
    (hI : Inv x0) (h0 : CfTo c (c.put (tm x0) (hp x0) nx))
    (step : ∀ x, Inv x → (∀ y, μ y < μ x → Inv y → Rn ok f R (c.put (tm y) (hp y) nx)) → Rn ok f R (c.put (tm x) (hp x) nx)) : Rn ok f R c := by
  refine Rn.weaken hl h0 ?_
  have : ∀ n x, μ x = n → Inv x → Rn ok f R (c.put (tm x) (hp x) nx) := by
    intro n
    induction n using Nat.strongRecOn with
    | ind n ih =>
      rintro x rfl hx
      exact step x hx fun y hy hIy => ih (μ y) hy y rfl hIy
  exact this _ x0 rfl hI
end Go.Proofs.Am

/- Loops whose callers' temporaries are told anew. -/
namespace Go.Proofs.Am
open Go Go.RowKit

/-- Frames with other temporaries. -/
def putTs : List Tm → List AFr → List AFr
  | [], cs => cs
  | t :: ts, cs => match cs with
    | [] => []
    | ⟨f, _, nt, todo, defs, rnd⟩ :: cs => ⟨f, t, nt, todo, defs, rnd⟩ :: putTs ts cs
abbrev putCs (cs : List AFr) (ts : List Tm) : List AFr := putTs ts cs

theorem Rn.loop2 {P : Program} {C : Ctx} {ok : CtxOK P C} {f : FuncId} {R : AV → Prop} {fn : FuncId} {nt : Nat} {b : Code} {k : List AIt} {defs : List Nat} {rnd : Option Nat} {cs : List AFr} {tm0 : Tm} {hp0 : Hp} {nx0 : Nat}
    {α : Type} (tms : α → List Tm) (tm : α → Tm) (hp : α → Hp) (nx : Nat) (Inv : α → Prop) (μ : α → Nat) (x0 : α) (hI : Inv x0)
    (h0 : CfTo ⟨⟨fn, tm0, nt, .code b :: .inLoop b :: k, defs, rnd⟩, cs, hp0, nx0⟩ ⟨⟨fn, tm x0, nt, .code b :: .inLoop b :: k, defs, rnd⟩, putCs cs (tms x0), hp x0, nx⟩)
    (step : ∀ x, Inv x → (∀ y, μ y < μ x → Inv y → Rn ok f R ⟨⟨fn, tm y, nt, .code b :: .inLoop b :: k, defs, rnd⟩, putCs cs (tms y), hp y, nx⟩) →
      Rn ok f R ⟨⟨fn, tm x, nt, .code b :: .inLoop b :: k, defs, rnd⟩, putCs cs (tms x), hp x, nx⟩) :
    Rn ok f R ⟨⟨fn, tm0, nt, .code b :: .inLoop b :: k, defs, rnd⟩, cs, hp0, nx0⟩ := by
  refine Rn.weaken trivial h0 ?_
  have : ∀ n x, μ x = n → Inv x → Rn ok f R ⟨⟨fn, tm x, nt, .code b :: .inLoop b :: k, defs, rnd⟩, putCs cs (tms x), hp x, nx⟩ := by
    intro n
    induction n using Nat.strongRecOn with
    | ind n ih =>
      rintro x rfl hx
      exact step x hx fun y hy hIy => ih (μ y) hy y rfl hIy
  exact this _ x0 rfl hI

/-- The same where nothing is repeated: what is dead is dropped. -/
theorem Rn.tidy {P : Program} {C : Ctx} {ok : CtxOK P C} {f : FuncId} {R : AV → Prop} {fn : FuncId} {nt : Nat} {b : Code} {k : List AIt} {defs : List Nat} {rnd : Option Nat} {cs : List AFr} {tm0 : Tm} {hp0 : Hp} {nx0 : Nat}
    (tms : List Tm) (tm : Tm) (hp : Hp) (nx : Nat)
    (h0 : CfTo ⟨⟨fn, tm0, nt, .code b :: .inLoop b :: k, defs, rnd⟩, cs, hp0, nx0⟩ ⟨⟨fn, tm, nt, .code b :: .inLoop b :: k, defs, rnd⟩, putCs cs tms, hp, nx⟩)
    (h1 : Rn ok f R ⟨⟨fn, tm, nt, .code b :: .inLoop b :: k, defs, rnd⟩, putCs cs tms, hp, nx⟩) :
    Rn ok f R ⟨⟨fn, tm0, nt, .code b :: .inLoop b :: k, defs, rnd⟩, cs, hp0, nx0⟩ := Rn.weaken trivial h0 h1

/-! The same for functions that may own memory. -/
theorem RnX.weaken {P : Program} {C : Ctx} {ok : CtxOK P C} {f : FuncId} {X : OutA → Prop} {c c' : Conf} (hl : isLoop c) (h : CfTo c c') (hr : RnX ok f X c') : RnX ok f X c := fun w0 m0 => by
  have h1 := Runs0.weaken h (hr w0 m0).runs0
  obtain ⟨⟨g, tm, nt, todo, defs, rnd⟩, cs, hp, nx⟩ := c
  match todo, hl with
  | .code _ :: .inLoop _ :: _, _ => exact h1

theorem RnX.loop2 {P : Program} {C : Ctx} {ok : CtxOK P C} {f : FuncId} {X : OutA → Prop} {fn : FuncId} {nt : Nat} {b : Code} {k : List AIt} {defs : List Nat} {rnd : Option Nat} {cs : List AFr} {tm0 : Tm} {hp0 : Hp} {nx0 : Nat}
    {α : Type} (tms : α → List Tm) (tm : α → Tm) (hp : α → Hp) (nx : Nat) (Inv : α → Prop) (μ : α → Nat) (x0 : α) (hI : Inv x0)
    (h0 : CfTo ⟨⟨fn, tm0, nt, .code b :: .inLoop b :: k, defs, rnd⟩, cs, hp0, nx0⟩ ⟨⟨fn, tm x0, nt, .code b :: .inLoop b :: k, defs, rnd⟩, putCs cs (tms x0), hp x0, nx⟩)
    (step : ∀ x, Inv x → (∀ y, μ y < μ x → Inv y → RnX ok f X ⟨⟨fn, tm y, nt, .code b :: .inLoop b :: k, defs, rnd⟩, putCs cs (tms y), hp y, nx⟩) →
      RnX ok f X ⟨⟨fn, tm x, nt, .code b :: .inLoop b :: k, defs, rnd⟩, putCs cs (tms x), hp x, nx⟩) :
    RnX ok f X ⟨⟨fn, tm0, nt, .code b :: .inLoop b :: k, defs, rnd⟩, cs, hp0, nx0⟩ := by
  refine RnX.weaken trivial h0 ?_
  have : ∀ n x, μ x = n → Inv x → RnX ok f X ⟨⟨fn, tm x, nt, .code b :: .inLoop b :: k, defs, rnd⟩, putCs cs (tms x), hp x, nx⟩ := by
    intro n
    induction n using Nat.strongRecOn with
    | ind n ih =>
      rintro x rfl hx
      exact step x hx fun y hy hIy => ih (μ y) hy y rfl hIy
  exact this _ x0 rfl hI

/-- The same where nothing is repeated: what is dead is dropped. -/
theorem RnX.tidy {P : Program} {C : Ctx} {ok : CtxOK P C} {f : FuncId} {X : OutA → Prop} {fn : FuncId} {nt : Nat} {b : Code} {k : List AIt} {defs : List Nat} {rnd : Option Nat} {cs : List AFr} {tm0 : Tm} {hp0 : Hp} {nx0 : Nat}
    (tms : List Tm) (tm : Tm) (hp : Hp) (nx : Nat)
    (h0 : CfTo ⟨⟨fn, tm0, nt, .code b :: .inLoop b :: k, defs, rnd⟩, cs, hp0, nx0⟩ ⟨⟨fn, tm, nt, .code b :: .inLoop b :: k, defs, rnd⟩, putCs cs tms, hp, nx⟩)
    (h1 : RnX ok f X ⟨⟨fn, tm, nt, .code b :: .inLoop b :: k, defs, rnd⟩, putCs cs tms, hp, nx⟩) :
    RnX ok f X ⟨⟨fn, tm0, nt, .code b :: .inLoop b :: k, defs, rnd⟩, cs, hp0, nx0⟩ := RnX.weaken trivial h0 h1

theorem Fun.res_to' {P : Program} {f : FuncId} {args : List AV} {r r' : AV} (h : ∀ (m : Mem) (v : Value), RelC m r v → RelC m r' v) (hf : Fun P f args r) : Fun P f args r' :=
  ⟨hf.1, fun m w vs hm ha => Calls.mono (hf.2 m w vs hm ha) fun e w' ⟨v, he, q, m', hq, h1, h2, h3, h4⟩ => ⟨v, he, r', m', rfl, h1, h2, h3, h m' v (hq ▸ h4)⟩⟩
theorem n_to (k : IntKind) (z : Int) (m : Mem) (v : Value) (h : RelC m (.n k z) v) : RelC m (.v (.int k z)) v := by cases h; exact .v _
theorem t_to (b : Bool) (m : Mem) (v : Value) (h : RelC m (.t b) v) : RelC m (.v (.bool b)) v := by cases h; exact .v _

/-! ## Places in a function's code -/

/-- What is to do at the loops' beginnings, in the text's order. -/
def loopsOf : Code → List AIt → List (List AIt)
  | .seq a b, k => loopsOf a (.code b :: k) ++ loopsOf b k
  | .cond _ a b, k => loopsOf a k ++ loopsOf b k
  | .block id b, k => loopsOf b (.inBlock id :: k)
  | .scope b, k => loopsOf b (.inScope b :: k)
  | .loop b, k => (.code b :: .inLoop b :: k) :: loopsOf b (.inLoop b :: k)
  | _, _ => []
def nthL : List (List AIt) → Nat → List AIt
  | [], _ => []
  | x :: _, 0 => x
  | _ :: l, n + 1 => nthL l n
def loopAt (f : Func) (n : Nat) : List AIt := match f.body with | some b => nthL (loopsOf b []) n | none => []
/-- The regions, with what is to do behind them. -/
def regsOf : Code → List AIt → List (List Oper × Array Oper × List AIt)
  | .seq a b, k => regsOf a (.code b :: k) ++ regsOf b k
  | .cond _ a b, k => regsOf a k ++ regsOf b k
  | .block id b, k => regsOf b (.inBlock id :: k)
  | .scope b, k => regsOf b (.inScope b :: k)
  | .loop b, k => regsOf b (.inLoop b :: k)
  | .region _ ops _, k => [(ops.toList, ops, k)]
  | _, _ => []
def dropL {α : Type} : List α → Nat → List α
  | l, 0 => l
  | [], _ => []
  | _ :: l, n + 1 => dropL l n
def nthR : List (List Oper × Array Oper × List AIt) → Nat → Nat → List AIt
  | [], _, _ => []
  | (l, ops, k) :: _, 0, i => .inReg ops (dropL (number 0 l) i) :: k
  | _ :: r, n + 1, i => nthR r n i
/-- A frame that waits for operation i of region r. -/
def callAt (f : Func) (r i : Nat) : List AIt := match f.body with | some b => nthR (regsOf b []) r i | none => []
end Go.Proofs.Am
