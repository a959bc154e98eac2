/- Part of the proofs about the layer of roads: Operations: addresses, fields, indexes, slices. Rows that grow: a new header. append. Operations: slices of slices, builtin functions, calls; all of them together. Operations: builtin functions, calls; all of them together. The kit's machine, step by step, at the frames that the abstract machine knows. Configurations of the abstract machine against the kit's frames; what a run is good for. -/
import Derived.Test.YtlgclllkejioaaaGreatDoorPartA
import Derived.Laws.Append
import Derived.Laws.AppendOwn
import Derived.Laws.OwnMore
set_option linter.unusedVariables false
set_option linter.unusedSimpArgs false

/- Operations: addresses, fields, indexes, slices. -/
namespace Go.Proofs.Am
open Go Go.RowKit
variable {P : Program} {w0 : Base} {m0 : Mem}
variable {C : Ctx} {E : Env} {hp : Hp} {w : World} {i : Nat} {tm : Tm} {nt : Nat} {a : Act} {e : Eff} {lg : List Nat}

theorem nilCheck_sound (hw : WRel w0 m0 E hp w) (ht : TmRel E tm nt a.tmps) {o : Oper} {x : Operand} (ho : o.op = .nilCheck x)
    (h : (aop C i tm o).evalL hp [] = some (e, lg)) : Sound P w0 m0 E hp w i e lg ((execOp a.eval o).run P w) := by
  simp only [aop, opPick, opBuild, opBuildSlice, opMakeSlice, opNilCheck, opBin, opConvert, opSlice, opFieldAddr, opField, opIndex, opCall, ho] at h
  obtain ⟨p, hp1, hh⟩ := RM.evalL_opt h; clear h; have h := hh; clear hh
  have rp := ev_rel ht hp1
  have hx1 : ∀ q, a.eval x = .pointer (some q) → execOp a.eval o = pure (.value (.pointer (some q))) := fun q hv => by unfold execOp; rw [ho]; simp only [hv]
  have hx2 : ∀ f vs, a.eval x = .func (.func f) #[] vs → execOp a.eval o = pure (.value (.func (.func f) #[] vs)) := fun f vs hv => by unfold execOp; rw [ho]; simp only [hv]
  have hx3 : ∀ f vs, a.eval x = .func (.yield f) #[] vs → execOp a.eval o = pure (.value (.func (.yield f) #[] vs)) := fun f vs hv => by unfold execOp; rw [ho]; simp only [hv]
  cases p with
  | ptr b off =>
    obtain rfl := rv_eval h
    obtain ⟨_, hv⟩ := rp.ptr_inv
    rw [hx1 _ hv]
    exact Sound.val0 hw rfl (hv ▸ rp)
  | pat cs off =>
    obtain rfl := rv_eval h
    have h2 := rp.pat_inv
    generalize a.eval x = v at *
    cases h2
    rw [hx1 _ rfl]
    exact Sound.val0 hw rfl rp
  | fn f cs =>
    obtain rfl := rv_eval h
    obtain ⟨f', vs, hv, hf, _⟩ := rp.fn_inv
    cases f <;> simp only [fnRel] at hf
    · subst hf; rw [hx2 _ _ hv]; exact Sound.val0 hw rfl (hv ▸ rp)
    · obtain ⟨_, rfl⟩ := hf; rw [hx3 _ _ hv]; exact Sound.val0 hw rfl (hv ▸ rp)
  | oel b k q off =>
    obtain ⟨y, hy, hh⟩ := RM.evalL_rd h; clear h; have h := hh; clear hh
    cases y with
    | row n' sz get t' k' =>
      obtain ⟨hk, hh⟩ := RM.evalL_grd h; clear h; have h := hh; clear hh
      have hkk := beq_t hk
      subst hkk
      have he := rv_eval h
      subst he
      obtain ⟨_, _, _, _, u, hu, _⟩ := hw.blk b _ hy
      generalize a.eval x = v at *
      cases rp with
      | c _ _ h => cases h
      | oel _ _ _ _ pp hvd hx =>
        obtain ⟨hq, rfl⟩ := hx u hu
        rw [hx1 _ rfl]
        exact Sound.val0 hw rfl (.oel b k q off _ hvd hx)
    | _ => simp [RM.evalL] at h
  | _ => simp [RM.evalL] at h

theorem makeFunc_sound (hw : WRel w0 m0 E hp w) (ht : TmRel E tm nt a.tmps) {o : Oper} {f : FuncId} {first caps : Array Operand} (ho : o.op = .makeFunc (.func f) first caps)
    (h : (aop C i tm o).evalL hp [] = some (e, lg)) : Sound P w0 m0 E hp w i e lg ((execOp a.eval o).run P w) := by
  have hx : execOp a.eval o = (do let z ← Instr.makeFunc (.func f) (first.map a.eval) (caps.map a.eval); pure (.value z)) := by unfold execOp; rw [ho]
  rw [hx]
  simp only [aop, opPick, opBuild, opBuildSlice, opMakeSlice, opNilCheck, opBin, opConvert, opSlice, opFieldAddr, opField, opIndex, opCall, ho] at h
  split at h
  · rename_i hf
    obtain ⟨cs, hcs, hh⟩ := RM.evalL_opt h; clear h; have h := hh; clear hh
    obtain rfl := rv_eval h
    have hr := evs_rel ht hcs
    have h0 : first = #[] := by
      apply Array.ext'
      simpa using hf
    subst h0
    have e0 : (#[] : Array Operand).map a.eval = #[] := by simp
    rw [e0]
    exact Sound.val0 hw (exec_v rfl) (RelL.fn (f := .func f) (f' := .func f) rfl hr)
  · simp [RM.evalL] at h

theorem addOff_sound {t : TypeId} {fd : Field} {n : Nat} (hw : WRel w0 m0 E hp w) {s : TypeId} {fs : Array Field} (hs : P.underlying s = some (.struct fs)) {j : Nat} (hf : fs[j]? = some fd)
    (hz : (sizeOf fd.type).run P w = .ok (n + 1) w) {p : AV} {x : Value} (rp : Rel E p x) {lg' : List Nat} (h : (addOff p fd.offset).evalL hp [] = some (e, lg')) {r : Result Next}
    (hr : r = (do let z ← Instr.fieldAt s x j; pure (.value z) : Sem Next).run P w) : Sound P w0 m0 E hp w i e lg r := by
  subst hr
  have run : ∀ b o, x = .pointer (some ⟨b, o, none⟩) → (Instr.fieldAt s x j).run P w = .ok (.pointer (some ⟨b, o + fd.offset, none⟩)) w := by
    rintro b o rfl
    unfold Instr.fieldAt
    rw [Sem.run_bind, run_underlying hs]
    simp only [Result.andThen_ok]
    rw [hf]
    simp only [Instr.sureAddr, pure_bind]
    rw [Sem.run_bind]
    unfold fieldPlace
    rw [Sem.run_bind, hz]
    simp only [Result.andThen_ok]
    rw [if_neg (by omega), Sem.run_pure]
    simp [addr_add]
  cases p with
  | ptr b off =>
    obtain rfl := rv_eval h
    obtain ⟨hd, hv⟩ := rp.ptr_inv
    exact Sound.val0 hw (exec_v (run _ _ hv)) (.ptr b _ hd)
  | pat cs off =>
    obtain rfl := rv_eval h
    have := rp.pat_inv
    cases this with
    | pat _ _ bk o u h1 h2 =>
      refine Sound.val0 hw (exec_v (run _ _ rfl)) ?_
      rw [Nat.add_assoc]
      exact .c _ _ (.pat cs _ bk o u h1 h2)
  | oel b k q off =>
    simp only [addOff] at h
    obtain ⟨y, hy, hh⟩ := RM.evalL_rd h; clear h; have h := hh; clear hh
    cases y with
    | row n' sz get t' k' =>
      obtain ⟨hk, hh⟩ := RM.evalL_grd h; clear h; have h := hh; clear hh
      have hkk := beq_t hk
      subst hkk
      have he := rv_eval h
      subst he
      obtain ⟨_, _, _, _, u, hu, husz, hun, _⟩ := hw.blk b _ hy
      cases rp with
      | c _ _ h => cases h
      | oel _ _ _ _ pp hvd hx =>
        obtain ⟨h1, rfl⟩ := hx u hu
        refine Sound.val0 hw (exec_v (run _ _ rfl)) (.oel b k q _ _ hvd fun u' hu' => ?_)
        rw [hu] at hu'
        simp only [Option.some.injEq] at hu'
        subst hu'
        exact ⟨h1, by rw [Nat.add_assoc]⟩
    | _ => simp [RM.evalL] at h
  | _ => simp [addOff, RM.evalL] at h

theorem fieldAddr_sound (hC : CtxOK P C) (hw : WRel w0 m0 E hp w) (ht : TmRel E tm nt a.tmps) {o : Oper} {s : TypeId} {x : Operand} {j : Nat} (ho : o.op = .fieldAddr s x j)
    (h : (aop C i tm o).evalL hp [] = some (e, lg)) : Sound P w0 m0 E hp w i e lg ((execOp a.eval o).run P w) := by
  have hx : execOp a.eval o = (do let z ← Instr.fieldAt s (a.eval x) j; pure (.value z)) := by unfold execOp; rw [ho]
  rw [hx]
  simp only [aop, opPick, opBuild, opBuildSlice, opMakeSlice, opNilCheck, opBin, opConvert, opSlice, opFieldAddr, opField, opIndex, opCall, ho] at h
  obtain ⟨ti, hti, hh⟩ := RM.evalL_opt h; clear h; have h := hh; clear hh
  obtain ⟨p, hp1, hh⟩ := RM.evalL_opt h; clear h; have h := hh; clear hh
  split at h
  · rename_i fs hd
    obtain ⟨q, hq, hh⟩ := RM.evalL_opt h; clear h; have h := hh; clear hh
    unfold fieldAt at hq
    split at hq
    · cases hq
    · rename_i fd hfd
      split at hq
      · cases hq
      · rename_i tf htf
        simp only [Option.some.injEq] at hq
        subst hq
        simp only at h
        split at h
        · simp [RM.evalL] at h
        · rename_i n hn
          have hu := (hC.tt _ _ hti).und
          rw [hd] at hu
          have hz := (hC.tt _ _ htf).run_size w
          rw [hn] at hz
          exact addOff_sound (t := s) hw hu (by simpa using hfd) hz (ev_rel ht hp1) h rfl
  · simp [RM.evalL] at h

theorem part_sound (hC : CtxOK P C) {tf : TypeId} {ti : TI} (hti : C.tt.find tf = some ti) {cs : List AV} {vs : Array Value} (hr : RelL E cs vs.toList) {off : Nat} {b : AV} {lg' : List Nat}
    (h : (mkVal ti (sub cs off ti.size)).evalL hp [] = some (b, lg')) : ∃ x, (part tf vs off).run P w = .ok x w ∧ Rel E b x := by
  obtain ⟨hv, _⟩ := mkVal_eval h
  have hs := hr.sub off ti.size
  unfold mkVal at hv
  split at hv
  · cases hv
  · rename_i hb
    have hl := beq_t hb
    unfold part
    rw [Sem.run_bind, (hC.tt _ _ hti).run_isAgg]
    simp only [Result.andThen_ok]
    split at hv
    · rename_i hg
      simp only [RM.ret.injEq] at hv
      subst hv
      rw [hg]
      simp only [if_true]
      refine ⟨.agg (vs.extract off (off + ti.size)), ?_, RelL.agg ?_⟩
      · rw [Sem.run_bind, (hC.tt _ _ hti).run_size]; rfl
      · have : (vs.extract off (off + ti.size)).toList = (vs.toList.drop off).take ti.size := by simp [List.extract_eq_take_drop]
        rw [this]
        exact hs
    · rename_i hg
      rw [hg]
      split at hv
      · rename_i c hc
        simp only [RM.ret.injEq] at hv
        subst hv
        rw [hc] at hs
        obtain ⟨x, xs, hxs, hx, hn⟩ := hs.cons_inv
        refine ⟨x, ?_, hx⟩
        have h0 : ((vs.toList.drop off).take ti.size)[0]? = some x := by rw [hxs]; rfl
        have := sub_get h0
        simp only [Nat.add_zero] at this
        have hq : vs[off]? = some x := by simpa using this
        simp only [Bool.false_eq_true, if_false]
        rw [hq]; rfl
      · cases hv

theorem field_sound (hC : CtxOK P C) (hw : WRel w0 m0 E hp w) (ht : TmRel E tm nt a.tmps) {o : Oper} {s : TypeId} {x : Operand} {j : Nat} (ho : o.op = .field s x j)
    (h : (aop C i tm o).evalL hp [] = some (e, lg)) : Sound P w0 m0 E hp w i e lg ((execOp a.eval o).run P w) := by
  have hx : execOp a.eval o = (do let z ← Instr.field s (a.eval x) j; pure (.value z)) := by unfold execOp; rw [ho]
  rw [hx]
  simp only [aop, opPick, opBuild, opBuildSlice, opMakeSlice, opNilCheck, opBin, opConvert, opSlice, opFieldAddr, opField, opIndex, opCall, ho] at h
  obtain ⟨ti, hti, hh⟩ := RM.evalL_opt h; clear h; have h := hh; clear hh
  obtain ⟨p, hp1, hh⟩ := RM.evalL_opt h; clear h; have h := hh; clear hh
  have rp := ev_rel ht hp1
  cases p with
  | agg cs =>
    simp only at h
    split at h
    · rename_i fs hd
      obtain ⟨fd, hfd, hh⟩ := RM.evalL_opt h; clear h; have h := hh; clear hh
      obtain ⟨tf, htf, hh⟩ := RM.evalL_opt h; clear h; have h := hh; clear hh
      rw [forceL_eq] at h
      obtain ⟨b, lg1, h1, h2⟩ := RM.evalL_bind _ _ h
      obtain rfl := rv_eval h2
      obtain ⟨vs, hv, hvs⟩ := rp.agg_inv
      rw [hv]
      obtain ⟨y, hy, hr⟩ := part_sound (w := w) hC htf hvs h1
      refine Sound.val0 hw (exec_v (x := y) ?_) hr
      have hu := (hC.tt _ _ hti).run_und w
      rw [hd] at hu
      unfold Instr.field
      rw [Sem.run_bind, hu]
      simp only [Result.andThen_ok]
      have hf : fs[j]? = some fd := by simpa using hfd
      rw [hf]
      simp only [asAgg, pure_bind]
      exact hy
    · simp [RM.evalL] at h
  | _ => simp [RM.evalL] at h

theorem asNatC_rel {b : AV} {n : Nat} {x : Value} (h : asNatC b = some n) (r : Rel E b x) : ∃ k, x = .int k n := by
  unfold asNatC at h
  split at h
  · simp only [Option.some.injEq] at h; subst h; exact ⟨_, r.n_inv⟩
  · cases h
theorem asI_rel {b : AV} {z : Int} {x : Value} (h : asI b = some z) (r : Rel E b x) : ∃ k, x = .int k z := by
  unfold asI at h
  split at h
  · simp only [Option.some.injEq] at h; subst h; exact ⟨_, r.n_inv⟩
  · simp only [Option.some.injEq] at h; subst h; exact ⟨_, r.v_inv⟩
  · cases h

theorem blt_lt {a b : Nat} (h : Nat.blt a b = true) : a < b := Nat.le_of_ble_eq_true h

theorem indexAddr_array {t el : TypeId} {n s : Nat} (hu : P.underlying t = some (.array n el)) (hs : (sizeOf el).run P w = .ok s w) (b o : Nat) (k : IntKind) (z : Int) (h0 : 0 ≤ z) (h1 : z < n) :
    (Instr.indexAt t (.pointer (some ⟨b, o, none⟩)) (.int k z)).run P w = .ok (.pointer (some ⟨b, o + z.toNat * s, none⟩)) w := by
  unfold Instr.indexAt
  simp only [asIntOf, pure_bind]
  rw [Sem.run_bind, run_underlying hu]
  simp only [Result.andThen_ok, Instr.sureAddr, pure_bind]
  rw [Sem.run_bind, run_underlying hu]
  simp only [Result.andThen_ok]
  rw [if_pos ⟨h0, h1⟩, Sem.run_bind, hs]
  simp [addr_add]
theorem indexAddr_slice {t el : TypeId} {s : Nat} (hu : P.underlying t = some (.slice el)) (hs : (sizeOf el).run P w = .ok s w) (b o n cap : Nat) (k : IntKind) (z : Int) (h0 : 0 ≤ z) (h1 : z < n) :
    (Instr.indexAt t (.slice (some ⟨b, o, none⟩) n cap) (.int k z)).run P w = .ok (.pointer (some ⟨b, o + z.toNat * s, none⟩)) w := by
  unfold Instr.indexAt
  simp only [asIntOf, pure_bind]
  rw [Sem.run_bind, run_underlying hu]
  simp only [Result.andThen_ok]
  rw [Sem.run_bind, run_underlying hu]
  simp only [Result.andThen_ok]
  rw [if_pos ⟨h0, h1⟩, Sem.run_bind, hs]
  simp [addr_add]

theorem indexAddr_sound (hC : CtxOK P C) (hw : WRel w0 m0 E hp w) (ht : TmRel E tm nt a.tmps) {o : Oper} {t : TypeId} {x y : Operand} (ho : o.op = .indexAddr t x y)
    (h : (aop C i tm o).evalL hp [] = some (e, lg)) : Sound P w0 m0 E hp w i e lg ((execOp a.eval o).run P w) := by
  have hx : execOp a.eval o = (do let z ← Instr.indexAt t (a.eval x) (a.eval y); pure (.value z)) := by unfold execOp; rw [ho]
  rw [hx]
  simp only [aop, opPick, opBuild, opBuildSlice, opMakeSlice, opNilCheck, opBin, opConvert, opSlice, opFieldAddr, opField, opIndex, opCall, ho] at h
  obtain ⟨p, hp1, hh⟩ := RM.evalL_opt h; clear h; have h := hh; clear hh
  obtain ⟨q, hq1, hh⟩ := RM.evalL_opt h; clear h; have h := hh; clear hh
  have rp := ev_rel ht hp1
  have rq := ev_rel ht hq1
  generalize a.eval x = xv at *
  generalize a.eval y = yv at *
  unfold indexAddrOp at h
  obtain ⟨ti, hti, hh⟩ := RM.evalL_opt h; clear h; have h := hh; clear hh
  obtain ⟨z, hz, hh⟩ := RM.evalL_opt h; clear h; have h := hh; clear hh
  obtain ⟨k, rfl⟩ := asI_rel hz rq
  have hu := (hC.tt _ _ hti).und
  have inb : ∀ {n : Nat}, inB z n = true → 0 ≤ z ∧ z < n := fun hb => by
    simp only [inB, Bool.and_eq_true, decide_eq_true_eq] at hb; exact hb
  have nc : ∀ {j : Nat}, asNatC q = some j → z = j := fun hj => by
    obtain ⟨_, h1⟩ := asNatC_rel hj rq
    cases h1; rfl
  split at h
  · rename_i n el b off hd
    rw [hd] at hu
    obtain ⟨te, hte, hh⟩ := RM.evalL_opt h; clear h; have h := hh; clear hh
    have key : ∀ j : Nat, z = j → (match Nat.blt j n with | true => rv (.ptr b (off + j * te.size)) | false => RM.fail).evalL hp [] = some (e, lg) → Sound P w0 m0 E hp w i e lg ((do let z ← Instr.indexAt t xv (.int k z); pure (.value z) : Sem Next).run P w) := fun j hzj h => by
      split at h
      · rename_i hb
        have hlt := blt_lt hb
        obtain rfl := rv_eval h
        obtain ⟨hdm, rfl⟩ := rp.ptr_inv
        refine Sound.val0 hw (exec_v (indexAddr_array hu ((hC.tt _ _ hte).run_size w) _ _ k z (by omega) (by omega))) ?_
        rw [hzj]
        exact .ptr b _ hdm
      · simp [RM.evalL] at h
    split at h
    · rename_i j hj
      exact key j (nc hj) h
    · obtain ⟨j, hzj, hh⟩ := RM.evalL_num h
      exact key j hzj hh
  · rename_i n el cs off hd
    rw [hd] at hu
    obtain ⟨te, hte, hh⟩ := RM.evalL_opt h; clear h; have h := hh; clear hh
    have hpat := rp.pat_inv
    cases hpat with
    | pat _ _ bk o u h1 h2 =>
      have fin : ∀ j : Nat, Rel E (.pat cs (off + j)) (.pointer (some ⟨bk, o + off + j, none⟩)) := fun j => by
        rw [Nat.add_assoc]; exact .c _ _ (.pat cs _ bk o u h1 h2)
      split at h
      · rename_i j hj
        have hzj := nc hj
        split at h
        · rename_i hb
          have hlt := blt_lt hb
          obtain rfl := rv_eval h
          refine Sound.val0 hw (exec_v (indexAddr_array hu ((hC.tt _ _ hte).run_size w) _ _ k z (by omega) (by omega))) ?_
          rw [hzj]
          exact fin _
        · simp [RM.evalL] at h
      · have one : ∀ (v : Value), (Nat.beq off 0 && (Nat.beq te.size 1 && Nat.ble n cs.length)) = true → 0 ≤ z → z < n → (∀ hz : z.toNat < cs.length, cs[z.toNat].plain = some v) →
            Rel E (.pat [.v v] 0) (.pointer (some ⟨bk, o + off + z.toNat * te.size, none⟩)) := fun v hc hz1 hz2 hv => by
          simp only [Bool.and_eq_true] at hc
          have e1 := beq_t hc.1
          have e2 := beq_t hc.2.1
          have e3 := Nat.le_of_ble_eq_true hc.2.2
          subst e1
          rw [e2, Nat.mul_one, Nat.add_zero]
          have hlt : z.toNat < cs.length := by omega
          have hu1 : u z.toNat = v := (Rel.c _ _ (h2 _ hlt) : Rel E _ _).plain (hv hlt)
          have := RelC.pat (m := E.m) [.v v] 0 bk (o + z.toNat) (fun _ => u z.toNat) (fun q hq => by
            have : q = 0 := by simpa using hq
            subst this
            exact h1 _ hlt) (fun q hq => by
            have : q = 0 := by simpa using hq
            subst this
            rw [hu1]
            exact .v v)
          simpa using Rel.c (E := E) _ _ this
        split at h
        · rename_i bs hc hbs
          obtain ⟨hb, hh⟩ := RM.evalL_grd h; clear h; have h := hh; clear hh
          obtain ⟨hb1, hb2⟩ := inb hb
          obtain rfl := rv_eval h
          refine Sound.val0 hw (exec_v (indexAddr_array hu ((hC.tt _ _ hte).run_size w) _ _ k z hb1 hb2)) (one _ hc hb1 hb2 fun hz => ?_)
          obtain ⟨hl, hf⟩ := mapO_some hbs
          have hz2 : z.toNat < bs.length := by omega
          have := hf _ hz hz2
          split at this
          · rename_i b hpl
            simp only [Option.some.injEq] at this
            rw [hpl, this, List.getD_eq_getElem?_getD, List.getElem?_eq_getElem hz2]; rfl
          · cases this
        · rename_i k' zs hc _ hbs
          obtain ⟨hb, hh⟩ := RM.evalL_grd h; clear h; have h := hh; clear hh
          obtain ⟨hb1, hb2⟩ := inb hb
          obtain rfl := rv_eval h
          refine Sound.val0 hw (exec_v (indexAddr_array hu ((hC.tt _ _ hte).run_size w) _ _ k z hb1 hb2)) (one _ hc hb1 hb2 fun hz => ?_)
          unfold intsOf at hbs
          split at hbs
          · cases hbs
          · split at hbs
            · split at hbs
              · rename_i zs' hm
                simp only [Option.some.injEq, Prod.mk.injEq] at hbs
                obtain ⟨rfl, rfl⟩ := hbs
                obtain ⟨hl, hf⟩ := mapO_some hm
                have hz2 : z.toNat < zs'.length := by omega
                have := hf _ hz hz2
                split at this
                · rename_i kk zz hpl
                  split at this
                  · rename_i hd
                    have := of_decide_eq_true hd
                    subst this
                    simp only [Option.some.injEq] at *
                    rw [hpl, List.getD_eq_getElem?_getD, List.getElem?_eq_getElem hz2]
                    simp_all
                  · cases this
                · cases this
              · cases hbs
            · cases hbs
        · obtain ⟨hb, hh⟩ := RM.evalL_grd h; clear h; have h := hh; clear hh
          obtain ⟨hb1, hb2⟩ := inb hb
          obtain rfl := rv_eval h
          exact Sound.val0 hw (exec_v (indexAddr_array hu ((hC.tt _ _ hte).run_size w) _ _ k z hb1 hb2)) (fin _)
  · rename_i el n sz get hd
    rw [hd] at hu
    obtain ⟨te, hte, hh⟩ := RM.evalL_opt h; clear h; have h := hh; clear hh
    obtain ⟨hm, hh⟩ := RM.evalL_must h; clear h; have h := hh; clear hh
    have hsz := beq_t hm
    obtain ⟨hb, hh⟩ := RM.evalL_grd h; clear h; have h := hh; clear hh
    obtain ⟨hb1, hb2⟩ := inb hb
    obtain rfl := rv_eval h
    have hrs := rp.rsl_inv
    cases hrs with
    | rsl0 => omega
    | rsl _ _ _ bk o cap u hcap hl hcell h1c hr =>
      have hi : z.toNat < n := by omega
      refine Sound.val0 hw (exec_v (indexAddr_slice hu ((hC.tt _ _ hte).run_size w) _ _ n cap k z hb1 hb2)) ?_
      rw [← hsz]
      exact .c _ _ (.pat (get z.toNat) 0 bk (o + z.toNat * sz) (u z.toNat) (fun j hj => hcell _ hi j (by rw [hl _ hi] at hj; exact hj)) (hr _ hi))
  · rename_i el b off n sz hd
    rw [hd] at hu
    obtain ⟨te, hte, hh⟩ := RM.evalL_opt h; clear h; have h := hh; clear hh
    obtain ⟨hm, hh⟩ := RM.evalL_must h; clear h; have h := hh; clear hh
    have hsz := beq_t hm
    obtain ⟨j, hj, hh⟩ := RM.evalL_opt h; clear h; have h := hh; clear hh
    have hzj := nc hj
    split at h
    · rename_i hb
      have hlt := blt_lt hb
      obtain rfl := rv_eval h
      cases rp with
      | c _ _ h => cases h
      | asl _ _ _ _ hdm =>
        refine Sound.val0 hw (exec_v (indexAddr_slice hu ((hC.tt _ _ hte).run_size w) _ _ n n k z (by omega) (by omega))) ?_
        rw [← hsz, hzj]
        exact .ptr b _ hdm
    · simp [RM.evalL] at h
  · rename_i el b kk hd
    rw [hd] at hu
    obtain ⟨te, hte, hh⟩ := RM.evalL_opt h; clear h; have h := hh; clear hh
    obtain ⟨y, hy, hh⟩ := RM.evalL_rd h; clear h; have h := hh; clear hh
    cases y with
    | row n sz get t' k' =>
      obtain ⟨hm, hh⟩ := RM.evalL_must h; clear h; have h := hh; clear hh
      have hsz := beq_t hm
      obtain ⟨hk, hh⟩ := RM.evalL_grd h; clear h; have h := hh; clear hh
      have hkk := beq_t hk
      subst hkk
      obtain ⟨hb, h9⟩ := RM.evalL_grd h
      obtain ⟨hb1, hb2⟩ := inb hb
      obtain rfl := rv_eval h9
      obtain ⟨hvd, hvn, hnd, hlen, u, hu2, husz, hun, hrow⟩ := hw.blk b _ hy
      cases rp with
      | c _ _ h => cases h
      | osl _ _ aa n' cap' hvd' hxx =>
        have hval := hxx u hu2
        rcases hrow with ⟨_, rfl⟩ | ⟨hlv, hblk, vs, cap, h1, hcap, hvs, hh, hc⟩
        · omega
        · rw [h1] at hval
          cases hval
          refine Sound.val0 hw (exec_v (indexAddr_slice hu ((hC.tt _ _ hte).run_size w) _ _ n cap' k z hb1 hb2)) ?_
          refine .oel b kk z.toNat 0 _ hvd (fun u' hu' => ?_)
          rw [hu2] at hu'
          simp only [Option.some.injEq] at hu'
          subst hu'
          refine ⟨by omega, ?_⟩
          rw [hblk, husz, ← hsz]
          simp
    | _ => simp [RM.evalL] at h
  · rename_i el b kk lo hd
    rw [hd] at hu
    obtain ⟨te, hte, hh⟩ := RM.evalL_opt h; clear h; have h := hh; clear hh
    obtain ⟨y, hy, hh⟩ := RM.evalL_rd h; clear h; have h := hh; clear hh
    cases y with
    | row n sz get t' k' =>
      obtain ⟨hm, hh⟩ := RM.evalL_must h; clear h; have h := hh; clear hh
      have hsz := beq_t hm
      obtain ⟨hk, hh⟩ := RM.evalL_grd h; clear h; have h := hh; clear hh
      have hkk := beq_t hk
      subst hkk
      obtain ⟨hb, h9⟩ := RM.evalL_grd h
      obtain ⟨hb1, hb2⟩ := inb hb
      obtain rfl := rv_eval h9
      obtain ⟨hvd, hvn, hnd, hlen, u, hu2, husz, hun, hrow⟩ := hw.blk b _ hy
      cases rp with
      | c _ _ h => cases h
      | oss _ _ _ aa n' cap' hvd' hxx =>
        clear hrow
        obtain ⟨g1, g2, g3⟩ := hxx u hu2
        have g4 := g3 (by omega)
        subst g4
        have g5 : n' = n - lo := by omega
        subst g5
        refine Sound.val0 hw (exec_v (indexAddr_slice hu ((hC.tt _ _ hte).run_size w) _ _ (n - lo) cap' k z hb1 hb2)) ?_
        refine .oel b kk (lo + z.toNat) 0 _ hvd (fun u' hu' => ?_)
        rw [hu2] at hu'
        simp only [Option.some.injEq] at hu'
        subst hu'
        refine ⟨by omega, ?_⟩
        rw [husz, ← hsz, Nat.add_mul, Nat.add_zero]
    | _ => simp [RM.evalL] at h
  · simp [RM.evalL] at h

theorem index_sound (hC : CtxOK P C) (hw : WRel w0 m0 E hp w) (ht : TmRel E tm nt a.tmps) {o : Oper} {t : TypeId} {x y : Operand} (ho : o.op = .index t x y)
    (h : (aop C i tm o).evalL hp [] = some (e, lg)) : Sound P w0 m0 E hp w i e lg ((execOp a.eval o).run P w) := by
  have hx : execOp a.eval o = (do let z ← Instr.index t (a.eval x) (a.eval y); pure (.value z)) := by unfold execOp; rw [ho]
  rw [hx]
  simp only [aop, opPick, opBuild, opBuildSlice, opMakeSlice, opNilCheck, opBin, opConvert, opSlice, opFieldAddr, opField, opIndex, opCall, ho] at h
  obtain ⟨ti, hti, hh⟩ := RM.evalL_opt h; clear h; have h := hh; clear hh
  obtain ⟨p, hp1, hh⟩ := RM.evalL_opt h; clear h; have h := hh; clear hh
  obtain ⟨q, hq1, hh⟩ := RM.evalL_opt h; clear h; have h := hh; clear hh
  have rp := ev_rel ht hp1
  have rq := ev_rel ht hq1
  generalize a.eval x = xv at *
  generalize a.eval y = yv at *
  have hu := (hC.tt _ _ hti).run_und w
  split at h
  · rename_i n el cs hd
    rw [hd] at hu
    obtain ⟨te, hte, hh⟩ := RM.evalL_opt h; clear h; have h := hh; clear hh
    obtain ⟨j, hj, hh⟩ := RM.evalL_opt h; clear h; have h := hh; clear hh
    obtain ⟨k, rfl⟩ := asNatC_rel hj rq
    split at h
    · rename_i hb
      have hlt := blt_lt hb
      rw [forceL_eq] at h
      obtain ⟨b, lg1, h1, h2⟩ := RM.evalL_bind _ _ h
      obtain rfl := rv_eval h2
      obtain ⟨vs, rfl, hvs⟩ := rp.agg_inv
      obtain ⟨y, hy, hr⟩ := part_sound (w := w) hC hte hvs h1
      refine Sound.val0 hw (exec_v (x := y) ?_) hr
      unfold Instr.index
      simp only [asIntOf, pure_bind]
      rw [Sem.run_bind, hu]
      simp only [Result.andThen_ok]
      rw [if_pos ⟨by omega, by omega⟩, Sem.run_bind, (hC.tt _ _ hte).run_size]
      simpa using hy
    · simp [RM.evalL] at h
  · rename_i s hd
    rw [hd] at hu
    obtain ⟨z, hz, hh⟩ := RM.evalL_opt h; clear h; have h := hh; clear hh
    obtain ⟨hb, hh⟩ := RM.evalL_grd h; clear h; have h := hh; clear hh
    simp only [inB, Bool.and_eq_true, decide_eq_true_eq] at hb
    obtain rfl := rv_eval h
    obtain ⟨k, rfl⟩ := asI_rel hz rq
    obtain rfl := rp.v_inv
    refine Sound.val0 hw (exec_v ?_) (.v _)
    unfold Instr.index
    simp only [asIntOf, pure_bind]
    rw [Sem.run_bind, hu]
    simp only [Result.andThen_ok]
    rw [if_pos hb.1]
    have hlt : z.toNat < s.size := by omega
    have e1 : s[z.toNat]? = some (s.data[z.toNat]?.getD 0) := by
      have h2 : z.toNat < s.data.size := hlt
      rw [getElem?_pos s z.toNat hlt, Array.getElem?_eq_getElem h2]
      rfl
    rw [e1]
    rfl
  · simp [RM.evalL] at h

theorem extract_sound (hw : WRel w0 m0 E hp w) (ht : TmRel E tm nt a.tmps) {o : Oper} {x : Operand} {j : Nat} (ho : o.op = .extract x j)
    (h : (aop C i tm o).evalL hp [] = some (e, lg)) : Sound P w0 m0 E hp w i e lg ((execOp a.eval o).run P w) := by
  have hx : execOp a.eval o = (do let z ← Instr.extract (a.eval x) j; pure (.value z)) := by unfold execOp; rw [ho]
  rw [hx]
  simp only [aop, opPick, opBuild, opBuildSlice, opMakeSlice, opNilCheck, opBin, opConvert, opSlice, opFieldAddr, opField, opIndex, opCall, ho] at h
  obtain ⟨p, hp1, hh⟩ := RM.evalL_opt h; clear h; have h := hh; clear hh
  have rp := ev_rel ht hp1
  cases p with
  | tup vs =>
    simp only at h
    obtain ⟨b, hb, hh⟩ := RM.evalL_opt h; clear h; have h := hh; clear hh
    obtain rfl := rv_eval h
    obtain ⟨us, hv, hus⟩ := rp.tup_inv
    rw [hv]
    obtain ⟨y, hy, hr⟩ := hus.get hb
    refine Sound.val0 hw (exec_v (x := y) ?_) hr
    have : us[j]? = some y := by simpa using hy
    simp [Instr.extract, this]
  | _ => simp [RM.evalL] at h
end Go.Proofs.Am

/- Rows that grow: a new header. -/
namespace Go.Proofs.Am
open Go Go.RowKit
variable {P : Program} {w0 : Base} {m0 : Mem}

/-- The environment with a row's next header; its block, if it has one, is r. -/
def Env.rowAt (E : Env) (b k : Nat) (H : RowH) (r : Option Nat) : Env := { E with
  ρ := fun x => if x = b then r.getD (E.ρ b) else E.ρ x
  lv := fun x => (x = b ∧ r.isSome) ∨ (x ≠ b ∧ E.lv x)
  vd := fun x q => (x = b ∧ q = k) ∨ E.vd x q
  hdr := fun x q => if x = b then (if q = k then some H else none) else E.hdr x q }

theorem Env.rowAt_le {E : Env} {b k : Nat} {H : RowH} {r : Option Nat} (hd : ¬ E.dom b) (hv : ¬ E.vd b k) : E.le (E.rowAt b k H r) where
  ρ := fun x hx => by
    have : x ≠ b := fun e => hd (e ▸ hx)
    simp [Env.rowAt, this]
  dom := fun _ h => h
  m := fun _ _ h => h
  vd := fun _ _ h => .inr h
  hdr := fun x q hx u hu => by
    simp only [Env.rowAt] at hu
    by_cases e : x = b
    · subst e
      rw [if_pos rfl] at hu
      by_cases e2 : q = k
      · subst e2; exact absurd hx hv
      · rw [if_neg e2] at hu; cases hu
    · rw [if_neg e] at hu; exact hu

theorem Env.rowAt_ne {E : Env} {b k : Nat} {H : RowH} {r : Option Nat} {x : Nat} (h : x ≠ b) : (E.rowAt b k H r).ρ x = E.ρ x := by simp [Env.rowAt, h]
theorem Env.rowAt_same {E : Env} {b k : Nat} {H : RowH} {r : Nat} : (E.rowAt b k H (some r)).ρ b = r := by simp [Env.rowAt]
theorem Env.rowAt_hdr {E : Env} {b k : Nat} {H : RowH} {r : Option Nat} : (E.rowAt b k H r).hdr b k = some H := by simp [Env.rowAt]

/-- The world behind a row's next header. 'r': its block: the old one, or a new one. -/
theorem WRel.row {E : Env} {hp : Hp} {w w' : World} (h : WRel w0 m0 E hp w) {b k : Nat} {H : RowH} {r : Option Nat} (hd : ¬ E.dom b) (hv : ¬ E.vd b k)
    (hr : ∀ q, r = some q → (E.lv b ∧ q = E.ρ b) ∨ w.heap.size ≤ q) (hlt : ∀ q, r = some q → q < w'.heap.size)
    (hw : ∀ q, q < w.heap.size → r ≠ some q → w'.heap[q]? = w.heap[q]?) (hs : w.heap.size ≤ w'.heap.size) (ho : w'.os = w.os) (ht : w'.tape = w.tape) (hout : w'.output = w.output)
    (x : AB) (hx : BRel (E.rowAt b k H r) w' b x) : WRel w0 m0 (E.rowAt b k H r) ((b, x) :: hp) w' where
  keep := h.keep.trans ⟨ho, ht, hout, hs, fun q hq hx => by
    have := h.keep.size
    refine hw q (by omega) (fun e => ?_)
    rcases hr q e with ⟨h1, h2⟩ | h1
    · exact (h.own b h1).2.2 (h2 ▸ ⟨hq, hx⟩)
    · omega⟩
  mem := fun c o hc => by
    have h1 := h.mem c o hc
    have hcl : c < w.heap.size := by
      rcases Nat.lt_or_ge c w.heap.size with h2 | h2
      · exact h2
      · simp [Array.getElem?_eq_none h2] at h1
    rw [hw c hcl ?_]
    · exact h1
    · intro e
      rcases hr c e with ⟨h2, h3⟩ | h2
      · have hc' : E.m c = some o := hc
        have := (h.own b h2).2.1; rw [← h3] at this; rw [this] at hc'; cases hc'
      · omega
  mem0 := h.mem0
  own := fun c hc => by
    rcases hc with ⟨rfl, hc⟩ | ⟨hcb, hc⟩
    · cases r with
      | none => simp at hc
      | some q =>
        rw [Env.rowAt_same]
        refine ⟨hlt q rfl, ?_, ?_⟩
        · rcases hr q rfl with ⟨h1, h2⟩ | h1
          · rw [h2]; exact (h.own c h1).2.1
          · show E.m q = none
            cases hm : E.m q with
            | none => rfl
            | some o => have := h.mem q o hm; simp [Array.getElem?_eq_none h1] at this
        · rcases hr q rfl with ⟨h1, h2⟩ | h1
          · rw [h2]; exact (h.own c h1).2.2
          · intro hg; have := hg.1; have := h.keep.size; omega
    · rw [Env.rowAt_ne hcb]
      obtain ⟨h1, h2, h3⟩ := h.own c hc
      exact ⟨by omega, h2, h3⟩
  inj := fun c d hc hd' hcd => by
    have key : ∀ c, c ≠ b → E.lv c → ∀ q, r = some q → E.ρ c ≠ q := by
      intro c hcb hc q hq e
      rcases hr q hq with ⟨h1, h2⟩ | h1
      · exact hcb (h.inj c b hc h1 (e.trans h2))
      · have := (h.own c hc).1; omega
    rcases hc with ⟨rfl, hc⟩ | ⟨hcb, hc⟩ <;> rcases hd' with ⟨rfl, hd'⟩ | ⟨hdb, hd'⟩
    · rfl
    · cases r with
      | none => simp at hc
      | some q => rw [Env.rowAt_same, Env.rowAt_ne hdb] at hcd; exact absurd hcd.symm (key d hdb hd' q rfl)
    · cases r with
      | none => simp at hd'
      | some q => rw [Env.rowAt_same, Env.rowAt_ne hcb] at hcd; exact absurd hcd (key c hcb hc q rfl)
    · rw [Env.rowAt_ne hcb, Env.rowAt_ne hdb] at hcd
      exact h.inj c d hc hd' hcd
  blk := fun c y hy => by
    rw [tget_cons] at hy
    by_cases e : b = c
    · subst e
      rw [if_pos rfl] at hy
      simp only [Option.some.injEq] at hy
      subst hy
      exact hx
    · rw [if_neg e] at hy
      have e' : c ≠ b := fun q => e q.symm
      refine (h.blk c y hy).keep (Env.rowAt_le hd hv) (fun _ => Env.rowAt_ne e') (fun q => .inr ⟨e', q⟩) (fun q => q) (fun q hq => hq.resolve_left (fun z => e' z.1)) (fun q => by simp [Env.rowAt, e']) (fun q => ?_)
      refine hw _ (h.own c q).1 (fun e2 => ?_)
      rcases hr _ e2 with ⟨h1, h2⟩ | h1
      · exact e' (h.inj c b q h1 h2)
      · have := (h.own c q).1; omega

theorem WRel.drew {E : Env} {hp : Hp} {w : World} (h : WRel w0 m0 E hp w) : WRel w0 m0 E hp w.drew :=
  ⟨h.keep.drew, h.mem, h.mem0, h.own, h.inj, fun b x hb => h.blk b x hb⟩

theorem Env.rowAt_has {E : Env} {b k : Nat} {H : RowH} {r : Option Nat} {x : Nat} (h : (E.rowAt b k H r).has x) : E.has x ∨ x = b := by
  rcases h with h | h | ⟨q, h⟩
  · exact h.elim (fun q => .inr q.1) fun q => .inl (.inl q.2)
  · exact .inl (.inr (.inl h))
  · exact h.elim (fun q => .inr q.1) fun h' => .inl (.inr (.inr ⟨q, h'⟩))

/-- The cells that an append adds, as they lie. -/
theorem added_sound {E : Env} {hp : Hp} {w : World} (hw : WRel w0 m0 E hp w) {size : Nat} {x : AV} {xv : Value} (rx : Rel E x xv) {lg lg' : List Nat} {n : Nat} {g : Nat → List AV}
    (h : (addedOf size x).evalL hp lg = some ((n, g), lg')) :
    ∃ (a : Option Addr) (c : Nat) (news : List Value), xv = .slice a n c ∧ n ≤ c ∧ news.length = n * size ∧ (∀ v ∈ news, v.oneCell' = true) ∧ (a = none → n = 0 ∧ c = 0 ∨ True) ∧
      (0 < n → ∃ p, a = some p ∧ ∀ j u, news[j]? = some u → w.cell? (p.add j) = some u) ∧
      (∀ i, i < n → (g i).length = size) ∧ (∀ i, i < n → ∀ j (hj : j < (g i).length), ∃ u, news[i * size + j]? = some u ∧ RelC E.m (g i)[j] u) := by
  cases x with
  | rsl n' sz get =>
    simp only [addedOf] at h
    obtain ⟨hm, h⟩ := RM.evalL_must h
    have hsz := beq_t hm
    simp only [RM.evalL, Option.some.injEq, Prod.mk.injEq] at h
    obtain ⟨⟨rfl, rfl⟩, _⟩ := h
    have hr := rx.rsl_inv
    cases hr with
    | rsl0 _ _ a cap => exact ⟨a, cap, [], rfl, Nat.zero_le _, by simp, fun v hv => (by cases hv), fun _ => .inr trivial, fun h => absurd h (by omega), fun i hi => absurd hi (by omega), fun i hi => absurd hi (by omega)⟩
    | rsl _ _ _ bk o cap u hcap hl hcell h1 hr =>
      subst hsz
      have hnl : ((List.range (n' * sz)).map fun q => u (q / sz) (q % sz)).length = n' * sz := by simp
      have hdm : ∀ i j, j < sz → (i * sz + j) / sz = i ∧ (i * sz + j) % sz = j := fun i j hj => by
        have hpos : 0 < sz := by omega
        constructor
        · rw [Nat.add_comm, Nat.add_mul_div_right _ _ hpos, Nat.div_eq_of_lt hj, Nat.zero_add]
        · rw [Nat.add_comm, Nat.add_mul_mod_self_right, Nat.mod_eq_of_lt hj]
      have hdiv : ∀ q, q < n' * sz → q / sz < n' ∧ q % sz < sz ∧ q / sz * sz + q % sz = q := fun q hq => by
        have hpos : 0 < sz := by
          rcases Nat.eq_zero_or_pos sz with h0 | h0
          · rw [h0] at hq; simp at hq
          · exact h0
        exact ⟨Nat.div_lt_of_lt_mul (by rw [Nat.mul_comm]; exact hq), Nat.mod_lt _ hpos, Nat.div_add_mod' q sz⟩
      refine ⟨_, cap, (List.range (n' * sz)).map fun q => u (q / sz) (q % sz), rfl, hcap, hnl, ?_, fun _ => .inr trivial, fun _ => ⟨_, rfl, ?_⟩, hl, ?_⟩
      · intro v hv
        obtain ⟨q, hq, rfl⟩ := List.mem_map.1 hv
        rw [List.mem_range] at hq
        obtain ⟨d1, d2, _⟩ := hdiv q hq
        exact h1 _ d1 _ d2
      · intro j v hj
        rw [List.getElem?_map] at hj
        cases hq : (List.range (n' * sz))[j]? with
        | none => rw [hq] at hj; cases hj
        | some q =>
          rw [hq] at hj
          obtain ⟨hlt, hq'⟩ := List.getElem?_eq_some_iff.1 hq
          simp at hlt hq' hj
          subst hq'
          subst hj
          obtain ⟨d1, d2, d3⟩ := hdiv j hlt
          rw [addr_add]
          have := cellM_cell hw.mem (hcell _ d1 _ d2)
          rw [show o + j = o + j / sz * sz + j % sz by omega]
          exact this
      · intro i hi j hj
        have hj' : j < sz := by rw [hl i hi] at hj; exact hj
        refine ⟨u i j, ?_, hr i hi j hj⟩
        have hlt : i * sz + j < n' * sz := by
          have : (i + 1) * sz ≤ n' * sz := Nat.mul_le_mul_right sz (by omega)
          rw [Nat.add_mul, Nat.one_mul] at this
          omega
        obtain ⟨e1, e2⟩ := hdm i j hj'
        simp [hlt, e1, e2]
  | asl b off n' sz =>
    simp only [addedOf] at h
    obtain ⟨z, hz, h⟩ := RM.evalL_rd h
    cases z with
    | flat cs t =>
      obtain ⟨hm, h⟩ := RM.evalL_must h
      simp only [Bool.and_eq_true] at hm
      obtain ⟨hm1, hm2, hm3, hm4⟩ := hm
      have hsz := beq_t hm1
      have hfit := Nat.le_of_ble_eq_true hm2
      simp only [RM.evalL, Option.some.injEq, Prod.mk.injEq] at h
      obtain ⟨⟨rfl, rfl⟩, _⟩ := h
      subst hsz
      obtain ⟨hd, hlv, vs, hh, hr⟩ := hw.blk b _ hz
      have hone := all_one hr hm4
      have hro : RelCL E.m cs vs.toList := ⟨hr.1, fun q hi hj => ro_rel 4 (hr.2 q hi hj) (by rw [List.all_eq_true] at hm3; exact hm3 _ (List.getElem_mem hi))⟩
      have hlen : cs.length = vs.size := by simpa using hr.1
      cases rx with
      | c _ _ h => cases h
      | asl _ _ _ _ _ =>
        refine ⟨_, n', (vs.toList.drop off).take (n' * sz), rfl, Nat.le_refl _, ?_, ?_, fun _ => .inr trivial, fun _ => ⟨_, rfl, ?_⟩, ?_, ?_⟩
        · simp only [List.length_take, List.length_drop, Array.length_toList]; omega
        · intro v hv
          exact hone v (List.mem_of_mem_drop (List.mem_of_mem_take hv))
        · intro j v hj
          rw [addr_add]
          exact cell_of_heap hh (by simpa using sub_get hj)
        · intro i hi
          have : (i + 1) * sz ≤ n' * sz := Nat.mul_le_mul_right sz (by omega)
          rw [Nat.add_mul, Nat.one_mul] at this
          simp only [sub, List.length_take, List.length_drop]
          omega
        · intro i hi j hj
          have hmul : (i + 1) * sz ≤ n' * sz := Nat.mul_le_mul_right sz (by omega)
          rw [Nat.add_mul, Nat.one_mul] at hmul
          have hj' : j < sz := by simp only [sub, List.length_take] at hj; omega
          have hk : off + i * sz + j < cs.length := by omega
          have hk2 : off + i * sz + j < vs.toList.length := by simp; omega
          have h4 := hro.2 _ hk hk2
          have e1 : (sub cs (off + i * sz) sz)[j] = cs[off + i * sz + j] := by simp [sub]
          refine ⟨vs.toList[off + i * sz + j], ?_, by rw [e1]; exact h4⟩
          rw [List.getElem?_take, if_pos (by omega), List.getElem?_drop, show off + (i * sz + j) = off + i * sz + j by omega]
          exact List.getElem?_eq_getElem hk2
    | _ => simp [RM.evalL] at h
  | v y =>
    simp only [addedOf] at h
    split at h
    · simp_all
    · simp_all
    · rename_i heq
      simp only [RM.evalL, Option.some.injEq, Prod.mk.injEq] at h
      obtain ⟨⟨rfl, rfl⟩, _⟩ := h
      obtain rfl := rx.v_inv
      simp only [AV.v.injEq] at heq
      subst heq
      exact ⟨none, 0, [], rfl, Nat.le_refl _, by simp, fun v hv => (by cases hv), fun _ => .inr trivial, fun h => absurd h (by omega), fun i hi => absurd hi (by omega), fun i hi => absurd hi (by omega)⟩
    · simp [RM.evalL] at h
  | _ => simp [addedOf, RM.evalL] at h
end Go.Proofs.Am

/- append. -/
namespace Go.Proofs.Am
open Go Go.RowKit
variable {P : Program} {w0 : Base} {m0 : Mem}

theorem run_append_zero {t ty e : TypeId} {i : TypeInfo} (ht : P.underlying t = some (.slice e)) (hi : P.info? e = some i) (b : Option Addr) (n cap : Nat) (hn : n ≤ cap) (a : Option Addr) (c : Nat) (w : World) :
    (Builtin.append_ #[t, t] ty #[.slice b n cap, .slice a 0 c]).run P w = .ok (.slice b n cap) w := by
  cases b <;> cases a <;> simp [Builtin.append_, run_underlying ht, sizeOf, typeInfo, hi, Builtin.lenOf, Builtin.firstCells, loadCells, loadCellsFrom, storeCells, hn]

/-- The cells of a row behind an append. -/
theorem app_cells {m : Mem} {n q sz : Nat} {get g : Nat → List AV} {vs : Array Value} {news : List Value} {vs' : Array Value}
    (hgl : ∀ i, i < n → (get i).length = sz) (hol : ∀ i, i < n → ∀ j (hj : j < (get i).length), ∃ x, vs[i * sz + j]? = some x ∧ x.oneCell' = true ∧ RelC m (get i)[j] x)
    (hnl : ∀ i, i < q → (g i).length = sz) (hne : ∀ i, i < q → ∀ j (hj : j < (g i).length), ∃ u, news[i * sz + j]? = some u ∧ RelC m (g i)[j] u) (h1 : ∀ v ∈ news, v.oneCell' = true)
    (e1 : ∀ k, k < n * sz → vs'[k]? = vs[k]?) (e2 : ∀ k, k < q * sz → vs'[n * sz + k]? = news[k]?) :
    (∀ i, i < n + q → (appGet n get g i).length = sz) ∧
    ∀ i, i < n + q → ∀ j (hj : j < (appGet n get g i).length), ∃ x, vs'[i * sz + j]? = some x ∧ x.oneCell' = true ∧ RelC m (appGet n get g i)[j] x := by
  have hap : ∀ i, appGet n get g i = if i < n then get i else g (i - n) := fun i => by
    unfold appGet
    cases hb : Nat.blt i n with
    | true => rw [if_pos (blt_lt hb)]
    | false =>
      rw [if_neg]
      intro h
      have : Nat.blt i n = true := Nat.ble_eq_true_of_le h
      rw [this] at hb; cases hb
  have hl : ∀ i, i < n + q → (appGet n get g i).length = sz := fun i hi => by
    rw [hap]
    split
    · rename_i h; exact hgl i h
    · exact hnl _ (by omega)
  refine ⟨hl, fun i hi j hj => ?_⟩
  have hjs : j < sz := by rw [hl i hi] at hj; exact hj
  by_cases h : i < n
  · have e : appGet n get g i = get i := by rw [hap, if_pos h]
    have hj2 : j < (get i).length := by rw [hgl i h]; exact hjs
    obtain ⟨x, hx, hx1, hr⟩ := hol i h j hj2
    have hmul : (i + 1) * sz ≤ n * sz := Nat.mul_le_mul_right sz (by omega)
    rw [Nat.add_mul, Nat.one_mul] at hmul
    refine ⟨x, by rw [e1 _ (by omega)]; exact hx, hx1, ?_⟩
    simp only [e]
    exact hr
  · have e : appGet n get g i = g (i - n) := by rw [hap, if_neg h]
    have hj2 : j < (g (i - n)).length := by rw [hnl _ (by omega)]; exact hjs
    obtain ⟨x, hx, hr⟩ := hne (i - n) (by omega) j hj2
    have hmul : (i - n + 1) * sz ≤ q * sz := Nat.mul_le_mul_right sz (by omega)
    rw [Nat.add_mul, Nat.one_mul] at hmul
    have hi2 : i * sz = n * sz + (i - n) * sz := by rw [← Nat.add_mul]; congr 1; omega
    refine ⟨x, ?_, h1 x (List.mem_of_getElem? hx), ?_⟩
    · rw [hi2, Nat.add_assoc, e2 _ (by omega)]; exact hx
    · simp only [e]
      exact hr

/-- What a row's relation says, without its number. -/
def RowRel (E : Env) (w : World) (n sz : Nat) (get : Nat → List AV) (t : TypeId) (H : RowH) (r : Option Nat) : Prop :=
  (∀ i, i < n → (get i).length = sz) ∧ H.sz = sz ∧ H.n = n ∧
  ((r = none ∧ (∃ a, H.val = .slice a 0 0 ∧ ∀ p, a = some p → p.spot = none) ∧ n = 0) ∨
   ∃ g, r = some g ∧ H.blk = g ∧ ∃ (vs : Array Value) (cap : Nat), H.val = .slice (some ⟨g, 0, none⟩) n cap ∧ n ≤ cap ∧ vs.size = cap * sz ∧
     w.heap[g]? = some (.cells vs t (0, 0)) ∧ ∀ i, i < n → ∀ j (hj : j < (get i).length), ∃ x, vs[i * sz + j]? = some x ∧ x.oneCell' = true ∧ RelC E.m (get i)[j] x)

theorem RowRel.brel {E : Env} {w : World} {n sz : Nat} {get : Nat → List AV} {t : TypeId} {H : RowH} {r : Option Nat} {b k : Nat} (h : RowRel E w n sz get t H r)
    (hd : ¬ E.dom b) (hv : ∀ k', k < k' → ¬ E.vd b k') : BRel (E.rowAt b k H r) w b (.row n sz get t k) := by
  obtain ⟨h1, h2, h3, h4⟩ := h
  refine ⟨.inl ⟨rfl, rfl⟩, fun k' hk hq => ?_, hd, h1, H, Env.rowAt_hdr, h2, h3, ?_⟩
  · rcases hq with ⟨_, hq⟩ | hq
    · omega
    · exact hv k' hk hq
  · rcases h4 with ⟨rfl, ha, hn⟩ | ⟨g, rfl, hb, vs, cap, a1, a2, a3, a4, a5⟩
    · exact .inl ⟨ha, hn⟩
    · refine .inr ⟨.inl ⟨rfl, rfl⟩, by rw [Env.rowAt_same]; exact hb, vs, cap, by rw [Env.rowAt_same]; exact a1, a2, a3, by rw [Env.rowAt_same]; exact a4, a5⟩

variable {C : Ctx} {E : Env} {hp : Hp} {w : World} {i : Nat}

/-- An append onto an empty slice without room. -/
theorem append_empty (hw : WRel w0 m0 E hp w) {t ty e : TypeId} {te : TI} (ht : P.underlying t = some (.slice e)) (hte : TIok P e te) (hz : te.zero.length = te.size)
    (hby : te.bytes ≤ 65536) {a0 : Option Addr} (ha0 : ∀ p, a0 = some p → p.spot = none) {x : AV} {xv : Value} (rx : Rel E x xv) {lg lg' : List Nat} {q : Nat} {g : Nat → List AV}
    (h : (addedOf te.size x).evalL hp lg = some ((q, g), lg')) (hq : q ≤ 4194304) :
    ∃ (H : RowH) (r : Option Nat) (w' : World), (Builtin.append_ #[t, t] ty #[.slice a0 0 0, xv]).run P w = .ok H.val w' ∧ (∃ aa nn cc, H.val = .slice aa nn cc) ∧ RowRel E w' q te.size g e H r ∧
      (∀ p, r = some p → w.heap.size ≤ p ∧ p < w'.heap.size) ∧ (∀ k, k < w.heap.size → w'.heap[k]? = w.heap[k]?) ∧ w.heap.size ≤ w'.heap.size ∧ w'.os = w.os ∧ w'.tape = w.tape ∧ w'.output = w.output := by
  obtain ⟨a, c, news, rfl, hqc, hnl, h1, _, hcell, hgl, hgr⟩ := added_sound hw rx h
  obtain ⟨inf, hi, his, hib, z, hiz, hzc⟩ := hte.info
  by_cases h0 : q = 0
  · subst h0
    refine ⟨⟨.slice a0 0 0, 0, te.size, 0⟩, none, w, ?_, ⟨_, _, _, rfl⟩, ⟨hgl, rfl, rfl, .inl ⟨rfl, ⟨a0, rfl, ha0⟩, rfl⟩⟩, (fun p hp => by cases hp), fun _ _ => rfl, Nat.le_refl _, rfl, rfl, rfl⟩
    exact run_append_zero ht hi _ _ _ (Nat.le_refl _) _ _ w
  · obtain ⟨p, rfl, hcells⟩ := hcell (by omega)
    have hbb : q * inf.bytes ≤ 281474976710656 := by
      rw [hib]
      have : q * te.bytes ≤ 4194304 * 65536 := Nat.mul_le_mul hq hby
      omega
    have hge := grownCap_ge w q 0 e
    have hsize : (news.toArray ++ Builtin.zeroCells z.cells (grownCap w q 0 e - q)).size = grownCap w q 0 e * te.size := by
      have hzs : z.cells.size = te.size := by rw [← Array.length_toList, hzc, hz]
      simp only [Array.size_append, List.size_toArray, size_zeroCells, hzs, hnl, ← Nat.add_mul]
      congr 1
      omega
    refine ⟨⟨.slice (some ⟨w.heap.size, 0, none⟩) q (grownCap w q 0 e), w.heap.size, te.size, q⟩, some w.heap.size, w.drew.alloc (.cells (news.toArray ++ Builtin.zeroCells z.cells (grownCap w q 0 e - q)) e), ?_, ⟨_, _, _, rfl⟩,
      ⟨hgl, rfl, rfl, .inr ⟨_, rfl, rfl, _, _, rfl, hge, hsize, heap_alloc_new w.drew _, ?_⟩⟩, fun p hp => ?_, fun k hk => heap_alloc_old w.drew _ k hk, by simp, rfl, rfl, rfl⟩
    · cases a0 with
      | none => exact run_append_nil (P := P) w t ty e inf z ht hi hiz p q c news (by rw [his]; exact hnl) hcells (by omega) (by omega) hbb
      | some b =>
        have := run_append_grow (P := P) w t ty e inf z ht hi hiz b 0 0 [] (by simp) (fun j v hj => by simp at hj) p q c news (by rw [his]; exact hnl) hcells (by omega) (by omega) (by
          rw [Nat.zero_add, nextslicecap_zero (by omega)]; exact hbb)
        simpa using this
    · intro i hi j hj
      obtain ⟨u, hu, hr⟩ := hgr i hi j hj
      refine ⟨u, ?_, h1 u (List.mem_of_getElem? hu), hr⟩
      have hlt := (List.getElem?_eq_some_iff.1 hu).1
      rw [Array.getElem?_append_left (by simpa using hlt)]
      simpa using hu
    · simp only [Option.some.injEq] at hp
      subst hp
      exact ⟨Nat.le_refl _, by simp⟩

/-- An append onto a row. -/
theorem append_row (hw : WRel w0 m0 E hp w) {t ty e : TypeId} {te : TI} (ht : P.underlying t = some (.slice e)) (hte : TIok P e te) (hz : te.zero.length = te.size)
    (hby : te.bytes ≤ 65536) {x : AV} {xv : Value} (rx : Rel E x xv) {lg lg' : List Nat} {q : Nat} {g : Nat → List AV}
    (h : (addedOf te.size x).evalL hp lg = some ((q, g), lg')) {b k n : Nat} {get : Nat → List AV} (hb : BRel E w b (.row n te.size get e k)) (hq : n + q ≤ 4194304) {u : RowH} (hu : E.hdr b k = some u) :
    ∃ (H : RowH) (r : Option Nat) (w' : World), (Builtin.append_ #[t, t] ty #[u.val, xv]).run P w = .ok H.val w' ∧ (∃ aa nn cc, H.val = .slice aa nn cc) ∧ RowRel E w' (n + q) te.size (appGet n get g) e H r ∧
      (∀ p, r = some p → ((E.lv b ∧ p = E.ρ b) ∨ w.heap.size ≤ p) ∧ p < w'.heap.size) ∧ (∀ k, k < w.heap.size → r ≠ some k → w'.heap[k]? = w.heap[k]?) ∧ w.heap.size ≤ w'.heap.size ∧ w'.os = w.os ∧ w'.tape = w.tape ∧ w'.output = w.output := by
  obtain ⟨hvd, hvn, hnd, hgl0, u', hu', husz, hun, hrow⟩ := hb
  rw [hu] at hu'
  simp only [Option.some.injEq] at hu'
  subst hu'
  rcases hrow with ⟨⟨a0, hval, ha0⟩, rfl⟩ | ⟨hlv, hblk, vs, cap, hval, hcap, hvs, hh, hc⟩
  · rw [hval]
    obtain ⟨H, r, w', e1, e2, e3, e4, e5, e6, e7, e8, e9⟩ := append_empty (ty := ty) hw ht hte hz hby ha0 rx h (by omega)
    refine ⟨H, r, w', e1, e2, ?_, fun p hp => ⟨.inr (e4 p hp).1, (e4 p hp).2⟩, fun k hk _ => e5 k hk, e6, e7, e8, e9⟩
    have hap : appGet 0 get g = g := by
      funext j
      unfold appGet
      rw [show Nat.blt j 0 = false from rfl]
      simp
    rw [hap, Nat.zero_add]
    exact e3
  · obtain ⟨a, c, news, rfl, hqc, hnl, h1, _, hcell, hgl, hgr⟩ := added_sound hw rx h
    obtain ⟨inf, hi, his, hib, z, hiz, hzc⟩ := hte.info
    have hzs : z.cells.size = te.size := by rw [← Array.length_toList, hzc, hz]
    have hρ := (hw.own b hlv).1
    rw [hval]
    have hns : n * te.size ≤ vs.size := by rw [hvs]; exact Nat.mul_le_mul_right _ hcap
    by_cases h0 : q = 0
    · subst h0
      have hap := app_cells (q := 0) (vs' := vs) (news := []) hgl0 hc hgl (fun i hi => absurd hi (by omega)) (fun v hv => by cases hv) (fun _ _ => rfl) (fun k hk => absurd hk (by omega))
      refine ⟨⟨.slice (some ⟨E.ρ b, 0, none⟩) n cap, E.ρ b, te.size, n⟩, some (E.ρ b), w, ?_, ⟨_, _, _, rfl⟩,
        ⟨hap.1, rfl, rfl, .inr ⟨_, rfl, rfl, vs, cap, rfl, hcap, hvs, hh, hap.2⟩⟩, fun p hp => ?_, fun _ _ _ => rfl, Nat.le_refl _, rfl, rfl, rfl⟩
      · exact run_append_zero ht hi _ _ _ hcap _ _ w
      · simp only [Option.some.injEq] at hp; subst hp; exact ⟨.inl ⟨hlv, rfl⟩, hρ⟩
    · obtain ⟨p, rfl, hcells⟩ := hcell (by omega)
      by_cases hroom : n + q ≤ cap
      · have hfit : n * te.size + news.length ≤ vs.size := by rw [hnl, hvs, ← Nat.add_mul]; exact Nat.mul_le_mul_right _ hroom
        have hrun := run_append_room (P := P) w t ty e inf ht hi (E.ρ b) n cap vs hh p q c news (by rw [his]; exact hnl) hcells h1 hroom (by rw [his]; exact hfit)
        rw [his] at hrun
        have hsp := fun k => splice_get vs.toList news (n * te.size) k (by simpa using hfit)
        have harr : ∀ k, ((vs.toList.take (n * te.size) ++ news ++ vs.toList.drop (n * te.size + news.length)).toArray)[k]? = if n * te.size ≤ k ∧ k < n * te.size + news.length then news[k - n * te.size]? else vs[k]? := by
          intro k
          rw [List.getElem?_toArray, List.append_assoc, hsp k]
          split <;> simp
        have hap := app_cells (q := q) (vs' := (vs.toList.take (n * te.size) ++ news ++ vs.toList.drop (n * te.size + news.length)).toArray) hgl0 hc hgl hgr h1
          (fun k hk => by rw [harr, if_neg (by omega)]) (fun k hk => by rw [harr, if_pos (by omega)]; congr 1; omega)
        refine ⟨⟨.slice (some ⟨E.ρ b, 0, none⟩) (n + q) cap, E.ρ b, te.size, n + q⟩, some (E.ρ b), _, hrun, ⟨_, _, _, rfl⟩,
          ⟨hap.1, rfl, rfl, .inr ⟨_, rfl, rfl, _, cap, rfl, hroom, ?_, setRow_same w _ _ vs e (0, 0) hh, hap.2⟩⟩, fun p hp => ?_, fun k _ hk => Am.setRow_heap w _ _ k (fun e2 => hk (by rw [e2])), by simp [World.setRow], rfl, rfl, rfl⟩
        · have h9 : vs.toList.length = vs.size := by simp
          simp only [List.size_toArray, List.length_append, List.length_take, List.length_drop, Array.length_toList]
          omega
        · simp only [Option.some.injEq] at hp; subst hp; exact ⟨.inl ⟨hlv, rfl⟩, by simp [World.setRow]; exact hρ⟩
      · have hbb : (n + q) * inf.bytes ≤ 140737488355328 := by
          rw [hib]
          have : (n + q) * te.bytes ≤ 4194304 * 65536 := Nat.mul_le_mul hq hby
          omega
        have holds : ∀ j v, (vs.toList.take (n * te.size))[j]? = some v → w.cell? ((⟨E.ρ b, 0, none⟩ : Addr).add j) = some v := fun j v hj => by
          rw [addr_add, Nat.zero_add]
          rw [List.getElem?_take] at hj
          split at hj
          · exact cell_of_heap hh (by simpa using hj)
          · cases hj
        have hol : (vs.toList.take (n * te.size)).length = n * te.size := by simp only [List.length_take, Array.length_toList]; omega
        have hrun := run_append_grow (P := P) w t ty e inf z ht hi hiz ⟨E.ρ b, 0, none⟩ n cap (vs.toList.take (n * te.size)) (by rw [his]; exact hol) holds p q c news (by rw [his]; exact hnl) hcells (by omega) (by omega) (growslice_fits (by omega) hbb)
        have hge := grownCap_ge w (n + q) cap e
        have hap := app_cells (q := q) (vs' := (vs.toList.take (n * te.size)).toArray ++ news.toArray ++ Builtin.zeroCells z.cells (grownCap w (n + q) cap e - (n + q))) hgl0 hc hgl hgr h1
          (fun k hk => by
            rw [Array.append_assoc, Array.getElem?_append_left (by simpa [hol] using hk)]
            simp only [List.getElem?_toArray, List.getElem?_take, if_pos hk, Array.getElem?_toList])
          (fun k hk => by
            rw [Array.getElem?_append_left (by simp only [Array.size_append, List.size_toArray, hol, hnl]; omega),
              Array.getElem?_append_right (by simp only [List.size_toArray, hol]; omega)]
            simp only [List.size_toArray, hol, List.getElem?_toArray]
            congr 1
            omega)
        refine ⟨⟨.slice (some ⟨w.heap.size, 0, none⟩) (n + q) (grownCap w (n + q) cap e), w.heap.size, te.size, n + q⟩, some w.heap.size, _, hrun, ⟨_, _, _, rfl⟩,
          ⟨hap.1, rfl, rfl, .inr ⟨_, rfl, rfl, _, _, rfl, hge, ?_, heap_alloc_new w.drew _, hap.2⟩⟩, fun p hp => ?_, fun k hk _ => heap_alloc_old w.drew _ k hk, by simp, rfl, rfl, rfl⟩
        · simp only [Array.size_append, List.size_toArray, size_zeroCells, hzs, hnl, hol, ← Nat.add_mul]
          congr 1
          omega
        · simp only [Option.some.injEq] at hp; subst hp; exact ⟨.inr (Nat.le_refl _), by simp⟩
end Go.Proofs.Am

/- Operations: slices of slices, builtin functions, calls; all of them together. -/
namespace Go.Proofs.Am
open Go Go.RowKit
variable {P : Program} {w0 : Base} {m0 : Mem}
variable {C : Ctx} {E : Env} {hp : Hp} {w : World} {i : Nat} {tm : Tm} {nt : Nat} {a : Act} {e : Eff} {lg : List Nat}

theorem bound_ok (k : IntKind) (z : Int) (y : Nat) (c : BoundsCode) (h0 : 0 ≤ z) (h1 : z ≤ y) : (Instr.sliceBound (.int k z) y c).run P w = .ok z.toNat w := by
  unfold Instr.sliceBound
  simp only [asIntOf, pure_bind]
  rw [if_pos ⟨h0, h1⟩]; rfl

def BndRel (v : Option Value) (d z : Int) : Prop := (v = none ∧ z = d) ∨ ∃ k, v = some (.int k z)

theorem bounds_ok (isS : Bool) (len cap : Nat) (hlc : len ≤ cap) {lv hv : Option Value} {l h : Int} (hl : BndRel lv 0 l) (hh : BndRel hv len h)
    (h0 : 0 ≤ l) (h1 : l ≤ h) (h2 : h ≤ len) (w : World) : (Instr.sliceBounds isS len cap lv hv none).run P w = .ok (l.toNat, h.toNat, cap) w := by
  have hsl : ∀ k (y : Nat) c, l ≤ y → (Instr.sliceBound (.int k l) y c).run P w = .ok l.toNat w := fun k y c h => bound_ok k l y c h0 h
  have hsh : ∀ k c, (Instr.sliceBound (.int k h) cap c).run P w = .ok h.toNat w := fun k c => bound_ok k h cap c (by omega) (by omega)
  unfold Instr.sliceBounds
  rcases hh with ⟨rfl, rfl⟩ | ⟨k, rfl⟩ <;> rcases hl with ⟨rfl, rfl⟩ | ⟨k', rfl⟩
  · simp
  · simp [hsl k' len .sliceB (by omega)]
  · simp [hsh]
  · simp [hsh, hsl k' h.toNat .sliceB (by omega)]

theorem bnd_of {o : Option AV} {v : Option Value} {d z : Int} (h : (match o with | none => some d | some b => asI b) = some z) (r : ∀ b, o = some b → ∃ x, v = some x ∧ Rel E b x) (r0 : o = none → v = none) : BndRel v d z := by
  cases o with
  | none => simp only [Option.some.injEq] at h; subst h; exact .inl ⟨r0 rfl, rfl⟩
  | some b =>
    obtain ⟨x, rfl, hx⟩ := r b rfl
    obtain ⟨k, rfl⟩ := asI_rel h hx
    exact .inr ⟨k, rfl⟩

theorem slice_core (hC : CtxOK P C) (hw : WRel w0 m0 E hp w) {t : TypeId} {p : AV} {pv : Value} (rp : Rel E p pv) {lo hi : Option AV} {lv hv : Option Value}
    (rl : ∀ b, lo = some b → ∃ v, lv = some v ∧ Rel E b v) (rl0 : lo = none → lv = none) (rh : ∀ b, hi = some b → ∃ v, hv = some v ∧ Rel E b v) (rh0 : hi = none → hv = none)
    (h : (sliceOp C.tt t p lo hi).evalL hp [] = some (e, lg)) : Sound P w0 m0 E hp w i e lg ((do let z ← Instr.sliceAt t pv lv hv none; pure (.value z) : Sem Next).run P w) := by
  unfold sliceOp at h
  simp only at h
  obtain ⟨ti, hti, hh⟩ := RM.evalL_opt h; clear h; have h := hh; clear hh
  obtain ⟨l, hl, hh⟩ := RM.evalL_opt h; clear h; have h := hh; clear hh
  have hl' : BndRel lv 0 l := bnd_of (o := lo) (E := E) hl rl rl0
  have hu := (hC.tt _ _ hti).run_und w
  split at h
  · rename_i s hd
    rw [hd] at hu
    obtain ⟨q, hq, hh⟩ := RM.evalL_opt h; clear h; have h := hh; clear hh
    have hq' : BndRel hv s.size q := bnd_of (o := hi) (E := E) hq rh rh0
    obtain ⟨hg, hh⟩ := RM.evalL_grd h; clear h; have h := hh; clear hh
    simp only [Bool.and_eq_true, decide_eq_true_eq] at hg
    obtain rfl := rv_eval h
    obtain rfl := rp.v_inv
    refine Sound.val0 hw (exec_v ?_) (.v _)
    unfold Instr.sliceAt
    rw [Sem.run_bind, hu]
    simp only [Result.andThen_ok]
    unfold Instr.slice
    rw [Sem.run_bind, hu]
    simp only [Result.andThen_ok, Option.isSome_none, Bool.false_eq_true, if_false, pure_bind]
    rw [Sem.run_bind, bounds_ok false s.size s.size (Nat.le_refl _) hl' hq' hg.1.1 hg.1.2 hg.2]
    rfl
  · rename_i n el b off hd
    rw [hd] at hu
    obtain ⟨te, hte, hh⟩ := RM.evalL_opt h; clear h; have h := hh; clear hh
    split at h
    · obtain rfl := rv_eval h
      obtain ⟨hdm, rfl⟩ := rp.ptr_inv
      rw [rl0 rfl, rh0 rfl]
      refine Sound.val0 hw (exec_v ?_) (.asl b off n te.size hdm)
      unfold Instr.sliceAt
      rw [Sem.run_bind, hu]
      simp only [Result.andThen_ok, Instr.sureAddr, pure_bind]
      rw [Sem.run_bind, bounds_ok false n n (Nat.le_refl _) (.inl ⟨rfl, rfl⟩) (.inl ⟨rfl, rfl⟩) (Int.le_refl _) (by omega) (Int.le_refl _)]
      simp only [Result.andThen_ok]
      rw [Sem.run_bind, (hC.tt _ _ hte).run_size]
      simp [addr_add]
    · simp [RM.evalL] at h
  · rename_i el n sz get hd
    rw [hd] at hu
    obtain ⟨te, hte, hh⟩ := RM.evalL_opt h; clear h; have h := hh; clear hh
    obtain ⟨hm, hh⟩ := RM.evalL_must h; clear h; have h := hh; clear hh
    have hsz := beq_t hm
    obtain ⟨q, hq, hh⟩ := RM.evalL_opt h; clear h; have h := hh; clear hh
    have hq' : BndRel hv n q := bnd_of (o := hi) (E := E) hq rh rh0
    obtain ⟨hg, hh⟩ := RM.evalL_grd h; clear h; have h := hh; clear hh
    simp only [Bool.and_eq_true, decide_eq_true_eq] at hg
    obtain rfl := rv_eval h
    have hrs := rp.rsl_inv
    have run : ∀ (ad : Option Addr) (cap : Nat), n ≤ cap → pv = .slice ad n cap → (do let z ← Instr.sliceAt t pv lv hv none; pure (.value z) : Sem Next).run P w =
        .ok (.value (.slice (if cap = l.toNat then ad else ad.map (·.add (l.toNat * te.size))) (q.toNat - l.toNat) (cap - l.toNat))) w := by
      rintro ad cap hcap rfl
      refine exec_v ?_
      unfold Instr.sliceAt
      rw [Sem.run_bind, hu]
      simp only [Result.andThen_ok]
      unfold Instr.slice
      rw [Sem.run_bind, hu]
      simp only [Result.andThen_ok]
      rw [Sem.run_bind, bounds_ok true n cap hcap hl' hq' hg.1.1 hg.1.2 hg.2]
      simp only [Result.andThen_ok]
      rw [Sem.run_bind, (hC.tt _ _ hte).run_size]
      rfl
    by_cases h0 : q.toNat - l.toNat = 0
    · have fin : ∀ ad cap', Rel E (.rsl (q.toNat - l.toNat) sz fun j => get (l.toNat + j)) (.slice ad (q.toNat - l.toNat) cap') := fun ad cap' => by
        rw [h0]; exact .c _ _ (.rsl0 sz _ _ _)
      cases hrs with
      | rsl0 _ _ ad cap => exact Sound.val0 hw (run ad cap (Nat.zero_le _) rfl) (fin _ _)
      | rsl _ _ _ bk o cap u hcap hl1 hcell h1 hr => exact Sound.val0 hw (run _ cap hcap rfl) (fin _ _)
    · cases hrs with
      | rsl0 _ _ ad cap => omega
      | rsl _ _ _ bk o cap u hcap hl1 hcell h1 hr =>
        refine Sound.val0 hw (run _ cap hcap rfl) ?_
        rw [if_neg (by omega)]
        simp only [Option.map_some, addr_add, ← hsz]
        refine .c _ _ (.rsl _ sz _ bk (o + l.toNat * sz) _ (fun i j => u (l.toNat + i) j) (by omega) (fun i hi => hl1 _ (by omega)) (fun i hi j hj => ?_) (fun i hi j hj => h1 _ (by omega) _ hj) (fun i hi j hj => hr _ (by omega) _ _))
        have := hcell (l.toNat + i) (by omega) j hj
        rw [Nat.add_mul] at this
        rw [show o + l.toNat * sz + i * sz + j = o + (l.toNat * sz + i * sz) + j by omega]
        exact this
  · rename_i el b k hd
    rw [hd] at hu
    obtain ⟨y, hy, hh⟩ := RM.evalL_rd h; clear h; have h := hh; clear hh
    cases y with
    | row n sz get rt k' =>
      simp only at h
      split at h
      · split at h
        · simp [RM.evalL] at h
        obtain ⟨te, hte, hh⟩ := RM.evalL_opt h; clear h; have h := hh; clear hh
        obtain ⟨hm, hh⟩ := RM.evalL_must h; clear h; have h := hh; clear hh
        have hsz := beq_t hm
        obtain ⟨hk, hh⟩ := RM.evalL_grd h; clear h; have h := hh; clear hh
        have hkk := beq_t hk
        subst hkk
        obtain ⟨hg, hh⟩ := RM.evalL_grd h; clear h; have h := hh; clear hh
        simp only [Bool.and_eq_true, decide_eq_true_eq] at hg
        obtain rfl := rv_eval h
        have hhv := rh0 rfl
        subst hhv
        obtain ⟨hvd, hvn, hnd, hlen, u, hu2, husz, hun, hrow⟩ := hw.blk b _ hy
        cases rp with
        | c _ _ h => cases h
        | osl _ _ aa n' cap' hvd' hx =>
          have hval := hx u hu2
          have run : ∀ (ad : Option Addr) (cap : Nat), n ≤ cap → Value.slice aa n' cap' = .slice ad n cap → (do let z ← Instr.sliceAt t (.slice aa n' cap') lv none none; pure (.value z) : Sem Next).run P w =
              .ok (.value (.slice (if cap = l.toNat then ad else ad.map (·.add (l.toNat * te.size))) (n - l.toNat) (cap - l.toNat))) w := by
            intro ad cap hcap he
            rw [he]
            refine exec_v ?_
            unfold Instr.sliceAt
            rw [Sem.run_bind, hu]
            simp only [Result.andThen_ok]
            unfold Instr.slice
            rw [Sem.run_bind, hu]
            simp only [Result.andThen_ok]
            rw [Sem.run_bind, bounds_ok true n cap hcap hl' (.inl ⟨rfl, rfl⟩) hg.1 (by omega) (Int.le_refl _)]
            simp only [Result.andThen_ok]
            rw [Sem.run_bind, (hC.tt _ _ hte).run_size]
            simp
          rcases hrow with ⟨⟨a0, h1, ha0⟩, rfl⟩ | ⟨hlv, hblk, vs, cap, h1, hcap, hvs, hh, hc⟩
          · rw [h1] at hval
            refine Sound.val0 hw (run a0 0 (Nat.le_refl _) hval) (.oss b k _ _ _ _ hvd fun u' hu' => ?_)
            rw [hu2] at hu'
            simp only [Option.some.injEq] at hu'
            subst hu'
            exact ⟨by omega, by omega, fun h => by omega⟩
          · rw [h1] at hval
            refine Sound.val0 hw (run _ cap hcap hval) (.oss b k _ _ _ _ hvd fun u' hu' => ?_)
            rw [hu2] at hu'
            simp only [Option.some.injEq] at hu'
            subst hu'
            refine ⟨by omega, by omega, fun h => ?_⟩
            rw [if_neg (by omega), hblk, husz]
            simp only [Option.map_some, addr_add, ← hsz, Nat.zero_add]
      · obtain ⟨te, hte, hh⟩ := RM.evalL_opt h; clear h; have h := hh; clear hh
        obtain ⟨q, hq, hh⟩ := RM.evalL_opt h; clear h; have h := hh; clear hh
        have hq' : BndRel hv n q := bnd_of (o := hi) (E := E) hq rh rh0
        obtain ⟨hk, hh⟩ := RM.evalL_grd h; clear h; have h := hh; clear hh
        have hkk := beq_t hk
        subst hkk
        obtain ⟨hg, hh⟩ := RM.evalL_grd h; clear h; have h := hh; clear hh
        simp only [Bool.and_eq_true, decide_eq_true_eq] at hg
        simp only [RM.evalL, Option.some.injEq, Prod.mk.injEq] at h
        obtain ⟨rfl, _⟩ := h
        simp only [Option.some.injEq] at hl
        subst hl
        have hb0 := hw.blk b _ hy
        obtain ⟨hvd, hvn, hnd, hlen, u, hu2, husz, hun, hrow⟩ := hb0
        cases rp with
        | c _ _ h => cases h
        | osl _ _ aa n' cap' hvd' hx =>
          have hval := hx u hu2
          have run : ∀ (ad : Option Addr) (cap : Nat), n ≤ cap → Value.slice aa n' cap' = .slice ad n cap → (∀ p, ad = some p → p.spot = none) → (do let z ← Instr.sliceAt t (.slice aa n' cap') lv hv none; pure (.value z) : Sem Next).run P w =
              .ok (.value (.slice ad q.toNat cap)) w := by
            intro ad cap hcap he hsp
            rw [he]
            refine exec_v ?_
            unfold Instr.sliceAt
            rw [Sem.run_bind, hu]
            simp only [Result.andThen_ok]
            unfold Instr.slice
            rw [Sem.run_bind, hu]
            simp only [Result.andThen_ok]
            rw [Sem.run_bind, bounds_ok true n cap hcap (.inl ⟨rl0 rfl, rfl⟩) hq' (Int.le_refl _) hg.1 hg.2]
            simp only [Result.andThen_ok]
            rw [Sem.run_bind, (hC.tt _ _ hte).run_size]
            cases ad with
            | none => simp
            | some p => simp [Addr.add]
          have fin : ∀ (H : RowH) (r : Option Nat), RowRel E w q.toNat sz get rt H r → (∃ ad cap, H.val = .slice ad q.toNat cap) → (∀ p, r = some p → E.lv b ∧ p = E.ρ b) → (do let z ← Instr.sliceAt t (.slice aa n' cap') lv hv none; pure (.value z) : Sem Next).run P w = .ok (.value H.val) w →
              Sound P w0 m0 E hp w i ⟨.val (.osl b (k + 1)), [(b, .row q.toNat sz get rt (k + 1))], false⟩ lg ((do let z ← Instr.sliceAt t (.slice aa n' cap') lv hv none; pure (.value z) : Sem Next).run P w) := by
            intro H r hR hsl hr hrun
            refine ⟨H.val, w, E.rowAt b (k + 1) H r, .inl hrun, Env.rowAt_le hnd (hvn _ (by omega)), ?_, ?_, fun x hx => .inl ((Env.rowAt_has hx).elim id fun hb => hb ▸ .inr (.inr ⟨k, hvd⟩))⟩
            · obtain ⟨ad, cap, hv2⟩ := hsl
              rw [hv2]
              refine .osl b (k + 1) ad q.toNat cap (.inl ⟨rfl, rfl⟩) fun u' hu' => ?_
              rw [Env.rowAt_hdr] at hu'
              simp only [Option.some.injEq] at hu'
              rw [← hu', hv2]
            · exact hw.row hnd (hvn _ (by omega)) (fun p hp => .inl (hr p hp)) (fun p hp => by obtain ⟨h1, h2⟩ := hr p hp; rw [h2]; exact (hw.own b h1).1) (fun _ _ _ => rfl) (Nat.le_refl _) rfl rfl rfl _
                (hR.brel hnd fun k' hk' => hvn k' (by omega))
          rcases hrow with ⟨⟨a0, h1, ha0⟩, rfl⟩ | ⟨hlv, hblk, vs, cap, h1, hcap, hvs, hh, hc⟩
          · rw [h1] at hval
            have hq0 : q = 0 := by omega
            subst hq0
            exact fin ⟨.slice a0 0 0, 0, sz, 0⟩ none ⟨fun i hi => absurd hi (by simp), rfl, rfl, .inl ⟨rfl, ⟨a0, rfl, ha0⟩, rfl⟩⟩ ⟨a0, 0, rfl⟩ (fun p hp => by cases hp) (run a0 0 (Nat.le_refl _) hval ha0)
          · rw [h1] at hval
            exact fin ⟨.slice (some ⟨E.ρ b, 0, none⟩) q.toNat cap, E.ρ b, sz, q.toNat⟩ (some (E.ρ b)) ⟨fun i hi => hlen i (by omega), rfl, rfl, .inr ⟨_, rfl, rfl, vs, cap, rfl, by omega, hvs, hh, fun i hi => hc i (by omega)⟩⟩ ⟨_, _, rfl⟩
              (fun p hp => by simp only [Option.some.injEq] at hp; exact ⟨hlv, hp.symm⟩) (run _ cap hcap hval (fun p hp => by simp only [Option.some.injEq] at hp; subst hp; rfl))
    | _ => simp [RM.evalL] at h
  · simp [RM.evalL] at h
end Go.Proofs.Am

/- Operations: builtin functions, calls; all of them together. -/
namespace Go.Proofs.Am
open Go Go.RowKit
variable {P : Program} {w0 : Base} {m0 : Mem}
variable {C : Ctx} {E : Env} {hp : Hp} {w : World} {i : Nat} {tm : Tm} {nt : Nat} {a : Act} {e : Eff} {lg : List Nat}

theorem slice_sound (hC : CtxOK P C) (hw : WRel w0 m0 E hp w) (ht : TmRel E tm nt a.tmps) {o : Oper} {t : TypeId} {x : Operand} {lo hi : Option Operand} (ho : o.op = .slice t x lo hi none)
    (h : (aop C i tm o).evalL hp [] = some (e, lg)) : Sound P w0 m0 E hp w i e lg ((execOp a.eval o).run P w) := by
  have hx : execOp a.eval o = (do let z ← Instr.sliceAt t (a.eval x) (lo.map a.eval) (hi.map a.eval) none; pure (.value z)) := by unfold execOp; rw [ho]; rfl
  rw [hx]
  simp only [aop, opPick, opBuild, opBuildSlice, opMakeSlice, opNilCheck, opBin, opConvert, opSlice, opFieldAddr, opField, opIndex, opCall, ho] at h
  obtain ⟨p, hp1, hh⟩ := RM.evalL_opt h; clear h; have h := hh; clear hh
  have rp := ev_rel ht hp1
  cases lo with
  | none =>
    cases hi with
    | none => exact slice_core hC hw rp (lo := none) (hi := none) (fun b hb => by cases hb) (fun _ => rfl) (fun b hb => by cases hb) (fun _ => rfl) h
    | some y =>
      obtain ⟨q, hq, hh⟩ := RM.evalL_opt h; clear h; have h := hh; clear hh
      exact slice_core hC hw rp (lo := none) (hi := some q) (fun b hb => by cases hb) (fun _ => rfl) (fun b hb => by simp only [Option.some.injEq] at hb; subst hb; exact ⟨_, rfl, ev_rel ht hq⟩) (fun hb => by cases hb) h
  | some z =>
    cases hi with
    | none =>
      obtain ⟨q, hq, hh⟩ := RM.evalL_opt h; clear h; have h := hh; clear hh
      exact slice_core hC hw rp (lo := some q) (hi := none) (fun b hb => by simp only [Option.some.injEq] at hb; subst hb; exact ⟨_, rfl, ev_rel ht hq⟩) (fun hb => by cases hb) (fun b hb => by cases hb) (fun _ => rfl) h
    | some y =>
      obtain ⟨q, hq, hh⟩ := RM.evalL_opt h; clear h; have h := hh; clear hh
      obtain ⟨q', hq', hh⟩ := RM.evalL_opt h; clear h; have h := hh; clear hh
      exact slice_core hC hw rp (lo := some q) (hi := some q') (fun b hb => by simp only [Option.some.injEq] at hb; subst hb; exact ⟨_, rfl, ev_rel ht hq⟩) (fun hb => by cases hb)
        (fun b hb => by simp only [Option.some.injEq] at hb; subst hb; exact ⟨_, rfl, ev_rel ht hq'⟩) (fun hb => by cases hb) h

theorem maxV_rel {x y z : AV} {xv yv : Value} (rx : Rel E x xv) (ry : Rel E y yv) (h : maxV x y = some z) : ∃ v, Builtin.max2 xv yv = pure v ∧ Rel E z v := by
  unfold maxV at h
  split at h
  · simp only [Option.some.injEq] at h
    subst h
    obtain rfl := rx.n_inv
    obtain rfl := ry.n_inv
    exact ⟨_, rfl, .n _ _⟩
  · split at h
    · rename_i h1 h2
      simp only [Option.some.injEq] at h
      subst h
      obtain rfl := rx.plain h1
      obtain rfl := ry.plain h2
      exact ⟨_, rfl, .v _⟩
    · cases h
theorem minV_rel {x y z : AV} {xv yv : Value} (rx : Rel E x xv) (ry : Rel E y yv) (h : minV x y = some z) : ∃ v, Builtin.min2 xv yv = pure v ∧ Rel E z v := by
  unfold minV at h
  split at h
  · simp only [Option.some.injEq] at h
    subst h
    obtain rfl := rx.n_inv
    obtain rfl := ry.n_inv
    exact ⟨_, rfl, .n _ _⟩
  · split at h
    · rename_i h1 h2
      simp only [Option.some.injEq] at h
      subst h
      obtain rfl := rx.plain h1
      obtain rfl := ry.plain h2
      exact ⟨_, rfl, .v _⟩
    · cases h
theorem foldO_rel {f : AV → AV → Option AV} {g : Value → Value → Sem Value} (hf : ∀ {x y z xv yv}, Rel E x xv → Rel E y yv → f x y = some z → ∃ v, g xv yv = pure v ∧ Rel E z v) :
    ∀ {xs : List AV} {vs : List Value} {x z : AV} {xv : Value}, Rel E x xv → RelL E xs vs → foldO f x xs = some z → ∃ v, (vs.foldlM g xv).run P w = .ok v w ∧ Rel E z v
  | [], vs, x, z, xv, rx, rl, h => by
    simp only [foldO, Option.some.injEq] at h
    subst h
    obtain rfl := rl.nil_inv
    exact ⟨xv, rfl, rx⟩
  | y :: ys, vs, x, z, xv, rx, rl, h => by
    obtain ⟨yv, ysv, rfl, ry, rys⟩ := rl.cons_inv
    simp only [foldO] at h
    cases hq : f x y with
    | none => rw [hq] at h; cases h
    | some q =>
      rw [hq] at h
      obtain ⟨v, hv, rv⟩ := hf rx ry hq
      obtain ⟨u, hu, ru⟩ := foldO_rel hf rv rys h
      refine ⟨u, ?_, ru⟩
      rw [List.foldlM_cons, hv, pure_bind]
      exact hu

theorem fold1_rel {f : AV → AV → Option AV} {g : Value → Value → Sem Value} (hf : ∀ {x y z xv yv}, Rel E x xv → Rel E y yv → f x y = some z → ∃ v, g xv yv = pure v ∧ Rel E z v)
    {xs : List AV} {vs : List Value} {z : AV} (hr : RelL E xs vs) (hz : fold1 f xs = some z) (why : String) :
    ∃ v, (match vs with | [] => stuck why | x :: rest => rest.foldlM g x : Sem Value).run P w = .ok v w ∧ Rel E z v := by
  cases xs with
  | nil => cases hz
  | cons x xs =>
    obtain ⟨xv, xvs, rfl, rx, rxs⟩ := hr.cons_inv
    exact foldO_rel hf rx rxs hz

theorem len_run {t ty : TypeId} {d : TypeDesc} (hu : (underlying t).run P w = .ok d w) (xv : Value) (n : Nat)
    (h : (∃ el ad cap, d = .slice el ∧ xv = .slice ad n cap) ∨ (∃ s : ByteArray, d = .string ∧ xv = .string s ∧ n = s.size) ∨ ∃ el, d = .array n el) : (Builtin.len_ #[t] ty #[xv]).run P w = .ok (.int .i64 n) w := by
  rcases h with ⟨el, ad, cap, rfl, rfl⟩ | ⟨s, rfl, rfl, rfl⟩ | ⟨el, rfl⟩
  · simp [Builtin.len_, hu, goInt]
  · simp [Builtin.len_, hu, goInt]
  · simp [Builtin.len_, hu, goInt]

theorem RelC.ofConst (m : Mem) (x : Value) : RelC m (Am.ofConst x) x := by
  unfold Am.ofConst
  split
  · exact .n _ _
  · exact .t _
  · exact .v _

theorem clear_row {t ty el : TypeId} {cc : Array Bool} {te : TI} {b k lo n sz : Nat} {get : Nat → List AV} {rt : TypeId} {xv : Value} (hw : WRel w0 m0 E hp w) (hu : (underlying t).run P w = .ok (.slice el) w) (ht : TIok P el te)
    (hsz : sz = te.size) (hzl : te.zero.length = te.size) (hone : (te.zero.all fun x => x.oneCell') = true) (rx : Rel E (.oss b k lo) xv) (hy : tget hp b = some (.row n sz get rt k)) :
    Sound P w0 m0 E hp w i ⟨.val (.tup []), [(b, .row n sz (clearGet get lo (te.zero.map Am.ofConst)) rt k)], false⟩ lg ((builtin .clear #[t] ty cc #[xv]).run P w) := by
  obtain ⟨hvd, hvn, hnd, hlen, u, hu2, husz, hun, hrow⟩ := hw.blk b _ hy
  have hset : ∀ j, clearGet get lo (te.zero.map Am.ofConst) j = if j < lo then get j else te.zero.map Am.ofConst := by
    intro j
    unfold clearGet
    cases hb : Nat.blt j lo with
    | true => rw [if_pos (blt_lt hb)]
    | false => rw [if_neg]; intro h; rw [show Nat.blt j lo = true from Nat.ble_eq_true_of_le h] at hb; cases hb
  have hlen' : ∀ j, j < n → (clearGet get lo (te.zero.map Am.ofConst) j).length = sz := fun j hj => by
    rw [hset]; split
    · exact hlen j hj
    · rw [List.length_map, hzl, hsz]
  cases rx with
  | c _ _ h => cases h
  | oss _ _ _ aa n' cap' _ hx =>
    obtain ⟨g1, g2, g3⟩ := hx u hu2
    have hrel : Rel E (.tup []) (.tuple #[]) := (RelL.nil E).tup
    have fin0 : n' = 0 → (builtin .clear #[t] ty cc #[.slice aa n' cap']).run P w = .ok (.value (.tuple #[])) w := by
      rintro rfl
      refine exec_v ?_
      unfold Builtin.clear_
      cases aa <;> simp [hu]
    by_cases hn : lo < n
    · have g4 := g3 (by omega)
      subst g4
      have hn' : n' = n - lo := by omega
      subst hn'
      rcases hrow with ⟨_, hn0⟩ | ⟨hlv, hblk, vs, cap, hval, hcap, hvs, hh, hc⟩
      · omega
      obtain ⟨z, hz, hzc⟩ := ht.run_zero w
      have hzs : z.cells.size = sz := by
        have := congrArg List.length hzc
        simp only [Array.length_toList] at this
        omega
      have hzl2 : (Builtin.zeroCells z.cells (n - lo)).toList.length = (n - lo) * sz := by simp [Builtin.zeroCells, hzs]
      have hzg : ∀ q, q < (n - lo) * sz → 0 < sz → (Builtin.zeroCells z.cells (n - lo)).toList[q]? = z.cells[q % sz]? := fun q hq hp => by
        have hm : q % sz < z.cells.size := by rw [hzs]; exact Nat.mod_lt _ hp
        rw [Array.getElem?_toList]
        unfold Builtin.zeroCells
        simp only [Array.getElem?_map, hzs]
        rw [Array.getElem?_range, if_pos hq]
        simp [hm]
      have hz1 : ∀ v ∈ (Builtin.zeroCells z.cells (n - lo)).toList, v.oneCell' = true := fun v hv => by
        obtain ⟨q, hq, rfl⟩ := List.mem_iff_getElem.1 hv
        rw [hzl2] at hq
        have hp : 0 < sz := by
          rcases Nat.eq_zero_or_pos sz with h0 | h0
          · rw [h0] at hq; simp at hq
          · exact h0
        have h1 := hzg q hq hp
        rw [List.getElem?_eq_getElem (by rw [hzl2]; exact hq)] at h1
        have hm : (Builtin.zeroCells z.cells (n - lo)).toList[q]'(by rw [hzl2]; exact hq) ∈ te.zero := by
          rw [← hzc]
          exact Array.mem_toList_iff.2 (Array.mem_of_getElem? h1.symm)
        exact List.all_eq_true.1 hone _ hm
      have hmul : lo * sz + (n - lo) * sz ≤ cap * sz := by
        rw [← Nat.add_mul, show lo + (n - lo) = n by omega]
        exact Nat.mul_le_mul_right sz hcap
      have hst := run_storeCells_at (P := P) (E.ρ b) (lo * sz) rt (Builtin.zeroCells z.cells (n - lo)).toList 0 vs w hh (by omega) hz1
      simp only [Nat.add_zero] at hst
      obtain ⟨W, hW⟩ : ∃ W, W = w.setRow (E.ρ b) (vs.toList.take (lo * sz) ++ (Builtin.zeroCells z.cells (n - lo)).toList ++ vs.toList.drop (lo * sz + (Builtin.zeroCells z.cells (n - lo)).toList.length)).toArray := ⟨_, rfl⟩
      rw [← hW] at hst
      have hrun : (builtin .clear #[t] ty cc #[.slice (some ⟨u.blk, lo * u.sz, none⟩) (n - lo) cap']).run P w = .ok (.value (.tuple #[])) W := by
        refine exec_v (x := Value.tuple #[]) ?_
        unfold Builtin.clear_
        rw [hblk, husz]
        obtain ⟨q, hq⟩ : ∃ q, n - lo = q + 1 := ⟨n - lo - 1, by omega⟩
        rw [hq] at hst
        simp [hu, hq, hz, hst]
      refine ⟨.tuple #[], W, E, .inl hrun, .refl E, hrel, ?_, fun b hb => .inl hb⟩
      subst hW
      refine hw.set hlv _ (fun k hk => setRow_heap w _ _ k hk) (by simp [World.setRow]) rfl rfl rfl ⟨hvd, hvn, hnd, hlen', u, hu2, husz, hun, .inr ⟨hlv, hblk, _, cap, hval, hcap, ?_, setRow_same w _ _ vs rt (0, 0) hh, ?_⟩⟩
      · simp only [List.size_toArray, List.length_append, List.length_take, List.length_drop, Array.length_toList] at *
        omega
      · intro j hj q hq
        have hq' : q < sz := by rw [hlen' j hj] at hq; exact hq
        have hsp := fun k => splice_get vs.toList (Builtin.zeroCells z.cells (n - lo)).toList (lo * sz) k (by rw [hzl2, Array.length_toList, hvs]; omega)
        rw [List.getElem?_toArray, List.append_assoc, hsp]
        have hgq : (clearGet get lo (te.zero.map Am.ofConst) j)[q]? = some (clearGet get lo (te.zero.map Am.ofConst) j)[q] := List.getElem?_eq_getElem hq
        have hj1 : (j + 1) * sz ≤ n * sz := Nat.mul_le_mul_right sz (by omega)
        rw [Nat.add_mul, Nat.one_mul] at hj1
        have hnl : (n - lo) * sz = n * sz - lo * sz := Nat.sub_mul ..
        by_cases e : j < lo
        · have e1 : (clearGet get lo (te.zero.map Am.ofConst) j)[q]? = (get j)[q]? := by rw [hset, if_pos e]
          rw [e1] at hgq
          obtain ⟨hlt, hge⟩ := List.getElem?_eq_some_iff.1 hgq
          obtain ⟨x, hx, hx1, hrx⟩ := hc j hj q hlt
          have : (j + 1) * sz ≤ lo * sz := Nat.mul_le_mul_right sz (by omega)
          rw [Nat.add_mul, Nat.one_mul] at this
          rw [if_neg (by omega)]
          exact ⟨x, by simpa using hx, hx1, by rw [← hge]; exact hrx⟩
        · have e1 : (clearGet get lo (te.zero.map Am.ofConst) j)[q]? = (te.zero.map Am.ofConst)[q]? := by rw [hset, if_neg e]
          rw [e1] at hgq
          have hlo : lo * sz ≤ j * sz := Nat.mul_le_mul_right sz (by omega)
          rw [if_pos (by rw [hzl2]; omega)]
          have hqz : q < te.zero.length := by omega
          refine ⟨te.zero[q], ?_, List.all_eq_true.1 hone _ (List.getElem_mem hqz), ?_⟩
          · rw [hzg _ (by omega) (by omega)]
            have e2 : (j * sz + q - lo * sz) % sz = q := by
              have : j * sz + q - lo * sz = q + (j - lo) * sz := by rw [Nat.sub_mul]; omega
              rw [this, Nat.add_mul_mod_self_right, Nat.mod_eq_of_lt hq']
            rw [e2, ← Array.getElem?_toList, hzc, List.getElem?_eq_getElem hqz]
          · rw [List.getElem?_map, List.getElem?_eq_getElem hqz] at hgq
            simp only [Option.map_some, Option.some.injEq] at hgq
            rw [← hgq]
            exact RelC.ofConst _ _
    · refine ⟨.tuple #[], w, E, .inl (fin0 (by omega)), .refl E, hrel, ?_, fun b hb => .inl hb⟩
      refine ⟨hw.keep, hw.mem, hw.mem0, hw.own, hw.inj, fun c x hc => ?_⟩
      rw [show (([(b, AB.row n sz (clearGet get lo (te.zero.map Am.ofConst)) rt k)] : Hp) ++ hp) = (b, AB.row n sz (clearGet get lo (te.zero.map Am.ofConst)) rt k) :: hp from rfl, tget_cons] at hc
      by_cases e : b = c
      · subst e
        rw [if_pos rfl] at hc
        simp only [Option.some.injEq] at hc
        subst hc
        have hgeq : ∀ j, j < n → clearGet get lo (te.zero.map Am.ofConst) j = get j := fun j hj => by rw [hset, if_pos (by omega)]
        refine ⟨hvd, hvn, hnd, hlen', u, hu2, husz, hun, ?_⟩
        rcases hrow with h | ⟨a1, a2, vs, cap, a3, a4, a5, a6, a7⟩
        · exact .inl h
        · refine .inr ⟨a1, a2, vs, cap, a3, a4, a5, a6, fun j hj q hq => ?_⟩
          have e := hgeq j hj
          have hq2 : q < (get j).length := by rw [← e]; exact hq
          obtain ⟨x, hx, hx1, hr⟩ := a7 j hj q hq2
          have e2 : (clearGet get lo (te.zero.map Am.ofConst) j)[q] = (get j)[q] := by simp only [e]
          exact ⟨x, hx, hx1, by rw [e2]; exact hr⟩
      · rw [if_neg e] at hc
        exact hw.blk c x hc

theorem builtin_sound (hC : CtxOK P C) (hw : WRel w0 m0 E hp w) (hi : ¬ E.has i) {b : Builtin} {ts : Array TypeId} {ty : TypeId} {cc : Array Bool} {xs : List AV} {vs : Array Value} (hr : RelL E xs vs.toList)
    (h : (builtinOp C i b ts.toList xs).evalL hp [] = some (e, lg)) : Sound P w0 m0 E hp w i e lg ((builtin b ts ty cc vs).run P w) := by
  unfold builtinOp at h
  split at h
  · rename_i t x hts
    obtain ⟨ti, hti, hh⟩ := RM.evalL_opt h; clear h; have h := hh; clear hh
    have hu := (hC.tt _ _ hti).run_und w
    obtain ⟨xv, vs', hvs, rx, rn⟩ := hr.cons_inv
    obtain rfl := rn.nil_inv
    have e1 : vs = #[xv] := by apply Array.ext'; simpa using hvs
    have e2 : ts = #[t] := by apply Array.ext'; simpa using hts
    subst e1
    subst e2
    have fin : ∀ n : Nat, ((∃ el ad cap, ti.desc = .slice el ∧ xv = .slice ad n cap) ∨ (∃ s : ByteArray, ti.desc = .string ∧ xv = .string s ∧ n = s.size) ∨ ∃ el, ti.desc = .array n el) →
        (builtin .len #[t] ty cc #[xv]).run P w = .ok (.value (.int .i64 n)) w := fun n hn => exec_v (len_run (ty := ty) hu xv n hn)
    split at h
    · rename_i el n sz get hd
      obtain rfl := rv_eval h
      have := rx.rsl_inv
      cases this with
      | rsl0 _ _ ad cap => exact Sound.val0 hw (fin _ (.inl ⟨el, _, _, hd, rfl⟩)) (.v _)
      | rsl => exact Sound.val0 hw (fin _ (.inl ⟨el, _, _, hd, rfl⟩)) (.v _)
    · rename_i el b off n sz hd
      obtain rfl := rv_eval h
      cases rx with
      | c _ _ h => cases h
      | asl => exact Sound.val0 hw (fin _ (.inl ⟨el, _, _, hd, rfl⟩)) (.n _ _)
    · rename_i el b k hd
      obtain ⟨y, hy, hh⟩ := RM.evalL_rd h; clear h; have h := hh; clear hh
      cases y with
      | row n sz get t' k' =>
        obtain ⟨hk, hh⟩ := RM.evalL_grd h; clear h; have h := hh; clear hh
        have hkk := beq_t hk
        subst hkk
        obtain rfl := rv_eval h
        obtain ⟨hvd, hvn, hnd, hlen, u, hu2, husz, hun, hrow⟩ := hw.blk b _ hy
        cases rx with
        | c _ _ h => cases h
        | osl _ _ aa n' cap' hvd' hx =>
          have hval := hx u hu2
          have : n' = n := by
            rcases hrow with ⟨⟨a0, h1, _⟩, rfl⟩ | ⟨_, _, _, _, h1, _⟩
            · rw [h1] at hval; cases hval; rfl
            · rw [h1] at hval; cases hval; rfl
          subst this
          exact Sound.val0 hw (fin _ (.inl ⟨el, _, _, hd, rfl⟩)) (.v _)
      | _ => simp [RM.evalL] at h
    · rename_i el b k lo hd
      obtain ⟨y, hy, hh⟩ := RM.evalL_rd h; clear h; have h := hh; clear hh
      cases y with
      | row n sz get t' k' =>
        obtain ⟨hk, hh⟩ := RM.evalL_grd h; clear h; have h := hh; clear hh
        have hkk := beq_t hk
        subst hkk
        obtain rfl := rv_eval h
        obtain ⟨hvd, hvn, hnd, hlen, u, hu2, husz, hun, hrow⟩ := hw.blk b _ hy
        cases rx with
        | c _ _ h => cases h
        | oss _ _ _ aa n' cap' hvd' hx =>
          obtain ⟨g1, g2, _⟩ := hx u hu2
          have : n' = n - lo := by omega
          subst this
          exact Sound.val0 hw (fin _ (.inl ⟨el, _, _, hd, rfl⟩)) (.v _)
      | _ => simp [RM.evalL] at h
    · rename_i el hd
      obtain rfl := rv_eval h
      obtain rfl := rx.v_inv
      exact Sound.val0 hw (fin 0 (.inl ⟨el, _, _, hd, rfl⟩)) (.n _ _)
    · rename_i s hd
      obtain rfl := rv_eval h
      obtain rfl := rx.v_inv
      exact Sound.val0 hw (fin _ (.inr (.inl ⟨s, hd, rfl, rfl⟩))) (.v _)
    · rename_i n el hd
      obtain rfl := rv_eval h
      exact Sound.val0 hw (fin _ (.inr (.inr ⟨el, hd⟩))) (.n _ _)
    · simp [RM.evalL] at h
  · rename_i t x hts
    obtain ⟨ti, hti, hh⟩ := RM.evalL_opt h; clear h; have h := hh; clear hh
    have hu := (hC.tt _ _ hti).run_und w
    obtain ⟨xv, vs', hvs, rx, rn⟩ := hr.cons_inv
    obtain rfl := rn.nil_inv
    have e1 : vs = #[xv] := by apply Array.ext'; simpa using hvs
    have e2 : ts = #[t] := by apply Array.ext'; simpa using hts
    subst e1
    subst e2
    split at h
    · rename_i el b k lo hd
      obtain ⟨te, hte, hh⟩ := RM.evalL_opt h; clear h; have h := hh; clear hh
      obtain ⟨y, hy, hh⟩ := RM.evalL_rd h; clear h; have h := hh; clear hh
      cases y with
      | row n sz get t' k' =>
        obtain ⟨hm, hh⟩ := RM.evalL_must h; clear h; have h := hh; clear hh
        obtain ⟨hk, hh⟩ := RM.evalL_grd h; clear h; have h := hh; clear hh
        have hkk := beq_t hk
        subst hkk
        simp only [RM.evalL, Option.some.injEq, Prod.mk.injEq] at h
        obtain ⟨rfl, _⟩ := h
        simp only [Bool.and_eq_true] at hm
        rw [hd] at hu
        exact clear_row (ty := ty) hw hu (hC.tt _ _ hte) (beq_t hm.1) (beq_t hm.2.1) hm.2.2 rx hy
      | _ => simp [RM.evalL] at h
    · simp [RM.evalL] at h
  · obtain ⟨z, hz, hh⟩ := RM.evalL_opt h; clear h; have h := hh; clear hh
    obtain rfl := rv_eval h
    obtain ⟨v, hv, rv'⟩ := fold1_rel (P := P) (w := w) (f := maxV) (g := Builtin.max2) (fun rx ry h => maxV_rel rx ry h) hr hz _
    exact Sound.val0 hw (exec_v (x := v) hv) rv'
  · obtain ⟨z, hz, hh⟩ := RM.evalL_opt h; clear h; have h := hh; clear hh
    obtain rfl := rv_eval h
    obtain ⟨v, hv, rv'⟩ := fold1_rel (P := P) (w := w) (f := minV) (g := Builtin.min2) (fun rx ry h => minV_rel rx ry h) hr hz _
    exact Sound.val0 hw (exec_v (x := v) hv) rv'
  · rename_i sT xT s x hts
    obtain ⟨hm, hh⟩ := RM.evalL_must h; clear h; have h := hh; clear hh
    have hT := beq_t hm
    subst hT
    obtain ⟨ti, hti, hh⟩ := RM.evalL_opt h; clear h; have h := hh; clear hh
    split at h
    · rename_i el hd
      obtain ⟨te, hte, hh⟩ := RM.evalL_opt h; clear h; have h := hh; clear hh
      obtain ⟨hm2, hh⟩ := RM.evalL_must h; clear h; have h := hh; clear hh
      simp only [Bool.and_eq_true] at hm2
      have hby := Nat.le_of_ble_eq_true hm2.1
      have hzl := beq_t hm2.2.2
      obtain ⟨⟨q, g⟩, lg1, h1, hh⟩ := RM.evalL_bind _ _ h; clear h; have h := hh; clear hh
      obtain ⟨sv, vs', hvs, rs, rn⟩ := hr.cons_inv
      obtain ⟨xv, vs'', hvs', rx, rn'⟩ := rn.cons_inv
      obtain rfl := rn'.nil_inv
      have e1 : vs = #[sv, xv] := by apply Array.ext'; rw [hvs, hvs']
      have e2 : ts = #[sT, sT] := by apply Array.ext'; simpa using hts
      subst e1
      subst e2
      have hu := (hC.tt _ _ hti).und
      rw [hd] at hu
      have emp : ∀ (a0 : Option Addr), sv = .slice a0 0 0 → (∀ p, a0 = some p → p.spot = none) → q ≤ 4194304 → ∀ lg', Sound P w0 m0 E hp w i ⟨.val (.osl i 0), [(i, .row q te.size g el 0)], true⟩ lg' ((builtin .append #[sT, sT] ty cc #[sv, xv]).run P w) := by
        rintro a0 rfl ha0 hq lg'
        obtain ⟨H, r, w', hrun, ⟨aa, nn, cap, hH⟩, hR, hr1, hr2, hr3, ho, ht, hout⟩ := append_empty (ty := ty) hw hu (hC.tt _ _ hte) hzl hby ha0 rx h1 hq
        have hnd : ¬ E.dom i := fun hd => hi (.inr (.inl hd))
        have hnv : ∀ k, ¬ E.vd i k := fun k hv => hi (.inr (.inr ⟨k, hv⟩))
        have hR' : RowRel E w' q te.size g el H r := hR
        refine ⟨H.val, w', E.rowAt i 0 H r, .inl (exec_v hrun), Env.rowAt_le hnd (hnv 0), ?_, ?_, fun x hx => (Env.rowAt_has hx).imp id fun hb => ⟨rfl, hb⟩⟩
        · rw [hH]
          refine .osl i 0 aa nn cap (.inl ⟨rfl, rfl⟩) fun u' hu' => ?_
          rw [Env.rowAt_hdr] at hu'
          simp only [Option.some.injEq] at hu'
          rw [← hu', hH]
        · exact hw.row hnd (hnv 0) (fun p hp => .inr (hr1 p hp).1) (fun p hp => (hr1 p hp).2) (fun k hk _ => hr2 k hk) hr3 ho ht hout _ (hR'.brel hnd fun k' _ => hnv k')
      split at h
      · obtain ⟨hg, hh⟩ := RM.evalL_grd h; clear h; have h := hh; clear hh
        simp only [RM.evalL, Option.some.injEq, Prod.mk.injEq] at h
        obtain ⟨rfl, _⟩ := h
        exact emp none rs.v_inv (fun p hp => by cases hp) (Nat.le_of_ble_eq_true hg) _
      · obtain ⟨hg, hh⟩ := RM.evalL_grd h; clear h; have h := hh; clear hh
        simp only [RM.evalL, Option.some.injEq, Prod.mk.injEq] at h
        obtain ⟨rfl, _⟩ := h
        cases rs with
        | c _ _ h => cases h
        | asl => exact emp _ rfl (fun p hp => by simp only [Option.some.injEq] at hp; subst hp; rfl) (Nat.le_of_ble_eq_true hg) _
      · rename_i b k
        obtain ⟨y, hy, hh⟩ := RM.evalL_rd h; clear h; have h := hh; clear hh
        cases y with
        | row n sz get t' k' =>
          obtain ⟨hm3, hh⟩ := RM.evalL_must h; clear h; have h := hh; clear hh
          simp only [Bool.and_eq_true] at hm3
          have hsz := beq_t hm3.1
          have hte' := beq_t hm3.2
          subst hsz
          subst hte'
          obtain ⟨hk, hh⟩ := RM.evalL_grd h; clear h; have h := hh; clear hh
          have hkk := beq_t hk
          subst hkk
          obtain ⟨hg, hh⟩ := RM.evalL_grd h; clear h; have h := hh; clear hh
          simp only [RM.evalL, Option.some.injEq, Prod.mk.injEq] at h
          obtain ⟨rfl, _⟩ := h
          have hb0 := hw.blk b _ hy
          obtain ⟨hvd, hvn, hnd, _, u, hu2, _⟩ := hb0
          cases rs with
          | c _ _ h => cases h
          | osl _ _ a0 n0 cap0 hvd' hx =>
            have hval := hx u hu2
            obtain ⟨H, r, w', hrun, ⟨aa, nn, cap, hH⟩, hR, hr1, hr2, hr3, ho, ht, hout⟩ := append_row (ty := ty) hw hu (hC.tt _ _ hte) hzl hby rx h1 (hw.blk b _ hy) (Nat.le_of_ble_eq_true hg) hu2
            rw [hval]
            refine ⟨H.val, w', E.rowAt b (k + 1) H r, .inl (exec_v hrun), Env.rowAt_le hnd (hvn _ (by omega)), ?_, ?_, fun x hx => .inl ((Env.rowAt_has hx).elim id fun hb => hb ▸ .inr (.inr ⟨k, hvd⟩))⟩
            · rw [hH]
              refine .osl b (k + 1) aa nn cap (.inl ⟨rfl, rfl⟩) fun u' hu' => ?_
              rw [Env.rowAt_hdr] at hu'
              simp only [Option.some.injEq] at hu'
              rw [← hu', hH]
            · exact hw.row hnd (hvn _ (by omega)) (fun p hp => (hr1 p hp).1) (fun p hp => (hr1 p hp).2) hr2 hr3 ho ht hout _ (hR.brel hnd fun k' hk' => hvn k' (by omega))
        | _ => simp [RM.evalL] at h
      · simp [RM.evalL] at h
    · simp [RM.evalL] at h
  · simp [RM.evalL] at h

theorem own_sound (hw : WRel w0 m0 E hp w) {g : FuncId} {xs : List AV} {vs : Array Value} (rall : RelL E xs vs.toList) {r : Result Next} (run : r = (callFunc g vs).run P w)
    (h : (opOwn g xs).evalL hp [] = some (e, lg)) : Sound P w0 m0 E hp w i e lg r := by
  unfold opOwn at h
  split at h
  · rename_i b k
    obtain ⟨y, hy, hh⟩ := RM.evalL_rd h; clear h; have h := hh; clear hh
    cases y with
    | row n sz get t k' =>
      obtain ⟨hk, hh⟩ := RM.evalL_grd h; clear h; have h := hh; clear hh
      have hkk := beq_t hk
      subst hkk
      simp only [RM.evalL, Option.some.injEq, Prod.mk.injEq] at h
      obtain ⟨rfl, rfl⟩ := h
      obtain ⟨x, xs', hvs, rx, rn⟩ := rall.cons_inv
      obtain rfl := rn.nil_inv
      obtain ⟨hvd, hvn, hnd, hlen, u, hu, husz, hun, hrow⟩ := hw.blk b _ hy
      cases rx with
      | c _ _ h => cases h
      | osl _ _ aa n' cap' _ hx =>
        have hval := hx u hu
        rcases hrow with ⟨⟨a0, h1, ha0⟩, rfl⟩ | ⟨hlv, hblk, cs, cap, h1, hcap, hvs2, hh, hc⟩
        · rw [h1] at hval
          exact ⟨vs, none, run, ⟨_, hvs, hlen, .inl ⟨rfl, ⟨a0, hval, ha0⟩, rfl⟩⟩, fun s hs => hs, fun q hq => by cases hq⟩
        · rw [h1] at hval
          obtain ⟨h4, h5, _⟩ := hw.own b hlv
          exact ⟨vs, some (E.ρ b), run, ⟨_, hvs, hlen, .inr ⟨_, rfl, h4, h5, cs, cap, hval, hcap, hvs2, hh, hc⟩⟩, fun s hs => hs, fun q hq => ⟨b, List.mem_singleton_self b, hlv, (Option.some.inj hq).symm⟩⟩
    | _ => simp [RM.evalL] at h
  · rw [closeArgsK_eq] at h
    obtain ⟨⟨r', s⟩, lg1, h1, hh⟩ := RM.evalL_bind _ _ h; clear h; have h := hh; clear hh
    split at h
    · rename_i hs
      have hs : s = [] := hs
      subst hs
      simp only [RM.evalL, Option.some.injEq, Prod.mk.injEq] at h
      obtain ⟨rfl, rfl⟩ := h
      obtain ⟨hr, _⟩ := closeL_sound hw 6 h1 rall
      refine ⟨vs, none, run, ⟨?_, rfl⟩, fun s hs => (by cases hs), fun q hq => by cases hq⟩
      refine hr.mono fun b o hb => ?_
      unfold viewM at hb
      cases hm : E.m b with
      | some o' => rw [hm] at hb; exact hb
      | none =>
        rw [hm] at hb
        simp only at hb
        rw [if_neg (by rintro ⟨q, hq, _⟩; cases hq)] at hb
        cases hb
    · simp [RM.evalL] at h

theorem call_sound (hC : CtxOK P C) (hw : WRel w0 m0 E hp w) (hi : ¬ E.has i) (ht : TmRel E tm nt a.tmps) {o : Oper} {c : Call} (ho : o.op = .call c)
    (h : (aop C i tm o).evalL hp [] = some (e, lg)) : Sound P w0 m0 E hp w i e lg ((execOp a.eval o).run P w) := by
  have hx : execOp a.eval o = (do let d ← resolve a.eval c o.type; invoke d.target d.args) := by unfold execOp; rw [ho]
  rw [hx]
  simp only [aop, opPick, opBuild, opBuildSlice, opMakeSlice, opNilCheck, opBin, opConvert, opSlice, opFieldAddr, opField, opIndex, opCall, ho] at h
  unfold resolve
  cases hc : c.callee with
  | builtin b =>
    rw [hc] at h
    simp only at h
    obtain ⟨xs, hxs, hh⟩ := RM.evalL_opt h; clear h; have h := hh; clear hh
    exact builtin_sound hC hw hi (evs_rel ht hxs) h
  | value f =>
    rw [hc] at h
    simp only at h
    obtain ⟨p, hp1, hh⟩ := RM.evalL_opt h; clear h; have h := hh; clear hh
    have rp := ev_rel ht hp1
    split at h
    · rename_i g caps
      obtain ⟨xs, hxs, hh⟩ := RM.evalL_opt h; clear h; have h := hh; clear hh
      have rx := evs_rel ht hxs
      obtain ⟨f', vs, hv, hf, rc⟩ := rp.fn_inv
      simp only [fnRel] at hf
      subst hf
      have run : (do let d ← Deferred.ofValue (a.eval f) (c.args.map a.eval); invoke d.target d.args : Sem Next).run P w = (callFunc g ((c.args.map a.eval) ++ vs)).run P w := by
        rw [hv]
        simp [Deferred.ofValue, invoke]
      have rall : RelL E (xs ++ caps) ((c.args.map a.eval) ++ vs).toList := by
        rw [Array.toList_append]; exact rx.append rc
      split at h
      · simp only [RM.evalL, Option.some.injEq, Prod.mk.injEq] at h
        obtain ⟨rfl, _⟩ := h
        exact ⟨hC.inl _ ‹_›, _, run, rall⟩
      · split at h
        · exact own_sound hw rall run h
        rw [closeArgsK_eq] at h
        obtain ⟨⟨r, s⟩, lg1, h1, hh⟩ := RM.evalL_bind _ _ h; clear h; have h := hh; clear hh
        simp only [RM.evalL, Option.some.injEq, Prod.mk.injEq] at h
        obtain ⟨rfl, rfl⟩ := h
        obtain ⟨hr, hs⟩ := closeL_sound hw 6 h1 rall
        exact ⟨_, run, hr, hs⟩
    · rename_i l caps
      obtain ⟨xs, hxs, hh⟩ := RM.evalL_opt h; clear h; have h := hh; clear hh
      have rx := evs_rel ht hxs
      simp only [RM.evalL, Option.some.injEq, Prod.mk.injEq] at h
      obtain ⟨rfl, _⟩ := h
      obtain ⟨f', vs, hv, hf, rc⟩ := rp.fn_inv
      simp only [fnRel] at hf
      obtain ⟨hd, rfl⟩ := hf
      refine ⟨c.args.map a.eval, ?_, hd, rx⟩
      show (do let d ← Deferred.ofValue (a.eval f) (c.args.map a.eval); invoke d.target d.args : Sem Next).run P w = _
      rw [hv]
      simp [Deferred.ofValue, invoke]
    · simp [RM.evalL] at h
  | invoke r n =>
    rw [hc] at h
    simp [RM.evalL] at h

/-- Every operation. -/
theorem op_sound (hC : CtxOK P C) (hw : WRel w0 m0 E hp w) (hi : ¬ E.has i) (ht : TmRel E tm nt a.tmps) {o : Oper}
    (h : (aop C i tm o).evalL hp [] = some (e, lg)) : Sound P w0 m0 E hp w i e lg ((execOp a.eval o).run P w) := by
  cases ho : o.op with
  | move x => exact move_sound hw ht (.inl ho) h
  | assign x => exact move_sound hw ht (.inr ho) h
  | pick c x y => exact pick_sound hw ht ho h
  | alloc t => exact alloc_sound hC hw hi ho h
  | box t x => exact box_sound hw hi ht ho h
  | build t ps => exact build_sound hC hw ht ho h
  | buildSlice t n ps => exact buildSlice_sound hC hw hi ht ho h
  | makeSlice t x y => exact makeSlice_sound hC hw hi ht ho h
  | load t x => exact loadOp_sound hC hw ht ho h
  | store t x y => exact storeOp_sound hC hw ht ho h
  | nilCheck x => exact nilCheck_sound hw ht ho h
  | binOp op xT x y yT => exact binOp_sound hC hw ht ho h
  | unOp op xT x => exact unOp_sound hw ht ho h
  | convert s d x => exact convert_sound hC hw ht ho h
  | makeFunc f first caps =>
    cases f with
    | func f => exact makeFunc_sound hw ht ho h
    | _ => simp [aop, opPick, opBuild, opBuildSlice, opMakeSlice, opNilCheck, opBin, opConvert, opSlice, opFieldAddr, opField, opIndex, opCall, ho, RM.evalL] at h
  | slice t x lo hi mx =>
    cases mx with
    | none => exact slice_sound hC hw ht ho h
    | some m => simp [aop, opPick, opBuild, opBuildSlice, opMakeSlice, opNilCheck, opBin, opConvert, opSlice, opFieldAddr, opField, opIndex, opCall, ho, RM.evalL] at h
  | fieldAddr s x j => exact fieldAddr_sound hC hw ht ho h
  | field s x j => exact field_sound hC hw ht ho h
  | indexAddr t x y => exact indexAddr_sound hC hw ht ho h
  | index t x y => exact index_sound hC hw ht ho h
  | extract x j => exact extract_sound hw ht ho h
  | call c => exact call_sound hC hw hi ht ho h
  | _ => simp [aop, opPick, opBuild, opBuildSlice, opMakeSlice, opNilCheck, opBin, opConvert, opSlice, opFieldAddr, opField, opIndex, opCall, ho, RM.evalL] at h
end Go.Proofs.Am

/- The kit's machine, step by step, at the frames that the abstract machine knows. -/
namespace Go.Proofs.Am
open Go Go.RowKit
variable {P : Program}

/-- A running frame. -/
def mkF (f : FuncId) (tv : Array Value) (todo : List Item) (ds : List Deferred) (rnd : Option Nat) : Frame :=
  { fn := f, tmps := tv, todo := todo, defers := ds, mode := .run, kind := .normal, roundOf := rnd }

def actOf (tv : Array Value) : Act := { tmps := tv, defers := [] }

theorem mkF_eval (f : FuncId) (tv : Array Value) (todo : List Item) (ds : List Deferred) (rnd : Option Nat) : (mkF f tv todo ds rnd).eval = (actOf tv).eval := by
  funext x; cases x <;> rfl

variable {f : FuncId} {tv : Array Value} {k : List Item} {ds : List Deferred} {rnd : Option Nat} {cs : List Frame} {w w' : World}

theorem st_skip : step P (lone (mkF f tv (.code .skip :: k) ds rnd) cs w) = .next (lone (mkF f tv k ds rnd) cs w) :=
  step_lone_go (by simp [stepG, stepG.exec, mkF])
theorem st_label {l : Nat} : step P (lone (mkF f tv (.code (.label l) :: k) ds rnd) cs w) = .next (lone (mkF f tv k ds rnd) cs w) :=
  step_lone_go (by simp [stepG, stepG.exec, mkF])
theorem st_inBlock {l : Nat} : step P (lone (mkF f tv (.inBlock l :: k) ds rnd) cs w) = .next (lone (mkF f tv k ds rnd) cs w) :=
  step_lone_go (by simp [stepG, stepG.exec, mkF])
theorem st_inScope {b : Code} : step P (lone (mkF f tv (.inScope b :: k) ds rnd) cs w) = .next (lone (mkF f tv k ds rnd) cs w) :=
  step_lone_go (by simp [stepG, stepG.exec, mkF])
theorem st_seq {a b : Code} : step P (lone (mkF f tv (.code (.seq a b) :: k) ds rnd) cs w) = .next (lone (mkF f tv (.code a :: .code b :: k) ds rnd) cs w) :=
  step_lone_go (by simp [stepG, stepG.exec, mkF])
theorem st_block {id : Nat} {b : Code} : step P (lone (mkF f tv (.code (.block id b) :: k) ds rnd) cs w) = .next (lone (mkF f tv (.code b :: .inBlock id :: k) ds rnd) cs w) :=
  step_lone_go (by simp [stepG, stepG.exec, mkF])
theorem st_scope {b : Code} : step P (lone (mkF f tv (.code (.scope b) :: k) ds rnd) cs w) = .next (lone (mkF f tv (.code b :: .inScope b :: k) ds rnd) cs w) :=
  step_lone_go (by simp [stepG, stepG.exec, mkF])
theorem st_loop {b : Code} : step P (lone (mkF f tv (.code (.loop b) :: k) ds rnd) cs w) = .next (lone (mkF f tv (.code b :: .inLoop b :: k) ds rnd) cs w) :=
  step_lone_go (by simp [stepG, stepG.exec, mkF])
theorem st_inLoop {b : Code} : step P (lone (mkF f tv (.inLoop b :: k) ds rnd) cs w) = .next (lone (mkF f tv (.code b :: .inLoop b :: k) ds rnd) cs w) :=
  step_lone_go (by simp [stepG, stepG.exec, mkF])
theorem st_cond {x : Operand} {a b : Code} {q : Bool} (h : (actOf tv).eval x = .bool q) :
    step P (lone (mkF f tv (.code (.cond x a b) :: k) ds rnd) cs w) = .next (lone (mkF f tv (.code (if q then a else b) :: k) ds rnd) cs w) :=
  step_lone_go (by
    have h2 := mkF_eval f tv (.code (.cond x a b) :: k) ds rnd
    rw [← h2] at h
    simp only [mkF] at *
    simp [stepG, stepG.exec, h])
theorem st_region {id : Nat} {ops : Array Oper} : step P (lone (mkF f tv (.code (.region id ops false) :: k) ds rnd) cs w) = .next (lone (mkF f tv (.inRegion ops (List.range ops.size) :: k) ds rnd) cs w) :=
  step_lone_go (by simp [stepG, stepG.exec, mkF])
theorem st_region_draw {id : Nat} {ops : Array Oper} : step P (lone (mkF f tv (.code (.region id ops true) :: k) ds rnd) cs w) =
    .next (lone (mkF f tv (.inRegion ops (Region.schedule (P.follows .mixedOrders) ops (w.tape w.drawn (.order f id))) :: k) ds rnd) cs { w with drawn := w.drawn + 1 }) :=
  step_lone_go (by simp [stepG, stepG.exec, mkF, choose, Sem.run, Question.forced, Question.cut])
theorem st_regionEnd {ops : Array Oper} : step P (lone (mkF f tv (.inRegion ops [] :: k) ds rnd) cs w) = .next (lone (mkF f tv k ds rnd) cs w) :=
  step_lone_go (by simp [stepG, stepG.exec, mkF])

/-- Where an operation puts its value. -/
def putV (ops : Array Oper) (i : Nat) (tv : Array Value) (v : Value) : Array Value := match (ops[i]?).bind (·.dst) with
  | some d => tv.setIfInBounds d v
  | none => tv

theorem finish_mkF {ops : Array Oper} {i : Nat} {rest : List Nat} (v : Value) :
    (mkF f tv (.inRegion ops (i :: rest) :: k) ds rnd).finish v = mkF f (putV ops i tv v) (.inRegion ops rest :: k) ds rnd := by
  cases h : (ops[i]?).bind (·.dst) <;> simp [Frame.finish, mkF, putV, h]

theorem st_opSkip {ops : Array Oper} {i : Nat} {rest : List Nat} (h : ((ops[i]?).map (Region.wanted · (yielded ops tv))).getD false = false) :
    step P (lone (mkF f tv (.inRegion ops (i :: rest) :: k) ds rnd) cs w) = .next (lone (mkF f (putV ops i tv undef) (.inRegion ops rest :: k) ds rnd) cs w) := by
  rw [← finish_mkF]
  exact step_lone_go (by
    simp only [mkF] at *
    simp [stepG, stepG.exec, h])

def notDefer (o : Oper) : Prop := ∀ c, o.op ≠ .defer c

theorem stepG_mkF {ops : Array Oper} {i : Nat} {rest : List Nat} {o : Oper} (ho : ops[i]? = some o) (hw : Region.wanted o (yielded ops tv) = true) (hd : notDefer o) :
    stepG P true { frame := mkF f tv (.inRegion ops (i :: rest) :: k) ds rnd, callers := cs, status := .running, dying := none } w =
      stepG.apply P true (mkF f tv (.inRegion ops (i :: rest) :: k) ds rnd) cs none (execOp (actOf tv).eval o) w := by
  have he := mkF_eval f tv (.inRegion ops (i :: rest) :: k) ds rnd
  simp only [mkF] at *
  simp only [stepG, stepG.exec, ho, Option.map_some, Option.getD_some, hw, if_true, stepG.oper, Frame.oper?]
  split
  · rename_i h1 h2; exact absurd h2 (hd _)
  · rw [he]

theorem st_opValue {ops : Array Oper} {i : Nat} {rest : List Nat} {o : Oper} (ho : ops[i]? = some o) (hw : Region.wanted o (yielded ops tv) = true) (hd : notDefer o) {v : Value}
    (hr : (execOp (actOf tv).eval o).run P w = .ok (.value v) w' ∨ ((execOp (actOf tv).eval o).run P w = .ok .skip w' ∧ v = undef)) :
    step P (lone (mkF f tv (.inRegion ops (i :: rest) :: k) ds rnd) cs w) = .next (lone (mkF f (putV ops i tv v) (.inRegion ops rest :: k) ds rnd) cs w') := by
  have hg := stepG_mkF (P := P) (f := f) (k := k) (ds := ds) (rnd := rnd) (cs := cs) (w := w) (rest := rest) ho hw hd
  rw [← finish_mkF]
  refine step_lone_go ?_
  rw [hg]
  rcases hr with hr | ⟨hr, rfl⟩ <;> simp [stepG.apply, hr]

theorem st_opEnter {ops : Array Oper} {i : Nat} {rest : List Nat} {o : Oper} (ho : ops[i]? = some o) (hw : Region.wanted o (yielded ops tv) = true) (hd : notDefer o) {g : FuncId} {args : Array Value}
    (hr : (execOp (actOf tv).eval o).run P w = .ok (.enter g args) w') :
    step P (lone (mkF f tv (.inRegion ops (i :: rest) :: k) ds rnd) cs w) = .next (lone (Frame.enter P g args .normal) (mkF f tv (.inRegion ops (i :: rest) :: k) ds rnd :: cs) w') := by
  have hg := stepG_mkF (P := P) (f := f) (k := k) (ds := ds) (rnd := rnd) (cs := cs) (w := w) (rest := rest) ho hw hd
  refine step_lone_go ?_
  rw [hg]
  simp [stepG.apply, hr, mkF]

theorem st_opRound {ops : Array Oper} {i : Nat} {rest : List Nat} {o : Oper} (ho : ops[i]? = some o) (hw : Region.wanted o (yielded ops tv) = true) (hd : notDefer o) {l : Nat} {g : FuncId} {tv' : Array Value} {as b : Code}
    (hr : (execOp (actOf tv).eval o).run P w = .ok (.round l g tv' as b) w') :
    step P (lone (mkF f tv (.inRegion ops (i :: rest) :: k) ds rnd) cs w) = .next (lone (mkF g tv' [.code as, .beginRound, .code b] [] (some l)) (mkF f tv (.inRegion ops (i :: rest) :: k) ds rnd :: cs) w') := by
  have hg := stepG_mkF (P := P) (f := f) (k := k) (ds := ds) (rnd := rnd) (cs := cs) (w := w) (rest := rest) ho hw hd
  refine step_lone_go ?_
  rw [hg]
  simp [stepG.apply, hr, mkF, Frame.round]

theorem st_exit {id : Nat} {k' : List Item} (h : exitTo id k = some k') : step P (lone (mkF f tv (.code (.exit id) :: k) ds rnd) cs w) = .next (lone (mkF f tv k' ds rnd) cs w) :=
  step_lone_go (by simp [stepG, stepG.exec, mkF, h])

theorem enter_mkF {fn : Func} (h : P.funcs[f]? = some fn) {b : Code} (hb : fn.body = some b) (args : Array Value) :
    Frame.enter P f args .normal = mkF f (args ++ Array.replicate (fn.ntmps - args.size) undef) [.code b] [] none := by
  simp [Frame.enter, mkF, h, hb]

/-- A frame that is on its way out. -/
def outF (F : Frame) : Frame := { F with mode := .returning }

theorem st_ret : step P (lone (mkF f tv (.code .ret :: k) ds none) cs w) = .next (lone (outF (mkF f tv (.code .ret :: k) ds none)) cs w) :=
  step_lone_go (by simp [stepG, stepG.exec, mkF, outF])
theorem st_end : step P (lone (mkF f tv [] ds none) cs w) = .next (lone (outF (mkF f tv [] ds none)) cs w) :=
  step_lone_go (by simp [stepG, stepG.exec, mkF, outF])

/-- A round's end. -/
theorem st_leaveRound {l : Nat} {lp : Loop} (hl : w.heap[l]? = some (.loop lp)) {jump : Option Code} (todo : List Item)
    (ht : (todo = [] ∧ jump = none) ∨ (∃ k, todo = .code .ret :: k ∧ jump = some .ret) ∨ (∃ k id, todo = .code (.exit id) :: k ∧ exitTo id k = none ∧ jump = some (.exit id))) (F : Frame) :
    step P (lone (mkF f tv todo ds (some l)) (F :: cs) w) =
      .next (lone (F.finish (.bool jump.isNone)) cs { w with heap := w.heap.setIfInBounds l (.loop { lp with state := if jump.isNone then .ready else .done, pending := jump }) }) := by
  have hrun : (Instr.endRound l jump).run P w = .ok (.bool jump.isNone) { w with heap := w.heap.setIfInBounds l (.loop { lp with state := if jump.isNone then .ready else .done, pending := jump }) } := by
    unfold Instr.endRound Instr.getLoop
    simp [getObj, setObj, Sem.run, hl]
  refine step_lone_go ?_
  rcases ht with ⟨rfl, rfl⟩ | ⟨k, rfl, rfl⟩ | ⟨k, id, rfl, hx, rfl⟩
  · simp [stepG, stepG.exec, mkF, hrun, doReturn]
  · simp [stepG, stepG.exec, mkF, hrun, doReturn]
  · simp [stepG, stepG.exec, mkF, hrun, doReturn, hx]

theorem st_begin {l : Nat} {lp : Loop} (hl : w.heap[l]? = some (.loop lp)) (hs : lp.state = .ready) :
    step P (lone (mkF f tv (.beginRound :: k) ds (some l)) cs w) = .next (lone (mkF f tv k ds (some l)) cs { w with heap := w.heap.setIfInBounds l (.loop { lp with state := .busy }) }) := by
  have hrun : (Instr.beginRound l).run P w = .ok () { w with heap := w.heap.setIfInBounds l (.loop { lp with state := .busy }) } := by
    unfold Instr.beginRound Instr.getLoop
    simp [getObj, setObj, Sem.run, hl, hs]
  refine step_lone_go ?_
  simp [stepG, stepG.exec, mkF, stepG.apply, hrun, Frame.finish]

theorem st_endRange {l : Nat} {lp : Loop} (hl : w.heap[l]? = some (.loop lp)) (hs : lp.state ≠ .busy) :
    step P (lone (mkF f tv (.endRangeFunc l :: k) ds rnd) cs w) = .next (lone (mkF f tv ((lp.pending.map Item.code).toList ++ k) ds rnd) cs { w with heap := w.heap.setIfInBounds l (.loop { lp with state := .exhausted }) }) := by
  have hrun : (Instr.endLoop l).run P w = .ok lp.pending { w with heap := w.heap.setIfInBounds l (.loop { lp with state := .exhausted }) } := by
    unfold Instr.endLoop Instr.getLoop
    simp [getObj, setObj, Sem.run, hl]
    intro h
    exact absurd h hs
  refine step_lone_go ?_
  simp [stepG, stepG.exec, mkF, hrun]

/-- The function of a loop over a function is entered. -/
theorem st_rangeFunc {x : Operand} {ps : Array Tmp} {as b : Code} {g : FuncId} {caps : Array Value} (hx : (actOf tv).eval x = .func (.func g) #[] caps) (hg : ∀ (args : Array Value) (w : World), (callFunc g args).run P w = .ok (.enter g args) w) :
    step P (lone (mkF f tv (.code (.rangeFunc x ps as b) :: k) ds none) cs w) =
      .next (lone (Frame.enter P g (#[.func (.yield (w.heap.size + 1)) #[] #[]] ++ caps) .normal)
        (mkF f tv (.inRangeFunc (w.heap.size + 1) :: k) ({ target := .collected w.heap.size, args := #[] } :: ds) none :: cs)
        ((w.alloc (.deferred (some []))).alloc (.loop { state := .ready, pending := none, fn := f, tmps := tv, params := ps, assign := as, body := b, defers := w.heap.size }))) := by
  have hrun : (Instr.enterLoop f tv ps as b none).run P w = .ok (w.heap.size + 1, [{ target := .collected w.heap.size, args := #[] }])
      ((w.alloc (.deferred (some []))).alloc (.loop { state := .ready, pending := none, fn := f, tmps := tv, params := ps, assign := as, body := b, defers := w.heap.size })) := by
    unfold Instr.enterLoop
    simp
  refine step_lone_go ?_
  have he : ∀ todo ds', ({ fn := f, tmps := tv, todo := todo, defers := ds', mode := .run, kind := .normal, roundOf := none } : Frame).eval x = .func (.func g) #[] caps := fun todo ds' => by
    have := mkF_eval f tv todo ds' none
    simp only [mkF] at this
    rw [this]; exact hx
  simp [stepG, stepG.exec, mkF, hrun, stepG.apply, resolve, he, Deferred.ofValue, invoke, hg]
  rfl

theorem st_rangeFuncIn {x : Operand} {ps : Array Tmp} {as b : Code} {g : FuncId} {caps : Array Value} {r : Nat} {lp : Loop} (hr : w.heap[r]? = some (.loop lp)) (hx : (actOf tv).eval x = .func (.func g) #[] caps)
    (hg : ∀ (args : Array Value) (w : World), (callFunc g args).run P w = .ok (.enter g args) w) :
    step P (lone (mkF f tv (.code (.rangeFunc x ps as b) :: k) ds (some r)) cs w) =
      .next (lone (Frame.enter P g (#[.func (.yield w.heap.size) #[] #[]] ++ caps) .normal)
        (mkF f tv (.inRangeFunc w.heap.size :: k) ds (some r) :: cs)
        (w.alloc (.loop { state := .ready, pending := none, fn := f, tmps := tv, params := ps, assign := as, body := b, defers := lp.defers }))) := by
  have hrun : (Instr.enterLoop f tv ps as b (some r)).run P w = .ok (w.heap.size, [])
      (w.alloc (.loop { state := .ready, pending := none, fn := f, tmps := tv, params := ps, assign := as, body := b, defers := lp.defers })) := by
    have hget : (getObj r).run P w = .ok (.loop lp) w := by simp [getObj, Sem.run, hr]
    unfold Instr.enterLoop Instr.getLoop
    simp [hget]
  refine step_lone_go ?_
  have he : ∀ todo ds', ({ fn := f, tmps := tv, todo := todo, defers := ds', mode := .run, kind := .normal, roundOf := some r } : Frame).eval x = .func (.func g) #[] caps := fun todo ds' => by
    have := mkF_eval f tv todo ds' (some r)
    simp only [mkF] at this
    rw [this]; exact hx
  simp [stepG, stepG.exec, mkF, hrun, stepG.apply, resolve, he, Deferred.ofValue, invoke, hg]
  rfl

/-- A block of deferred calls that is empty is taken. -/
theorem st_unwind {F : Frame} {b : Nat} {rest : List Deferred} (hm : F.mode = .returning) (hd : F.defers = { target := .collected b, args := #[] } :: rest) (hb : w.heap[b]? = some (.deferred (some []))) :
    step P (lone F cs w) = .next (lone { F with defers := rest } cs { w with heap := w.heap.setIfInBounds b (.deferred none) }) := by
  have hrun : (Instr.takeDeferred b).run P w = .ok [] { w with heap := w.heap.setIfInBounds b (.deferred none) } := by
    unfold Instr.takeDeferred
    simp [getObj, setObj, Sem.run, hb]
  refine step_lone_go ?_
  simp [stepG, hm, unwind, hd, hrun]

theorem st_return {F c : Frame} {v : Value} {fn : Func} (hm : F.mode = .returning) (hd : F.defers = []) (hk : F.kind = .normal) (hf : P.funcs[F.fn]? = some fn) (hr : (results fn F.tmps).run P w = .ok v w) :
    step P (lone F (c :: cs) w) = .next (lone (c.finish v) cs w) :=
  step_leave_returned (v := v) ⟨hm, hd, hk, fn, hf, hr⟩
end Go.Proofs.Am

/- Configurations of the abstract machine against the kit's frames; what a run is good for. -/
namespace Go.Proofs.Am
open Go Go.RowKit

def ItRel (E : Env) : AIt → Item → Prop
  | .code c, x => x = .code c
  | .inBlock i, x => x = .inBlock i
  | .inLoop b, x => x = .inLoop b
  | .inScope b, x => x = .inScope b
  | .inReg ops rest, x => x = .inRegion ops (rest.map (·.1)) ∧ ∀ p ∈ rest, ops[p.1]? = some p.2
  | .inRange l, x => E.dom l ∧ x = .inRangeFunc (E.ρ l)
  | .endRange l, x => E.dom l ∧ x = .endRangeFunc (E.ρ l)
  | .begin, x => x = .beginRound
  | _, _ => False

def TodoRel (E : Env) : List AIt → List Item → Prop
  | [], [] => True
  | a :: as, b :: bs => ItRel E a b ∧ TodoRel E as bs
  | _, _ => False

theorem ItRel.mono {E E' : Env} (h : E.le E') {a : AIt} {x : Item} (r : ItRel E a x) : ItRel E' a x := by
  cases a <;> simp only [ItRel] at r ⊢ <;> first
    | exact r
    | exact ⟨h.dom _ r.1, by rw [h.ρ _ r.1]; exact r.2⟩
theorem TodoRel.mono {E E' : Env} (h : E.le E') : ∀ {as : List AIt} {xs : List Item}, TodoRel E as xs → TodoRel E' as xs
  | [], [], _ => trivial
  | _ :: _, _ :: _, r => ⟨r.1.mono h, TodoRel.mono h r.2⟩
  | [], _ :: _, r => r.elim
  | _ :: _, [], r => r.elim
theorem TodoRel.cons_inv {E : Env} {a : AIt} {as : List AIt} {xs : List Item} (r : TodoRel E (a :: as) xs) : ∃ y ys, xs = y :: ys ∧ ItRel E a y ∧ TodoRel E as ys := by
  cases xs with
  | nil => exact r.elim
  | cons y ys => exact ⟨y, ys, rfl, r.1, r.2⟩
theorem TodoRel.nil_inv {E : Env} {xs : List Item} (r : TodoRel E [] xs) : xs = [] := by
  cases xs with
  | nil => rfl
  | cons y ys => exact r.elim

def defsOf (E : Env) (ds : List Nat) : List Deferred := ds.map fun d => { target := .collected (E.ρ d), args := #[] }

/-- A frame. -/
def FrRel (E : Env) (fr : AFr) (F : Frame) : Prop := ∃ tv todo, F = mkF fr.fn tv todo (defsOf E fr.defs) (fr.round.map E.ρ) ∧ TmRel E fr.tm fr.nt tv ∧ TodoRel E fr.todo todo ∧
  (∀ d ∈ fr.defs, E.dom d) ∧ (∀ l, fr.round = some l → E.dom l)

theorem FrRel.mono {E E' : Env} (h : E.le E') {fr : AFr} {F : Frame} (r : FrRel E fr F) : FrRel E' fr F := by
  obtain ⟨tv, todo, rfl, h1, h2, h3, h4⟩ := r
  refine ⟨tv, todo, ?_, h1.mono h, h2.mono h, fun d hd => h.dom d (h3 d hd), fun l hl => h.dom l (h4 l hl)⟩
  congr 1
  · unfold defsOf
    exact List.map_congr_left fun d hd => by rw [h.ρ d (h3 d hd)]
  · cases hr : fr.round with
    | none => rfl
    | some l => simp [h.ρ l (h4 l hr)]

def FrsRel (E : Env) : List AFr → List Frame → Prop
  | [], [] => True
  | a :: as, b :: bs => FrRel E a b ∧ FrsRel E as bs
  | _, _ => False
theorem FrsRel.mono {E E' : Env} (h : E.le E') : ∀ {as : List AFr} {xs : List Frame}, FrsRel E as xs → FrsRel E' as xs
  | [], [], _ => trivial
  | _ :: _, _ :: _, r => ⟨r.1.mono h, FrsRel.mono h r.2⟩
  | [], _ :: _, r => r.elim
  | _ :: _, [], r => r.elim
theorem FrsRel.cons_inv {E : Env} {a : AFr} {as : List AFr} {xs : List Frame} (r : FrsRel E (a :: as) xs) : ∃ y ys, xs = y :: ys ∧ FrRel E a y ∧ FrsRel E as ys := by
  cases xs with
  | nil => exact r.elim
  | cons y ys => exact ⟨y, ys, rfl, r.1, r.2⟩

/-- What a function returns, for read-only arguments: R holds of it, and nothing that was there is turned. -/
def FunPost (w0 : World) (m0 : Mem) (R : AV → Prop) (v : Value) (w' : World) : Prop := ∃ r m', R r ∧ Below w0.heap.size w0 w' ∧ (∀ b o, m' b = some o → w'.heap[b]? = some o) ∧
  (∀ b, b < w0.heap.size → m' b = m0 b) ∧ RelC m' r v

def FunR (P : Program) (f : FuncId) (args : List AV) (R : AV → Prop) : Prop := Callable P f ∧ ∀ (m : Mem) (w : World) (vs : Array Value), (∀ b o, m b = some o → w.heap[b]? = some o) →
  RelCL m args vs.toList → Calls P f vs w fun e w' => ∃ v, e = .returned v ∧ FunPost w m R v w'

/-- A function's contract: with these arguments it returns this. -/
def Fun (P : Program) (f : FuncId) (args : List AV) (r : AV) : Prop := FunR P f args (· = r)

/-- What a function gives back that may own memory. -/
def OutOK (w0 : Base) (m' : Mem) (w' : World) (v : Value) : OutA → Prop
  | .av a => RelC m' a v
  | .row n sz get t => ∃ r, RowAt m' w' v n sz get t r ∧ ∀ b, r = some b → ¬ w0.guards b
def PostX (w0 : Base) (m0 : Mem) (R : OutA → Prop) (v : Value) (w' : World) : Prop := ∃ out m', R out ∧ Keep w0.w.heap.size w0.ex w0.w w' ∧ (∀ b o, m' b = some o → w'.heap[b]? = some o) ∧
  (∀ b, w0.guards b → m' b = m0 b) ∧ OutOK w0 m' w' v out
/-- A contract of a function that may own memory: it may turn the one block that it was handed. -/
def FunX (P : Program) (f : FuncId) (inp : InA) (R : OutA → Prop) : Prop := Callable P f ∧ ∀ (m : Mem) (w : World) (vs : Array Value) (r : Option Nat), (∀ b o, m b = some o → w.heap[b]? = some o) →
  InOK m w vs.toList inp r → Calls P f vs w fun e w' => ∃ v, e = .returned v ∧ PostX ⟨w, r⟩ m R v w'

/-- What stays fixed while one call of a function is walked. -/
structure Glob where
  P : Program
  C : Ctx
  ok : CtxOK P C
  f0 : FuncId
  w0 : Base
  m0 : Mem
  R : OutA → Prop

def Goal (G : Glob) (F : Frame) (cs : List Frame) (w : World) : Prop := ∀ bcs, ∃ v w' F', PostX G.w0 G.m0 G.R v w' ∧ Steps G.P (lone F (cs ++ bcs) w) (lone F' bcs w') ∧ F'.fn = G.f0 ∧ F'.leaving G.P w' (.returned v)

theorem Goal.step {G : Glob} {F F' : Frame} {cs cs' : List Frame} {w w' : World} (hs : ∀ bcs, step G.P (lone F (cs ++ bcs) w) = .next (lone F' (cs' ++ bcs) w')) (h : Goal G F' cs' w') : Goal G F cs w := by
  intro bcs
  obtain ⟨v, w2, F2, h1, h2, h3⟩ := h bcs
  exact ⟨v, w2, F2, h1, .head (hs bcs) h2, h3⟩

def baseOK (f0 : FuncId) (fr : AFr) : List AFr → Prop
  | [] => fr.fn = f0 ∧ fr.round = none
  | c :: cs => baseOK f0 c cs

structure Conc (G : Glob) (E : Env) (c : Conf) (F : Frame) (cs : List Frame) (w : World) : Prop where
  fr : FrRel E c.fr F
  cs : FrsRel E c.cs cs
  w : WRel G.w0 G.m0 E c.hp w
  nx : ∀ b, E.has b → b < c.nx
  base : baseOK G.f0 c.fr c.cs

def Runs0 (G : Glob) (c : Conf) : Prop := ∀ E F cs w, Conc G E c F cs w → Goal G F cs w

/-- The memory behind an operation's result. -/
def gotHp (a : AV) (seen : List Nat) (hp : Hp) : Hp := match seen with
  | [] => hp
  | _ :: _ => match AV.bare 6 a with | true => hp | false => gones seen ++ hp
def gotWr (a : AV) (seen : List Nat) (wr : List (Nat × AB)) : List (Nat × AB) := match seen with
  | [] => wr
  | _ :: _ => match AV.bare 6 a with | true => wr | false => gones seen

def bump (fresh : Bool) (nx : Nat) : Nat := match fresh with | true => nx + 1 | false => nx

/-- What one operation of a region that draws comes to. -/
inductive HistRes (G : Glob) (ops : Array Oper) (tm : Tm) (hp : Hp) (nx : Nat) (o : Oper) : AV → List Nat → List Nat → List (Nat × AB) → Hp → Nat → Prop where
  | skip (h : wantedA ops tm o = some false) : HistRes G ops tm hp nx o (.tup []) [] [] [] hp nx
  | val (a : AV) (lg : List Nat) (wr : List (Nat × AB)) (fresh : Bool) (hw : wantedA ops tm o = some true) (h : (aop G.C nx tm o).evalL hp [] = some (⟨.val a, wr, fresh⟩, lg)) :
      HistRes G ops tm hp nx o a lg [] wr (wr ++ hp) (bump fresh nx)
  | call (a : AV) (lg : List Nat) (g : FuncId) (args : List AV) (seen : List Nat) (wr : List (Nat × AB)) (fresh : Bool) (hw : wantedA ops tm o = some true)
      (h : (aop G.C nx tm o).evalL hp [] = some (⟨.call g args seen, wr, fresh⟩, lg)) (hf : Fun G.P g args a) : HistRes G ops tm hp nx o a lg seen [] hp nx
  | callx (out : OutA) (lg : List Nat) (g : FuncId) (inp : InA) (seen : List Nat) (wr : List (Nat × AB)) (fresh : Bool) (hw : wantedA ops tm o = some true)
      (h : (aop G.C nx tm o).evalL hp [] = some (⟨.callx g inp seen, wr, fresh⟩, lg)) (hf : FunX G.P g inp (· = out)) : HistRes G ops tm hp nx o (outV nx out) lg [] (outWr nx seen out) (outWr nx seen out ++ hp) (outNx nx out)

/-- The operations of a region that draws, so far, in the order of the text; the latest first. -/
inductive Hist (G : Glob) (ops : Array Oper) (nt : Nat) (tm0 : Tm) (hp0 : Hp) (nx0 : Nat) : List Rec → Tm → Hp → Nat → Prop where
  | nil : Hist G ops nt tm0 hp0 nx0 [] tm0 hp0 nx0
  | cons (rs : List Rec) (tm tm' : Tm) (hp hp1 : Hp) (nx nx1 : Nat) (i : Nat) (o : Oper) (a a' : AV) (lg seen : List Nat) (wr : List (Nat × AB))
      (h : Hist G ops nt tm0 hp0 nx0 rs tm hp nx) (hr : HistRes G ops tm hp nx o a lg seen wr hp1 nx1) (ha : ∀ E v, Rel E a v → Rel E a' v) (ht : putTm nt tm o.dst a' = some tm') :
      Hist G ops nt tm0 hp0 nx0 (⟨i, o, a', lg, gotWr a seen wr⟩ :: rs) tm' (gotHp a seen hp1) (nx1 + 1)

def recIO (r : Rec) : Nat × Oper := (r.i, r.o)

/-- What a configuration is good for. -/
def Runs (G : Glob) (c : Conf) : Prop := match c with
  | ⟨⟨f, tm, nt, .inOp r lg :: .inReg ops ((i, o) :: rest) :: k, defs, rnd⟩, cs, hp, nx⟩ =>
      wantedA ops tm o = some true → (∀ e l, r.evalL hp lg = some (e, l) → (aop G.C nx tm o).evalL hp [] = some (e, l)) →
      Runs0 G ⟨⟨f, tm, nt, .inReg ops ((i, o) :: rest) :: k, defs, rnd⟩, cs, hp, nx⟩
  | ⟨⟨f, tm, nt, .got a lg seen wr :: .inReg ops rest :: k, defs, rnd⟩, cs, hp, nx⟩ =>
      ∀ E F v ics w, Conc G E ⟨⟨f, tm, nt, .inReg ops rest :: k, defs, rnd⟩, cs, gotHp a seen hp, nx⟩ F ics w → Rel E a v → Goal G (F.finish v) ics w
  | ⟨⟨f, tm, nt, .got a lg seen wr :: .inRange l :: k, defs, rnd⟩, cs, hp, nx⟩ =>
      ∀ E F v ics w, Conc G E ⟨⟨f, tm, nt, .inRange l :: k, defs, rnd⟩, cs, gotHp a seen hp, nx⟩ F ics w → Rel E a v → Goal G (F.finish v) ics w
  | ⟨⟨f, tm, nt, .inDraw ops rest rs tm0 hp0 nx0 :: k, defs, rnd⟩, cs, hp, nx⟩ =>
      ∀ id, Hist G ops nt tm0 hp0 nx0 rs tm hp nx → number 0 ops.toList = rs.reverse.map recIO ++ rest →
      Runs0 G ⟨⟨f, tm0, nt, .code (.region id ops true) :: k, defs, rnd⟩, cs, hp0, nx0⟩
  | ⟨⟨f, tm, nt, .inOp r lg :: .inDraw ops ((i, o) :: rest) rs tm0 hp0 nx0 :: k, defs, rnd⟩, cs, hp, nx⟩ =>
      ∀ id, Hist G ops nt tm0 hp0 nx0 rs tm hp nx → number 0 ops.toList = rs.reverse.map recIO ++ ((i, o) :: rest) →
      wantedA ops tm o = some true → (∀ e l, r.evalL hp lg = some (e, l) → (aop G.C nx tm o).evalL hp [] = some (e, l)) →
      Runs0 G ⟨⟨f, tm0, nt, .code (.region id ops true) :: k, defs, rnd⟩, cs, hp0, nx0⟩
  | ⟨⟨f, tm, nt, .got a lg seen wr :: .inDraw ops ((i, o) :: rest) rs tm0 hp0 nx0 :: k, defs, rnd⟩, cs, hp, nx⟩ =>
      ∀ id hpb nxb, Hist G ops nt tm0 hp0 nx0 rs tm hpb nxb → number 0 ops.toList = rs.reverse.map recIO ++ ((i, o) :: rest) → HistRes G ops tm hpb nxb o a lg seen wr hp nx →
      Runs0 G ⟨⟨f, tm0, nt, .code (.region id ops true) :: k, defs, rnd⟩, cs, hp0, nx0⟩
  | ⟨⟨_, _, _, .inOp _ _ :: _, _, _⟩, _, _, _⟩ => True
  | ⟨⟨_, _, _, .got _ _ _ _ :: _, _, _⟩, _, _, _⟩ => False
  | c => Runs0 G c

/-- What the machine's next event owes. -/
def EvOK (G : Glob) : Ev → Prop
  | .ret a hp => (∃ r s lg, (close 6 a).evalL hp [] = some ((r, s), lg) ∧ G.R (.av r)) ∨ ∃ b k n sz get t, a = .osl b k ∧ tget hp b = some (.row n sz get t k) ∧ G.R (.row n sz get t)
  | .ite b x y => (b = true → Runs G x) ∧ (b = false → Runs G y)
  | .asr b c => b = true ∧ Runs G c
  | .chk b c => b = true ∧ Runs G c
  | .call f args c => ∃ r, Fun G.P f args r ∧ Runs G (c.give r)
  | .callx f inp seen c => ∃ out, FunX G.P f inp (· = out) ∧ Runs G (c.giveX seen out)
  | .num z c => ∃ j : Nat, z = j ∧ Runs G (c j)
  | .stop c => Runs G c
  | .fail => False
end Go.Proofs.Am
