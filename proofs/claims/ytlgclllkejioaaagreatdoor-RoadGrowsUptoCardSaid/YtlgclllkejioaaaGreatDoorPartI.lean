/- Part of the proofs about the layer of roads: slices.Clone and slices.Compact of points: they make and turn memory of their caller's own. What is wrong with a road. The reference's check of a road. MADE BY gen_first.py: the first thing with an error. The check of a scene: the program's and the reference's. Strips: what the program asks. How much of a patch is on a strip. Roads: whether a point is on one. Roads: how much of a patch is on one. Roads, by the reference: whether a point is on one. -/
import Derived.Test.YtlgclllkejioaaaGreatDoorPartH
set_option linter.unusedVariables false
set_option linter.unusedSimpArgs false

/- slices.Clone and slices.Compact of points: they make and turn memory of their caller's own. -/
namespace Go.Proofs.Am
open Go Go.RowKit Go.Proofs.Geo
set_option maxRecDepth 100000

/-- A row may be told in another way. -/
theorem RowAt.to {m : Mem} {w : World} {v : Value} {n sz : Nat} {get get' : Nat → List AV} {t : TypeId} {r : Option Nat} (h : RowAt m w v n sz get t r) (hg : ∀ i, i < n → get' i = get i) : RowAt m w v n sz get' t r := by
  obtain ⟨h1, h2⟩ := h
  refine ⟨fun i hi => by rw [hg i hi]; exact h1 i hi, ?_⟩
  rcases h2 with h2 | ⟨g, e, hlt, hmg, vs, cap, a1, a2, a3, a4, a5⟩
  · exact .inl h2
  · refine .inr ⟨g, e, hlt, hmg, vs, cap, a1, a2, a3, a4, fun i hi j hj => ?_⟩
    have e := hg i hi
    have hj' : j < (get i).length := by rw [← e]; exact hj
    obtain ⟨x, hx, hx1, hr⟩ := a5 i hi j hj'
    have e2 : (get' i)[j] = (get i)[j] := by simp only [e]
    exact ⟨x, hx, hx1, by rw [e2]; exact hr⟩
theorem FunX.row_to {P : Program} {f : FuncId} {inp : InA} {n sz : Nat} {get : Nat → List AV} {t : TypeId} (h : FunX P f inp fun o => ∃ get', o = .row n sz get' t ∧ ∀ i, i < n → get i = get' i) : FunX P f inp (· = .row n sz get t) :=
  ⟨h.1, fun m w vs r hm hi => Calls.mono (h.2 m w vs r hm hi) fun e w' ⟨v, he, out, m', ⟨get', ho, hg⟩, hk, h1, h2, h3⟩ => by
    subst ho
    obtain ⟨q, hq, hb⟩ := h3
    exact ⟨v, he, _, m', rfl, hk, h1, h2, q, hq.to hg, hb⟩⟩
theorem FunX.in_to {P : Program} {f : FuncId} {n sz : Nat} {get get' : Nat → List AV} {t : TypeId} {R : OutA → Prop} (hg : ∀ i, i < n → get' i = get i) (h : FunX P f (.row n sz get' t) R) : FunX P f (.row n sz get t) R :=
  ⟨h.1, fun m w vs r hm ⟨v, hv, hr⟩ => h.2 m w vs r hm ⟨v, hv, hr.to hg⟩⟩

abbrev rowA (L : List (Int × Int)) (k : Nat) : AB := .row L.length 2 (fun i => ptC (L.getD i (0, 0))) 72 k
noncomputable abbrev fsK : List (Nat × Func) := [(116, Tryz.f116), (117, Tryz.f117)]
theorem cK : CtxOK Tryz.prog (ctx [] fsK) := ctx_ok (show FsOK Tryz.prog fsK from ⟨Tryz.func116, Tryz.call116, Tryz.func117, Tryz.call117, trivial⟩) rfl

theorem clone_fun (l : List (Int × Int)) (h0 : 0 < l.length) (hl : l.length ≤ 4194304) : FunX Tryz.prog 117 (.args [ptsA l]) (· = .row l.length 2 (fun i => ptC (l.getD i (0, 0))) 72) := by
  refine FunX.of_run cK rfl ?_
  refine RnX.asr 1000 rfl (show Nat.blt 0 l.length = true from Nat.ble_eq_true_of_le h0) ?_
  refine RnX.asr 1000 rfl (show Nat.ble l.length 4194304 = true from Nat.ble_eq_true_of_le hl) ?_
  exact RnX.retRow 1000 rfl rfl rfl

theorem compact116_fun (L : List (Int × Int)) (h2l : 2 ≤ L.length) (hl : L.length ≤ 4194304) : FunX Tryz.prog 116 (.row L.length 2 (fun i => ptC (L.getD i (0, 0))) 72) (· = .row (compactZ L).length 2 (fun i => ptC ((compactZ L).getD i (0, 0))) 72) := by
  refine FunX.row_to ?_
  refine FunX.of_runX cK rfl ?_
  refine RnX.asr 1000 rfl rfl ?_
  refine RnX.ite 1000 rfl (fun h => ?_) (fun h => ?_)
  · have h : (L.length : Int) < 2 := of_decide_eq_true h
    omega
  refine RnX.stop 1000 rfl ?_
  have v : Nat.beq 0 0 = true := rfl
  refine RnX.loop2 (fun _ => []) (fun k : Nat => [(0, .osl 0 0), (3, I (k : Int))]) (fun k => [(0, rowA L 0)]) 1
    (fun k => 1 ≤ k ∧ k ≤ L.length ∧ ∀ j, j + 1 < k → L.getD j (0, 0) ≠ L.getD (j + 1) (0, 0)) (fun k => L.length - k) 1 ⟨Nat.le_refl _, by omega, fun j hj => by omega⟩
    ⟨⟨rfl, rfl, rfl, rfl, rfl, .cons rfl (.refl rfl) (.cons rfl (.int _ _) .nil), rfl⟩, trivial,
      .cons rfl (.row_eq rfl rfl rfl fun i hi => rfl) .nil⟩ ?_
  rintro k ⟨hk1, hk, hall⟩ ih
  refine RnX.asr 1000 rfl v ?_
  refine RnX.ite 1000 rfl (fun h => ?_) (fun h => ?_)
  · have h : (k : Int) < (L.length : Int) := of_decide_eq_true h
    obtain ⟨k, rfl⟩ : ∃ q, k = q + 1 := ⟨k - 1, by omega⟩
    have ek : IntKind.wrap IntKind.i64 (((k + 1 : Nat) : Int) - 1) = (k : Int) := by show w64 _ = _; rw [w64_id (by omega)]; omega
    have in1 : inB (((k + 1 : Nat) : Int)) L.length = true := by simp only [inB, Bool.and_eq_true, decide_eq_true_eq]; omega
    have in2 : inB (IntKind.wrap IntKind.i64 (((k + 1 : Nat) : Int) - 1)) L.length = true := by rw [ek]; simp only [inB, Bool.and_eq_true, decide_eq_true_eq]; omega
    repeat (first | refine RnX.asr 1000 rfl v ?_ | refine RnX.asr 1000 rfl in1 ?_ | refine RnX.asr 1000 rfl in2 ?_)
    refine RnX.chk 1000 rfl (by kernel_rfl) ?_
    refine RnX.ite 1000 rfl (fun he => ?_) (fun he => ?_)
    · have he := of_decide_eq_true (pairEq (a := L.getD (((k + 1 : Nat) : Int)).toNat (0, 0)) (b := L.getD (IntKind.wrap IntKind.i64 (((k + 1 : Nat) : Int) - 1)).toNat (0, 0)) he).symm
      rw [ek, Int.toNat_natCast, Int.toNat_natCast] at he
      have hg : (decide ((0 : Int) ≤ ((k + 1 : Nat) : Int)) && decide ((((k + 1 : Nat) : Int)) ≤ (L.length : Int))) = true := by simp only [Bool.and_eq_true, decide_eq_true_eq]; omega
      repeat (first | refine RnX.asr 1000 rfl v ?_ | refine RnX.asr 1000 rfl hg ?_)
      refine RnX.stop 1000 rfl ?_
      -- the inner loop: x = (k, k2, R)
      refine RnX.loop2 (fun _ => []) (fun x : Nat × Nat × List (Int × Int) => [(0, .osl 0 0), (3, I (x.1 : Int)), (4, .oss 0 0 (k + 1)), (5, I (x.2.1 : Int))]) (fun x => [(0, rowA x.2.2 0)]) 1
        (fun x => x.2.2.length = L.length ∧ 1 ≤ x.2.1 ∧ k + 1 + x.2.1 ≤ L.length ∧ x.1 ≤ k + x.2.1 ∧ k + 1 ≤ x.1 ∧ (∀ j, k + x.2.1 ≤ j → j < L.length → x.2.2.getD j (0, 0) = L.getD j (0, 0)) ∧ x.2.2.take x.1 = compactZ (L.take (k + 1 + x.2.1)))
        (fun x => L.length - x.2.1) (k + 1, 1, L)
        ⟨rfl, Nat.le_refl _, by simp only; omega, Nat.le_refl _, Nat.le_refl _, fun j _ _ => rfl, by
          simp only
          rw [compact_take L (by omega), if_pos he.symm, compact_id]
          intro j hj
          rw [List.length_take] at hj
          have e1 : (L.take (k + 1)).getD j (0, 0) = L.getD j (0, 0) := take_getD (by omega)
          have e2 : (L.take (k + 1)).getD (j + 1) (0, 0) = L.getD (j + 1) (0, 0) := take_getD (by omega)
          rw [e1, e2]; exact hall j (by omega)⟩
        ⟨⟨rfl, rfl, rfl, rfl, rfl, .cons rfl (.refl rfl) (.cons rfl (.refl rfl) (.cons rfl (.refl rfl) (.cons rfl (.int _ _) .nil))), rfl⟩, trivial,
          .cons rfl (.row_eq rfl rfl rfl fun i hi => rfl) .nil⟩ ?_
      rintro ⟨kk, k2, R⟩ ⟨hR, hk2, ht, hkt, hk0, hsame, htake⟩ ih2
      simp only at hR hk2 ht hkt hk0 hsame htake
      refine RnX.asr 1000 rfl v ?_
      refine RnX.ite 1000 rfl (fun h => ?_) (fun h => ?_)
      · have h : (k2 : Int) < ((R.length - (k + 1) : Nat) : Int) := of_decide_eq_true h
        obtain ⟨k2, rfl⟩ : ∃ q, k2 = q + 1 := ⟨k2 - 1, by omega⟩
        have ek2 : IntKind.wrap IntKind.i64 (((k2 + 1 : Nat) : Int) - 1) = (k2 : Int) := by show w64 _ = _; rw [w64_id (by omega)]; omega
        have in3 : inB (((k2 + 1 : Nat) : Int)) (R.length - (k + 1)) = true := by simp only [inB, Bool.and_eq_true, decide_eq_true_eq]; omega
        have in4 : inB (IntKind.wrap IntKind.i64 (((k2 + 1 : Nat) : Int) - 1)) (R.length - (k + 1)) = true := by rw [ek2]; simp only [inB, Bool.and_eq_true, decide_eq_true_eq]; omega
        have in5 : inB (kk : Int) R.length = true := by simp only [inB, Bool.and_eq_true, decide_eq_true_eq]; omega
        repeat (first | refine RnX.asr 1000 rfl v ?_ | refine RnX.asr 1000 rfl in3 ?_ | refine RnX.asr 1000 rfl in4 ?_)
        refine RnX.chk 1000 rfl (by kernel_rfl) ?_
        have g1 : R.getD (k + 1 + (k2 + 1)) (0, 0) = L.getD (k + 1 + (k2 + 1)) (0, 0) := hsame _ (by omega) (by omega)
        have g2 : R.getD (k + 1 + k2) (0, 0) = L.getD (k + 1 + k2) (0, 0) := hsame _ (by omega) (by omega)
        have hct := compact_take L (t := k + 1 + k2) (by omega)
        rw [show k + 1 + k2 + 2 = k + 1 + (k2 + 1) + 1 by omega, show k + 1 + k2 + 1 = k + 1 + (k2 + 1) by omega] at hct
        refine RnX.ite 1000 rfl (fun hn => ?_) (fun hn => ?_)
        · have hn : (!((R.getD (k + 1 + (((k2 + 1 : Nat) : Int)).toNat) (0, 0)).1 == (R.getD (k + 1 + (IntKind.wrap IntKind.i64 (((k2 + 1 : Nat) : Int) - 1)).toNat) (0, 0)).1 &&
              (R.getD (k + 1 + (((k2 + 1 : Nat) : Int)).toNat) (0, 0)).2 == (R.getD (k + 1 + (IntKind.wrap IntKind.i64 (((k2 + 1 : Nat) : Int) - 1)).toNat) (0, 0)).2)) = true := hn
          rw [pairEq (a := R.getD (k + 1 + (((k2 + 1 : Nat) : Int)).toNat) (0, 0)) rfl, ek2, Int.toNat_natCast, Int.toNat_natCast, g1, g2] at hn
          have hn : ¬ L.getD (k + 1 + (k2 + 1)) (0, 0) = L.getD (k + 1 + k2) (0, 0) := by simpa using hn
          repeat (first | refine RnX.asr 1000 rfl v ?_ | refine RnX.asr 1000 rfl in3 ?_ | refine RnX.asr 1000 rfl in5 ?_)
          refine RnX.stop 1000 rfl ?_
          refine RnX.weaken trivial ?_ (ih2 (kk + 1, k2 + 2, R.set kk (L.getD (k + 1 + (k2 + 1)) (0, 0))) (by simp only; omega) ⟨by simp only [List.length_set]; exact hR, by simp only; omega, by simp only; omega, by simp only; omega, by simp only; omega, fun j h1 h2 => ?_, ?_⟩)
          · refine ⟨⟨rfl, rfl, rfl, rfl, rfl, .cons rfl (.refl rfl) (.cons rfl (.eq rfl (congrArg I (w64_nat (n := kk) (m := L.length) (by omega) (by omega)))) (.cons rfl (.refl rfl) (.cons rfl (.eq rfl (congrArg I (w64_nat (n := k2 + 1) (m := L.length) (by omega) (by omega)))) .nil))), rfl⟩, trivial,
              .cons rfl (.row_eq rfl (by simp only [List.length_set]) rfl fun q hq => ?_) .nil⟩
            show ptC ((R.set kk (L.getD (k + 1 + (k2 + 1)) (0, 0))).getD q (0, 0)) = setGet (fun k => ptC (R.getD k (0, 0))) ((kk : Int)).toNat 0 (ptC (R.getD (k + 1 + (((k2 + 1 : Nat) : Int)).toNat) (0, 0))) q
            rw [Int.toNat_natCast, Int.toNat_natCast, g1, setGet_pt R (by omega)]
          · simp only at h1 h2 ⊢
            rw [List.getD_eq_getElem?_getD, List.getElem?_set_ne (by omega), ← List.getD_eq_getElem?_getD]
            exact hsame j (by omega) h2
          · simp only
            rw [show k + 1 + (k2 + 2) = k + 1 + (k2 + 1) + 1 by omega, hct, if_neg (fun e => hn e.symm), ← htake]
            rw [List.take_add_one, List.getElem?_set_self (by omega), List.take_set_of_le (by omega)]
            rfl
        · have hn : (!((R.getD (k + 1 + (((k2 + 1 : Nat) : Int)).toNat) (0, 0)).1 == (R.getD (k + 1 + (IntKind.wrap IntKind.i64 (((k2 + 1 : Nat) : Int) - 1)).toNat) (0, 0)).1 &&
              (R.getD (k + 1 + (((k2 + 1 : Nat) : Int)).toNat) (0, 0)).2 == (R.getD (k + 1 + (IntKind.wrap IntKind.i64 (((k2 + 1 : Nat) : Int) - 1)).toNat) (0, 0)).2)) = false := hn
          rw [pairEq (a := R.getD (k + 1 + (((k2 + 1 : Nat) : Int)).toNat) (0, 0)) rfl, ek2, Int.toNat_natCast, Int.toNat_natCast, g1, g2] at hn
          have hn : L.getD (k + 1 + (k2 + 1)) (0, 0) = L.getD (k + 1 + k2) (0, 0) := by simpa using hn
          refine RnX.stop 1000 rfl ?_
          refine RnX.weaken trivial ?_ (ih2 (kk, k2 + 2, R) (by simp only; omega) ⟨hR, by simp only; omega, by simp only; omega, by simp only; omega, by simp only; omega, fun j h1 h2 => hsame j (by simp only at h1; omega) h2, ?_⟩)
          · exact ⟨⟨rfl, rfl, rfl, rfl, rfl, .cons rfl (.refl rfl) (.cons rfl (.refl rfl) (.cons rfl (.refl rfl) (.cons rfl (.eq rfl (congrArg I (w64_nat (n := k2 + 1) (m := L.length) (by omega) (by omega)))) .nil))), rfl⟩, trivial,
              .cons rfl (.row_eq rfl rfl rfl fun q hq => rfl) .nil⟩
          · simp only
            rw [show k + 1 + (k2 + 2) = k + 1 + (k2 + 1) + 1 by omega, hct, if_pos hn.symm, ← htake]
      · have h : ¬ (k2 : Int) < ((R.length - (k + 1) : Nat) : Int) := of_decide_eq_false h
        have hkt2 : k + 1 + k2 = L.length := by omega
        rw [hkt2, List.take_length] at htake
        have hcl : (compactZ L).length = kk := by rw [← htake, List.length_take]; omega
        have hget : ∀ j, j < kk → R.getD j (0, 0) = (compactZ L).getD j (0, 0) := fun j hj => by rw [← htake, take_getD hj]
        have hg1 : (decide ((0 : Int) ≤ (kk : Int)) && decide ((kk : Int) ≤ (R.length : Int))) = true := by simp only [Bool.and_eq_true, decide_eq_true_eq]; omega
        repeat (first | refine RnX.asr 1000 rfl v ?_ | refine RnX.asr 1000 rfl hg1 ?_)
        refine RnX.retRow 1000 rfl rfl ⟨clearGet (fun i => ptC (R.getD i (0, 0))) ((kk : Int)).toNat (ti72.zero.map ofConst), ?_, fun i hi => ?_⟩
        · rw [hcl]; rfl
        · rw [hcl] at hi
          show ptC _ = clearGet (fun k => ptC (R.getD k (0, 0))) ((kk : Int)).toNat _ i
          rw [Int.toNat_natCast, ← hget i hi]
          unfold clearGet
          rw [show Nat.blt i kk = true from Nat.ble_eq_true_of_le hi]
    · have he := of_decide_eq_false (pairEq (a := L.getD (((k + 1 : Nat) : Int)).toNat (0, 0)) (b := L.getD (IntKind.wrap IntKind.i64 (((k + 1 : Nat) : Int) - 1)).toNat (0, 0)) he).symm
      rw [ek, Int.toNat_natCast, Int.toNat_natCast] at he
      refine RnX.stop 1000 rfl ?_
      refine RnX.weaken trivial ?_ (ih (k + 2) (by omega) ⟨by omega, by omega, fun j hj => ?_⟩)
      · exact ⟨⟨rfl, rfl, rfl, rfl, rfl, .cons rfl (.refl rfl) (.cons rfl (.eq rfl (congrArg I (w64_nat (n := k + 1) (m := L.length) (by omega) (by omega)))) .nil), rfl⟩, trivial,
          .cons rfl (.row_eq rfl rfl rfl fun i hi => rfl) .nil⟩
      · by_cases e : j = k
        · subst e; exact fun q => he q.symm
        · exact hall j (by omega)
  · have h : ¬ (k : Int) < (L.length : Int) := of_decide_eq_false h
    have hkl : k = L.length := by omega
    subst hkl
    have hid : compactZ L = L := compact_id hall
    rw [hid]
    exact RnX.retRow 1000 rfl rfl ⟨_, rfl, fun i hi => rfl⟩
end Go.Proofs.Am

/- What is wrong with a road. -/
namespace Go.Proofs.Am
open Go Go.Proofs.Geo
set_option maxRecDepth 100000

def sameR (r q : Rd) : Bool := decide (q.name = r.name)
theorem sameRoad_fun (r q : Rd) : Fun Tryz.prog 112 [.agg (rdC q), .pat (rdC r) 0] (B (sameR r q)) := by
  have c112 : CtxOK Tryz.prog (ctx [] [(112, Tryz.f112)]) := ctx_ok (show FsOK Tryz.prog [(112, Tryz.f112)] from ⟨Tryz.func112, Tryz.call112, trivial⟩) rfl
  refine Fun.of_run c112 rfl ?_
  refine Rn.ret 1000 rfl rfl ?_
  exact congrArg B (strEq q.name r.name)
def farP (p : Int × Int) : Bool := wildB [p.1, p.2]
theorem farPt_fun (p : Int × Int) : Fun Tryz.prog 113 [.agg (ptC p)] (B (farP p)) := by
  have c113 : CtxOK Tryz.prog (ctx [] [(113, Tryz.f113)]) := ctx_ok (show FsOK Tryz.prog [(113, Tryz.f113)] from ⟨Tryz.func113, Tryz.call113, trivial⟩) rfl
  refine Fun.of_run c113 rfl ?_
  refine Rn.call 1000 rfl _ (wild_fun [p.1, p.2] (by simp [small])) ?_
  exact Rn.ret 1000 rfl rfl rfl

def roadE (before : List Rd) (r : Rd) : Int :=
  if !nameB r.name then 6 else if before.any (sameR r) then 5 else if outB r.kind 0 3 then 2 else if decide ((r.pts.length : Int) < 2) then 4 else if decide ((r.pts.length : Int) > 8) then 3
  else if r.pts.any farP || outB r.width 100 30000 then 7 else if decide (((compactZ r.pts).length : Int) < (r.pts.length : Int)) then 2 else if r.kind == 3 && decide ((r.pts.length : Int) > 2) then 2 else 0

noncomputable abbrev fsR : List (Nat × Func) := [(63, Tryz.f63), (70, Tryz.f70)]
theorem cR : CtxOK Tryz.prog (ctxO [117, 116] [] fsR) := ctxO_ok (show FsOK Tryz.prog fsR from ⟨Tryz.func63, Tryz.call63, Tryz.func70, Tryz.call70, trivial⟩) rfl

theorem checkRoad_fun (l : List Rd) (hl : small l.length) (r : Rd) (hr : r.ok) : Fun Tryz.prog 63 [rdsA l, .agg (rdC r)] (I (roadE l r)) := by
  refine Fun.of_run cR rfl ?_
  refine Rn.call 1000 rfl _ (named_fun r.name hr.1) ?_
  refine Rn.ite (b := !nameB r.name) 1000 rfl (fun h1 => ?_) (fun h1 => ?_)
  · exact Rn.ret 1000 rfl rfl (by unfold roadE; rw [h1]; rfl)
  refine Rn.call 1000 rfl _ (contains90cx (rdC r) l hl (sameR r) fun q _ => sameRoad_fun r q) ?_
  refine Rn.ite (b := l.any (sameR r)) 1000 rfl (fun h2 => ?_) (fun h2 => ?_)
  · exact Rn.ret 1000 rfl rfl (by unfold roadE; rw [h1, h2]; rfl)
  refine Rn.call 1000 rfl _ (out_fun _ _ _) ?_
  refine Rn.ite (b := outB r.kind 0 3) 1000 rfl (fun h3 => ?_) (fun h3 => ?_)
  · exact Rn.ret 1000 rfl rfl (by unfold roadE; rw [h1, h2, h3]; rfl)
  refine Rn.ite (b := decide ((r.pts.length : Int) < 2)) 1000 rfl (fun h4 => ?_) (fun h4 => ?_)
  · exact Rn.ret 1000 rfl rfl (by unfold roadE; rw [h1, h2, h3, h4]; rfl)
  refine Rn.ite (b := decide ((r.pts.length : Int) > 8)) 1000 rfl (fun h5 => ?_) (fun h5 => ?_)
  · exact Rn.ret 1000 rfl rfl (by unfold roadE; rw [h1, h2, h3, h4, h5]; rfl)
  have g4 : ¬ (r.pts.length : Int) < 2 := of_decide_eq_false h4
  have g5 : ¬ (r.pts.length : Int) > 8 := of_decide_eq_false h5
  refine Rn.call 1000 rfl _ (contains115x r.pts hr.2 farP fun q _ => farPt_fun q) ?_
  have go : ∀ e : Bool, e = (r.pts.any farP || outB r.width 100 30000) → e = true → I 7 = I (roadE l r) := fun e he h => by
    unfold roadE; rw [h1, h2, h3, h4, h5, ← he, h]; rfl
  have rest : (r.pts.any farP || outB r.width 100 30000) = false → roadE l r = if decide (((compactZ r.pts).length : Int) < (r.pts.length : Int)) then 2 else if r.kind == 3 && decide ((r.pts.length : Int) > 2) then 2 else 0 := fun h => by
    unfold roadE; rw [h1, h2, h3, h4, h5, h]; rfl
  refine Rn.ite (b := r.pts.any farP) 1000 rfl (fun h6 => ?_) (fun h6 => ?_)
  · exact Rn.ret 1000 rfl rfl (go _ rfl (by rw [h6]; rfl))
  refine Rn.call 1000 rfl _ (out_fun _ _ _) ?_
  refine Rn.ite (b := outB r.width 100 30000) 1000 rfl (fun h7 => ?_) (fun h7 => ?_)
  · exact Rn.ret 1000 rfl rfl (go _ rfl (by rw [h6, h7]; rfl))
  have rest := rest (by rw [h6, h7]; rfl)
  refine Rn.callx 1000 rfl _ (clone_fun r.pts (by omega) (by omega)) ?_
  refine Rn.asr 1000 rfl rfl ?_
  refine Rn.callx 1000 rfl _ (compact116_fun r.pts (by omega) (by omega)) ?_
  refine Rn.asr 1000 rfl rfl ?_
  refine Rn.chk 1000 rfl (by kernel_rfl) ?_
  refine Rn.ite (b := decide (((compactZ r.pts).length : Int) < (r.pts.length : Int))) 1000 rfl (fun h8 => ?_) (fun h8 => ?_)
  · exact Rn.ret 1000 rfl rfl (by rw [rest, h8]; rfl)
  refine Rn.ite (b := r.kind == 3) 1000 rfl (fun h9 => ?_) (fun h9 => ?_)
  · refine Rn.ite (b := decide ((r.pts.length : Int) > 2)) 1000 rfl (fun h10 => ?_) (fun h10 => ?_)
    · exact Rn.ret 1000 rfl rfl (by rw [rest, h8, h9, h10]; rfl)
    · exact Rn.ret 1000 rfl rfl (by rw [rest, h8, h9, h10]; rfl)
  · exact Rn.ret 1000 rfl rfl (by rw [rest, h8, h9]; rfl)
end Go.Proofs.Am

/- The reference's check of a road. -/
namespace Go.Proofs.Am
open Go Go.Proofs.Geo
set_option maxRecDepth 100000

theorem compact_len : ∀ (l : List (Int × Int)), (compactZ l).length ≤ l.length
  | [] => Nat.le_refl _
  | [_] => Nat.le_refl _
  | a :: b :: r => by
    have := compact_len (b :: r)
    rw [compactZ]
    split
    · simp only [List.length_cons] at *; omega
    · simp only [List.length_cons] at *; omega
theorem compact_lt : ∀ {l : List (Int × Int)} {j : Nat}, j + 1 < l.length → l.getD j (0, 0) = l.getD (j + 1) (0, 0) → (compactZ l).length < l.length
  | [], j, h, _ => by simp at h
  | [_], j, h, _ => by simp at h
  | a :: b :: r, 0, _, e => by
    have e : a = b := e
    have := compact_len (b :: r)
    rw [compactZ, if_pos e]
    simp only [List.length_cons] at *; omega
  | a :: b :: r, j + 1, h, e => by
    have := compact_lt (l := b :: r) (j := j) (by simpa using h) e
    rw [compactZ]
    split
    · simp only [List.length_cons] at *; omega
    · simp only [List.length_cons] at *; omega

theorem rroad_fun (s : Sc) (hs : s.ok) (i : Nat) (hi : i < s.roads.length) : Fun Tryz.prog 70 [scA s, I (i : Int)] (I (roadE (s.roads.take i) (s.roads.getD i default))) := by
  have hlr : s.roads.length ≤ 9223372036854775807 := hs.1
  have hr : (s.roads.getD i default).ok := hs.2.2.2.2.1 _ (getD_mem hi)
  have in1 : inB (i : Int) s.roads.length = true := by simp only [inB, Bool.and_eq_true, decide_eq_true_eq]; omega
  refine Fun.of_run cR rfl ?_
  refine Rn.asr 1000 rfl in1 ?_
  refine Rn.call 1000 rfl _ (rname_fun (s.roads.getD i default).name hr.1) ?_
  refine Rn.ite (b := !nameB (s.roads.getD i default).name) 1000 rfl (fun h1 => ?_) (fun h1 => ?_)
  · exact Rn.ret 1000 rfl rfl (by unfold roadE; rw [h1]; rfl)
  refine Rn.stop 1000 rfl ?_
  -- other roads with this name
  refine Rn.loop2 (fun _ => []) (fun k : Nat => [(1, I (i : Int)), (2, .ptr 0 0), (5, .ptr 1 0), (6, I (k : Int))]) (fun _ => [(0, .flat [rdsA s.roads, trsA s.trees, ftsA s.fronts, clsA s.cols] 27), (1, .flat (rdC (s.roads.getD i default)) 54)]) 3
    (fun k => k ≤ i ∧ ∀ j, j < k → sameR (s.roads.getD i default) (s.roads.getD j default) = false) (fun k => i - k) 0 ⟨Nat.zero_le _, fun j hj => absurd hj (by omega)⟩
    ⟨⟨rfl, rfl, rfl, rfl, rfl, .cons rfl (.refl rfl) (.cons rfl (.refl rfl) (.cons rfl (.refl rfl) (.cons rfl (.int _ _) .nil))), rfl⟩, trivial, .cons rfl (.flat' rfl rfl) (.cons rfl (.flat' rfl rfl) .nil)⟩ ?_
  rintro k ⟨hk, hall⟩ ih
  refine Rn.ite (b := decide ((k : Int) < (i : Int))) 1000 rfl (fun h => ?_) (fun h => ?_)
  · have h : k < i := by have := of_decide_eq_true h; omega
    have in2 : inB (k : Int) s.roads.length = true := by simp only [inB, Bool.and_eq_true, decide_eq_true_eq]; omega
    refine Rn.asr 1000 rfl in2 ?_
    refine Rn.chk 1000 rfl (by kernel_rfl) ?_
    refine Rn.ite (b := ((ByteArray.mk ⟨(s.roads.getD k default).name⟩).toList == (ByteArray.mk ⟨(s.roads.getD i default).name⟩).toList)) 1000 rfl (fun h2 => ?_) (fun h2 => ?_)
    · rw [strEq] at h2
      exact Rn.ret 1000 rfl rfl (by unfold roadE; rw [h1, take_any (d := default) (Nat.le_of_lt hi) h (show sameR _ _ = true from h2)]; rfl)
    · rw [strEq] at h2
      refine Rn.stop 1000 rfl ?_
      refine Rn.weaken trivial ?_ (ih (k + 1) (by omega) ⟨h, fun j hj => ?_⟩)
      · exact ⟨⟨rfl, rfl, rfl, rfl, rfl, .cons rfl (.refl rfl) (.cons rfl (.refl rfl) (.cons rfl (.refl rfl) (.cons rfl (.eq rfl (congrArg I (w64_nat h (by omega)))) .nil))), rfl⟩, trivial, .cons rfl (.flat' rfl rfl) (.cons rfl (.flat' rfl rfl) .nil)⟩
      · rcases Nat.lt_or_ge j k with hj' | hj'
        · exact hall j hj'
        · have : j = k := by omega
          subst this; exact h2
  have h : ¬ (k : Int) < (i : Int) := of_decide_eq_false h
  have hki : k = i := by omega
  subst hki
  have h2 : (s.roads.take k).any (sameR (s.roads.getD k default)) = false := take_none (d := default) (Nat.le_of_lt hi) hall
  clear ih hall h
  generalize s.roads.take k = before at *
  generalize s.roads.getD k default = r at *
  refine Rn.call 1000 rfl _ (from_fun _ _ _) ?_
  refine Rn.ite (b := !!outB r.kind 0 3) 1000 rfl (fun h3 => ?_) (fun h3 => ?_)
  · rw [Bool.not_not] at h3
    exact Rn.ret 1000 rfl rfl (by unfold roadE; rw [h1, h2, h3]; rfl)
  rw [Bool.not_not] at h3
  refine Rn.ite (b := decide ((r.pts.length : Int) < 2)) 1000 rfl (fun h4 => ?_) (fun h4 => ?_)
  · exact Rn.ret 1000 rfl rfl (by unfold roadE; rw [h1, h2, h3, h4]; rfl)
  refine Rn.ite (b := decide ((r.pts.length : Int) > 8)) 1000 rfl (fun h5 => ?_) (fun h5 => ?_)
  · exact Rn.ret 1000 rfl rfl (by unfold roadE; rw [h1, h2, h3, h4, h5]; rfl)
  have g4 : ¬ (r.pts.length : Int) < 2 := of_decide_eq_false h4
  have g5 : ¬ (r.pts.length : Int) > 8 := of_decide_eq_false h5
  refine Rn.stop 1000 rfl ?_
  refine Rn.loop2 (fun _ => []) (fun q : Nat => [(5, .ptr 1 0), (7, I (q : Int))]) (fun _ => [(1, .flat (rdC r) 54)]) 3
    (fun q => q ≤ r.pts.length ∧ ∀ j, j < q → farP (r.pts.getD j (0, 0)) = false) (fun q => r.pts.length - q) 0 ⟨Nat.zero_le _, fun j hj => absurd hj (by omega)⟩
    ⟨⟨rfl, rfl, rfl, rfl, rfl, .cons rfl (.refl rfl) (.cons rfl (.int _ _) .nil), rfl⟩, trivial, .cons rfl (.flat' rfl rfl) .nil⟩ ?_
  rintro q ⟨hq, hall⟩ ih
  refine Rn.ite (b := decide ((q : Int) < (r.pts.length : Int))) 1000 rfl (fun h => ?_) (fun h => ?_)
  · have h : q < r.pts.length := by have := of_decide_eq_true h; omega
    have in2 : inB (q : Int) r.pts.length = true := by simp only [inB, Bool.and_eq_true, decide_eq_true_eq]; omega
    refine Rn.asr 1000 rfl in2 ?_
    refine Rn.asr 1000 rfl in2 ?_
    refine Rn.call 1000 rfl _ (placed_fun [(r.pts.getD q (0, 0)).1, (r.pts.getD q (0, 0)).2] (by simp [small])) ?_
    refine Rn.chk 1000 rfl (by kernel_rfl) ?_
    refine Rn.ite (b := !!farP (r.pts.getD q (0, 0))) 1000 rfl (fun h6 => ?_) (fun h6 => ?_)
    · rw [Bool.not_not] at h6
      exact Rn.ret 1000 rfl rfl (by unfold roadE; rw [h1, h2, h3, h4, h5, any_hit h h6]; rfl)
    · rw [Bool.not_not] at h6
      refine Rn.stop 1000 rfl ?_
      refine Rn.weaken trivial ?_ (ih (q + 1) (by omega) ⟨h, fun j hj => ?_⟩)
      · exact ⟨⟨rfl, rfl, rfl, rfl, rfl, .cons rfl (.refl rfl) (.cons rfl (.eq rfl (congrArg I (w64_nat h (by omega)))) .nil), rfl⟩, trivial, .cons rfl (.flat' rfl rfl) .nil⟩
      · rcases Nat.lt_or_ge j q with hj' | hj'
        · exact hall j hj'
        · have : j = q := by omega
          subst this; exact h6
  have h : ¬ (q : Int) < (r.pts.length : Int) := of_decide_eq_false h
  have hql : q = r.pts.length := by omega
  subst hql
  have h6 : r.pts.any farP = false := any_none (d := (0, 0)) hall
  clear ih hall h
  refine Rn.call 1000 rfl _ (from_fun _ _ _) ?_
  refine Rn.ite (b := !!outB r.width 100 30000) 1000 rfl (fun h7 => ?_) (fun h7 => ?_)
  · rw [Bool.not_not] at h7
    exact Rn.ret 1000 rfl rfl (by unfold roadE; rw [h1, h2, h3, h4, h5, h6, h7]; rfl)
  rw [Bool.not_not] at h7
  have rest : roadE before r = if decide (((compactZ r.pts).length : Int) < (r.pts.length : Int)) then 2 else if r.kind == 3 && decide ((r.pts.length : Int) > 2) then 2 else 0 := by
    unfold roadE; rw [h1, h2, h3, h4, h5, h6, h7]; rfl
  rw [rest]
  refine Rn.stop 1000 rfl ?_
  refine Rn.loop2 (fun _ => []) (fun q : Nat => [(5, .ptr 1 0), (8, I (q : Int))]) (fun _ => [(1, .flat (rdC r) 54)]) 3
    (fun q => 1 ≤ q ∧ q ≤ r.pts.length ∧ ∀ j, j + 1 < q → r.pts.getD j (0, 0) ≠ r.pts.getD (j + 1) (0, 0)) (fun q => r.pts.length - q) 1 ⟨Nat.le_refl _, by omega, fun j hj => absurd hj (by omega)⟩
    ⟨⟨rfl, rfl, rfl, rfl, rfl, .cons rfl (.refl rfl) (.cons rfl (.int _ _) .nil), rfl⟩, trivial, .cons rfl (.flat' rfl rfl) .nil⟩ ?_
  rintro q ⟨hq1, hq, hall⟩ ih
  refine Rn.ite (b := decide ((q : Int) < (r.pts.length : Int))) 1000 rfl (fun h => ?_) (fun h => ?_)
  · have h : q < r.pts.length := by have := of_decide_eq_true h; omega
    obtain ⟨q, rfl⟩ : ∃ k, q = k + 1 := ⟨q - 1, by omega⟩
    have eq1 : IntKind.wrap IntKind.i64 (((q + 1 : Nat) : Int) - 1) = (q : Int) := by show w64 _ = _; rw [w64_id (by omega)]; omega
    have in2 : inB (((q + 1 : Nat) : Int)) r.pts.length = true := by simp only [inB, Bool.and_eq_true, decide_eq_true_eq]; omega
    have in3 : inB (IntKind.wrap IntKind.i64 (((q + 1 : Nat) : Int) - 1)) r.pts.length = true := by rw [eq1]; simp only [inB, Bool.and_eq_true, decide_eq_true_eq]; omega
    refine Rn.asr 1000 rfl in2 ?_
    refine Rn.asr 1000 rfl in3 ?_
    refine Rn.chk 1000 rfl (by kernel_rfl) ?_
    refine Rn.ite 1000 rfl (fun he => ?_) (fun he => ?_)
    · have he := of_decide_eq_true (pairEq (a := r.pts.getD (((q + 1 : Nat) : Int)).toNat (0, 0)) (b := r.pts.getD (IntKind.wrap IntKind.i64 (((q + 1 : Nat) : Int) - 1)).toNat (0, 0)) he).symm
      rw [eq1, Int.toNat_natCast, Int.toNat_natCast] at he
      have hlt := compact_lt h he.symm
      exact Rn.ret 1000 rfl rfl (by rw [show decide (((compactZ r.pts).length : Int) < (r.pts.length : Int)) = true from decide_eq_true (by omega)]; rfl)
    · have he := of_decide_eq_false (pairEq (a := r.pts.getD (((q + 1 : Nat) : Int)).toNat (0, 0)) (b := r.pts.getD (IntKind.wrap IntKind.i64 (((q + 1 : Nat) : Int) - 1)).toNat (0, 0)) he).symm
      rw [eq1, Int.toNat_natCast, Int.toNat_natCast] at he
      refine Rn.stop 1000 rfl ?_
      refine Rn.weaken trivial ?_ (ih (q + 2) (by omega) ⟨by omega, by omega, fun j hj => ?_⟩)
      · exact ⟨⟨rfl, rfl, rfl, rfl, rfl, .cons rfl (.refl rfl) (.cons rfl (.eq rfl (congrArg I (w64_nat (n := q + 1) h (by omega)))) .nil), rfl⟩, trivial, .cons rfl (.flat' rfl rfl) .nil⟩
      · by_cases e : j = q
        · subst e; exact fun x => he x.symm
        · exact hall j (by omega)
  have h : ¬ (q : Int) < (r.pts.length : Int) := of_decide_eq_false h
  have hql : q = r.pts.length := by omega
  subst hql
  have h8 : decide (((compactZ r.pts).length : Int) < (r.pts.length : Int)) = false := by
    rw [compact_id hall]; exact decide_eq_false (Int.lt_irrefl _)
  rw [h8]
  refine Rn.ite (b := r.kind == 3) 1000 rfl (fun h9 => ?_) (fun h9 => ?_)
  · refine Rn.ite (b := decide ((r.pts.length : Int) > 2)) 1000 rfl (fun h10 => ?_) (fun h10 => ?_)
    · exact Rn.ret 1000 rfl rfl (by rw [h9, h10]; rfl)
    · exact Rn.ret 1000 rfl rfl (by rw [h9, h10]; rfl)
  · exact Rn.ret 1000 rfl rfl (by rw [h9]; rfl)
end Go.Proofs.Am

/- MADE BY gen_first.py: the first thing with an error. -/
namespace Go.Proofs.Am
open Go
set_option maxRecDepth 100000

def fstE (e : Nat → Int) (n : Nat) : Int × Int := match (List.range n).find? (fun i => !(e i == 0)) with | some i => ((i : Int), e i) | none => (0, 0)
theorem fstE_hit {e : Nat → Int} {n i : Nat} (hi : i < n) (h : ∀ j, j < i → e j = 0) (hp : e i ≠ 0) : fstE e n = ((i : Int), e i) := by
  unfold fstE
  have : (List.range n).find? (fun i => !(e i == 0)) = some i := by
    rw [List.find?_eq_some_iff_getElem]
    refine ⟨by simpa using hp, i, by simpa using hi, by simp, fun j hj => ?_⟩
    simp [h j hj]
  rw [this]
theorem fstE_none {e : Nat → Int} {n : Nat} (h : ∀ j, j < n → e j = 0) : fstE e n = (0, 0) := by
  unfold fstE
  have : (List.range n).find? (fun i => !(e i == 0)) = none := by
    rw [List.find?_eq_none]
    intro x hx
    rw [List.mem_range] at hx
    simp [h x hx]
  rw [this]
theorem fstE_congr {e e' : Nat → Int} {n : Nat} (h : ∀ j, j < n → e j = e' j) : fstE e n = fstE e' n := by
  by_cases hx : ∃ i, i < n ∧ e i ≠ 0
  · have : ∃ i, (i < n ∧ e i ≠ 0) ∧ ∀ j, j < i → ¬ (j < n ∧ e j ≠ 0) := by
      obtain ⟨i, hi⟩ := hx
      induction i using Nat.strongRecOn with
      | ind i ih =>
        by_cases hs : ∃ j, j < i ∧ (j < n ∧ e j ≠ 0)
        · obtain ⟨j, hj, hj2⟩ := hs; exact ih j hj hj2
        · exact ⟨i, hi, fun j hj hjn => hs ⟨j, hj, hjn⟩⟩
    obtain ⟨i, ⟨hi, hp⟩, hmin⟩ := this
    have hz : ∀ j, j < i → e j = 0 := fun j hj => Classical.byContradiction fun hn => hmin j hj ⟨by omega, hn⟩
    rw [fstE_hit hi hz hp, fstE_hit (e := e') hi (fun j hj => by rw [← h j (by omega)]; exact hz j hj) (by rw [← h i hi]; exact hp), h i hi]
  · have hz : ∀ j, j < n → e j = 0 := fun j hj => Classical.byContradiction fun hn => hx ⟨j, hj, hn⟩
    rw [fstE_none hz, fstE_none fun j hj => by rw [← h j hj]; exact hz j hj]
abbrev PI (p : Int × Int) : AV := .tup [I p.1, I p.2]
theorem take_to {α : Type} (sz : Nat) (f : α → List AV) (d : α) (l : List α) (i : Nat) (hi : i ≤ l.length) (get : Nat → List AV) (hg : ∀ j, j < i → get j = f (l.getD j d)) : ArgTo (.rsl i sz get) (rowOf sz f d (l.take i)) := by
  have e : (l.take i).length = i := by rw [List.length_take]; omega
  show ArgTo (.rsl i sz get) (.rsl (l.take i).length sz fun j => f ((l.take i).getD j d))
  rw [e]
  exact rsl_to fun j hj => by rw [hg j hj, take_getD hj]

noncomputable abbrev fsF62 : List (Nat × Func) := [(62, Tryz.f62)]
theorem cF62 : CtxOK Tryz.prog (ctx [] fsF62) := ctx_ok (show FsOK Tryz.prog fsF62 from ⟨Tryz.func62, Tryz.call62, trivial⟩) rfl
theorem first62_fun {f : FuncId} (l : List Rd) (hlen : small l.length) (e : Nat → Int) (hf : ∀ i, i < l.length → Fun Tryz.prog f [rowOf 4 rdC default (l.take i), .agg (rdC (l.getD i default))] (I (e i))) :
    Fun Tryz.prog 62 [rowOf 4 rdC default l, .fn (.func f) []] (PI (fstE e l.length)) := by
  refine Fun.of_run cF62 rfl ?_
  refine Rn.stop 1000 rfl ?_
  refine Rn.loop trivial (fun i : Nat => [(0, rowOf 4 rdC default l), (1, .fn (.func f) []), (9, rowOf 4 rdC default l), (10, I l.length), (11, I (i : Int))]) (fun _ => []) 0
    (fun i => i ≤ l.length ∧ ∀ j, j < i → e j = 0) (fun i => l.length - i) 0 ⟨Nat.zero_le _, fun j hj => absurd hj (by omega)⟩
    ⟨⟨rfl, rfl, rfl, rfl, rfl, .cons rfl (.refl rfl) (.cons rfl (.refl rfl) (.cons rfl (.refl rfl) (.cons rfl (.refl rfl) (.cons rfl (.int _ _) .nil)))), rfl⟩, trivial, .nil⟩ ?_
  rintro i ⟨hi, hall⟩ ih
  have hlen : l.length ≤ 9223372036854775807 := hlen
  refine Rn.ite 1000 rfl (fun h => ?_) (fun h => ?_)
  · have h : i < l.length := by simpa using h
    refine Rn.asr 1000 rfl (by simp [inB, h]) ?_
    refine Rn.asr 1000 rfl (by simp; omega) ?_
    refine Rn.call 1000 rfl (I (e i)) ?_ ?_
    · refine Fun.args (l' := [rowOf 4 rdC default (l.take i), .agg (rdC (l.getD i default))]) ⟨?_, ArgTo.refl _, trivial⟩ (hf i h)
      exact take_to 4 rdC default l i hi _ fun j hj => by simp
    refine Rn.chk 1000 rfl (by kernel_rfl) ?_
    refine Rn.ite (b := !(e i == 0)) 1000 rfl (fun hp => ?_) (fun hp => ?_)
    · refine Rn.ret 1000 rfl rfl ?_
      rw [fstE_hit h hall (by simpa using hp)]
    · refine Rn.stop 1000 rfl ?_
      refine Rn.weaken trivial ?_ (ih (i + 1) (by omega) ⟨h, fun j hj => ?_⟩)
      · exact ⟨⟨rfl, rfl, rfl, rfl, rfl, .cons rfl (.refl rfl) (.cons rfl (.refl rfl) (.cons rfl (.refl rfl) (.cons rfl (.refl rfl) (.cons rfl (.eq rfl (congrArg I (w64_nat h hlen))) .nil)))), rfl⟩, trivial, .nil⟩
      · rcases Nat.lt_or_ge j i with hj' | hj'
        · exact hall j hj'
        · have : j = i := by omega
          subst this
          simpa using hp
  · have h : ¬ i < l.length := by simpa using h
    have : i = l.length := by omega
    subst this
    exact Rn.ret 1000 rfl rfl (by rw [fstE_none hall])

noncomputable abbrev fsF64 : List (Nat × Func) := [(64, Tryz.f64)]
theorem cF64 : CtxOK Tryz.prog (ctx [] fsF64) := ctx_ok (show FsOK Tryz.prog fsF64 from ⟨Tryz.func64, Tryz.call64, trivial⟩) rfl
theorem first64_fun {f : FuncId} (l : List Tr) (hlen : small l.length) (e : Nat → Int) (hf : ∀ i, i < l.length → Fun Tryz.prog f [rowOf 5 trC default (l.take i), .agg (trC (l.getD i default))] (I (e i))) :
    Fun Tryz.prog 64 [rowOf 5 trC default l, .fn (.func f) []] (PI (fstE e l.length)) := by
  refine Fun.of_run cF64 rfl ?_
  refine Rn.stop 1000 rfl ?_
  refine Rn.loop trivial (fun i : Nat => [(0, rowOf 5 trC default l), (1, .fn (.func f) []), (9, rowOf 5 trC default l), (10, I l.length), (11, I (i : Int))]) (fun _ => []) 0
    (fun i => i ≤ l.length ∧ ∀ j, j < i → e j = 0) (fun i => l.length - i) 0 ⟨Nat.zero_le _, fun j hj => absurd hj (by omega)⟩
    ⟨⟨rfl, rfl, rfl, rfl, rfl, .cons rfl (.refl rfl) (.cons rfl (.refl rfl) (.cons rfl (.refl rfl) (.cons rfl (.refl rfl) (.cons rfl (.int _ _) .nil)))), rfl⟩, trivial, .nil⟩ ?_
  rintro i ⟨hi, hall⟩ ih
  have hlen : l.length ≤ 9223372036854775807 := hlen
  refine Rn.ite 1000 rfl (fun h => ?_) (fun h => ?_)
  · have h : i < l.length := by simpa using h
    refine Rn.asr 1000 rfl (by simp [inB, h]) ?_
    refine Rn.asr 1000 rfl (by simp; omega) ?_
    refine Rn.call 1000 rfl (I (e i)) ?_ ?_
    · refine Fun.args (l' := [rowOf 5 trC default (l.take i), .agg (trC (l.getD i default))]) ⟨?_, ArgTo.refl _, trivial⟩ (hf i h)
      exact take_to 5 trC default l i hi _ fun j hj => by simp
    refine Rn.chk 1000 rfl (by kernel_rfl) ?_
    refine Rn.ite (b := !(e i == 0)) 1000 rfl (fun hp => ?_) (fun hp => ?_)
    · refine Rn.ret 1000 rfl rfl ?_
      rw [fstE_hit h hall (by simpa using hp)]
    · refine Rn.stop 1000 rfl ?_
      refine Rn.weaken trivial ?_ (ih (i + 1) (by omega) ⟨h, fun j hj => ?_⟩)
      · exact ⟨⟨rfl, rfl, rfl, rfl, rfl, .cons rfl (.refl rfl) (.cons rfl (.refl rfl) (.cons rfl (.refl rfl) (.cons rfl (.refl rfl) (.cons rfl (.eq rfl (congrArg I (w64_nat h hlen))) .nil)))), rfl⟩, trivial, .nil⟩
      · rcases Nat.lt_or_ge j i with hj' | hj'
        · exact hall j hj'
        · have : j = i := by omega
          subst this
          simpa using hp
  · have h : ¬ i < l.length := by simpa using h
    have : i = l.length := by omega
    subst this
    exact Rn.ret 1000 rfl rfl (by rw [fstE_none hall])

noncomputable abbrev fsF66 : List (Nat × Func) := [(66, Tryz.f66)]
theorem cF66 : CtxOK Tryz.prog (ctx [] fsF66) := ctx_ok (show FsOK Tryz.prog fsF66 from ⟨Tryz.func66, Tryz.call66, trivial⟩) rfl
theorem first66_fun {f : FuncId} (l : List Ft) (hlen : small l.length) (e : Nat → Int) (hf : ∀ i, i < l.length → Fun Tryz.prog f [rowOf 5 ftC default (l.take i), .agg (ftC (l.getD i default))] (I (e i))) :
    Fun Tryz.prog 66 [rowOf 5 ftC default l, .fn (.func f) []] (PI (fstE e l.length)) := by
  refine Fun.of_run cF66 rfl ?_
  refine Rn.stop 1000 rfl ?_
  refine Rn.loop trivial (fun i : Nat => [(0, rowOf 5 ftC default l), (1, .fn (.func f) []), (9, rowOf 5 ftC default l), (10, I l.length), (11, I (i : Int))]) (fun _ => []) 0
    (fun i => i ≤ l.length ∧ ∀ j, j < i → e j = 0) (fun i => l.length - i) 0 ⟨Nat.zero_le _, fun j hj => absurd hj (by omega)⟩
    ⟨⟨rfl, rfl, rfl, rfl, rfl, .cons rfl (.refl rfl) (.cons rfl (.refl rfl) (.cons rfl (.refl rfl) (.cons rfl (.refl rfl) (.cons rfl (.int _ _) .nil)))), rfl⟩, trivial, .nil⟩ ?_
  rintro i ⟨hi, hall⟩ ih
  have hlen : l.length ≤ 9223372036854775807 := hlen
  refine Rn.ite 1000 rfl (fun h => ?_) (fun h => ?_)
  · have h : i < l.length := by simpa using h
    refine Rn.asr 1000 rfl (by simp [inB, h]) ?_
    refine Rn.asr 1000 rfl (by simp; omega) ?_
    refine Rn.call 1000 rfl (I (e i)) ?_ ?_
    · refine Fun.args (l' := [rowOf 5 ftC default (l.take i), .agg (ftC (l.getD i default))]) ⟨?_, ArgTo.refl _, trivial⟩ (hf i h)
      exact take_to 5 ftC default l i hi _ fun j hj => by simp
    refine Rn.chk 1000 rfl (by kernel_rfl) ?_
    refine Rn.ite (b := !(e i == 0)) 1000 rfl (fun hp => ?_) (fun hp => ?_)
    · refine Rn.ret 1000 rfl rfl ?_
      rw [fstE_hit h hall (by simpa using hp)]
    · refine Rn.stop 1000 rfl ?_
      refine Rn.weaken trivial ?_ (ih (i + 1) (by omega) ⟨h, fun j hj => ?_⟩)
      · exact ⟨⟨rfl, rfl, rfl, rfl, rfl, .cons rfl (.refl rfl) (.cons rfl (.refl rfl) (.cons rfl (.refl rfl) (.cons rfl (.refl rfl) (.cons rfl (.eq rfl (congrArg I (w64_nat h hlen))) .nil)))), rfl⟩, trivial, .nil⟩
      · rcases Nat.lt_or_ge j i with hj' | hj'
        · exact hall j hj'
        · have : j = i := by omega
          subst this
          simpa using hp
  · have h : ¬ i < l.length := by simpa using h
    have : i = l.length := by omega
    subst this
    exact Rn.ret 1000 rfl rfl (by rw [fstE_none hall])

noncomputable abbrev fsF68 : List (Nat × Func) := [(68, Tryz.f68)]
theorem cF68 : CtxOK Tryz.prog (ctx [] fsF68) := ctx_ok (show FsOK Tryz.prog fsF68 from ⟨Tryz.func68, Tryz.call68, trivial⟩) rfl
theorem first68_fun {f : FuncId} (l : List Cl) (hlen : small l.length) (e : Nat → Int) (hf : ∀ i, i < l.length → Fun Tryz.prog f [rowOf 6 clC default (l.take i), .agg (clC (l.getD i default))] (I (e i))) :
    Fun Tryz.prog 68 [rowOf 6 clC default l, .fn (.func f) []] (PI (fstE e l.length)) := by
  refine Fun.of_run cF68 rfl ?_
  refine Rn.stop 1000 rfl ?_
  refine Rn.loop trivial (fun i : Nat => [(0, rowOf 6 clC default l), (1, .fn (.func f) []), (9, rowOf 6 clC default l), (10, I l.length), (11, I (i : Int))]) (fun _ => []) 0
    (fun i => i ≤ l.length ∧ ∀ j, j < i → e j = 0) (fun i => l.length - i) 0 ⟨Nat.zero_le _, fun j hj => absurd hj (by omega)⟩
    ⟨⟨rfl, rfl, rfl, rfl, rfl, .cons rfl (.refl rfl) (.cons rfl (.refl rfl) (.cons rfl (.refl rfl) (.cons rfl (.refl rfl) (.cons rfl (.int _ _) .nil)))), rfl⟩, trivial, .nil⟩ ?_
  rintro i ⟨hi, hall⟩ ih
  have hlen : l.length ≤ 9223372036854775807 := hlen
  refine Rn.ite 1000 rfl (fun h => ?_) (fun h => ?_)
  · have h : i < l.length := by simpa using h
    refine Rn.asr 1000 rfl (by simp [inB, h]) ?_
    refine Rn.asr 1000 rfl (by simp; omega) ?_
    refine Rn.call 1000 rfl (I (e i)) ?_ ?_
    · refine Fun.args (l' := [rowOf 6 clC default (l.take i), .agg (clC (l.getD i default))]) ⟨?_, ArgTo.refl _, trivial⟩ (hf i h)
      exact take_to 6 clC default l i hi _ fun j hj => by simp
    refine Rn.chk 1000 rfl (by kernel_rfl) ?_
    refine Rn.ite (b := !(e i == 0)) 1000 rfl (fun hp => ?_) (fun hp => ?_)
    · refine Rn.ret 1000 rfl rfl ?_
      rw [fstE_hit h hall (by simpa using hp)]
    · refine Rn.stop 1000 rfl ?_
      refine Rn.weaken trivial ?_ (ih (i + 1) (by omega) ⟨h, fun j hj => ?_⟩)
      · exact ⟨⟨rfl, rfl, rfl, rfl, rfl, .cons rfl (.refl rfl) (.cons rfl (.refl rfl) (.cons rfl (.refl rfl) (.cons rfl (.refl rfl) (.cons rfl (.eq rfl (congrArg I (w64_nat h hlen))) .nil)))), rfl⟩, trivial, .nil⟩
      · rcases Nat.lt_or_ge j i with hj' | hj'
        · exact hall j hj'
        · have : j = i := by omega
          subst this
          simpa using hp
  · have h : ¬ i < l.length := by simpa using h
    have : i = l.length := by omega
    subst this
    exact Rn.ret 1000 rfl rfl (by rw [fstE_none hall])
end Go.Proofs.Am

/- The check of a scene: the program's and the reference's. -/
namespace Go.Proofs.Am
open Go
set_option maxRecDepth 100000

noncomputable abbrev fsH : List (Nat × Func) := [(23, Tryz.f23), (24, Tryz.f24), (44, Tryz.f44), (91, Tryz.f91), (50, Tryz.f50)]
theorem cH : CtxOK Tryz.prog (ctx [] fsH) := ctx_ok (show FsOK Tryz.prog fsH from ⟨Tryz.func23, Tryz.call23, Tryz.func24, Tryz.call24, Tryz.func44, Tryz.call44, Tryz.func91, Tryz.call91, Tryz.func50, Tryz.call50, trivial⟩) rfl

def longB (s : Sc) : Bool := decide ((s.roads.length : Int) > 8) || (decide ((s.trees.length : Int) > 12) || (decide ((s.fronts.length : Int) > 8) || decide ((s.cols.length : Int) > 24)))
def rdsE (s : Sc) : Int × Int := fstE (fun i => roadE (s.roads.take i) (s.roads.getD i default)) s.roads.length
def trsE (s : Sc) : Int × Int := fstE (fun i => treeE (s.trees.getD i default)) s.trees.length
def ftsE (s : Sc) : Int × Int := fstE (fun i => frontE (s.fronts.getD i default)) s.fronts.length
def clsE (s : Sc) : Int × Int := fstE (fun i => colE (s.cols.take i) (s.cols.getD i default)) s.cols.length
def chkE (s : Sc) : Int × Int × Int :=
  if longB s then (0, 0, 3) else if !((rdsE s).2 == 0) then (1, rdsE s) else if !((trsE s).2 == 0) then (2, trsE s) else if !((ftsE s).2 == 0) then (3, ftsE s) else if !((clsE s).2 == 0) then (4, clsE s) else (0, 0, 0)
abbrev P3 (p : Int × Int × Int) : AV := .tup [I p.1, I p.2.1, I p.2.2]

theorem check_fun (s : Sc) (hs : s.ok) : Fun Tryz.prog 23 [scA s] (P3 (chkE s)) := by
  obtain ⟨hlr, hlt, hlf, hlc, hr, hf, hc⟩ := hs
  have e1 := first62_fun s.roads hlr (fun i => roadE (s.roads.take i) (s.roads.getD i default)) fun i hi => checkRoad_fun (s.roads.take i) (by unfold small at *; rw [List.length_take]; omega) _ (hr _ (getD_mem hi))
  have e2 := first64_fun s.trees hlt (fun i => treeE (s.trees.getD i default)) fun i hi => checkTree_fun _ _ _ (s.trees.getD i default)
  have e3 := first66_fun s.fronts hlf (fun i => frontE (s.fronts.getD i default)) fun i hi => checkFront_fun _ _ _ _ (hf _ (getD_mem hi))
  have e4 := first68_fun s.cols hlc (fun i => colE (s.cols.take i) (s.cols.getD i default)) fun i hi => checkColumn_fun (s.cols.take i) (by unfold small at *; rw [List.length_take]; omega) _ (hc _ (getD_mem hi))
  have main : ∀ b : Bool, b = longB s → b = false → chkE s = if !((rdsE s).2 == 0) then (1, rdsE s) else if !((trsE s).2 == 0) then (2, trsE s) else if !((ftsE s).2 == 0) then (3, ftsE s) else if !((clsE s).2 == 0) then (4, clsE s) else (0, 0, 0) := fun b hb h => by
    unfold chkE; rw [← hb, h]; rfl
  have bad : ∀ b : Bool, b = longB s → b = true → chkE s = (0, 0, 3) := fun b hb h => by
    unfold chkE; rw [← hb, h]; rfl
  refine Fun.of_run cH rfl ?_
  refine Rn.ite (b := decide ((s.roads.length : Int) > 8)) 1000 rfl (fun h1 => ?_) (fun h1 => ?_)
  · exact Rn.ret 1000 rfl rfl (by rw [bad true (by unfold longB; rw [h1]; rfl) rfl]; rfl)
  refine Rn.ite (b := decide ((s.trees.length : Int) > 12)) 1000 rfl (fun h2 => ?_) (fun h2 => ?_)
  · exact Rn.ret 1000 rfl rfl (by rw [bad true (by unfold longB; rw [h1, h2]; rfl) rfl]; rfl)
  refine Rn.ite (b := decide ((s.fronts.length : Int) > 8)) 1000 rfl (fun h3 => ?_) (fun h3 => ?_)
  · exact Rn.ret 1000 rfl rfl (by rw [bad true (by unfold longB; rw [h1, h2, h3]; rfl) rfl]; rfl)
  refine Rn.ite (b := decide ((s.cols.length : Int) > 24)) 1000 rfl (fun h4 => ?_) (fun h4 => ?_)
  · exact Rn.ret 1000 rfl rfl (by rw [bad true (by unfold longB; rw [h1, h2, h3, h4]; rfl) rfl]; rfl)
  rw [main false (by unfold longB; rw [h1, h2, h3, h4]; rfl) rfl]
  refine Rn.call 1000 rfl _ e1 ?_
  refine Rn.ite (b := !((rdsE s).2 == 0)) 1000 rfl (fun h5 => ?_) (fun h5 => ?_)
  · exact Rn.ret 1000 rfl rfl (by rw [h5]; rfl)
  refine Rn.call 1000 rfl _ e2 ?_
  refine Rn.ite (b := !((trsE s).2 == 0)) 1000 rfl (fun h6 => ?_) (fun h6 => ?_)
  · exact Rn.ret 1000 rfl rfl (by rw [h5, h6]; rfl)
  refine Rn.call 1000 rfl _ e3 ?_
  refine Rn.ite (b := !((ftsE s).2 == 0)) 1000 rfl (fun h7 => ?_) (fun h7 => ?_)
  · exact Rn.ret 1000 rfl rfl (by rw [h5, h6, h7]; rfl)
  refine Rn.call 1000 rfl _ e4 ?_
  refine Rn.ite (b := !((clsE s).2 == 0)) 1000 rfl (fun h8 => ?_) (fun h8 => ?_)
  · exact Rn.ret 1000 rfl rfl (by rw [h5, h6, h7, h8]; rfl)
  · exact Rn.ret 1000 rfl rfl (by rw [h5, h6, h7, h8]; rfl)

def rtreeW (t : Tr) : Bool := wildB [t.x, t.y] || (outB t.r 1 20000 || (decide (t.low < 0) || (decide (t.low ≥ t.high) || decide (t.high > 1000))))
theorem rtree_eq (t : Tr) : rtreeW t = treeW t := by
  have h1 : ∀ z : Int, 1 ≤ z → z ≤ 1000 → w64 (z - 1) = z - 1 := fun z a b => by unfold w64; rw [IntKind.wrap_i64]; omega
  unfold rtreeW treeW outB
  by_cases b : 1 ≤ t.high ∧ t.high ≤ 1000
  · rw [h1 _ b.1 b.2]
    congr 1; congr 1
    rw [Bool.eq_iff_iff]; simp; omega
  · congr 1; congr 1
    rw [Bool.eq_iff_iff]; simp; omega

/-- What a loop over the things knows. -/
theorem rcheck_fun (s : Sc) (hs : s.ok) : Fun Tryz.prog 24 [scA s] (P3 (chkE s)) := by
  obtain ⟨hlr, hlt, hlf, hlc, hr, hf, hc⟩ := id hs
  have hlr : s.roads.length ≤ 9223372036854775807 := hlr
  have hlt : s.trees.length ≤ 9223372036854775807 := hlt
  have hlf : s.fronts.length ≤ 9223372036854775807 := hlf
  have hlc : s.cols.length ≤ 9223372036854775807 := hlc
  have main : ∀ b : Bool, b = longB s → b = false → chkE s = if !((rdsE s).2 == 0) then (1, rdsE s) else if !((trsE s).2 == 0) then (2, trsE s) else if !((ftsE s).2 == 0) then (3, ftsE s) else if !((clsE s).2 == 0) then (4, clsE s) else (0, 0, 0) := fun b hb h => by
    unfold chkE; rw [← hb, h]; rfl
  have bad : ∀ b : Bool, b = longB s → b = true → chkE s = (0, 0, 3) := fun b hb h => by
    unfold chkE; rw [← hb, h]; rfl
  refine Fun.of_run cH rfl ?_
  refine Rn.ite (b := decide ((s.roads.length : Int) > 8)) 1000 rfl (fun h1 => ?_) (fun h1 => ?_)
  · exact Rn.ret 1000 rfl rfl (by rw [bad true (by unfold longB; rw [h1]; rfl) rfl]; rfl)
  refine Rn.ite (b := decide ((s.trees.length : Int) > 12)) 1000 rfl (fun h2 => ?_) (fun h2 => ?_)
  · exact Rn.ret 1000 rfl rfl (by rw [bad true (by unfold longB; rw [h1, h2]; rfl) rfl]; rfl)
  refine Rn.ite (b := decide ((s.fronts.length : Int) > 8)) 1000 rfl (fun h3 => ?_) (fun h3 => ?_)
  · exact Rn.ret 1000 rfl rfl (by rw [bad true (by unfold longB; rw [h1, h2, h3]; rfl) rfl]; rfl)
  refine Rn.ite (b := decide ((s.cols.length : Int) > 24)) 1000 rfl (fun h4 => ?_) (fun h4 => ?_)
  · exact Rn.ret 1000 rfl rfl (by rw [bad true (by unfold longB; rw [h1, h2, h3, h4]; rfl) rfl]; rfl)
  rw [main false (by unfold longB; rw [h1, h2, h3, h4]; rfl) rfl]
  refine Rn.stop 1000 rfl ?_
  -- roads
  refine Rn.loop2 (fun _ => []) (fun i : Nat => [(1, .ptr 0 0), (5, I (i : Int))]) (fun _ => [(0, .flat [rdsA s.roads, trsA s.trees, ftsA s.fronts, clsA s.cols] 27)]) 1
    (fun i => i ≤ s.roads.length ∧ ∀ j, j < i → roadE (s.roads.take j) (s.roads.getD j default) = 0) (fun i => s.roads.length - i) 0 ⟨Nat.zero_le _, fun j hj => absurd hj (by omega)⟩
    ⟨⟨rfl, rfl, rfl, rfl, rfl, .cons rfl (.refl rfl) (.cons rfl (.int _ _) .nil), rfl⟩, trivial, .cons rfl (.flat' rfl rfl) .nil⟩ ?_
  rintro i ⟨hi, hall⟩ ih
  refine Rn.ite (b := decide ((i : Int) < (s.roads.length : Int))) 1000 rfl (fun h => ?_) (fun h => ?_)
  · have h : i < s.roads.length := by have := of_decide_eq_true h; omega
    refine Rn.call 1000 rfl _ (rroad_fun s hs i h) ?_
    refine Rn.ite (b := !(roadE (s.roads.take i) (s.roads.getD i default) == 0)) 1000 rfl (fun hp => ?_) (fun hp => ?_)
    · have e : rdsE s = ((i : Int), roadE (s.roads.take i) (s.roads.getD i default)) := fstE_hit h hall (by simpa using hp)
      exact Rn.ret 1000 rfl rfl (by rw [e]; simp only [hp]; rfl)
    · refine Rn.stop 1000 rfl ?_
      refine Rn.weaken trivial ?_ (ih (i + 1) (by omega) ⟨h, fun j hj => ?_⟩)
      · exact ⟨⟨rfl, rfl, rfl, rfl, rfl, .cons rfl (.refl rfl) (.cons rfl (.eq rfl (congrArg I (w64_nat h hlr))) .nil), rfl⟩, trivial, .cons rfl (.flat' rfl rfl) .nil⟩
      · rcases Nat.lt_or_ge j i with hj' | hj'
        · exact hall j hj'
        · have : j = i := by omega
          subst this; simpa using hp
  have h : ¬ (i : Int) < (s.roads.length : Int) := of_decide_eq_false h
  have hil : i = s.roads.length := by omega
  subst hil
  have h5 : (!((rdsE s).2 == 0)) = false := by rw [show rdsE s = (0, 0) from fstE_none hall]; rfl
  clear ih hall h
  rw [h5]
  refine Rn.stop 1000 rfl ?_
  -- trees
  refine Rn.loop2 (fun _ => []) (fun i : Nat => [(1, .ptr 0 0), (7, I (i : Int))]) (fun _ => [(0, .flat [rdsA s.roads, trsA s.trees, ftsA s.fronts, clsA s.cols] 27)]) 1
    (fun i => i ≤ s.trees.length ∧ ∀ j, j < i → treeE (s.trees.getD j default) = 0) (fun i => s.trees.length - i) 0 ⟨Nat.zero_le _, fun j hj => absurd hj (by omega)⟩
    ⟨⟨rfl, rfl, rfl, rfl, rfl, .cons rfl (.refl rfl) (.cons rfl (.int _ _) .nil), rfl⟩, trivial, .cons rfl (.flat' rfl rfl) .nil⟩ ?_
  rintro i ⟨hi, hall⟩ ih
  refine Rn.ite (b := decide ((i : Int) < (s.trees.length : Int))) 1000 rfl (fun h => ?_) (fun h => ?_)
  · have h : i < s.trees.length := by have := of_decide_eq_true h; omega
    have in1 : inB (i : Int) s.trees.length = true := by simp only [inB, Bool.and_eq_true, decide_eq_true_eq]; omega
    refine Rn.asr 1000 rfl in1 ?_
    have hd : ∀ b : Bool, b = rtreeW (s.trees.getD i default) → b = true → trsE s = ((i : Int), 7) := fun b hb he => by
      have e7 : treeE (s.trees.getD i default) = 7 := by unfold treeE; rw [← rtree_eq, ← hb, he]; rfl
      have : trsE s = ((i : Int), treeE (s.trees.getD i default)) := fstE_hit h hall (by rw [e7]; decide)
      rw [this, e7]
    have nx : ∀ b : Bool, b = rtreeW (s.trees.getD i default) → b = false → (i + 1 ≤ s.trees.length ∧ ∀ j, j < i + 1 → treeE (s.trees.getD j default) = 0) := fun b hb he => by
      refine ⟨h, fun j hj => ?_⟩
      rcases Nat.lt_or_ge j i with hj' | hj'
      · exact hall j hj'
      · have : j = i := by omega
        subst this
        unfold treeE; rw [← rtree_eq, ← hb, he]; rfl
    generalize hte : s.trees.getD i default = t at *
    refine Rn.call 1000 rfl _ (placed_fun [(s.trees.getD i default).x, (s.trees.getD i default).y] (by simp [small])) ?_
    rw [hte]
    have hd := hd _ rfl
    have nx := nx _ rfl
    unfold rtreeW at hd nx
    repeat' (first
      | refine Rn.call 1000 rfl _ (from_fun _ _ _) ?_
      | refine Rn.ite 1000 rfl (fun _ => ?_) (fun _ => ?_))
    all_goals first
      | (refine Rn.ret 1000 rfl rfl ?_; rw [hd (by simp_all)]; rfl)
      | (refine Rn.stop 1000 rfl ?_
         refine Rn.weaken trivial ?_ (ih (i + 1) (by omega) (nx (by simp_all)))
         exact ⟨⟨rfl, rfl, rfl, rfl, rfl, .cons rfl (.refl rfl) (.cons rfl (.eq rfl (congrArg I (w64_nat h hlt))) .nil), rfl⟩, trivial, .cons rfl (.flat' rfl rfl) .nil⟩)
  have h : ¬ (i : Int) < (s.trees.length : Int) := of_decide_eq_false h
  have hil : i = s.trees.length := by omega
  subst hil
  have h6 : (!((trsE s).2 == 0)) = false := by rw [show trsE s = (0, 0) from fstE_none hall]; rfl
  clear ih hall h
  rw [h6]
  refine Rn.stop 1000 rfl ?_
  -- fronts
  refine Rn.loop2 (fun _ => []) (fun i : Nat => [(1, .ptr 0 0), (9, I (i : Int))]) (fun _ => [(0, .flat [rdsA s.roads, trsA s.trees, ftsA s.fronts, clsA s.cols] 27)]) 1
    (fun i => i ≤ s.fronts.length ∧ ∀ j, j < i → frontE (s.fronts.getD j default) = 0) (fun i => s.fronts.length - i) 0 ⟨Nat.zero_le _, fun j hj => absurd hj (by omega)⟩
    ⟨⟨rfl, rfl, rfl, rfl, rfl, .cons rfl (.refl rfl) (.cons rfl (.int _ _) .nil), rfl⟩, trivial, .cons rfl (.flat' rfl rfl) .nil⟩ ?_
  rintro i ⟨hi, hall⟩ ih
  refine Rn.ite (b := decide ((i : Int) < (s.fronts.length : Int))) 1000 rfl (fun h => ?_) (fun h => ?_)
  · have h : i < s.fronts.length := by have := of_decide_eq_true h; omega
    have in1 : inB (i : Int) s.fronts.length = true := by simp only [inB, Bool.and_eq_true, decide_eq_true_eq]; omega
    refine Rn.asr 1000 rfl in1 ?_
    refine Rn.call 1000 rfl _ (rfront_fun _ (hf _ (getD_mem h))) ?_
    refine Rn.ite (b := !(frontE (s.fronts.getD i default) == 0)) 1000 rfl (fun hp => ?_) (fun hp => ?_)
    · have e : ftsE s = ((i : Int), frontE (s.fronts.getD i default)) := fstE_hit h hall (by simpa using hp)
      exact Rn.ret 1000 rfl rfl (by rw [e]; simp only [hp]; rfl)
    · refine Rn.stop 1000 rfl ?_
      refine Rn.weaken trivial ?_ (ih (i + 1) (by omega) ⟨h, fun j hj => ?_⟩)
      · exact ⟨⟨rfl, rfl, rfl, rfl, rfl, .cons rfl (.refl rfl) (.cons rfl (.eq rfl (congrArg I (w64_nat h hlf))) .nil), rfl⟩, trivial, .cons rfl (.flat' rfl rfl) .nil⟩
      · rcases Nat.lt_or_ge j i with hj' | hj'
        · exact hall j hj'
        · have : j = i := by omega
          subst this; simpa using hp
  have h : ¬ (i : Int) < (s.fronts.length : Int) := of_decide_eq_false h
  have hil : i = s.fronts.length := by omega
  subst hil
  have h7 : (!((ftsE s).2 == 0)) = false := by rw [show ftsE s = (0, 0) from fstE_none hall]; rfl
  clear ih hall h
  rw [h7]
  refine Rn.stop 1000 rfl ?_
  -- columns
  refine Rn.loop2 (fun _ => []) (fun i : Nat => [(1, .ptr 0 0), (11, I (i : Int))]) (fun _ => [(0, .flat [rdsA s.roads, trsA s.trees, ftsA s.fronts, clsA s.cols] 27)]) 1
    (fun i => i ≤ s.cols.length ∧ ∀ j, j < i → colE (s.cols.take j) (s.cols.getD j default) = 0) (fun i => s.cols.length - i) 0 ⟨Nat.zero_le _, fun j hj => absurd hj (by omega)⟩
    ⟨⟨rfl, rfl, rfl, rfl, rfl, .cons rfl (.refl rfl) (.cons rfl (.int _ _) .nil), rfl⟩, trivial, .cons rfl (.flat' rfl rfl) .nil⟩ ?_
  rintro i ⟨hi, hall⟩ ih
  refine Rn.ite (b := decide ((i : Int) < (s.cols.length : Int))) 1000 rfl (fun h => ?_) (fun h => ?_)
  · have h : i < s.cols.length := by have := of_decide_eq_true h; omega
    refine Rn.call 1000 rfl _ (rcolumn_fun s hs i h) ?_
    refine Rn.ite (b := !(colE (s.cols.take i) (s.cols.getD i default) == 0)) 1000 rfl (fun hp => ?_) (fun hp => ?_)
    · have e : clsE s = ((i : Int), colE (s.cols.take i) (s.cols.getD i default)) := fstE_hit h hall (by simpa using hp)
      exact Rn.ret 1000 rfl rfl (by rw [e]; simp only [hp]; rfl)
    · refine Rn.stop 1000 rfl ?_
      refine Rn.weaken trivial ?_ (ih (i + 1) (by omega) ⟨h, fun j hj => ?_⟩)
      · exact ⟨⟨rfl, rfl, rfl, rfl, rfl, .cons rfl (.refl rfl) (.cons rfl (.eq rfl (congrArg I (w64_nat h hlc))) .nil), rfl⟩, trivial, .cons rfl (.flat' rfl rfl) .nil⟩
      · rcases Nat.lt_or_ge j i with hj' | hj'
        · exact hall j hj'
        · have : j = i := by omega
          subst this; simpa using hp
  have h : ¬ (i : Int) < (s.cols.length : Int) := of_decide_eq_false h
  have hil : i = s.cols.length := by omega
  subst hil
  have h8 : (!((clsE s).2 == 0)) = false := by rw [show clsE s = (0, 0) from fstE_none hall]; rfl
  rw [h8]
  exact Rn.ret 1000 rfl rfl rfl

abbrev goodE (s : Sc) : Int := (chkE s).2.2
theorem good_fun (s : Sc) (hs : s.ok) : Fun Tryz.prog 91 [scA s] (I (goodE s)) := by
  refine Fun.of_run cH rfl ?_
  refine Rn.call 1000 rfl _ (rcheck_fun s hs) ?_
  exact Rn.ret 1000 rfl rfl rfl
def idxE (s : Sc) (i n : Int) : Int := if goodE s == 0 && (decide (i < 0) || decide (i ≥ n)) then 4 else goodE s
theorem indexed_fun (s : Sc) (hs : s.ok) (i n : Int) : Fun Tryz.prog 50 [scA s, I i, I n] (I (idxE s i n)) := by
  refine Fun.of_run cH rfl ?_
  refine Rn.call 1000 rfl _ (good_fun s hs) ?_
  unfold idxE
  generalize goodE s = e
  repeat' (refine Rn.ite 1000 rfl (fun _ => ?_) (fun _ => ?_))
  all_goals (refine Rn.ret 1000 rfl rfl ?_; simp_all)
end Go.Proofs.Am

/- Strips: what the program asks. -/
namespace Go.Proofs.Am
open Go Go.Proofs.Geo
set_option maxRecDepth 100000

noncomputable abbrev fsST : List (Nat × Func) := [(111, Tryz.f111), (145, Tryz.f145), (151, Tryz.f151), (171, Tryz.f171), (126, Tryz.f126), (124, Tryz.f124), (150, Tryz.f150)]
theorem cST : CtxOK Tryz.prog (ctx [] fsST) := ctx_ok (show FsOK Tryz.prog fsST from ⟨Tryz.func111, Tryz.call111, Tryz.func145, Tryz.call145, Tryz.func151, Tryz.call151, Tryz.func171, Tryz.call171, Tryz.func126, Tryz.call126, Tryz.func124, Tryz.call124, Tryz.func150, Tryz.call150, trivial⟩) rfl

/-- A strip: the ends of the piece, doubled, and the width. -/
abbrev stA (a b : Int × Int) (w : Int) : AV := .agg [I a.1, I a.2, I b.1, I b.2, I w]
abbrev bx (p : Pa) : Box := ⟨2 * p.x0, 2 * p.y0, 2 * p.x1, 2 * p.y1⟩
def PaOk (p : Pa) : Prop := BdP 100000 (p.x0, p.y0) ∧ BdP 100000 (p.x1, p.y1)
/-- The same with room for squares beyond the edge. -/
def PaBig (p : Pa) : Prop := BdP 1000000 (p.x0, p.y0) ∧ BdP 1000000 (p.x1, p.y1)
theorem bdup {x : Int} (h : Bd 100000 x) : Bd 1000000 x := ⟨by omega, by omega⟩
theorem PaOk.big {p : Pa} (h : PaOk p) : PaBig p := ⟨⟨bdup h.1.1, bdup h.1.2⟩, bdup h.2.1, bdup h.2.2⟩
def mx2 (x y : Int) : Int := if y > x then y else x
def mn2 (x y : Int) : Int := if y < x then y else x
theorem mx2_eq (x y : Int) : mx2 x y = max x y := by unfold mx2; omega
theorem mn2_eq (x y : Int) : mn2 x y = min x y := by unfold mn2; omega

theorem shas_fun (a b : Int × Int) (w x y : Int) : Fun Tryz.prog 123 [stA a b w, I x, I y] (B (nearB a b (w64 (2 * x), w64 (2 * y)) w)) := by
  refine Fun.of_run cM rfl ?_
  refine Rn.call 1000 rfl _ (near_fun _ _ _ _ _ _ _) ?_
  exact Rn.ret 1000 rfl rfl rfl
theorem shasZ_fun {a b : Int × Int} {w x y : Int} (ha : BdP 200000 a) (hb : BdP 200000 b) (hw : Bd 30000 w) (hx : Bd 1000000 x) (hy : Bd 1000000 y) : Fun Tryz.prog 123 [stA a b w, I x, I y] (B (nearZ a b (2 * x, 2 * y) w)) := by
  refine (shas_fun a b w x y).as (congrArg B ?_)
  obtain ⟨⟨_, _⟩, _, _⟩ := ha
  obtain ⟨⟨_, _⟩, _, _⟩ := hb
  obtain ⟨_, _⟩ := hw
  obtain ⟨_, _⟩ := hx
  obtain ⟨_, _⟩ := hy
  rw [w64_id (by omega), w64_id (by omega), nearB_eq ⟨⟨by omega, by omega⟩, by omega, by omega⟩ ⟨⟨by omega, by omega⟩, by omega, by omega⟩ ⟨⟨by simp only; omega, by simp only; omega⟩, by simp only; omega, by simp only; omega⟩ ⟨by omega, by omega⟩]

/-- The side of a line on which a doubled corner is. -/
theorem dside_fun {a b : Int × Int} {x y : Int} (ha : BdP 200000 a) (hb : BdP 200000 b) (hx : Bd 1000000 x) (hy : Bd 1000000 y) : Fun Tryz.prog 78 [L4 a.1 a.2 b.1 b.2, V (w64 (2 * x)) (w64 (2 * y))] (I (sideZ a b (2 * x, 2 * y))) := by
  refine (side_fun a.1 a.2 b.1 b.2 (w64 (2 * x)) (w64 (2 * y))).as (congrArg I ?_)
  obtain ⟨⟨_, _⟩, _, _⟩ := ha
  obtain ⟨⟨_, _⟩, _, _⟩ := hb
  obtain ⟨_, _⟩ := hx
  obtain ⟨_, _⟩ := hy
  rw [w64_id (by omega), w64_id (by omega)]
  exact (sideB_eq (a := a) (b := b) ⟨⟨by omega, by omega⟩, by omega, by omega⟩ ⟨⟨by omega, by omega⟩, by omega, by omega⟩ ⟨⟨by simp only; omega, by simp only; omega⟩, by simp only; omega, by simp only; omega⟩).symm

theorem through_fun {a b : Int × Int} {w : Int} {p : Pa} (ha : BdP 200000 a) (hb : BdP 200000 b) (hp : PaBig p) : Fun Tryz.prog 145 [stA a b w, paA p] (B (throughZ a b (bx p))) := by
  obtain ⟨⟨hx0, hy0⟩, hx1, hy1⟩ := hp
  have i0 : w64 (2 * p.x0) = 2 * p.x0 := w64_id (by simp only at *; omega)
  have i1 : w64 (2 * p.x1) = 2 * p.x1 := w64_id (by simp only at *; omega)
  have j0 : w64 (2 * p.y0) = 2 * p.y0 := w64_id (by simp only at *; omega)
  have j1 : w64 (2 * p.y1) = 2 * p.y1 := w64_id (by simp only at *; omega)
  obtain ⟨d1, e1⟩ : ∃ d, d = decide (mx2 a.1 b.1 < w64 (2 * p.x0)) := ⟨_, rfl⟩
  obtain ⟨d2, e2⟩ : ∃ d, d = decide (mn2 a.1 b.1 > w64 (2 * p.x1)) := ⟨_, rfl⟩
  obtain ⟨d3, e3⟩ : ∃ d, d = decide (mx2 a.2 b.2 < w64 (2 * p.y0)) := ⟨_, rfl⟩
  obtain ⟨d4, e4⟩ : ∃ d, d = decide (mn2 a.2 b.2 > w64 (2 * p.y1)) := ⟨_, rfl⟩
  obtain ⟨s1, f1⟩ : ∃ s, s = sideZ a b (2 * p.x0, 2 * p.y0) := ⟨_, rfl⟩
  obtain ⟨s2, f2⟩ : ∃ s, s = sideZ a b (2 * p.x1, 2 * p.y0) := ⟨_, rfl⟩
  obtain ⟨s3, f3⟩ : ∃ s, s = sideZ a b (2 * p.x1, 2 * p.y1) := ⟨_, rfl⟩
  obtain ⟨s4, f4⟩ : ∃ s, s = sideZ a b (2 * p.x0, 2 * p.y1) := ⟨_, rfl⟩
  have key : throughZ a b (bx p) = (!(d1 || (d2 || (d3 || d4))) && ((decide (s1 ≥ 0) || (decide (s2 ≥ 0) || (decide (s3 ≥ 0) || decide (s4 ≥ 0)))) && (decide (s1 ≤ 0) || (decide (s2 ≤ 0) || (decide (s3 ≤ 0) || decide (s4 ≤ 0)))))) := by
    subst e1; subst e2; subst e3; subst e4; subst f1; subst f2; subst f3; subst f4
    rw [i0, i1, j0, j1]
    simp only [mx2_eq, mn2_eq]
    unfold throughZ cornersZ
    simp only [List.any_cons, List.any_nil, Bool.or_false]

  rw [key]
  refine Fun.of_run cST rfl ?_
  refine Rn.ite (b := decide (mx2 a.1 b.1 < w64 (2 * p.x0))) 1000 rfl (fun h1 => ?_) (fun h1 => ?_)
  · rw [← e1] at h1; exact Rn.ret 1000 rfl rfl (congrArg B (by rw [h1]; rfl))
  refine Rn.ite (b := decide (mn2 a.1 b.1 > w64 (2 * p.x1))) 1000 rfl (fun h2 => ?_) (fun h2 => ?_)
  · rw [← e2] at h2; exact Rn.ret 1000 rfl rfl (congrArg B (by rw [h2]; simp))
  refine Rn.ite (b := decide (mx2 a.2 b.2 < w64 (2 * p.y0))) 1000 rfl (fun h3 => ?_) (fun h3 => ?_)
  · rw [← e3] at h3; exact Rn.ret 1000 rfl rfl (congrArg B (by rw [h3]; simp))
  refine Rn.ite (b := decide (mn2 a.2 b.2 > w64 (2 * p.y1))) 1000 rfl (fun h4 => ?_) (fun h4 => ?_)
  · rw [← e4] at h4; exact Rn.ret 1000 rfl rfl (congrArg B (by rw [h4]; simp))
  rw [← e1] at h1; rw [← e2] at h2; rw [← e3] at h3; rw [← e4] at h4
  rw [h1, h2, h3, h4]
  have g1 := (dside_fun ha hb hx0 hy0).as (congrArg I f1)
  have g2 := (dside_fun ha hb hx1 hy0).as (congrArg I f2)
  have g3 := (dside_fun ha hb hx1 hy1).as (congrArg I f3)
  have g4 := (dside_fun ha hb hx0 hy1).as (congrArg I f4)
  clear key i0 i1 j0 j1 h1 h2 h3 h4 e1 e2 e3 e4 f1 f2 f3 f4 d1 d2 d3 d4
  refine Rn.call 1000 rfl _ (corners_fun p) ?_
  refine Rn.stop 1000 rfl ?_
  refine Rn.call 1000 rfl _ (times_fun _ _ _) ?_
  refine Rn.call 1000 rfl _ g1 ?_
  refine Rn.chk 1000 rfl (by kernel_rfl) ?_
  refine Rn.stop 1000 rfl ?_
  refine Rn.call 1000 rfl _ (times_fun _ _ _) ?_
  refine Rn.call 1000 rfl _ g2 ?_
  refine Rn.chk 1000 rfl (by kernel_rfl) ?_
  repeat' (refine Rn.ite 1000 rfl (fun _ => ?_) (fun _ => ?_))
  all_goals
    refine Rn.stop 1000 rfl ?_
    refine Rn.call 1000 rfl _ (times_fun _ _ _) ?_
    refine Rn.call 1000 rfl _ g3 ?_
    refine Rn.chk 1000 rfl (by kernel_rfl) ?_
    repeat' (refine Rn.ite 1000 rfl (fun _ => ?_) (fun _ => ?_))
  all_goals
    refine Rn.stop 1000 rfl ?_
    refine Rn.call 1000 rfl _ (times_fun _ _ _) ?_
    refine Rn.call 1000 rfl _ g4 ?_
    refine Rn.chk 1000 rfl (by kernel_rfl) ?_
    repeat' (refine Rn.ite 1000 rfl (fun _ => ?_) (fun _ => ?_))
  all_goals
    refine Rn.stop 1000 rfl ?_
    repeat' (refine Rn.ite 1000 rfl (fun _ => ?_) (fun _ => ?_))
  all_goals
    refine Rn.ret 1000 rfl rfl (congrArg B ?_)
    clear g1 g2 g3 g4
    rw [Bool.eq_iff_iff]
    simp only [Bool.and_eq_true, Bool.or_eq_true, decide_eq_true_eq, decide_eq_false_iff_not, Bool.or_false, Bool.not_false, true_and, Bool.true_and, Bool.false_and, Bool.and_false, Bool.false_eq_true, false_iff, iff_false, iff_true, true_iff] at *
    omega
end Go.Proofs.Am

/- How much of a patch is on a strip. -/
namespace Go.Proofs.Am
open Go Go.Proofs.Geo
set_option maxRecDepth 100000

def allP (a b : Int × Int) (w : Int) (x : Box) : Bool := (cornersZ x).all (fun c => nearZ a b c w)
def meetP (a b : Int × Int) (w : Int) (x : Box) : Int := if allP a b w x then 2 else if someP a b w x then 1 else 0
/-- The greatest of three, in the code's way. -/
def mx3 (x y z : Int) : Int := mx2 (mx2 x y) z
def endQ (b : Box) (w : Int) (e : Int × Int) : Bool :=
  decide (w64 (w64 (mx3 (w64 (b.x0 - e.1)) 0 (w64 (e.1 - b.x1)) * mx3 (w64 (b.x0 - e.1)) 0 (w64 (e.1 - b.x1))) + w64 (mx3 (w64 (b.y0 - e.2)) 0 (w64 (e.2 - b.y1)) * mx3 (w64 (b.y0 - e.2)) 0 (w64 (e.2 - b.y1)))) ≤ w64 (w * w))
theorem endQ_eq {p : Pa} {w : Int} {e : Int × Int} (he : BdP 200000 e) (hw : Bd 30000 w) (hp : PaBig p) : endQ (bx p) w e = endZ (bx p) w e := by
  obtain ⟨⟨⟨x0, x0'⟩, y0, y0'⟩, ⟨x1, x1'⟩, y1, y1'⟩ := hp
  obtain ⟨⟨e1, e1'⟩, e2, e2'⟩ := he
  simp only at x0 x0' y0 y0' x1 x1' y1 y1'
  unfold endQ endZ bx
  simp only
  have gx : mx3 (w64 (2 * p.x0 - e.1)) 0 (w64 (e.1 - 2 * p.x1)) = gapZ (2 * p.x0) (2 * p.x1) e.1 := by
    rw [w64_id (by omega), w64_id (by omega)]; unfold mx3 gapZ; rw [mx2_eq, mx2_eq]
  have gy : mx3 (w64 (2 * p.y0 - e.2)) 0 (w64 (e.2 - 2 * p.y1)) = gapZ (2 * p.y0) (2 * p.y1) e.2 := by
    rw [w64_id (by omega), w64_id (by omega)]; unfold mx3 gapZ; rw [mx2_eq, mx2_eq]
  rw [gx, gy]
  have bx : Bd 4000000 (gapZ (2 * p.x0) (2 * p.x1) e.1) := by unfold gapZ; omega
  have bY : Bd 4000000 (gapZ (2 * p.y0) (2 * p.y1) e.2) := by unfold gapZ; omega
  have m1 := mulbd' bx bx (c := 16000000000000) (by decide)
  have m2 := mulbd' bY bY (c := 16000000000000) (by decide)
  have m3 := mulbd' hw hw (c := 900000000) (by decide)
  obtain ⟨m1, m1'⟩ := m1
  obtain ⟨m2, m2'⟩ := m2
  obtain ⟨m3, m3'⟩ := m3
  rw [w64_id (x := gapZ (2 * p.x0) (2 * p.x1) e.1 * _) (by omega), w64_id (x := gapZ (2 * p.y0) (2 * p.y1) e.2 * _) (by omega), w64_id (x := w * w) (by omega), w64_id (by omega)]

theorem smeets_fun {a b : Int × Int} {w : Int} {p : Pa} (ha : BdP 200000 a) (hb : BdP 200000 b) (hw : Bd 30000 w) (hp : PaBig p) : Fun Tryz.prog 111 [stA a b w, paA p] (I (meetP a b w (bx p))) := by
  obtain ⟨⟨hx0, hy0⟩, hx1, hy1⟩ := id hp
  obtain ⟨i0, i1, j0, j1⟩ : w64 (2 * p.x0) = 2 * p.x0 ∧ w64 (2 * p.x1) = 2 * p.x1 ∧ w64 (2 * p.y0) = 2 * p.y0 ∧ w64 (2 * p.y1) = 2 * p.y1 :=
    ⟨w64_id (by simp only at *; omega), w64_id (by simp only at *; omega), w64_id (by simp only at *; omega), w64_id (by simp only at *; omega)⟩
  obtain ⟨c1, f1⟩ : ∃ s, s = nearZ a b (2 * p.x0, 2 * p.y0) w := ⟨_, rfl⟩
  obtain ⟨c2, f2⟩ : ∃ s, s = nearZ a b (2 * p.x1, 2 * p.y0) w := ⟨_, rfl⟩
  obtain ⟨c3, f3⟩ : ∃ s, s = nearZ a b (2 * p.x1, 2 * p.y1) w := ⟨_, rfl⟩
  obtain ⟨c4, f4⟩ : ∃ s, s = nearZ a b (2 * p.x0, 2 * p.y1) w := ⟨_, rfl⟩
  obtain ⟨e1, h1⟩ : ∃ s, s = endZ (bx p) w a := ⟨_, rfl⟩
  obtain ⟨e2, h2⟩ : ∃ s, s = endZ (bx p) w b := ⟨_, rfl⟩
  obtain ⟨e3, h3⟩ : ∃ s, s = throughZ a b (bx p) := ⟨_, rfl⟩
  have key : meetP a b w (bx p) = if c1 && (c2 && (c3 && c4)) then 2 else if c1 || (c2 || (c3 || c4)) || (e1 || (e2 || e3)) then 1 else 0 := by
    subst f1; subst f2; subst f3; subst f4; subst h1; subst h2; subst h3
    unfold meetP allP someP cornersZ
    simp only [List.any_cons, List.any_nil, Bool.or_false, List.all_cons, List.all_nil, Bool.and_true]
  rw [key]
  have g1 := (shasZ_fun ha hb hw hx0 hy0).as (congrArg B f1)
  have g2 := (shasZ_fun ha hb hw hx1 hy0).as (congrArg B f2)
  have g3 := (shasZ_fun ha hb hw hx1 hy1).as (congrArg B f3)
  have g4 := (shasZ_fun ha hb hw hx0 hy1).as (congrArg B f4)
  have g5 := (through_fun (w := w) ha hb hp).as (congrArg B h3)
  have q1 : endQ ⟨w64 (2 * p.x0), w64 (2 * p.y0), w64 (2 * p.x1), w64 (2 * p.y1)⟩ w a = e1 := by rw [i0, i1, j0, j1, h1]; exact endQ_eq ha hw hp
  have q2 : endQ ⟨w64 (2 * p.x0), w64 (2 * p.y0), w64 (2 * p.x1), w64 (2 * p.y1)⟩ w b = e2 := by rw [i0, i1, j0, j1, h2]; exact endQ_eq hb hw hp
  clear key f1 f2 f3 f4 h1 h2 h3 i0 i1 j0 j1
  refine Fun.of_run cST rfl ?_
  refine Rn.call 1000 rfl _ (corners_fun p) ?_
  refine Rn.stop 1000 rfl ?_
  refine Rn.call 1000 rfl _ g1 ?_
  refine Rn.ite 1000 rfl (fun _ => ?_) (fun _ => ?_)
  all_goals
    refine Rn.stop 1000 rfl ?_
    refine Rn.call 1000 rfl _ g2 ?_
    refine Rn.ite 1000 rfl (fun _ => ?_) (fun _ => ?_)
  all_goals
    refine Rn.stop 1000 rfl ?_
    refine Rn.call 1000 rfl _ g3 ?_
    refine Rn.ite 1000 rfl (fun _ => ?_) (fun _ => ?_)
  all_goals
    refine Rn.stop 1000 rfl ?_
    refine Rn.call 1000 rfl _ g4 ?_
    refine Rn.ite 1000 rfl (fun _ => ?_) (fun _ => ?_)
  all_goals refine Rn.stop 1000 rfl ?_
  all_goals first
    | (refine Rn.ret 1000 rfl rfl ?_
       simp_all
       done)
    | skip
  refine Rn.stop 1000 rfl ?_
  refine Rn.call 1000 rfl _ (dot_fun _ _ _ _) ?_
  refine Rn.chk 1000 rfl (by kernel_rfl) ?_
  refine Rn.ite (b := endQ ⟨w64 (2 * p.x0), w64 (2 * p.y0), w64 (2 * p.x1), w64 (2 * p.y1)⟩ w a) 1000 rfl (fun h => ?_) (fun h => ?_)
  · rw [q1] at h
    refine Rn.ret 1000 rfl rfl ?_
    simp_all
  rw [q1] at h
  refine Rn.stop 1000 rfl ?_
  refine Rn.call 1000 rfl _ (dot_fun _ _ _ _) ?_
  refine Rn.chk 1000 rfl (by kernel_rfl) ?_
  refine Rn.ite (b := endQ ⟨w64 (2 * p.x0), w64 (2 * p.y0), w64 (2 * p.x1), w64 (2 * p.y1)⟩ w b) 1000 rfl (fun h' => ?_) (fun h' => ?_)
  · rw [q2] at h'
    refine Rn.ret 1000 rfl rfl ?_
    simp_all
  rw [q2] at h'
  refine Rn.stop 1000 rfl ?_
  refine Rn.call 1000 rfl _ g5 ?_
  refine Rn.ite 1000 rfl (fun _ => ?_) (fun _ => ?_)
  all_goals
    refine Rn.ret 1000 rfl rfl ?_
    simp_all
end Go.Proofs.Am

/- Roads: whether a point is on one. -/
namespace Go.Proofs.Am
open Go Go.Proofs.Geo
set_option maxRecDepth 100000

abbrev inN : List Nat := [83, 128]
noncomputable abbrev fsN : List (Nat × Func) := [(83, Tryz.f83), (128, Tryz.f128), (74, Tryz.f74), (61, Tryz.f61)]
theorem cN : CtxOK Tryz.prog (ctx inN fsN) := ctx_ok (show FsOK Tryz.prog fsN from ⟨Tryz.func83, Tryz.call83, Tryz.func128, Tryz.call128, Tryz.func74, Tryz.call74, Tryz.func61, Tryz.call61, trivial⟩) rfl

/-- The bodies of the loops over iterators. -/
def rangesOf : Code → List (Code × Code)
  | .seq a b => rangesOf a ++ rangesOf b
  | .cond _ a b => rangesOf a ++ rangesOf b
  | .block _ b => rangesOf b
  | .scope b => rangesOf b
  | .loop b => rangesOf b
  | .rangeFunc _ _ x b => [(x, b)]
  | _ => []
def fstR : List (Code × Code) → Code
  | p :: _ => p.1
  | [] => .skip
def sndR : List (Code × Code) → Code
  | p :: _ => p.2
  | [] => .skip
def rgAs (f : Func) : Code := match f.body with | some b => fstR (rangesOf b) | none => .skip
def rgBody (f : Func) : Code := match f.body with | some b => sndR (rangesOf b) | none => .skip

def dbl (p : Int × Int) : Int × Int := (2 * p.1, 2 * p.2)
/-- The pieces of a road, doubled. -/
def pcA (r : Rd) (k : Nat) : Int × Int := dbl (r.pts.getD k (0, 0))
def pcB (r : Rd) (k : Nat) : Int × Int := dbl (r.pts.getD (k + 1) (0, 0))
structure RdOk (r : Rd) : Prop where
  lo : 2 ≤ r.pts.length
  hi : r.pts.length ≤ 8
  bd : ∀ q ∈ r.pts, BdP 100000 q
  w : Bd 30000 r.width
  ne : ∀ k, k + 1 < r.pts.length → pcA r k ≠ pcB r k
theorem RdOk.get {r : Rd} (h : RdOk r) {k : Nat} (hk : k < r.pts.length) : BdP 100000 (r.pts.getD k (0, 0)) := h.bd _ (getD_mem hk)
theorem dbl_bd {p : Int × Int} (h : BdP 100000 p) : BdP 200000 (dbl p) := by
  obtain ⟨⟨_, _⟩, _, _⟩ := h
  exact ⟨⟨by simp only [dbl]; omega, by simp only [dbl]; omega⟩, by simp only [dbl]; omega, by simp only [dbl]; omega⟩
theorem dbl_big {p : Int × Int} (h : BdP 1000000 p) : BdP 2000000 (dbl p) := by
  obtain ⟨⟨_, _⟩, _, _⟩ := h
  exact ⟨⟨by simp only [dbl]; omega, by simp only [dbl]; omega⟩, by simp only [dbl]; omega, by simp only [dbl]; omega⟩
theorem bdup2 {p : Int × Int} (h : BdP 200000 p) : BdP 2000000 p := by
  obtain ⟨⟨_, _⟩, _, _⟩ := h
  exact ⟨⟨by omega, by omega⟩, by omega, by omega⟩
/-- A point is on one of the first n pieces. -/
def onN (r : Rd) (x y : Int) (n : Nat) : Bool := (List.range n).any fun k => nearZ (pcA r k) (pcB r k) (2 * x, 2 * y) r.width
def onZ (r : Rd) (x y : Int) : Bool := onN r x y (r.pts.length - 1)
theorem onN_hit {r : Rd} {x y : Int} {n k : Nat} (hk : k < n) (h : nearZ (pcA r k) (pcB r k) (2 * x, 2 * y) r.width = true) : onN r x y n = true := by
  unfold onN; rw [List.any_eq_true]; exact ⟨k, List.mem_range.2 hk, h⟩
theorem onN_none {r : Rd} {x y : Int} {n : Nat} (h : ∀ k, k < n → nearZ (pcA r k) (pcB r k) (2 * x, 2 * y) r.width = false) : onN r x y n = false := by
  unfold onN; rw [List.any_eq_false]; intro k hk; rw [h k (List.mem_range.1 hk)]; simp
theorem w64_2 {x : Int} (h : Bd 1000000 x) : w64 (2 * x) = 2 * x := w64_id (by omega)

def dblW (p : Int × Int) : Int × Int := (w64 (2 * p.1), w64 (2 * p.2))
theorem dblW_eq {p : Int × Int} (h : BdP 100000 p) : dblW p = dbl p := by unfold dblW dbl; rw [w64_2 (bdup h.1), w64_2 (bdup h.2)]
theorem on_fun {r : Rd} (hr : RdOk r) {x y : Int} (hx : Bd 100000 x) (hy : Bd 100000 y) : Fun Tryz.prog 74 [.agg (rdC r), I x, I y] (B (onZ r x y)) := by
  obtain ⟨hlo, hhi, -, hw, -⟩ := id hr
  refine Fun.of_run cN rfl ?_
  refine Rn.stop 1000 rfl ?_
  refine Rn.loop2 (fun _ => [[(4, .ptr 1 0), (5, .ptr 2 0), (6, .ptr 3 0)]]) (fun k : Nat => [(0, .fn (.yield 6) []), (1, .ptr 4 0), (9, I ((r.pts.length : Int) - 1)), (10, I (k : Int))])
    (fun _ => [(6, .loop .ready none 74 [(4, .ptr 1 0), (5, .ptr 2 0), (6, .ptr 3 0)] Tryz.f74.ntmps [10] (rgAs Tryz.f74) (rgBody Tryz.f74) 5), (5, .dfr false), (4, .flat (rdC r) 54), (3, .flat [.t false] 4), (2, .flat [I y] 3), (1, .flat [I x] 3)]) 7
    (fun k => k + 1 ≤ r.pts.length ∧ ∀ j, j < k → nearZ (pcA r j) (pcB r j) (2 * x, 2 * y) r.width = false) (fun k => r.pts.length - k) 0 ⟨by omega, fun j hj => absurd hj (by omega)⟩ ?_ ?_
  · refine ⟨⟨rfl, rfl, rfl, rfl, rfl, .cons rfl (.refl rfl) (.cons rfl (.refl rfl) (.cons rfl (.eq rfl (congrArg I (w64_id (by omega)))) (.cons rfl (.int _ _) .nil))), rfl⟩,
      ⟨⟨rfl, rfl, rfl, rfl, rfl, .cons rfl (.refl rfl) (.cons rfl (.refl rfl) (.cons rfl (.refl rfl) .nil)), rfl⟩, trivial⟩, ?_⟩
    exact .cons rfl (.loop rfl rfl (.cons rfl (.refl rfl) (.cons rfl (.refl rfl) (.cons rfl (.refl rfl) .nil)))) (.cons rfl (.dfr rfl) (.cons rfl (.flat' rfl rfl) (.cons rfl (.flat' rfl rfl) (.cons rfl (.flat' rfl rfl) (.cons rfl (.flat' rfl rfl) .nil)))))
  rintro k ⟨hk, hall⟩ ih
  refine Rn.ite (b := decide ((k : Int) < (r.pts.length : Int) - 1)) 1000 rfl (fun h => ?_) (fun h => ?_)
  · have h : k + 1 < r.pts.length := by have := of_decide_eq_true h; omega
    have e1 : w64 ((k : Int) + 1) = ((k + 1 : Nat) : Int) := w64_nat (m := 8) (by omega) (by omega)
    have in1 : inB (k : Int) r.pts.length = true := by simp only [inB, Bool.and_eq_true, decide_eq_true_eq]; omega
    have in2 : inB (w64 ((k : Int) + 1)) r.pts.length = true := by rw [e1]; simp only [inB, Bool.and_eq_true, decide_eq_true_eq]; omega
    refine Rn.asr 1000 rfl in1 ?_
    refine Rn.asr 1000 rfl in2 ?_
    refine Rn.chk 1000 rfl (by kernel_rfl) ?_
    have key : Fun Tryz.prog 123 [stA (dblW (r.pts.getD ((k : Int)).toNat (0, 0))) (dblW (r.pts.getD (w64 ((k : Int) + 1)).toNat (0, 0))) r.width, I x, I y] (B (nearZ (pcA r k) (pcB r k) (2 * x, 2 * y) r.width)) := by
      rw [e1, Int.toNat_natCast, Int.toNat_natCast, dblW_eq (hr.get (by omega)), dblW_eq (hr.get (by omega))]
      exact shasZ_fun (dbl_bd (hr.get (by omega))) (dbl_bd (hr.get (by omega))) hw (bdup hx) (bdup hy)
    refine Rn.call 1000 rfl _ key ?_
    refine Rn.ite (b := nearZ (pcA r k) (pcB r k) (2 * x, 2 * y) r.width) 1000 rfl (fun hn => ?_) (fun hn => ?_)
    · exact Rn.ret 1000 rfl rfl (congrArg B (onN_hit (by omega) hn).symm)
    · refine Rn.stop 1000 rfl ?_
      refine Rn.weaken trivial ?_ (ih (k + 1) (by omega) ⟨by omega, fun j hj => ?_⟩)
      · refine ⟨⟨rfl, rfl, rfl, rfl, rfl, .cons rfl (.refl rfl) (.cons rfl (.refl rfl) (.cons rfl (.refl rfl) (.cons rfl (.eq rfl (congrArg I e1)) .nil))), rfl⟩,
          ⟨⟨rfl, rfl, rfl, rfl, rfl, .cons rfl (.refl rfl) (.cons rfl (.refl rfl) (.cons rfl (.refl rfl) .nil)), rfl⟩, trivial⟩, ?_⟩
        exact .cons rfl (.loop rfl rfl (.cons rfl (.refl rfl) (.cons rfl (.refl rfl) (.cons rfl (.refl rfl) .nil)))) (.cons rfl (.dfr rfl) (.cons rfl (.flat' rfl rfl) (.cons rfl (.flat' rfl rfl) (.cons rfl (.flat' rfl rfl) (.cons rfl (.flat' rfl rfl) .nil)))))
      · rcases Nat.lt_or_ge j k with hj' | hj'
        · exact hall j hj'
        · have : j = k := by omega
          subst this; exact hn
  · have h : ¬ (k : Int) < (r.pts.length : Int) - 1 := of_decide_eq_false h
    have hkl : k = r.pts.length - 1 := by omega
    exact Rn.ret 1000 rfl rfl (congrArg B (onN_none (by rw [← hkl]; exact hall)).symm)
end Go.Proofs.Am

/- Roads: how much of a patch is on one. -/
namespace Go.Proofs.Am
open Go Go.Proofs.Geo
set_option maxRecDepth 100000

theorem AbTo.flat1 {n b : Nat} {a a' : AV} {t : TypeId} (hb : Nat.blt b n = true) (h : AvTo n a a') : AbTo n b (.flat [a] t) (.flat [a'] t) :=
  AbTo.flat hb rfl fun i hi _ => by
    have : i = 0 := by simpa using hi
    subst this; exact h
/-- How much of a patch is on the first n pieces. -/
def meetN (r : Rd) (x : Box) : Nat → Int
  | 0 => 0
  | n + 1 => mx2 (meetN r x n) (meetP (pcA r n) (pcB r n) r.width x)
def meetsZ (r : Rd) (x : Box) : Int := meetN r x (r.pts.length - 1)

theorem meets_fun {r : Rd} (hr : RdOk r) {p : Pa} (hp : PaBig p) : Fun Tryz.prog 61 [.agg (rdC r), paA p] (I (meetsZ r (bx p))) := by
  obtain ⟨hlo, hhi, -, hw, -⟩ := id hr
  refine Fun.of_run cN rfl ?_
  refine Rn.stop 1000 rfl ?_
  refine Rn.loop2 (fun _ => [[(3, .ptr 1 0), (5, .ptr 2 0)]]) (fun k : Nat => [(0, .fn (.yield 5) []), (1, .ptr 3 0), (9, I ((r.pts.length : Int) - 1)), (10, I (k : Int))])
    (fun k => [(5, .loop .ready none 61 [(3, .ptr 1 0), (5, .ptr 2 0)] Tryz.f61.ntmps [9] (rgAs Tryz.f61) (rgBody Tryz.f61) 4), (4, .dfr false), (3, .flat (rdC r) 54), (2, .flat [I (meetN r (bx p) k)] 3), (1, .flat [I p.x0, I p.y0, I p.x1, I p.y1] 29)]) 6
    (fun k => k + 1 ≤ r.pts.length) (fun k => r.pts.length - k) 0 (by omega) ?_ ?_
  · refine ⟨⟨rfl, rfl, rfl, rfl, rfl, .cons rfl (.refl rfl) (.cons rfl (.refl rfl) (.cons rfl (.eq rfl (congrArg I (w64_id (by omega)))) (.cons rfl (.int _ _) .nil))), rfl⟩,
      ⟨⟨rfl, rfl, rfl, rfl, rfl, .cons rfl (.refl rfl) (.cons rfl (.refl rfl) .nil), rfl⟩, trivial⟩, ?_⟩
    exact .cons rfl (.loop rfl rfl (.cons rfl (.refl rfl) (.cons rfl (.refl rfl) .nil))) (.cons rfl (.dfr rfl) (.cons rfl (.flat' rfl rfl) (.cons rfl (.flat1 rfl (.int _ _)) (.cons rfl (.flat' rfl rfl) .nil))))
  rintro k hk ih
  refine Rn.ite (b := decide ((k : Int) < (r.pts.length : Int) - 1)) 1000 rfl (fun h => ?_) (fun h => ?_)
  · have h : k + 1 < r.pts.length := by have := of_decide_eq_true h; omega
    have e1 : w64 ((k : Int) + 1) = ((k + 1 : Nat) : Int) := w64_nat (m := 8) (by omega) (by omega)
    have in1 : inB (k : Int) r.pts.length = true := by simp only [inB, Bool.and_eq_true, decide_eq_true_eq]; omega
    have in2 : inB (w64 ((k : Int) + 1)) r.pts.length = true := by rw [e1]; simp only [inB, Bool.and_eq_true, decide_eq_true_eq]; omega
    refine Rn.asr 1000 rfl in1 ?_
    refine Rn.asr 1000 rfl in2 ?_
    refine Rn.chk 1000 rfl (by kernel_rfl) ?_
    have key : Fun Tryz.prog 111 [stA (dblW (r.pts.getD ((k : Int)).toNat (0, 0))) (dblW (r.pts.getD (w64 ((k : Int) + 1)).toNat (0, 0))) r.width, paA p] (I (meetP (pcA r k) (pcB r k) r.width (bx p))) := by
      rw [e1, Int.toNat_natCast, Int.toNat_natCast, dblW_eq (hr.get (by omega)), dblW_eq (hr.get (by omega))]
      exact smeets_fun (dbl_bd (hr.get (by omega))) (dbl_bd (hr.get (by omega))) hw hp
    refine Rn.call 1000 rfl _ key ?_
    refine Rn.chk 1000 rfl (by kernel_rfl) ?_
    refine Rn.stop 1000 rfl ?_
    refine Rn.weaken trivial ?_ (ih (k + 1) (by omega) (by omega))
    refine ⟨⟨rfl, rfl, rfl, rfl, rfl, .cons rfl (.refl rfl) (.cons rfl (.refl rfl) (.cons rfl (.refl rfl) (.cons rfl (.eq rfl (congrArg I e1)) .nil))), rfl⟩,
      ⟨⟨rfl, rfl, rfl, rfl, rfl, .cons rfl (.refl rfl) (.cons rfl (.refl rfl) .nil), rfl⟩, trivial⟩, ?_⟩
    exact .cons rfl (.loop rfl rfl (.cons rfl (.refl rfl) (.cons rfl (.refl rfl) .nil))) (.cons rfl (.dfr rfl) (.cons rfl (.flat' rfl rfl) (.cons rfl (.flat' rfl rfl) (.cons rfl (.flat' rfl rfl) .nil))))
  · have h : ¬ (k : Int) < (r.pts.length : Int) - 1 := of_decide_eq_false h
    have hkl : k = r.pts.length - 1 := by omega
    exact Rn.ret 1000 rfl rfl (congrArg I (by unfold meetsZ; rw [hkl]))
end Go.Proofs.Am

/- Roads, by the reference: whether a point is on one. -/
namespace Go.Proofs.Am
open Go Go.Proofs.Geo
set_option maxRecDepth 100000

noncomputable abbrev fsQ : List (Nat × Func) := [(124, Tryz.f124), (150, Tryz.f150), (75, Tryz.f75), (171, Tryz.f171), (151, Tryz.f151), (126, Tryz.f126), (76, Tryz.f76)]
theorem cQ : CtxOK Tryz.prog (ctx [] fsQ) := ctx_ok (show FsOK Tryz.prog fsQ from ⟨Tryz.func124, Tryz.call124, Tryz.func150, Tryz.call150, Tryz.func75, Tryz.call75, Tryz.func171, Tryz.call171, Tryz.func151, Tryz.call151, Tryz.func126, Tryz.call126, Tryz.func76, Tryz.call76, trivial⟩) rfl

theorem twice_fun (x y : Int) : Fun Tryz.prog 125 [I x, I y] (V (w64 (2 * x)) (w64 (2 * y))) := Fun.of_run cM rfl (Rn.ret 1000 rfl rfl rfl)
theorem twiceZ_fun {x y : Int} (hx : Bd 1000000 x) (hy : Bd 1000000 y) : Fun Tryz.prog 125 [I x, I y] (V (2 * x) (2 * y)) := (twice_fun x y).as (by rw [w64_2 hx, w64_2 hy])

theorem piece_fun {r : Rd} (hr : RdOk r) {k : Nat} (hk : k + 1 < r.pts.length) : Fun Tryz.prog 150 [.agg (rdC r), I (k : Int)] (.tup [V (pcA r k).1 (pcA r k).2, V (pcB r k).1 (pcB r k).2]) := by
  have hhi := hr.hi
  have e1 : w64 ((k : Int) + 1) = ((k + 1 : Nat) : Int) := w64_nat (m := 8) (by omega) (by omega)
  have in1 : inB (k : Int) r.pts.length = true := by simp only [inB, Bool.and_eq_true, decide_eq_true_eq]; omega
  have in2 : inB (w64 ((k : Int) + 1)) r.pts.length = true := by rw [e1]; simp only [inB, Bool.and_eq_true, decide_eq_true_eq]; omega
  have k1 : Fun Tryz.prog 125 [I (r.pts.getD ((k : Int)).toNat (0, 0)).1, I (r.pts.getD ((k : Int)).toNat (0, 0)).2] (V (pcA r k).1 (pcA r k).2) := twiceZ_fun (by rw [Int.toNat_natCast]; exact bdup (hr.get (by omega)).1) (by rw [Int.toNat_natCast]; exact bdup (hr.get (by omega)).2)
  have k2 : Fun Tryz.prog 125 [I (r.pts.getD (w64 ((k : Int) + 1)).toNat (0, 0)).1, I (r.pts.getD (w64 ((k : Int) + 1)).toNat (0, 0)).2] (V (pcB r k).1 (pcB r k).2) := by
    rw [e1, Int.toNat_natCast]; exact twiceZ_fun (bdup (hr.get (by omega)).1) (bdup (hr.get (by omega)).2)
  refine Fun.of_run cQ rfl ?_
  repeat (first | refine Rn.asr 1000 rfl in1 ?_ | refine Rn.call 1000 rfl _ k1 ?_)
  repeat (first | refine Rn.asr 1000 rfl in2 ?_ | refine Rn.call 1000 rfl _ k2 ?_)
  refine Rn.chk 1000 rfl (by kernel_rfl) ?_
  exact Rn.ret 1000 rfl rfl rfl

theorem strip_fun {r : Rd} (hr : RdOk r) {k : Nat} (hk : k + 1 < r.pts.length) {p : Int × Int} (hp : BdP 2000000 p) : Fun Tryz.prog 124 [.agg (rdC r), I (k : Int), V p.1 p.2] (B (nearZ (pcA r k) (pcB r k) p r.width)) := by
  have ha := dbl_bd (hr.get (k := k) (by omega))
  have hb := dbl_bd (hr.get (k := k + 1) (by omega))
  have hw := hr.w
  refine Fun.of_run cQ rfl ?_
  refine Rn.call 1000 rfl _ (piece_fun hr hk) ?_
  refine Rn.call 1000 rfl _ ((rnear_fun _ _ _ _ _ _ _).as (congrArg B (nearB_eq (a := pcA r k) (b := pcB r k) (p := p) (r := r.width) ?_ ?_ ?_ ?_).symm)) ?_
  · obtain ⟨⟨_, _⟩, _, _⟩ := ha
    exact ⟨⟨by show _ ≤ (dbl _).1; omega, by show (dbl _).1 ≤ _; omega⟩, by show _ ≤ (dbl _).2; omega, by show (dbl _).2 ≤ _; omega⟩
  · obtain ⟨⟨_, _⟩, _, _⟩ := hb
    exact ⟨⟨by show _ ≤ (dbl _).1; omega, by show (dbl _).1 ≤ _; omega⟩, by show _ ≤ (dbl _).2; omega, by show (dbl _).2 ≤ _; omega⟩
  · obtain ⟨⟨_, _⟩, _, _⟩ := hp
    exact ⟨⟨by omega, by omega⟩, by omega, by omega⟩
  · obtain ⟨_, _⟩ := hw
    exact ⟨by omega, by omega⟩
  exact Rn.ret 1000 rfl rfl rfl

theorem ron_fun {r : Rd} (hr : RdOk r) {x y : Int} (hx : Bd 100000 x) (hy : Bd 100000 y) : Fun Tryz.prog 75 [.agg (rdC r), I x, I y] (B (onZ r x y)) := by
  obtain ⟨hlo, hhi, -, hw, -⟩ := id hr
  refine Fun.of_run cQ rfl ?_
  refine Rn.stop 1000 rfl ?_
  refine Rn.loop2 (fun _ => []) (fun k : Nat => [(1, I x), (2, I y), (3, .ptr 0 0), (7, I (k : Int))]) (fun _ => [(0, .flat (rdC r) 54)]) 1
    (fun k => k + 1 ≤ r.pts.length ∧ ∀ j, j < k → nearZ (pcA r j) (pcB r j) (2 * x, 2 * y) r.width = false) (fun k => r.pts.length - k) 0 ⟨by omega, fun j hj => absurd hj (by omega)⟩
    ⟨⟨rfl, rfl, rfl, rfl, rfl, .cons rfl (.refl rfl) (.cons rfl (.refl rfl) (.cons rfl (.refl rfl) (.cons rfl (.int _ _) .nil))), rfl⟩, trivial, .cons rfl (.flat' rfl rfl) .nil⟩ ?_
  rintro k ⟨hk, hall⟩ ih
  have e1 : w64 ((k : Int) + 1) = ((k + 1 : Nat) : Int) := w64_nat (m := 9) (by omega) (by omega)
  refine Rn.ite (b := decide (w64 ((k : Int) + 1) < (r.pts.length : Int))) 1000 rfl (fun h => ?_) (fun h => ?_)
  · rw [e1] at h
    have h : k + 1 < r.pts.length := by have := of_decide_eq_true h; omega
    refine Rn.call 1000 rfl _ (twiceZ_fun (bdup hx) (bdup hy)) ?_
    refine Rn.call 1000 rfl _ (strip_fun hr h (p := (2 * x, 2 * y)) ?_) ?_
    · obtain ⟨_, _⟩ := hx
      obtain ⟨_, _⟩ := hy
      exact ⟨⟨by simp only; omega, by simp only; omega⟩, by simp only; omega, by simp only; omega⟩
    refine Rn.chk 1000 rfl (by kernel_rfl) ?_
    refine Rn.ite (b := nearZ (pcA r k) (pcB r k) (2 * x, 2 * y) r.width) 1000 rfl (fun hn => ?_) (fun hn => ?_)
    · exact Rn.ret 1000 rfl rfl (congrArg B (onN_hit (by omega) hn).symm)
    · refine Rn.stop 1000 rfl ?_
      refine Rn.weaken trivial ?_ (ih (k + 1) (by omega) ⟨by omega, fun j hj => ?_⟩)
      · exact ⟨⟨rfl, rfl, rfl, rfl, rfl, .cons rfl (.refl rfl) (.cons rfl (.refl rfl) (.cons rfl (.refl rfl) (.cons rfl (.eq rfl (congrArg I e1)) .nil))), rfl⟩, trivial, .cons rfl (.flat' rfl rfl) .nil⟩
      · rcases Nat.lt_or_ge j k with hj' | hj'
        · exact hall j hj'
        · have : j = k := by omega
          subst this; exact hn
  · rw [e1] at h
    have h : ¬ (((k + 1 : Nat) : Int) < (r.pts.length : Int)) := of_decide_eq_false h
    have hkl : k = r.pts.length - 1 := by omega
    exact Rn.ret 1000 rfl rfl (congrArg B (onN_none (by rw [← hkl]; exact hall)).symm)
end Go.Proofs.Am
