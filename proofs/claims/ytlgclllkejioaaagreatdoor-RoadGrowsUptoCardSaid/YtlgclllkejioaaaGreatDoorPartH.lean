/- Part of the proofs about the layer of roads: Shadows: what the program's and the reference's small functions return. What the hull of points needs: lists of points in rows, sorting. The last loop of touches: the hull's edges. The second chain of the hull. The points in the reverse order, between the chains. The first chain of the hull. Compact in the hull. The program's question whether a shadow touches a patch: the answer of the reference's question. The reference's shadows: small functions. The reference's shadows. -/
import Derived.Test.YtlgclllkejioaaaGreatDoorPartF
import Derived.Test.YtlgclllkejioaaaGreatDoorPartG
import Derived.Test.YtlgclllkejioaaaGreatDoorPartD
set_option linter.unusedVariables false
set_option linter.unusedSimpArgs false

/- Shadows: what the program's and the reference's small functions return. -/
namespace Go.Proofs.Am
open Go Go.Proofs.Geo
set_option maxRecDepth 100000

/-! ## Numbers that do not run over -/
abbrev Bd (n : Int) (x : Int) : Prop := -n ≤ x ∧ x ≤ n
theorem w64_id {x : Int} (h : -9223372036854775808 ≤ x ∧ x ≤ 9223372036854775807) : w64 x = x := by
  unfold w64; rw [IntKind.wrap_i64]; omega
theorem mulbd {x y a b : Int} (hx : Bd a x) (hy : Bd b y) : Bd (a * b) (x * y) := by
  obtain ⟨x1, x2⟩ := hx
  obtain ⟨y1, y2⟩ := hy
  have e1 := Int.mul_nonneg (show 0 ≤ a - x by omega) (show 0 ≤ b + y by omega)
  have e2 := Int.mul_nonneg (show 0 ≤ a + x by omega) (show 0 ≤ b - y by omega)
  have e3 := Int.mul_nonneg (show 0 ≤ a - x by omega) (show 0 ≤ b - y by omega)
  have e4 := Int.mul_nonneg (show 0 ≤ a + x by omega) (show 0 ≤ b + y by omega)
  constructor <;> grind
theorem mulbd' {x y a b c : Int} (hx : Bd a x) (hy : Bd b y) (h : a * b = c) : Bd c (x * y) := h ▸ mulbd hx hy
abbrev BdP (n : Int) (p : Int × Int) : Prop := Bd n p.1 ∧ Bd n p.2

theorem subV_id {a b : Int × Int} (ha : BdP 100000000 a) (hb : BdP 100000000 b) : subV a b = (a.1 - b.1, a.2 - b.2) := by
  obtain ⟨⟨a1, a2⟩, a3, a4⟩ := ha
  obtain ⟨⟨b1, b2⟩, b3, b4⟩ := hb
  unfold subV
  rw [w64_id (by omega), w64_id (by omega)]
theorem dotV_id {a b : Int × Int} (ha : BdP 200000000 a) (hb : BdP 200000000 b) : dotV a b = a.1 * b.1 + a.2 * b.2 ∧ Bd 80000000000000000 (a.1 * b.1 + a.2 * b.2) := by
  have e1 := mulbd' ha.1 hb.1 (c := 40000000000000000) (by decide)
  have e2 := mulbd' ha.2 hb.2 (c := 40000000000000000) (by decide)
  obtain ⟨e1, e1'⟩ := e1
  obtain ⟨e2, e2'⟩ := e2
  unfold dotV
  rw [w64_id (x := a.1 * b.1) (by omega), w64_id (x := a.2 * b.2) (by omega), w64_id (x := _ + _) (by omega)]
  exact ⟨rfl, by omega, by omega⟩
theorem crossV_id {a b : Int × Int} (ha : BdP 200000000 a) (hb : BdP 200000000 b) : crossV a b = a.1 * b.2 - a.2 * b.1 ∧ Bd 80000000000000000 (a.1 * b.2 - a.2 * b.1) := by
  have e1 := mulbd' ha.1 hb.2 (c := 40000000000000000) (by decide)
  have e2 := mulbd' ha.2 hb.1 (c := 40000000000000000) (by decide)
  obtain ⟨e1, e1'⟩ := e1
  obtain ⟨e2, e2'⟩ := e2
  unfold crossV
  rw [w64_id (x := a.1 * b.2) (by omega), w64_id (x := a.2 * b.1) (by omega), w64_id (x := _ - _) (by omega)]
  exact ⟨rfl, by omega, by omega⟩
theorem u64_id {x : Int} (h : 0 ≤ x ∧ x < 18446744073709551616) : u64 x = x := by
  unfold u64; rw [IntKind.wrap_u64]; omega

theorem nearB_eq {a b p : Int × Int} {r : Int} (ha : BdP 100000000 a) (hb : BdP 100000000 b) (hp : BdP 100000000 p) (hr : Bd 100000000 r) : nearB a b p r = nearZ a b p r := by
  have bs : ∀ {x y : Int × Int}, BdP 100000000 x → BdP 100000000 y → BdP 200000000 (x.1 - y.1, x.2 - y.2) := fun {x y} hx hy => by
    obtain ⟨⟨a1, a2⟩, a3, a4⟩ := hx
    obtain ⟨⟨b1, b2⟩, b3, b4⟩ := hy
    exact ⟨⟨by simp only; omega, by simp only; omega⟩, by simp only; omega, by simp only; omega⟩
  have hrr := mulbd' hr hr (c := 10000000000000000) (by decide)
  have eud := dotV_id (bs hp ha) (bs hb ha)
  have edd := dotV_id (bs hb ha) (bs hb ha)
  have euu := dotV_id (bs hp ha) (bs hp ha)
  have evv := dotV_id (bs hp hb) (bs hp hb)
  have ec := crossV_id (bs hb ha) (bs hp ha)
  unfold nearB nearZ
  rw [subV_id hp ha, subV_id hb ha, subV_id hp hb, eud.1, edd.1, euu.1, evv.1, ec.1]
  have f1 : (p.1 - a.1) * (b.1 - a.1) + (p.2 - a.2) * (b.2 - a.2) = dotZ a b a p := by unfold dotZ; grind
  have f2 : (b.1 - a.1) * (b.1 - a.1) + (b.2 - a.2) * (b.2 - a.2) = dotZ a b a b := by unfold dotZ; grind
  have f3 : (p.1 - a.1) * (p.1 - a.1) + (p.2 - a.2) * (p.2 - a.2) = dotZ a p a p := by unfold dotZ; grind
  have f4 : (p.1 - b.1) * (p.1 - b.1) + (p.2 - b.2) * (p.2 - b.2) = dotZ b p b p := by unfold dotZ; grind
  have f5 : (b.1 - a.1) * (p.2 - a.2) - (b.2 - a.2) * (p.1 - a.1) = sideZ a b p := by unfold sideZ; grind
  simp only at *
  rw [f1, f2, f3, f4, f5]
  rw [f2] at edd
  rw [f5] at ec
  obtain ⟨_, ec⟩ := ec
  obtain ⟨_, edd⟩ := edd
  rw [w64_id (x := r * r) (by omega)]
  have hs : sizeI (sideZ a b p) = sideZ a b p ∨ sizeI (sideZ a b p) = - sideZ a b p := by
    unfold sizeI; rw [w64_id (by omega)]; omega
  have hs0 : 0 ≤ sizeI (sideZ a b p) ∧ sizeI (sideZ a b p) ≤ 80000000000000000 := by
    unfold sizeI; rw [w64_id (by omega)]; omega
  have hp1 : prodI (sizeI (sideZ a b p)) (sizeI (sideZ a b p)) = sideZ a b p * sideZ a b p := by
    unfold prodI
    rw [u64_id (by omega)]
    rcases hs with e | e <;> rw [e] <;> grind
  rw [hp1]
  by_cases h1 : dotZ a b a p ≤ 0
  · rw [if_pos h1, if_pos h1]
  · rw [if_neg h1, if_neg h1]
    by_cases h2 : dotZ a b a p ≥ dotZ a b a b
    · rw [if_pos h2, if_pos h2]
    · rw [if_neg h2, if_neg h2]
      have hr0 : 0 ≤ r * r := by rcases Int.le_total 0 r with h | h; exact Int.mul_nonneg h h; have := Int.mul_nonneg (a := -r) (b := -r) (by omega) (by omega); grind
      have : prodI (r * r) (dotZ a b a b) = r * r * dotZ a b a b := by
        unfold prodI
        rw [u64_id (by omega), u64_id (by omega)]
      rw [this]

/-! ## Sides of lines -/
def sideB (a b p : Int × Int) : Int := crossV (subV b a) (subV p a)
theorem sideB_eq {a b p : Int × Int} (ha : BdP 100000000 a) (hb : BdP 100000000 b) (hp : BdP 100000000 p) : sideB a b p = sideZ a b p := by
  have bs : ∀ {x y : Int × Int}, BdP 100000000 x → BdP 100000000 y → BdP 200000000 (x.1 - y.1, x.2 - y.2) := fun {x y} hx hy => by
    obtain ⟨⟨a1, a2⟩, a3, a4⟩ := hx
    obtain ⟨⟨b1, b2⟩, b3, b4⟩ := hy
    exact ⟨⟨by simp only; omega, by simp only; omega⟩, by simp only; omega, by simp only; omega⟩
  unfold sideB
  rw [subV_id hp ha, subV_id hb ha, (crossV_id (bs hb ha) (bs hp ha)).1]
  unfold sideZ; grind
theorem side_fun (ax ay bx bY px py : Int) : Fun Tryz.prog 78 [L4 ax ay bx bY, V px py] (I (sideB (ax, ay) (bx, bY) (px, py))) := by
  refine Fun.of_run cM rfl ?_
  refine Rn.call 1000 rfl _ (minus_fun bx bY ax ay) ?_
  refine Rn.call 1000 rfl _ (minus_fun px py ax ay) ?_
  refine Rn.call 1000 rfl _ (cross_fun _ _ _ _) ?_
  refine Rn.chk 1000 rfl (by kernel_rfl) ?_
  exact Rn.ret 1000 rfl rfl rfl

/-! ## Shadows -/
noncomputable abbrev fsD : List (Nat × Func) := [(48, Tryz.f48), (49, Tryz.f49), (102, Tryz.f102), (56, Tryz.f56), (47, Tryz.f47), (104, Tryz.f104), (105, Tryz.f105), (107, Tryz.f107), (52, Tryz.f52)]
theorem cD : CtxOK Tryz.prog (ctx [] fsD) := ctx_ok (show FsOK Tryz.prog fsD from ⟨Tryz.func48, Tryz.call48, Tryz.func49, Tryz.call49, Tryz.func102, Tryz.call102, Tryz.func56, Tryz.call56, Tryz.func47, Tryz.call47, Tryz.func104, Tryz.call104, Tryz.func105, Tryz.call105, Tryz.func107, Tryz.call107, Tryz.func52, Tryz.call52, trivial⟩) rfl

def castC (c : Cl) (t : Tr) : Cast := ⟨c.x, c.y, c.h, if w64 (c.h - t.high) > 0 then w64 (c.h - t.high) else 0, w64 (c.h - t.low), w64 (c.h * t.x), w64 (c.h * t.y), w64 (t.r * c.h)⟩
abbrev castA (c : Cast) (none : Bool) : AV := .agg [I c.cx, I c.cy, I c.h, I c.n0, I c.n1, I c.mx, I c.my, I c.r, B none]
def lowB (c : Cl) (t : Tr) : Bool := decide (t.low > c.h)
theorem cast_fun (c : Cl) (t : Tr) : Fun Tryz.prog 48 [.agg (clC c), .agg (trC t)] (castA (castC c t) (lowB c t)) := by
  refine Fun.of_run cD rfl ?_
  refine Rn.call 1000 rfl _ (times_fun _ _ _) ?_
  refine Rn.chk 1000 rfl (by kernel_rfl) ?_
  exact Rn.ret 1000 rfl rfl rfl
def atB (c : Cast) (p : Int × Int) (n : Int) : Int × Int := (w64 (w64 (c.h * c.cx) + w64 (n * w64 (p.1 - c.cx))), w64 (w64 (c.h * c.cy) + w64 (n * w64 (p.2 - c.cy))))
theorem at_fun (c : Cast) (q : Bool) (x y n : Int) : Fun Tryz.prog 102 [castA c q, V x y, I n] (V (atB c (x, y) n).1 (atB c (x, y) n).2) := by
  refine Fun.of_run cD rfl ?_
  refine Rn.call 1000 rfl _ (minus_fun _ _ _ _) ?_
  exact Rn.ret 1000 rfl rfl rfl
def hasB (c : Cast) (q : Bool) (p : Int × Int) : Bool := !q && nearB (atB c p c.n0) (atB c p c.n1) (c.mx, c.my) c.r
theorem has_fun (c : Cast) (q : Bool) (x y : Int) : Fun Tryz.prog 49 [castA c q, V x y] (B (hasB c q (x, y))) := by
  refine Fun.of_run cD rfl ?_
  refine Rn.ite 1000 rfl (fun h => ?_) (fun h => ?_)
  · refine Rn.call 1000 rfl _ (at_fun c q x y _) ?_
    refine Rn.call 1000 rfl _ (at_fun c q x y _) ?_
    refine Rn.call 1000 rfl _ (near_fun _ _ _ _ _ _ _) ?_
    refine Rn.chk 1000 rfl (by kernel_rfl) ?_
    refine Rn.ret 1000 rfl rfl (congrArg B ?_)
    have h : (!q) = true := h
    unfold hasB; rw [h]; rfl
  · refine Rn.chk 1000 rfl (by kernel_rfl) ?_
    refine Rn.ret 1000 rfl rfl (congrArg B ?_)
    have h : (!q) = false := h
    unfold hasB; rw [h]; rfl
theorem not_has_fun (c : Cast) (q : Bool) (x y : Int) : Fun Tryz.prog 56 [V x y, .pat [I c.cx, I c.cy, I c.h, I c.n0, I c.n1, I c.mx, I c.my, I c.r, B q] 0] (B (!hasB c q (x, y))) := by
  refine Fun.of_run cD rfl ?_
  refine Rn.call 1000 rfl _ (has_fun c q x y) ?_
  exact Rn.ret 1000 rfl rfl rfl
theorem shades_in_fun (s : Sc) (i : Nat) (hi : i < s.cols.length) (x y : Int) (t : Tr) :
    Fun Tryz.prog 47 [.agg (trC t), .pat [rdsA s.roads, trsA s.trees, ftsA s.fronts, clsA s.cols] 0, .pat [I (i : Int)] 0, .pat [I x] 0, .pat [I y] 0] (B (hasB (castC (s.cols.getD i default) t) (lowB (s.cols.getD i default) t) (x, y))) := by
  refine Fun.of_run cD rfl ?_
  refine Rn.asr 1000 rfl (by simp [inB, hi]) ?_
  refine Rn.call 1000 rfl _ (cast_fun _ t) ?_
  refine Rn.call 1000 rfl _ (has_fun _ _ x y) ?_
  refine Rn.chk 1000 rfl (by kernel_rfl) ?_
  exact Rn.ret 1000 rfl rfl rfl
end Go.Proofs.Am

/- What the hull of points needs: lists of points in rows, sorting. -/
namespace Go.Proofs.Am
open Go Go.Proofs.Geo
set_option maxRecDepth 100000
noncomputable abbrev fsT : List (Nat × Func) := [(57, Tryz.f57), (109, Tryz.f109), (139, Tryz.f139), (163, Tryz.f163), (177, Tryz.f177), (141, Tryz.f141), (142, Tryz.f142), (143, Tryz.f143), (140, Tryz.f140), (131, Tryz.f131), (161, Tryz.f161)]
abbrev inT : List Nat := [109, 139, 163, 177, 141, 142, 143]
theorem cT0 : CtxOK Tryz.prog (ctx [] fsT) := ctx_ok (show FsOK Tryz.prog fsT from ⟨Tryz.func57, Tryz.call57, Tryz.func109, Tryz.call109, Tryz.func139, Tryz.call139, Tryz.func163, Tryz.call163, Tryz.func177, Tryz.call177, Tryz.func141, Tryz.call141, Tryz.func142, Tryz.call142, Tryz.func143, Tryz.call143, Tryz.func140, Tryz.call140, Tryz.func131, Tryz.call131, Tryz.func161, Tryz.call161, trivial⟩) rfl
theorem cT : CtxOK Tryz.prog (ctx inT fsT) := ctx_ok (show FsOK Tryz.prog fsT from ⟨Tryz.func57, Tryz.call57, Tryz.func109, Tryz.call109, Tryz.func139, Tryz.call139, Tryz.func163, Tryz.call163, Tryz.func177, Tryz.call177, Tryz.func141, Tryz.call141, Tryz.func142, Tryz.call142, Tryz.func143, Tryz.call143, Tryz.func140, Tryz.call140, Tryz.func131, Tryz.call131, Tryz.func161, Tryz.call161, trivial⟩) rfl
def cmpB (a b : Int × Int) : Int := if a.1 != b.1 then w64 (a.1 - b.1) else w64 (a.2 - b.2)
theorem cmp_fun (a b : Int × Int) : Fun Tryz.prog 140 [V a.1 a.2, V b.1 b.2] (I (cmpB a b)) := by
  refine Fun.of_run cT0 rfl ?_
  refine Rn.ite 1000 rfl (fun h => ?_) (fun h => ?_)
  · exact Rn.ret 1000 rfl rfl (congrArg I (by unfold cmpB; rw [h]; rfl))
  · exact Rn.ret 1000 rfl rfl (congrArg I (by unfold cmpB; rw [h]; rfl))
theorem len8_fun : Fun Tryz.prog 131 [U 8] (I 4) := by
  have : Fun Tryz.prog 131 [U 8] (.n .i64 4) := Fun.of_exec cT0 noOrc_ok 1000 1000 (by kernel_rfl)
  exact this.res_to' (n_to _ _)
abbrev rowZ (L : List (Int × Int)) (k : Nat) : AB := .row L.length 2 (fun i => ptC (L.getD i (0, 0))) 95 k
abbrev castL (c : Cast) (q : Bool) : List AV := [I c.cx, I c.cy, I c.h, I c.n0, I c.n1, I c.mx, I c.my, I c.r, B q]
def eightB (c : Cast) (p : Pa) : List (Int × Int) := [atB c (p.x0, p.y0) c.n0, atB c (p.x0, p.y0) c.n1, atB c (p.x1, p.y0) c.n0, atB c (p.x1, p.y0) c.n1, atB c (p.x1, p.y1) c.n0, atB c (p.x1, p.y1) c.n1, atB c (p.x0, p.y1) c.n0, atB c (p.x0, p.y1) c.n1]
theorem setGet_pt (L : List (Int × Int)) {i : Nat} (hi : i < L.length) (q : Int × Int) : setGet (fun k => ptC (L.getD k (0, 0))) i 0 (ptC q) = fun k => ptC ((L.set i q).getD k (0, 0)) := by
  funext k
  unfold setGet
  cases hb : Nat.beq k i with
  | true =>
    have := beq_t hb
    subst this
    simp only [List.getD_eq_getElem?_getD, List.getElem?_set_self hi, Option.getD_some]
    rfl
  | false =>
    have := beq_f hb
    simp only [List.getD_eq_getElem?_getD]
    rw [List.getElem?_set_ne (fun e => this e.symm)]
theorem cmp_lt {a b : Int × Int} (ha : BdP 100000000 a) (hb : BdP 100000000 b) : cmpB a b < 0 ↔ leZ b a = false := by
  obtain ⟨⟨a1, a2⟩, a3, a4⟩ := ha
  obtain ⟨⟨b1, b2⟩, b3, b4⟩ := hb
  unfold cmpB leZ
  rw [w64_id (by omega), w64_id (by omega)]
  by_cases h : a.1 = b.1
  · simp [h]; omega
  · simp [h]; omega
theorem getZ_lt {L : List (Int × Int)} {i : Nat} (h : i < L.length) : L.getD i (0, 0) ∈ L := by
  rw [List.getD_eq_getElem?_getD, List.getElem?_eq_getElem h]; exact List.getElem_mem h
/-- Two elements change places. -/
def swapZ (L : List (Int × Int)) (j : Nat) : List (Int × Int) := (L.set (j + 1) (L.getD j (0, 0))).set j (L.getD (j + 1) (0, 0))
theorem swapZ_len (L : List (Int × Int)) (j : Nat) : (swapZ L j).length = L.length := by simp [swapZ]
theorem swapZ_get (L : List (Int × Int)) {j : Nat} (h : j + 1 < L.length) (k : Nat) : (swapZ L j).getD k (0, 0) = if k = j then L.getD (j + 1) (0, 0) else if k = j + 1 then L.getD j (0, 0) else L.getD k (0, 0) := by
  unfold swapZ
  by_cases e : k = j
  · subst e
    rw [if_pos rfl, List.getD_eq_getElem?_getD, List.getElem?_set_self (by simp; omega)]; rfl
  · rw [if_neg e]
    rw [List.getD_eq_getElem?_getD, List.getElem?_set_ne (fun q => e q.symm)]
    by_cases e2 : k = j + 1
    · subst e2
      rw [if_pos rfl, List.getElem?_set_self h]; rfl
    · rw [if_neg e2, List.getElem?_set_ne (fun q => e2 q.symm)]
      rw [List.getD_eq_getElem?_getD]
theorem mem_getD {L : List (Int × Int)} {q : Int × Int} : q ∈ L ↔ ∃ i, i < L.length ∧ L.getD i (0, 0) = q := by
  rw [List.mem_iff_getElem]
  constructor
  · rintro ⟨i, hi, rfl⟩; exact ⟨i, hi, by rw [List.getD_eq_getElem?_getD, List.getElem?_eq_getElem hi]; rfl⟩
  · rintro ⟨i, hi, rfl⟩; exact ⟨i, hi, by rw [List.getD_eq_getElem?_getD, List.getElem?_eq_getElem hi]; rfl⟩
theorem swapZ_mem (L : List (Int × Int)) {j : Nat} (h : j + 1 < L.length) (q : Int × Int) : q ∈ swapZ L j ↔ q ∈ L := by
  rw [mem_getD, mem_getD, swapZ_len]
  constructor
  · rintro ⟨i, hi, rfl⟩
    rw [swapZ_get L h]
    split
    · exact ⟨j + 1, h, rfl⟩
    · split
      · exact ⟨j, by omega, rfl⟩
      · exact ⟨i, hi, rfl⟩
  · rintro ⟨i, hi, rfl⟩
    by_cases e : i = j
    · exact ⟨j + 1, h, by rw [swapZ_get L h, if_neg (by omega), if_pos rfl, e]⟩
    · by_cases e2 : i = j + 1
      · exact ⟨j, by omega, by rw [swapZ_get L h, if_pos rfl, e2]⟩
      · exact ⟨i, hi, by rw [swapZ_get L h, if_neg e, if_neg e2]⟩
theorem leZ_total (a b : Int × Int) : leZ a b = false → leZ b a = true := by
  unfold leZ; simp only [Bool.or_eq_false_iff, Bool.and_eq_false_iff, decide_eq_false_iff_not, Bool.or_eq_true, Bool.and_eq_true, decide_eq_true_eq]; omega
theorem leZ_trans {a b c : Int × Int} : leZ a b = true → leZ b c = true → leZ a c = true := by
  unfold leZ; simp only [Bool.or_eq_true, Bool.and_eq_true, decide_eq_true_eq]; omega
theorem leZ_refl (a : Int × Int) : leZ a a = true := by unfold leZ; simp
/-- Sorted up to i, but for j, which is too far behind at the most. -/
def almost (L : List (Int × Int)) (i j : Nat) : Prop := (∀ a b, a < b → b ≤ i → a ≠ j → b ≠ j → leZ (L.getD a (0, 0)) (L.getD b (0, 0)) = true) ∧ ∀ b, j < b → b ≤ i → leZ (L.getD j (0, 0)) (L.getD b (0, 0)) = true
def sortedTo (L : List (Int × Int)) (i : Nat) : Prop := ∀ a b, a < b → b < i → leZ (L.getD a (0, 0)) (L.getD b (0, 0)) = true
theorem almost_done {L : List (Int × Int)} {i j : Nat} (hj : j ≤ i) (h : almost L i j) (hd : j = 0 ∨ ∃ k, j = k + 1 ∧ leZ (L.getD k (0, 0)) (L.getD j (0, 0)) = true) : sortedTo L (i + 1) := by
  intro a b hab hb
  by_cases ea : a = j
  · subst ea; exact h.2 b hab (by omega)
  · by_cases eb : b = j
    · subst eb
      rcases hd with e | ⟨k, e, hk⟩
      · omega
      · by_cases e2 : a = k
        · rw [e2]; exact hk
        · exact leZ_trans (h.1 a k (by omega) (by omega) ea (by omega)) hk
    · exact h.1 a b hab (by omega) ea eb
theorem almost_step {L : List (Int × Int)} {i j : Nat} (hj : j + 1 ≤ i) (hi : i < L.length) (h : almost L i (j + 1)) (hlt : leZ (L.getD j (0, 0)) (L.getD (j + 1) (0, 0)) = false) : almost (swapZ L j) i j := by
  have g := swapZ_get L (j := j) (by omega)
  have hle := leZ_total _ _ hlt
  refine ⟨fun a b hab hb ha hbj => ?_, fun b hb hbi => ?_⟩
  · rw [g a, g b, if_neg ha, if_neg hbj]
    by_cases e1 : a = j + 1
    · rw [if_pos e1, if_neg (by omega)]
      exact h.1 j b (by omega) hb (by omega) (by omega)
    · by_cases e2 : b = j + 1
      · rw [if_neg e1, if_pos e2]
        exact h.1 a j (by omega) (by omega) e1 (by omega)
      · rw [if_neg e1, if_neg e2]
        exact h.1 a b hab hb e1 e2
  · rw [g j, g b, if_pos rfl, if_neg (by omega)]
    by_cases e2 : b = j + 1
    · rw [if_pos e2]; exact hle
    · rw [if_neg e2]; exact h.2 b (by omega) hbi
theorem sortedTo_pw {L : List (Int × Int)} (h : sortedTo L L.length) : L.Pairwise (fun a b => leZ a b = true) := by
  rw [List.pairwise_iff_getElem]
  intro a b ha hb hab
  have := h a b hab hb
  simpa [List.getD_eq_getElem?_getD, List.getElem?_eq_getElem ha, List.getElem?_eq_getElem hb] using this
theorem lt8 {P : Nat → Prop} (h0 : P 0) (h1 : P 1) (h2 : P 2) (h3 : P 3) (h4 : P 4) (h5 : P 5) (h6 : P 6) (h7 : P 7) (i : Nat) (h : i < 8) : P i := by
  match i, h with
  | 0, _ => exact h0
  | 1, _ => exact h1
  | 2, _ => exact h2
  | 3, _ => exact h3
  | 4, _ => exact h4
  | 5, _ => exact h5
  | 6, _ => exact h6
  | 7, _ => exact h7
theorem AvTo.boolE {n : Nat} {b b' : Bool} (h : b = b') : AvTo n (.t b) (.v (.bool b')) := h ▸ .bool b
theorem AvTo.intE {n : Nat} {k : IntKind} {z z' : Int} (h : z = z') : AvTo n (.n k z) (.v (.int k z')) := h ▸ .int k z
end Go.Proofs.Am

/- The last loop of touches: the hull's edges. -/
namespace Go.Proofs.Am
open Go Go.Proofs.Geo
set_option maxRecDepth 100000

abbrev RT (c : Cast) (C : List (Int × Int)) : AV → Prop := fun r => r = B (touchP C (c.mx, c.my) c.r)
theorem touchP_hit {C : List (Int × Int)} {m : Int × Int} {r : Int} {i : Nat} (h : i < C.length) (hn : nearZ (C.getD i (0, 0)) (C.getD ((i + 1) % C.length) (0, 0)) m r = true) : touchP C m r = true := by
  unfold touchP
  rw [Bool.or_eq_true, List.any_eq_true]
  exact .inl ⟨_, List.mem_map.2 ⟨i, List.mem_range.2 h, rfl⟩, hn⟩
theorem touchP_none {C : List (Int × Int)} {m : Int × Int} {r : Int} (h : ∀ i, i < C.length → nearZ (C.getD i (0, 0)) (C.getD ((i + 1) % C.length) (0, 0)) m r = false) :
    touchP C m r = (decide (2 < C.length) && (List.range C.length).all fun i => decide (0 < sideZ (C.getD i (0, 0)) (C.getD ((i + 1) % C.length) (0, 0)) m)) := by
  unfold touchP
  have : (cyc C).any (fun e => nearZ e.1 e.2 m r) = false := by
    rw [List.any_eq_false]
    intro e he
    obtain ⟨i, hi, rfl⟩ := List.mem_map.1 he
    rw [h i (List.mem_range.1 hi)]; simp
  rw [this, Bool.false_or]
  congr 1
  unfold cyc
  rw [List.all_map]; rfl

theorem fin16_rn (c : Cast) (C : List (Int × Int)) (ver : Nat) (hl : C.length ≤ 16) (hb : ∀ q ∈ C, BdP 100000000 q) (hm : BdP 100000000 (c.mx, c.my)) (hr : Bd 100000000 c.r) :
    Rn cT 57 (RT c C) ⟨⟨57, [(2, .ptr 0 0), (5, .osl 16 ver), (8, B (decide (2 < C.length))), (38, .osl 16 ver), (39, I C.length), (40, I 0)], Tryz.f57.ntmps, loopAt Tryz.f57 1, [], none⟩, [], [(0, .flat (castL c false) 97), (16, rowZ C ver)], 100⟩ := by
  have nz : ∀ i : Nat, i < C.length → w64 ((i : Int) + 1) = ((i + 1 : Nat) : Int) := fun i h => w64_nat h (by omega)
  refine Rn.loop2 (fun _ => []) (fun i : Nat => [(2, .ptr 0 0), (5, .osl 16 ver), (8, B (decide (2 < C.length) && (List.range i).all fun i => decide (0 < sideZ (C.getD i (0, 0)) (C.getD ((i + 1) % C.length) (0, 0)) (c.mx, c.my)))), (38, .osl 16 ver), (39, I C.length), (40, I (i : Int))])
    (fun _ => [(0, .flat (castL c false) 97), (16, rowZ C ver)]) 100
    (fun i => i ≤ C.length ∧ ∀ j, j < i → nearZ (C.getD j (0, 0)) (C.getD ((j + 1) % C.length) (0, 0)) (c.mx, c.my) c.r = false) (fun i => C.length - i) 0 ⟨Nat.zero_le _, fun j hj => absurd hj (by omega)⟩
    ⟨⟨rfl, rfl, rfl, rfl, rfl, .cons rfl (.refl rfl) (.cons rfl (.refl rfl) (.cons rfl (.eq rfl (congrArg B (by simp))) (.cons rfl (.refl rfl) (.cons rfl (.refl rfl) (.cons rfl (.refl rfl) .nil))))), rfl⟩, trivial,
      .cons rfl (.flat' rfl rfl) (.cons rfl (.row_eq rfl rfl rfl fun k hk => rfl) .nil)⟩ ?_
  rintro i ⟨hi, hall⟩ ih
  refine Rn.ite 1000 rfl (fun h => ?_) (fun h => ?_)
  · have h : (i : Int) < (C.length : Int) := of_decide_eq_true h
    have hi : i < C.length := by omega
    have v : Nat.beq ver ver = true := Nat.beq_refl ver
    have in1 : inB (i : Int) C.length = true := by simp only [inB, Bool.and_eq_true, decide_eq_true_eq]; omega
    have nz2 : (!(decide ((C.length : Int) = 0))) = true := by rw [Bool.not_eq_true', decide_eq_false_iff_not]; omega
    have em : (IntKind.wrap IntKind.i64 ((i : Int) + 1)).tmod (C.length : Int) = (((i + 1) % C.length : Nat) : Int) := by
      rw [show IntKind.wrap IntKind.i64 ((i : Int) + 1) = ((i + 1 : Nat) : Int) from nz i hi]
      rfl
    have hmod : (i + 1) % C.length < C.length := Nat.mod_lt _ (by omega)
    have in2 : inB ((IntKind.wrap IntKind.i64 ((i : Int) + 1)).tmod (C.length : Int)) C.length = true := by
      rw [em]; simp only [inB, Bool.and_eq_true, decide_eq_true_eq]; omega
    repeat (first | refine Rn.asr 1000 rfl v ?_ | refine Rn.asr 1000 rfl in1 ?_ | refine Rn.asr 1000 rfl nz2 ?_ | refine Rn.asr 1000 rfl in2 ?_)
    refine Rn.chk 1000 rfl (by kernel_rfl) ?_
    have e1 : ((i : Int)).toNat = i := Int.toNat_natCast _
    have e2 : ((IntKind.wrap IntKind.i64 ((i : Int) + 1)).tmod (C.length : Int)).toNat = (i + 1) % C.length := by rw [em]; exact Int.toNat_natCast _
    have ba : BdP 100000000 (C.getD i (0, 0)) := hb _ (getZ_lt hi)
    have bb : BdP 100000000 (C.getD ((i + 1) % C.length) (0, 0)) := hb _ (getZ_lt hmod)
    refine Rn.call 1000 rfl _ (near_fun _ _ _ _ _ _ _) ?_
    refine Rn.ite 1000 rfl (fun hn => ?_) (fun hn => ?_)
    · have hn : nearB (C.getD ((i : Int)).toNat (0, 0)) (C.getD ((IntKind.wrap IntKind.i64 ((i : Int) + 1)).tmod (C.length : Int)).toNat (0, 0)) (c.mx, c.my) c.r = true := hn
      rw [e1, e2, nearB_eq ba bb hm hr] at hn
      exact Rn.ret 1000 rfl rfl (by show _ = B (touchP C (c.mx, c.my) c.r); rw [touchP_hit hi hn])
    · have hn : nearB (C.getD ((i : Int)).toNat (0, 0)) (C.getD ((IntKind.wrap IntKind.i64 ((i : Int) + 1)).tmod (C.length : Int)).toNat (0, 0)) (c.mx, c.my) c.r = false := hn
      rw [e1, e2, nearB_eq ba bb hm hr] at hn
      have inv : i + 1 ≤ C.length ∧ ∀ j, j < i + 1 → nearZ (C.getD j (0, 0)) (C.getD ((j + 1) % C.length) (0, 0)) (c.mx, c.my) c.r = false := ⟨hi, fun j hj => by
        rcases Nat.lt_or_ge j i with hj' | hj'
        · exact hall j hj'
        · have : j = i := by omega
          subst this; exact hn⟩
      have hall1 : ∀ f : Nat → Bool, (List.range (i + 1)).all f = ((List.range i).all f && f i) := fun f => by rw [List.range_succ]; simp
      refine Rn.ite 1000 rfl (fun hs => ?_) (fun hs => ?_)
      · refine Rn.call 1000 rfl _ (side_fun _ _ _ _ _ _) ?_
        refine Rn.stop 1000 rfl ?_
        refine Rn.weaken trivial ?_ (ih (i + 1) (by omega) inv)
        refine ⟨⟨rfl, rfl, rfl, rfl, rfl, .cons rfl (.refl rfl) (.cons rfl (.refl rfl) (.cons rfl (.eq rfl (congrArg B ?_)) (.cons rfl (.refl rfl) (.cons rfl (.refl rfl) (.cons rfl (.eq rfl (congrArg I (nz i hi))) .nil))))), rfl⟩, trivial,
          .cons rfl (.flat' rfl rfl) (.cons rfl (.row_eq rfl rfl rfl fun k hk => rfl) .nil)⟩
        have hs : (decide (2 < C.length) && (List.range i).all fun i => decide (0 < sideZ (C.getD i (0, 0)) (C.getD ((i + 1) % C.length) (0, 0)) (c.mx, c.my))) = true := hs
        rw [hall1, ← Bool.and_assoc, hs, Bool.true_and]
        show decide (sideB (C.getD ((i : Int)).toNat (0, 0)) (C.getD ((IntKind.wrap IntKind.i64 ((i : Int) + 1)).tmod (C.length : Int)).toNat (0, 0)) (c.mx, c.my) > 0) = _
        rw [e1, e2, sideB_eq ba bb hm]
      · refine Rn.stop 1000 rfl ?_
        refine Rn.weaken trivial ?_ (ih (i + 1) (by omega) inv)
        refine ⟨⟨rfl, rfl, rfl, rfl, rfl, .cons rfl (.refl rfl) (.cons rfl (.refl rfl) (.cons rfl (.boolE ?_) (.cons rfl (.refl rfl) (.cons rfl (.refl rfl) (.cons rfl (.eq rfl (congrArg I (nz i hi))) .nil))))), rfl⟩, trivial,
          .cons rfl (.flat' rfl rfl) (.cons rfl (.row_eq rfl rfl rfl fun k hk => rfl) .nil)⟩
        have hs : (decide (2 < C.length) && (List.range i).all fun i => decide (0 < sideZ (C.getD i (0, 0)) (C.getD ((i + 1) % C.length) (0, 0)) (c.mx, c.my))) = false := hs
        rw [hall1, ← Bool.and_assoc, hs, Bool.false_and]
  · have h : ¬ (i : Int) < (C.length : Int) := of_decide_eq_false h
    have hi : i = C.length := by omega
    subst hi
    exact Rn.ret 1000 rfl rfl (by show _ = B (touchP C (c.mx, c.my) c.r); rw [touchP_none hall])
theorem fin64_rn (c : Cast) (C : List (Int × Int)) (ver : Nat) (hl : C.length ≤ 16) (hb : ∀ q ∈ C, BdP 100000000 q) (hm : BdP 100000000 (c.mx, c.my)) (hr : Bd 100000000 c.r) :
    Rn cT 57 (RT c C) ⟨⟨57, [(2, .ptr 0 0), (5, .osl 64 ver), (8, B (decide (2 < C.length))), (38, .osl 64 ver), (39, I C.length), (40, I 0)], Tryz.f57.ntmps, loopAt Tryz.f57 1, [], none⟩, [], [(0, .flat (castL c false) 97), (64, rowZ C ver)], 100⟩ := by
  have nz : ∀ i : Nat, i < C.length → w64 ((i : Int) + 1) = ((i + 1 : Nat) : Int) := fun i h => w64_nat h (by omega)
  refine Rn.loop2 (fun _ => []) (fun i : Nat => [(2, .ptr 0 0), (5, .osl 64 ver), (8, B (decide (2 < C.length) && (List.range i).all fun i => decide (0 < sideZ (C.getD i (0, 0)) (C.getD ((i + 1) % C.length) (0, 0)) (c.mx, c.my)))), (38, .osl 64 ver), (39, I C.length), (40, I (i : Int))])
    (fun _ => [(0, .flat (castL c false) 97), (64, rowZ C ver)]) 100
    (fun i => i ≤ C.length ∧ ∀ j, j < i → nearZ (C.getD j (0, 0)) (C.getD ((j + 1) % C.length) (0, 0)) (c.mx, c.my) c.r = false) (fun i => C.length - i) 0 ⟨Nat.zero_le _, fun j hj => absurd hj (by omega)⟩
    ⟨⟨rfl, rfl, rfl, rfl, rfl, .cons rfl (.refl rfl) (.cons rfl (.refl rfl) (.cons rfl (.eq rfl (congrArg B (by simp))) (.cons rfl (.refl rfl) (.cons rfl (.refl rfl) (.cons rfl (.refl rfl) .nil))))), rfl⟩, trivial,
      .cons rfl (.flat' rfl rfl) (.cons rfl (.row_eq rfl rfl rfl fun k hk => rfl) .nil)⟩ ?_
  rintro i ⟨hi, hall⟩ ih
  refine Rn.ite 1000 rfl (fun h => ?_) (fun h => ?_)
  · have h : (i : Int) < (C.length : Int) := of_decide_eq_true h
    have hi : i < C.length := by omega
    have v : Nat.beq ver ver = true := Nat.beq_refl ver
    have in1 : inB (i : Int) C.length = true := by simp only [inB, Bool.and_eq_true, decide_eq_true_eq]; omega
    have nz2 : (!(decide ((C.length : Int) = 0))) = true := by rw [Bool.not_eq_true', decide_eq_false_iff_not]; omega
    have em : (IntKind.wrap IntKind.i64 ((i : Int) + 1)).tmod (C.length : Int) = (((i + 1) % C.length : Nat) : Int) := by
      rw [show IntKind.wrap IntKind.i64 ((i : Int) + 1) = ((i + 1 : Nat) : Int) from nz i hi]
      rfl
    have hmod : (i + 1) % C.length < C.length := Nat.mod_lt _ (by omega)
    have in2 : inB ((IntKind.wrap IntKind.i64 ((i : Int) + 1)).tmod (C.length : Int)) C.length = true := by
      rw [em]; simp only [inB, Bool.and_eq_true, decide_eq_true_eq]; omega
    repeat (first | refine Rn.asr 1000 rfl v ?_ | refine Rn.asr 1000 rfl in1 ?_ | refine Rn.asr 1000 rfl nz2 ?_ | refine Rn.asr 1000 rfl in2 ?_)
    refine Rn.chk 1000 rfl (by kernel_rfl) ?_
    have e1 : ((i : Int)).toNat = i := Int.toNat_natCast _
    have e2 : ((IntKind.wrap IntKind.i64 ((i : Int) + 1)).tmod (C.length : Int)).toNat = (i + 1) % C.length := by rw [em]; exact Int.toNat_natCast _
    have ba : BdP 100000000 (C.getD i (0, 0)) := hb _ (getZ_lt hi)
    have bb : BdP 100000000 (C.getD ((i + 1) % C.length) (0, 0)) := hb _ (getZ_lt hmod)
    refine Rn.call 1000 rfl _ (near_fun _ _ _ _ _ _ _) ?_
    refine Rn.ite 1000 rfl (fun hn => ?_) (fun hn => ?_)
    · have hn : nearB (C.getD ((i : Int)).toNat (0, 0)) (C.getD ((IntKind.wrap IntKind.i64 ((i : Int) + 1)).tmod (C.length : Int)).toNat (0, 0)) (c.mx, c.my) c.r = true := hn
      rw [e1, e2, nearB_eq ba bb hm hr] at hn
      exact Rn.ret 1000 rfl rfl (by show _ = B (touchP C (c.mx, c.my) c.r); rw [touchP_hit hi hn])
    · have hn : nearB (C.getD ((i : Int)).toNat (0, 0)) (C.getD ((IntKind.wrap IntKind.i64 ((i : Int) + 1)).tmod (C.length : Int)).toNat (0, 0)) (c.mx, c.my) c.r = false := hn
      rw [e1, e2, nearB_eq ba bb hm hr] at hn
      have inv : i + 1 ≤ C.length ∧ ∀ j, j < i + 1 → nearZ (C.getD j (0, 0)) (C.getD ((j + 1) % C.length) (0, 0)) (c.mx, c.my) c.r = false := ⟨hi, fun j hj => by
        rcases Nat.lt_or_ge j i with hj' | hj'
        · exact hall j hj'
        · have : j = i := by omega
          subst this; exact hn⟩
      have hall1 : ∀ f : Nat → Bool, (List.range (i + 1)).all f = ((List.range i).all f && f i) := fun f => by rw [List.range_succ]; simp
      refine Rn.ite 1000 rfl (fun hs => ?_) (fun hs => ?_)
      · refine Rn.call 1000 rfl _ (side_fun _ _ _ _ _ _) ?_
        refine Rn.stop 1000 rfl ?_
        refine Rn.weaken trivial ?_ (ih (i + 1) (by omega) inv)
        refine ⟨⟨rfl, rfl, rfl, rfl, rfl, .cons rfl (.refl rfl) (.cons rfl (.refl rfl) (.cons rfl (.eq rfl (congrArg B ?_)) (.cons rfl (.refl rfl) (.cons rfl (.refl rfl) (.cons rfl (.eq rfl (congrArg I (nz i hi))) .nil))))), rfl⟩, trivial,
          .cons rfl (.flat' rfl rfl) (.cons rfl (.row_eq rfl rfl rfl fun k hk => rfl) .nil)⟩
        have hs : (decide (2 < C.length) && (List.range i).all fun i => decide (0 < sideZ (C.getD i (0, 0)) (C.getD ((i + 1) % C.length) (0, 0)) (c.mx, c.my))) = true := hs
        rw [hall1, ← Bool.and_assoc, hs, Bool.true_and]
        show decide (sideB (C.getD ((i : Int)).toNat (0, 0)) (C.getD ((IntKind.wrap IntKind.i64 ((i : Int) + 1)).tmod (C.length : Int)).toNat (0, 0)) (c.mx, c.my) > 0) = _
        rw [e1, e2, sideB_eq ba bb hm]
      · refine Rn.stop 1000 rfl ?_
        refine Rn.weaken trivial ?_ (ih (i + 1) (by omega) inv)
        refine ⟨⟨rfl, rfl, rfl, rfl, rfl, .cons rfl (.refl rfl) (.cons rfl (.refl rfl) (.cons rfl (.boolE ?_) (.cons rfl (.refl rfl) (.cons rfl (.refl rfl) (.cons rfl (.eq rfl (congrArg I (nz i hi))) .nil))))), rfl⟩, trivial,
          .cons rfl (.flat' rfl rfl) (.cons rfl (.row_eq rfl rfl rfl fun k hk => rfl) .nil)⟩
        have hs : (decide (2 < C.length) && (List.range i).all fun i => decide (0 < sideZ (C.getD i (0, 0)) (C.getD ((i + 1) % C.length) (0, 0)) (c.mx, c.my))) = false := hs
        rw [hall1, ← Bool.and_assoc, hs, Bool.false_and]
  · have h : ¬ (i : Int) < (C.length : Int) := of_decide_eq_false h
    have hi : i = C.length := by omega
    subst hi
    exact Rn.ret 1000 rfl rfl (by show _ = B (touchP C (c.mx, c.my) c.r); rw [touchP_none hall])
end Go.Proofs.Am

/- The second chain of the hull. -/
namespace Go.Proofs.Am
open Go Go.Proofs.Geo
set_option maxRecDepth 100000

abbrev outZ (base st : List (Int × Int)) : List (Int × Int) := base ++ st.reverse
theorem outZ_len (base st : List (Int × Int)) : (outZ base st).length = base.length + st.length := by simp [outZ]
theorem outZ_get (base st : List (Int × Int)) {i : Nat} (h : i < st.length) : (outZ base st).getD (base.length + st.length - 1 - i) (0, 0) = st.getD i (0, 0) := by
  unfold outZ
  rw [List.getD_eq_getElem?_getD, List.getElem?_append_right (by omega), List.getElem?_reverse (by omega), List.getD_eq_getElem?_getD]
  congr 2; omega
theorem outZ_pop (base : List (Int × Int)) (c : Int × Int) (r : List (Int × Int)) {k : Nat} (h : k < (outZ base r).length) : (outZ base (c :: r)).getD k (0, 0) = (outZ base r).getD k (0, 0) := by
  have : outZ base (c :: r) = outZ base r ++ [c] := by simp [outZ]
  rw [this, List.getD_eq_getElem?_getD, List.getElem?_append_left h, List.getD_eq_getElem?_getD]
theorem outZ_push (base st : List (Int × Int)) (p : Int × Int) : outZ base (p :: st) = outZ base st ++ [p] := by simp [outZ]
theorem push_small {st : List (Int × Int)} (h : ¬ 1 < st.length) (p : Int × Int) : push st p = p :: st := by
  match st, h with
  | [], _ => rfl
  | [c], _ => rfl
  | _ :: _ :: _, h => exact absurd (by simp) h
theorem push_go {c b : Int × Int} {r : List (Int × Int)} {p : Int × Int} (h : sideZ b c p ≤ 0) : push (c :: b :: r) p = push (b :: r) p := by
  rw [push, if_pos h]
theorem push_stop {c b : Int × Int} {r : List (Int × Int)} {p : Int × Int} (h : ¬ sideZ b c p ≤ 0) : push (c :: b :: r) p = p :: c :: b :: r := by
  rw [push, if_neg h]
theorem push_mem {S : List (Int × Int)} : ∀ {st : List (Int × Int)} {p : Int × Int}, (∀ q ∈ st, q ∈ S) → p ∈ S → ∀ q ∈ push st p, q ∈ S
  | [], p, h, hp, q, hq => by simp [push] at hq; subst hq; exact hp
  | [c], p, h, hp, q, hq => by simp [push] at hq; rcases hq with rfl | rfl; exact hp; exact h _ (by simp)
  | c :: b :: r, p, h, hp, q, hq => by
    rw [push] at hq
    split at hq
    · exact push_mem (fun q hq => h q (List.mem_cons_of_mem _ hq)) hp q hq
    · rcases List.mem_cons.1 hq with rfl | hq
      · exact hp
      · exact h q hq
theorem push_len : ∀ (st : List (Int × Int)) (p : Int × Int), (push st p).length ≤ st.length + 1
  | [], p => by simp [push]
  | [c], p => by simp [push]
  | c :: b :: r, p => by
    rw [push]
    split
    · have := push_len (b :: r) p; simp at *; omega
    · simp
theorem appGet_pt (L : List (Int × Int)) (p : Int × Int) {k : Nat} (h : k < L.length + 1) : ptC ((L ++ [p]).getD k (0, 0)) = appGet L.length (fun k => ptC (L.getD k (0, 0))) (fun i => sub (ptC p) (0 + i * 2) 2) k := by
  unfold appGet
  cases hb : Nat.blt k L.length with
  | true =>
    have := blt_lt hb
    show ptC _ = ptC (L.getD k (0, 0))
    rw [List.getD_eq_getElem?_getD, List.getElem?_append_left this, List.getD_eq_getElem?_getD]
  | false =>
    have : ¬ k < L.length := fun h => by rw [show Nat.blt k L.length = true from Nat.ble_eq_true_of_le h] at hb; cases hb
    have : k = L.length := by omega
    subst this
    rw [List.getD_eq_getElem?_getD, List.getElem?_append_right (Nat.le_refl _)]
    simp [sub]

theorem chain_ne : ∀ (l st : List (Int × Int)), (st ≠ [] ∨ l ≠ []) → l.foldl push st ≠ []
  | [], st, h => by rcases h with h | h; exact h; exact absurd rfl h
  | x :: l, st, _ => by
    obtain ⟨r, hr⟩ := push_head x st
    rw [List.foldl_cons, hr]
    exact chain_ne l (x :: r) (.inl (by simp))
theorem chain_mem (C : List (Int × Int)) : ∀ q ∈ chainZ C, q ∈ C := by
  have : ∀ (l st : List (Int × Int)), (∀ q ∈ st, q ∈ C) → (∀ q ∈ l, q ∈ C) → ∀ q ∈ l.foldl push st, q ∈ C := by
    intro l
    induction l with
    | nil => intro st h _ q hq; exact h q hq
    | cons x l ih => intro st h hl q hq; exact ih (push st x) (push_mem h (hl x (by simp))) (fun q hq => hl q (List.mem_cons_of_mem _ hq)) q hq
  exact this C [] (fun q hq => absurd hq List.not_mem_nil) (fun q hq => hq)
theorem chain_len (C : List (Int × Int)) : (chainZ C).length ≤ C.length := by
  have : ∀ (l st : List (Int × Int)), (l.foldl push st).length ≤ st.length + l.length := by
    intro l
    induction l with
    | nil => intro st; simp
    | cons x l ih => intro st; have h1 := ih (push st x); have h2 := push_len st x; simp only [List.foldl_cons, List.length_cons]; omega
  have := this C []
  simpa [chainZ] using this
/-- The loop of a chain, whoever has called. -/
theorem chain_loop (R : AV → Prop) (cs : List AFr) (hcs : frsBelow 70 cs = true) (hcs2 : frsBelow 71 cs = true) (c : Cast) (base C : List (Int × Int)) (ver : Nat) (hl : C.length ≤ 8) (hbl : base.length ≤ 8) (hb : ∀ q ∈ C, BdP 100000000 q)
    (exit : ∀ k, Rn cT 57 R ⟨⟨142, [(1, .ptr 17 0), (3, I base.length), (8, .osl 16 ver), (9, I C.length), (10, I (C.length : Int))], Tryz.f142.ntmps, loopAt Tryz.f142 0, [], none⟩, cs, [(0, .flat (castL c false) 97), (16, rowZ C ver), (17, .flat [.osl 64 k] 111), (64, rowZ (outZ base (chainZ C)) k)], 70⟩)
    (i0 k0 : Nat) (st0 : List (Int × Int)) (hi0 : i0 ≤ C.length) (hst0 : st0.length ≤ i0) (hm0 : ∀ q ∈ st0, q ∈ C) (hf0 : (C.drop i0).foldl push st0 = chainZ C) :
    Rn cT 57 R ⟨⟨142, [(1, .ptr 17 0), (3, I base.length), (8, .osl 16 ver), (9, I C.length), (10, I (i0 : Int))], Tryz.f142.ntmps, loopAt Tryz.f142 0, [], none⟩, cs, [(0, .flat (castL c false) 97), (16, rowZ C ver), (17, .flat [.osl 64 k0] 111), (64, rowZ (outZ base st0) k0)], 70⟩ := by
  have v : Nat.beq ver ver = true := Nat.beq_refl ver
  refine Rn.loop2 (fun _ => []) (fun x : Nat × Nat × List (Int × Int) => [(1, .ptr 17 0), (3, I base.length), (8, .osl 16 ver), (9, I C.length), (10, I (x.1 : Int))])
    (fun x => [(0, .flat (castL c false) 97), (16, rowZ C ver), (17, .flat [.osl 64 x.2.1] 111), (64, rowZ (outZ base x.2.2) x.2.1)]) 70
    (fun x => x.1 ≤ C.length ∧ x.2.2.length ≤ x.1 ∧ (∀ q ∈ x.2.2, q ∈ C) ∧ (C.drop x.1).foldl push x.2.2 = chainZ C) (fun x => C.length - x.1) (i0, k0, st0) ⟨hi0, hst0, hm0, hf0⟩
    ⟨⟨rfl, rfl, rfl, rfl, rfl, .cons rfl (.refl rfl) (.cons rfl (.refl rfl) (.cons rfl (.refl rfl) (.cons rfl (.refl rfl) (.cons rfl (.refl rfl) .nil)))), rfl⟩, FrsTo.refl hcs,
      .cons rfl (.flat' rfl rfl) (.cons rfl (.row_eq rfl rfl rfl fun k hk => rfl) (.cons rfl (.flat' rfl rfl) (.cons rfl (.row_eq rfl rfl rfl fun k hk => rfl) .nil)))⟩ ?_
  rintro ⟨i, k, st⟩ ⟨hi, hsl, hst, hfold⟩ ih
  simp only at hi hsl hst hfold
  by_cases hi : i < C.length
  · refine Rn.ite 1000 rfl (fun h => ?_) (fun h => absurd (show (i : Int) < (C.length : Int) by omega) (of_decide_eq_false h))
    have h : (i : Int) < (C.length : Int) := of_decide_eq_true h
    have in1 : inB (i : Int) C.length = true := by simp only [inB, Bool.and_eq_true, decide_eq_true_eq]; omega
    repeat (first | refine Rn.asr 1000 rfl v ?_ | refine Rn.asr 1000 rfl in1 ?_)
    refine Rn.stop 1000 rfl ?_
    have hp : C.getD i (0, 0) ∈ C := getZ_lt hi
    have hdrop : C.drop i = C.getD i (0, 0) :: C.drop (i + 1) := by
      rw [List.drop_eq_getElem_cons hi, List.getD_eq_getElem?_getD, List.getElem?_eq_getElem hi]; rfl
    -- the inner loop
    refine Rn.loop2 (fun _ => []) (fun x : Nat × List (Int × Int) => [(1, .ptr 17 0), (3, I base.length), (5, .ptr 70 0), (8, .osl 16 ver), (9, I C.length), (10, I (i : Int))])
      (fun x => [(0, .flat (castL c false) 97), (16, rowZ C ver), (17, .flat [.osl 64 x.1] 111), (64, rowZ (outZ base x.2) x.1), (70, .flat (ptC (C.getD i (0, 0))) 95)]) 71
      (fun x => x.2.length ≤ i ∧ (∀ q ∈ x.2, q ∈ C) ∧ push x.2 (C.getD i (0, 0)) = push st (C.getD i (0, 0))) (fun x => x.2.length) (k, st) ⟨hsl, hst, rfl⟩
      ⟨⟨rfl, rfl, rfl, rfl, rfl, .cons rfl (.refl rfl) (.cons rfl (.refl rfl) (.cons rfl (.refl rfl) (.cons rfl (.refl rfl) (.cons rfl (.refl rfl) (.cons rfl (.refl rfl) .nil))))), rfl⟩, FrsTo.refl hcs2,
        .cons rfl (.flat' rfl rfl) (.cons rfl (.row_eq rfl rfl rfl fun k hk => rfl) (.cons rfl (.flat' rfl rfl) (.cons rfl (.row_eq rfl rfl rfl fun k hk => rfl) (.cons rfl (.flat' rfl rfl) .nil))))⟩ ?_
    rintro ⟨k2, st2⟩ ⟨hsl2, hst2, hpush⟩ ih2
    simp only at hsl2 hst2 hpush
    have v2 : Nat.beq k2 k2 = true := Nat.beq_refl k2
    have hlen := outZ_len base st2
    have ew1 : w64 ((base.length : Int) + 1) = (base.length : Int) + 1 := w64_id (by omega)
    -- the point is added
    have fin : ∀ hp' : Unit, True := fun _ => trivial
    refine Rn.asr 1000 rfl v2 ?_
    refine Rn.ite 1000 rfl (fun h => ?_) (fun h => ?_)
    · have h : ((outZ base st2).length : Int) > w64 ((base.length : Int) + 1) := of_decide_eq_true h
      rw [ew1, hlen] at h
      obtain ⟨c1, b1, r1, rfl⟩ : ∃ c b r, st2 = c :: b :: r := by
        match st2, h with
        | [], h => exfalso; simp only [List.length_nil] at h; omega
        | [_], h => exfalso; simp only [List.length_cons, List.length_nil] at h; omega
        | c :: b :: r, _ => exact ⟨c, b, r, rfl⟩
      have el : ((outZ base (c1 :: b1 :: r1)).length : Int) = ((base.length + r1.length + 2 : Nat) : Int) := by rw [hlen]; simp; omega
      have ei : IntKind.wrap IntKind.i64 (((outZ base (c1 :: b1 :: r1)).length : Int) - 2) = ((base.length + r1.length : Nat) : Int) := by
        show w64 _ = _
        rw [el, w64_id (by omega)]; omega
      have ej : IntKind.wrap IntKind.i64 (((outZ base (c1 :: b1 :: r1)).length : Int) - 1) = ((base.length + r1.length + 1 : Nat) : Int) := by
        show w64 _ = _
        rw [el, w64_id (by omega)]; omega
      have in2 : inB (IntKind.wrap IntKind.i64 (((outZ base (c1 :: b1 :: r1)).length : Int) - 2)) (outZ base (c1 :: b1 :: r1)).length = true := by
        rw [ei]; simp only [inB, Bool.and_eq_true, decide_eq_true_eq]; omega
      have in3 : inB (IntKind.wrap IntKind.i64 (((outZ base (c1 :: b1 :: r1)).length : Int) - 1)) (outZ base (c1 :: b1 :: r1)).length = true := by
        rw [ej]; simp only [inB, Bool.and_eq_true, decide_eq_true_eq]; omega
      repeat (first | refine Rn.asr 1000 rfl v2 ?_ | refine Rn.asr 1000 rfl in2 ?_ | refine Rn.asr 1000 rfl in3 ?_)
      refine Rn.call 1000 rfl _ (side_fun _ _ _ _ _ _) ?_
      refine Rn.chk 1000 rfl (by kernel_rfl) ?_
      have g1 : (outZ base (c1 :: b1 :: r1)).getD (base.length + r1.length) (0, 0) = b1 := by
        have := outZ_get base (c1 :: b1 :: r1) (i := 1) (by simp)
        rw [show base.length + (c1 :: b1 :: r1).length - 1 - 1 = base.length + r1.length by simp only [List.length_cons]; omega] at this
        exact this
      have g2 : (outZ base (c1 :: b1 :: r1)).getD (base.length + r1.length + 1) (0, 0) = c1 := by
        have := outZ_get base (c1 :: b1 :: r1) (i := 0) (by simp)
        rw [show base.length + (c1 :: b1 :: r1).length - 1 - 0 = base.length + r1.length + 1 by simp only [List.length_cons]; omega] at this
        exact this
      have es : sideB ((outZ base (c1 :: b1 :: r1)).getD (IntKind.wrap IntKind.i64 (((outZ base (c1 :: b1 :: r1)).length : Int) - 2)).toNat (0, 0))
          ((outZ base (c1 :: b1 :: r1)).getD (IntKind.wrap IntKind.i64 (((outZ base (c1 :: b1 :: r1)).length : Int) - 1)).toNat (0, 0)) (C.getD i (0, 0)) = sideZ b1 c1 (C.getD i (0, 0)) := by
        rw [ei, ej, Int.toNat_natCast, Int.toNat_natCast, g1, g2, sideB_eq (hb _ (hst2 _ (by simp))) (hb _ (hst2 _ (by simp))) (hb _ hp)]
      refine Rn.ite 1000 rfl (fun h2 => ?_) (fun h2 => ?_)
      · have h2 : sideB ((outZ base (c1 :: b1 :: r1)).getD (IntKind.wrap IntKind.i64 (((outZ base (c1 :: b1 :: r1)).length : Int) - 2)).toNat (0, 0))
          ((outZ base (c1 :: b1 :: r1)).getD (IntKind.wrap IntKind.i64 (((outZ base (c1 :: b1 :: r1)).length : Int) - 1)).toNat (0, 0)) (C.getD i (0, 0)) ≤ 0 := of_decide_eq_true h2
        rw [es] at h2
        have hg : (decide ((0 : Int) ≤ IntKind.wrap IntKind.i64 (((outZ base (c1 :: b1 :: r1)).length : Int) - 1)) && decide (IntKind.wrap IntKind.i64 (((outZ base (c1 :: b1 :: r1)).length : Int) - 1) ≤ ((outZ base (c1 :: b1 :: r1)).length : Int))) = true := by
          rw [ej, el]; simp only [Bool.and_eq_true, decide_eq_true_eq]; omega
        repeat (first | refine Rn.asr 1000 rfl v2 ?_ | refine Rn.asr 1000 rfl hg ?_)
        refine Rn.stop 1000 rfl ?_
        refine Rn.weaken trivial ?_ (ih2 (k2 + 1, b1 :: r1) (by simp) ⟨by simp at hsl2 ⊢; omega, fun q hq => hst2 q (List.mem_cons_of_mem _ hq), by simp only; rw [← hpush, push_go h2]⟩)
        refine ⟨⟨rfl, rfl, rfl, rfl, rfl, .cons rfl (.refl rfl) (.cons rfl (.refl rfl) (.cons rfl (.refl rfl) (.cons rfl (.refl rfl) (.cons rfl (.refl rfl) (.cons rfl (.refl rfl) .nil))))), rfl⟩, FrsTo.refl hcs2,
          .cons rfl (.flat' rfl rfl) (.cons rfl (.row_eq rfl rfl rfl fun k hk => rfl) (.cons rfl (.flat' rfl rfl) (.cons rfl (.row_eq rfl ?_ rfl fun k hk => ?_) (.cons rfl (.flat' rfl rfl) .nil))))⟩
        · show (IntKind.wrap IntKind.i64 (((outZ base (c1 :: b1 :: r1)).length : Int) - 1)).toNat = _
          rw [ej, Int.toNat_natCast, outZ_len]; simp only [List.length_cons]; omega
        · have hk : k < (IntKind.wrap IntKind.i64 (((outZ base (c1 :: b1 :: r1)).length : Int) - 1)).toNat := hk
          rw [ej, Int.toNat_natCast] at hk
          show ptC _ = ptC _
          rw [outZ_pop base c1 (b1 :: r1) (by rw [outZ_len]; simp only [List.length_cons]; omega)]
      · have h2 : ¬ sideB ((outZ base (c1 :: b1 :: r1)).getD (IntKind.wrap IntKind.i64 (((outZ base (c1 :: b1 :: r1)).length : Int) - 2)).toNat (0, 0))
          ((outZ base (c1 :: b1 :: r1)).getD (IntKind.wrap IntKind.i64 (((outZ base (c1 :: b1 :: r1)).length : Int) - 1)).toNat (0, 0)) (C.getD i (0, 0)) ≤ 0 := of_decide_eq_false h2
        rw [es] at h2
        have hq : push st (C.getD i (0, 0)) = C.getD i (0, 0) :: c1 :: b1 :: r1 := by rw [← hpush, push_stop h2]
        revert hq
        generalize hst3 : c1 :: b1 :: r1 = st3 at *
        intro hq
        have hle : Nat.ble ((outZ base st3).length + 1) 4194304 = true := Nat.ble_eq_true_of_le (by rw [outZ_len]; omega)
        repeat (first | refine Rn.asr 1000 rfl v2 ?_ | refine Rn.asr 1000 rfl hle ?_)
        refine Rn.stop 1000 rfl ?_
        refine Rn.weaken trivial ?_ (ih (i + 1, k2 + 1, push st (C.getD i (0, 0))) (by simp only; omega) ⟨hi, by simp only; have := push_len st (C.getD i (0, 0)); omega, push_mem hst hp, by simp only; rw [← hfold, hdrop]; rfl⟩)
        refine ⟨⟨rfl, rfl, rfl, rfl, rfl, .cons rfl (.refl rfl) (.cons rfl (.refl rfl) (.cons rfl (.refl rfl) (.cons rfl (.refl rfl) (.cons rfl (.eq rfl (congrArg I (w64_nat hi (by omega)))) .nil)))), rfl⟩, FrsTo.refl hcs,
          .cons rfl (.flat' rfl rfl) (.cons rfl (.row_eq rfl rfl rfl fun k hk => rfl) (.cons rfl (.flat' rfl rfl) (.cons rfl (.row_eq rfl ?_ rfl fun k hk => ?_) .nil)))⟩
        · show (outZ base st3).length + 1 = (outZ base (push st (C.getD i (0, 0)))).length
          rw [hq, outZ_push]; exact (List.length_append (bs := [C.getD i (0, 0)])).symm
        · show ptC ((outZ base (push st (C.getD i (0, 0)))).getD k (0, 0)) = _
          rw [hq, outZ_push]
          exact appGet_pt (outZ base st3) (C.getD i (0, 0)) hk
    · have h : ¬ ((outZ base st2).length : Int) > w64 ((base.length : Int) + 1) := of_decide_eq_false h
      rw [ew1, hlen] at h
      refine Rn.chk 1000 rfl (by kernel_rfl) ?_
      have hq : push st (C.getD i (0, 0)) = C.getD i (0, 0) :: st2 := by rw [← hpush, push_small (by omega)]
      generalize hst3 : st2 = st3 at *
      have hle : Nat.ble ((outZ base st3).length + 1) 4194304 = true := Nat.ble_eq_true_of_le (by rw [outZ_len]; omega)
      repeat (first | refine Rn.asr 1000 rfl v2 ?_ | refine Rn.asr 1000 rfl hle ?_)
      refine Rn.stop 1000 rfl ?_
      refine Rn.weaken trivial ?_ (ih (i + 1, k2 + 1, push st (C.getD i (0, 0))) (by simp only; omega) ⟨hi, by simp only; have := push_len st (C.getD i (0, 0)); omega, push_mem hst hp, by simp only; rw [← hfold, hdrop]; rfl⟩)
      refine ⟨⟨rfl, rfl, rfl, rfl, rfl, .cons rfl (.refl rfl) (.cons rfl (.refl rfl) (.cons rfl (.refl rfl) (.cons rfl (.refl rfl) (.cons rfl (.eq rfl (congrArg I (w64_nat hi (by omega)))) .nil)))), rfl⟩, FrsTo.refl hcs,
        .cons rfl (.flat' rfl rfl) (.cons rfl (.row_eq rfl rfl rfl fun k hk => rfl) (.cons rfl (.flat' rfl rfl) (.cons rfl (.row_eq rfl ?_ rfl fun k hk => ?_) .nil)))⟩
      · show (outZ base st3).length + 1 = (outZ base (push st (C.getD i (0, 0)))).length
        rw [hq, outZ_push]; exact (List.length_append (bs := [C.getD i (0, 0)])).symm
      · show ptC ((outZ base (push st (C.getD i (0, 0)))).getD k (0, 0)) = _
        rw [hq, outZ_push]
        exact appGet_pt (outZ base st3) (C.getD i (0, 0)) hk
  · have hi : i = C.length := by omega
    subst hi
    rw [List.drop_length] at hfold
    have hst0 : st = chainZ C := hfold
    subst hst0
    exact exit k

theorem chain2_rn (c : Cast) (base C : List (Int × Int)) (ver ko : Nat) (hne : C ≠ []) (hl : C.length ≤ 8) (hbl : base.length ≤ 8) (hbase : ∀ q ∈ base, BdP 100000000 q) (hb : ∀ q ∈ C, BdP 100000000 q) (hm : BdP 100000000 (c.mx, c.my)) (hr : Bd 100000000 c.r) :
    Rn cT 57 (RT c (base ++ (chainZ C).tail.reverse)) ⟨⟨142, [(1, .ptr 17 0), (3, I base.length), (8, .osl 16 ver), (9, I C.length), (10, I 0)], Tryz.f142.ntmps, loopAt Tryz.f142 0, [], none⟩,
      [⟨109, [(3, .ptr 17 0)], Tryz.f109.ntmps, callAt Tryz.f109 9 2, [], none⟩, ⟨57, [(2, .ptr 0 0)], Tryz.f57.ntmps, callAt Tryz.f57 9 1, [], none⟩],
      [(0, .flat (castL c false) 97), (16, rowZ C ver), (17, .flat [.osl 64 ko] 111), (64, rowZ base ko)], 70⟩ := by
  have v : Nat.beq ver ver = true := Nat.beq_refl ver
  refine Rn.weaken trivial ?_ (chain_loop (RT c (base ++ (chainZ C).tail.reverse)) [⟨109, [(3, .ptr 17 0)], Tryz.f109.ntmps, callAt Tryz.f109 9 2, [], none⟩, ⟨57, [(2, .ptr 0 0)], Tryz.f57.ntmps, callAt Tryz.f57 9 1, [], none⟩] rfl rfl
    c base C ver hl hbl hb (fun k => ?_) 0 ko [] (Nat.zero_le _) (Nat.le_refl _) (fun q hq => absurd hq List.not_mem_nil) rfl)
  · exact ⟨⟨rfl, rfl, rfl, rfl, rfl, .cons rfl (.refl rfl) (.cons rfl (.refl rfl) (.cons rfl (.refl rfl) (.cons rfl (.refl rfl) (.cons rfl (.refl rfl) .nil)))), rfl⟩, FrsTo.refl rfl,
      .cons rfl (.flat' rfl rfl) (.cons rfl (.row_eq rfl rfl rfl fun k hk => rfl) (.cons rfl (.flat' rfl rfl) (.cons rfl (.row_eq rfl (by simp [outZ]) rfl fun k hk => by simp [outZ]) .nil)))⟩
  refine Rn.ite 1000 rfl (fun h => absurd (of_decide_eq_true h) (Int.lt_irrefl _)) (fun h => ?_)
  have v2 : Nat.beq k k = true := Nat.beq_refl k
  obtain ⟨c1, r1, hcr⟩ : ∃ c r, chainZ C = c :: r := by
    cases hc : chainZ C with
    | nil => exact absurd hc (chain_ne C [] (.inr hne))
    | cons c r => exact ⟨c, r, rfl⟩
  have hres : base ++ (chainZ C).tail.reverse = outZ base r1 := by rw [hcr]; rfl
  have hmem : ∀ q ∈ chainZ C, q ∈ C := chain_mem C
  have hcl : (chainZ C).length ≤ C.length := chain_len C
  rw [hres]
  rw [hcr] at hmem hcl ⊢
  have el : ((outZ base (c1 :: r1)).length : Int) = ((base.length + r1.length + 1 : Nat) : Int) := by rw [outZ_len]; simp only [List.length_cons]; omega
  have hsl' : r1.length ≤ 8 := by simp only [List.length_cons] at hcl; omega
  have ej : IntKind.wrap IntKind.i64 (((outZ base (c1 :: r1)).length : Int) - 1) = ((base.length + r1.length : Nat) : Int) := by
    show w64 _ = _
    rw [el, w64_id (by omega)]; omega
  have hg : (decide ((0 : Int) ≤ IntKind.wrap IntKind.i64 (((outZ base (c1 :: r1)).length : Int) - 1)) && decide (IntKind.wrap IntKind.i64 (((outZ base (c1 :: r1)).length : Int) - 1) ≤ ((outZ base (c1 :: r1)).length : Int))) = true := by
    rw [ej, el]; simp only [Bool.and_eq_true, decide_eq_true_eq]; omega
  have v3 : Nat.beq (k + 1) (k + 1) = true := Nat.beq_refl _
  repeat (first | refine Rn.asr 1000 rfl v2 ?_ | refine Rn.asr 1000 rfl hg ?_ | refine Rn.asr 1000 rfl v3 ?_)
  refine Rn.stop 1000 rfl ?_
  have hrl : (outZ base r1).length = base.length + r1.length := outZ_len base r1
  refine Rn.weaken trivial ?_ (fin64_rn c (outZ base r1) (k + 1) (by omega) (fun q hq => ?_) hm hr)
  · refine ⟨⟨rfl, rfl, rfl, rfl, rfl, .cons rfl (.refl rfl) (.cons rfl (.refl rfl) (.cons rfl (.eq rfl (congrArg B ?_)) (.cons rfl (.refl rfl) (.cons rfl (.eq rfl (congrArg I ?_)) (.cons rfl (.int _ _) .nil))))), rfl⟩, trivial,
      .cons rfl (.flat' rfl rfl) (.cons rfl (.row_eq rfl ?_ rfl fun q hq => ?_) .nil)⟩
    · show decide (((IntKind.wrap IntKind.i64 (((outZ base (c1 :: r1)).length : Int) - 1)).toNat : Int) > 2) = decide (2 < (outZ base r1).length)
      rw [ej, Int.toNat_natCast, hrl]
      congr 1
      exact propext ⟨fun h => by omega, fun h => by omega⟩
    · show (((IntKind.wrap IntKind.i64 (((outZ base (c1 :: r1)).length : Int) - 1)).toNat : Nat) : Int) = _
      rw [ej, Int.toNat_natCast, hrl]
    · show (IntKind.wrap IntKind.i64 (((outZ base (c1 :: r1)).length : Int) - 1)).toNat = _
      rw [ej, Int.toNat_natCast, hrl]
    · have hq : q < (IntKind.wrap IntKind.i64 (((outZ base (c1 :: r1)).length : Int) - 1)).toNat := hq
      rw [ej, Int.toNat_natCast] at hq
      show ptC _ = ptC _
      rw [outZ_pop base c1 r1 (by omega)]
  · rcases List.mem_append.1 hq with hq | hq
    · exact hbase q hq
    · exact hb q (hmem q (List.mem_cons_of_mem _ (List.mem_reverse.1 hq)))
end Go.Proofs.Am

/- The points in the reverse order, between the chains. -/
namespace Go.Proofs.Am
open Go Go.Proofs.Geo
set_option maxRecDepth 100000

/-- A list whose first and last i elements have changed places. -/
def revTo (C : List (Int × Int)) (i : Nat) : List (Int × Int) := (List.range C.length).map fun k => if k < i ∨ C.length - i ≤ k then C.getD (C.length - 1 - k) (0, 0) else C.getD k (0, 0)
theorem revTo_len (C : List (Int × Int)) (i : Nat) : (revTo C i).length = C.length := by simp [revTo]
theorem revTo_get (C : List (Int × Int)) (i : Nat) {k : Nat} (h : k < C.length) : (revTo C i).getD k (0, 0) = if k < i ∨ C.length - i ≤ k then C.getD (C.length - 1 - k) (0, 0) else C.getD k (0, 0) := by
  unfold revTo
  rw [List.getD_eq_getElem?_getD, List.getElem?_map, List.getElem?_range h]; rfl
theorem revTo_zero (C : List (Int × Int)) {k : Nat} (h : k < C.length) : (revTo C 0).getD k (0, 0) = C.getD k (0, 0) := by
  rw [revTo_get C 0 h, if_neg (by omega)]
theorem revTo_end (C : List (Int × Int)) {i k : Nat} (hi : C.length ≤ 2 * i + 1) (h : k < C.length) : (revTo C i).getD k (0, 0) = C.reverse.getD k (0, 0) := by
  rw [revTo_get C i h]
  have e : C.reverse.getD k (0, 0) = C.getD (C.length - 1 - k) (0, 0) := by
    rw [List.getD_eq_getElem?_getD, List.getElem?_reverse h, List.getD_eq_getElem?_getD]
  rw [e]
  split
  · rfl
  · rename_i hh
    congr 1; omega
theorem revTo_step (C : List (Int × Int)) {i : Nat} (hi : 2 * i + 1 < C.length) {k : Nat} (h : k < C.length) :
    (((revTo C i).set i ((revTo C i).getD (C.length - 1 - i) (0, 0))).set (C.length - 1 - i) ((revTo C i).getD i (0, 0))).getD k (0, 0) = (revTo C (i + 1)).getD k (0, 0) := by
  have hl := revTo_len C i
  by_cases e : k = C.length - 1 - i
  · subst e
    rw [List.getD_eq_getElem?_getD, List.getElem?_set_self (by simp; omega)]
    show (revTo C i).getD i (0, 0) = _
    rw [revTo_get C i (by omega), revTo_get C (i + 1) h, if_neg (by omega), if_pos (by omega)]
    congr 1; omega
  · rw [List.getD_eq_getElem?_getD, List.getElem?_set_ne (fun q => e q.symm)]
    by_cases e2 : k = i
    · subst e2
      rw [List.getElem?_set_self (by omega)]
      show (revTo C k).getD (C.length - 1 - k) (0, 0) = _
      rw [revTo_get C k (by omega), revTo_get C (k + 1) h, if_neg (by omega), if_pos (by omega)]
    · rw [List.getElem?_set_ne (fun q => e2 q.symm)]
      rw [← List.getD_eq_getElem?_getD, revTo_get C i h, revTo_get C (i + 1) h]
      by_cases e3 : k < i ∨ C.length - i ≤ k
      · rw [if_pos e3, if_pos (by omega)]
      · rw [if_neg e3, if_neg (by omega)]

theorem rev_rn (c : Cast) (base C : List (Int × Int)) (ver ko : Nat) (hne : C ≠ []) (hl : C.length ≤ 8) (hbl : base.length ≤ 8) (hbase : ∀ q ∈ base, BdP 100000000 q) (hb : ∀ q ∈ C, BdP 100000000 q) (hm : BdP 100000000 (c.mx, c.my)) (hr : Bd 100000000 c.r) :
    Rn cT 57 (RT c (base ++ (chainZ C.reverse).tail.reverse)) ⟨⟨143, [(0, .osl 16 ver), (2, I 0), (3, I ((C.length : Int) - 1))], Tryz.f143.ntmps, loopAt Tryz.f143 0, [], none⟩,
      [⟨109, [(0, .osl 16 ver), (3, .ptr 17 0), (4, .fn (.func 142) [.ptr 17 0])], Tryz.f109.ntmps, callAt Tryz.f109 8 1, [], none⟩, ⟨57, [(2, .ptr 0 0)], Tryz.f57.ntmps, callAt Tryz.f57 9 1, [], none⟩],
      [(0, .flat (castL c false) 97), (16, rowZ C ver), (17, .flat [.osl 64 ko] 111), (64, rowZ base ko)], 70⟩ := by
  have v : Nat.beq ver ver = true := Nat.beq_refl ver
  have vo : Nat.beq ko ko = true := Nat.beq_refl ko
  have hlen : 0 < C.length := by cases C with | nil => exact absurd rfl hne | cons a r => simp
  refine Rn.loop2 (fun _ => []) (fun i : Nat => [(0, .osl 16 ver), (2, I (i : Int)), (3, I ((C.length : Int) - 1 - i))])
    (fun i => [(0, .flat (castL c false) 97), (16, rowZ (revTo C i) ver), (17, .flat [.osl 64 ko] 111), (64, rowZ base ko)]) 70
    (fun i => 2 * i ≤ C.length) (fun i => C.length - i) 0 (Nat.zero_le _)
    ⟨⟨rfl, rfl, rfl, rfl, rfl, .cons rfl (.refl rfl) (.cons rfl (.refl rfl) (.cons rfl (.eq rfl (congrArg I (by simp))) .nil)), rfl⟩, FrsTo.refl rfl,
      .cons rfl (.flat' rfl rfl) (.cons rfl (.row_eq rfl (revTo_len C 0).symm rfl fun k hk => congrArg ptC (revTo_zero C hk)) (.cons rfl (.flat' rfl rfl) (.cons rfl (.row_eq rfl rfl rfl fun k hk => rfl) .nil)))⟩ ?_
  rintro i hi ih
  have hrl := revTo_len C i
  refine Rn.ite 1000 rfl (fun h => ?_) (fun h => ?_)
  · have h : (i : Int) < (C.length : Int) - 1 - i := of_decide_eq_true h
    have hij : 2 * i + 1 < C.length := by omega
    have in1 : inB (i : Int) (revTo C i).length = true := by rw [hrl]; simp only [inB, Bool.and_eq_true, decide_eq_true_eq]; omega
    have in2 : inB ((C.length : Int) - 1 - i) (revTo C i).length = true := by rw [hrl]; simp only [inB, Bool.and_eq_true, decide_eq_true_eq]; omega
    repeat (first | refine Rn.asr 1000 rfl v ?_ | refine Rn.asr 1000 rfl in1 ?_ | refine Rn.asr 1000 rfl in2 ?_)
    refine Rn.chk 1000 rfl (by kernel_rfl) ?_
    refine Rn.stop 1000 rfl ?_
    refine Rn.weaken trivial ?_ (ih (i + 1) (by omega) (by omega))
    have e1 : ((i : Int)).toNat = i := Int.toNat_natCast _
    have e2 : ((C.length : Int) - 1 - i).toNat = C.length - 1 - i := by omega
    refine ⟨⟨rfl, rfl, rfl, rfl, rfl, .cons rfl (.refl rfl) (.cons rfl (.eq rfl (congrArg I (w64_nat (n := i) (m := C.length) (by omega) (by omega)))) (.cons rfl (.eq rfl (congrArg I ?_)) .nil)), rfl⟩, FrsTo.refl rfl,
      .cons rfl (.flat' rfl rfl) (.cons rfl (.row_eq rfl (by rw [revTo_len, revTo_len]) rfl fun k hk => ?_) (.cons rfl (.flat' rfl rfl) (.cons rfl (.row_eq rfl rfl rfl fun k hk => rfl) .nil)))⟩
    · show w64 ((C.length : Int) - 1 - i - 1) = _
      rw [w64_id (by omega)]; omega
    · have hk : k < C.length := by rw [hrl] at hk; exact hk
      show ptC ((revTo C (i + 1)).getD k (0, 0)) = setGet (setGet (fun k => ptC ((revTo C i).getD k (0, 0))) ((i : Int)).toNat 0 (ptC ((revTo C i).getD ((C.length : Int) - 1 - i).toNat (0, 0)))) ((C.length : Int) - 1 - i).toNat 0 (ptC ((revTo C i).getD ((i : Int)).toNat (0, 0))) k
      rw [e1, e2, setGet_pt _ (by omega), setGet_pt _ (by simp; omega), ← revTo_step C hij hk]
  · have h : ¬ (i : Int) < (C.length : Int) - 1 - i := of_decide_eq_false h
    repeat (first | refine Rn.asr 1000 rfl v ?_ | refine Rn.asr 1000 rfl vo ?_)
    refine Rn.stop 1000 rfl ?_
    refine Rn.weaken trivial ?_ (chain2_rn c base C.reverse ver ko (by simpa using hne) (by simpa using hl) hbl hbase (fun q hq => hb q (List.mem_reverse.1 hq)) hm hr)
    exact ⟨⟨rfl, rfl, rfl, rfl, rfl, .cons rfl (.refl rfl) (.cons rfl (.refl rfl) (.cons rfl (.refl rfl) (.cons rfl (.eq rfl (congrArg I (by rw [hrl, List.length_reverse]))) (.cons rfl (.int _ _) .nil)))), rfl⟩,
      ⟨⟨rfl, rfl, rfl, rfl, rfl, .cons rfl (.refl rfl) .nil, rfl⟩, ⟨rfl, rfl, rfl, rfl, rfl, .cons rfl (.refl rfl) .nil, rfl⟩, trivial⟩,
      .cons rfl (.flat' rfl rfl) (.cons rfl (.row_eq rfl (by rw [hrl, List.length_reverse]) rfl fun k hk => congrArg ptC (revTo_end C (by omega) (by rw [hrl] at hk; exact hk)).symm) (.cons rfl (.flat' rfl rfl) (.cons rfl (.row_eq rfl rfl rfl fun k hk => rfl) .nil)))⟩
end Go.Proofs.Am

/- The first chain of the hull. -/
namespace Go.Proofs.Am
open Go Go.Proofs.Geo
set_option maxRecDepth 100000

theorem chain1_rn (c : Cast) (C : List (Int × Int)) (ver : Nat) (hne : C ≠ []) (hl : C.length ≤ 8) (hb : ∀ q ∈ C, BdP 100000000 q) (hm : BdP 100000000 (c.mx, c.my)) (hr : Bd 100000000 c.r) :
    Rn cT 57 (RT c ((chainZ C).tail.reverse ++ (chainZ C.reverse).tail.reverse)) ⟨⟨142, [(1, .ptr 17 0), (3, .n .i64 0), (8, .osl 16 ver), (9, I C.length), (10, I 0)], Tryz.f142.ntmps, loopAt Tryz.f142 0, [], none⟩,
      [⟨109, [(0, .osl 16 ver), (3, .ptr 17 0), (4, .fn (.func 142) [.ptr 17 0])], Tryz.f109.ntmps, callAt Tryz.f109 7 2, [], none⟩, ⟨57, [(2, .ptr 0 0)], Tryz.f57.ntmps, callAt Tryz.f57 9 1, [], none⟩],
      [(0, .flat (castL c false) 97), (16, rowZ C ver), (17, .flat [.v (.slice none 0 0)] 111)], 18⟩ := by
  have v : Nat.beq ver ver = true := Nat.beq_refl ver
  have hlen : 0 < C.length := by cases C with | nil => exact absurd rfl hne | cons a r => simp
  refine Rn.ite 1000 rfl (fun h => ?_) (fun h => absurd (show (0 : Int) < (C.length : Int) by omega) (of_decide_eq_false h))
  have in1 : inB (0 : Int) C.length = true := by simp only [inB, Bool.and_eq_true, decide_eq_true_eq]; omega
  repeat (first | refine Rn.asr 1000 rfl v ?_ | refine Rn.asr 1000 rfl in1 ?_)
  refine Rn.stop 1000 rfl ?_
  refine Rn.tidy [] [(1, .ptr 17 0), (3, .n .i64 0), (5, .ptr 18 0), (8, .osl 16 ver), (9, I C.length), (10, I 0)] [(0, .flat (castL c false) 97), (16, rowZ C ver), (17, .flat [.v (.slice none 0 0)] 111), (18, .flat (ptC (C.getD 0 (0, 0))) 95)] 40 ?_ ?_
  · exact ⟨⟨rfl, rfl, rfl, rfl, rfl, .cons rfl (.refl rfl) (.cons rfl (.refl rfl) (.cons rfl (.refl rfl) (.cons rfl (.refl rfl) (.cons rfl (.refl rfl) (.cons rfl (.refl rfl) .nil))))), rfl⟩, FrsTo.refl rfl,
      .cons rfl (.flat' rfl rfl) (.cons rfl (.row_eq rfl rfl rfl fun k hk => rfl) (.cons rfl (.flat' rfl rfl) (.cons rfl (.flat' rfl rfl) .nil)))⟩
  refine Rn.chk 1000 rfl (by kernel_rfl) ?_
  refine Rn.asr 1000 rfl rfl ?_
  refine Rn.stop 1000 rfl ?_
  have hf : (C.drop 1).foldl push [C.getD 0 (0, 0)] = chainZ C := by cases C with | nil => exact absurd rfl hne | cons a r => rfl
  refine Rn.weaken trivial ?_ (chain_loop (RT c ((chainZ C).tail.reverse ++ (chainZ C.reverse).tail.reverse)) [⟨109, [(0, .osl 16 ver), (3, .ptr 17 0), (4, .fn (.func 142) [.ptr 17 0])], Tryz.f109.ntmps, callAt Tryz.f109 7 2, [], none⟩, ⟨57, [(2, .ptr 0 0)], Tryz.f57.ntmps, callAt Tryz.f57 9 1, [], none⟩] rfl rfl
    c [] C ver hl (Nat.zero_le _) hb (fun k => ?_) 1 0 [C.getD 0 (0, 0)] (by omega) (Nat.le_refl _) (fun q hq => by simp only [List.mem_singleton] at hq; subst hq; exact getZ_lt hlen) hf)
  · exact ⟨⟨rfl, rfl, rfl, rfl, rfl, .cons rfl (.refl rfl) (.cons rfl (.int _ _) (.cons rfl (.refl rfl) (.cons rfl (.refl rfl) (.cons rfl (.eq rfl (congrArg I (w64_nat (n := 0) hlen (by omega)))) .nil)))), rfl⟩, FrsTo.refl rfl,
      .cons rfl (.flat' rfl rfl) (.cons rfl (.row_eq rfl rfl rfl fun k hk => rfl) (.cons rfl (.flat' rfl rfl) (.cons rfl (.row_eq rfl rfl rfl fun k hk => by
        have : k = 0 := by have hk : k < 1 := hk
                           omega
        subst this; rfl) .nil)))⟩
  refine Rn.ite 1000 rfl (fun h => absurd (of_decide_eq_true h) (Int.lt_irrefl _)) (fun h => ?_)
  have v2 : Nat.beq k k = true := Nat.beq_refl k
  obtain ⟨c1, r1, hcr⟩ : ∃ c r, chainZ C = c :: r := by
    cases hc : chainZ C with
    | nil => exact absurd hc (chain_ne C [] (.inr hne))
    | cons c r => exact ⟨c, r, rfl⟩
  have hmem : ∀ q ∈ chainZ C, q ∈ C := chain_mem C
  have hcl : (chainZ C).length ≤ C.length := chain_len C
  rw [hcr] at hmem hcl ⊢
  have el : ((outZ [] (c1 :: r1)).length : Int) = ((r1.length + 1 : Nat) : Int) := by rw [outZ_len]; simp only [List.length_cons, List.length_nil]; omega
  have hsl' : r1.length ≤ 8 := by simp only [List.length_cons] at hcl; omega
  have ej : IntKind.wrap IntKind.i64 (((outZ [] (c1 :: r1)).length : Int) - 1) = ((r1.length : Nat) : Int) := by
    show w64 _ = _
    rw [el, w64_id (by omega)]; omega
  have hg : (decide ((0 : Int) ≤ IntKind.wrap IntKind.i64 (((outZ [] (c1 :: r1)).length : Int) - 1)) && decide (IntKind.wrap IntKind.i64 (((outZ [] (c1 :: r1)).length : Int) - 1) ≤ ((outZ [] (c1 :: r1)).length : Int))) = true := by
    rw [ej, el]; simp only [Bool.and_eq_true, decide_eq_true_eq]; omega
  have v3 : Nat.beq (k + 1) (k + 1) = true := Nat.beq_refl _
  repeat (first | refine Rn.asr 1000 rfl v2 ?_ | refine Rn.asr 1000 rfl hg ?_ | refine Rn.asr 1000 rfl v3 ?_ | refine Rn.asr 1000 rfl v ?_)
  refine Rn.stop 1000 rfl ?_
  have hbase : ∀ q ∈ r1.reverse, BdP 100000000 q := fun q hq => hb q (hmem q (List.mem_cons_of_mem _ (List.mem_reverse.1 hq)))
  refine Rn.weaken trivial ?_ (rev_rn c r1.reverse C ver (k + 1) hne hl (by simpa using hsl') hbase hb hm hr)
  refine ⟨⟨rfl, rfl, rfl, rfl, rfl, .cons rfl (.refl rfl) (.cons rfl (.int _ _) (.cons rfl (.eq rfl (congrArg I (w64_id (by omega)))) .nil)), rfl⟩,
    ⟨⟨rfl, rfl, rfl, rfl, rfl, .cons rfl (.refl rfl) (.cons rfl (.refl rfl) (.cons rfl (.refl rfl) .nil)), rfl⟩, ⟨rfl, rfl, rfl, rfl, rfl, .cons rfl (.refl rfl) .nil, rfl⟩, trivial⟩,
    .cons rfl (.flat' rfl rfl) (.cons rfl (.row_eq rfl rfl rfl fun k hk => rfl) (.cons rfl (.flat' rfl rfl) (.cons rfl (.row_eq rfl ?_ rfl fun q hq => ?_) .nil)))⟩
  · show (IntKind.wrap IntKind.i64 (((outZ [] (c1 :: r1)).length : Int) - 1)).toNat = _
    rw [ej, Int.toNat_natCast, List.length_reverse]
  · have hq : q < (IntKind.wrap IntKind.i64 (((outZ [] (c1 :: r1)).length : Int) - 1)).toNat := hq
    rw [ej, Int.toNat_natCast] at hq
    show ptC _ = ptC _
    rw [outZ_pop [] c1 r1 (by rw [outZ_len]; simp only [List.length_nil]; omega)]
    rfl
end Go.Proofs.Am

/- Compact in the hull. -/
namespace Go.Proofs.Am
open Go Go.Proofs.Geo
set_option maxRecDepth 100000

theorem compact_snoc (x : Int × Int) : ∀ {l : List (Int × Int)} (h : l ≠ []), compactZ (l ++ [x]) = if l.getLast h = x then compactZ l else compactZ l ++ [x]
  | [a], _ => by
    by_cases e : a = x
    · subst e; simp [compactZ]
    · simp [compactZ, e]
  | a :: b :: r, _ => by
    have ih := compact_snoc x (l := b :: r) (by simp)
    have e : compactZ ((a :: b :: r) ++ [x]) = if a = b then compactZ ((b :: r) ++ [x]) else a :: compactZ ((b :: r) ++ [x]) := by
      show compactZ (a :: b :: (r ++ [x])) = _
      rw [compactZ]; rfl
    have e2 : compactZ (a :: b :: r) = if a = b then compactZ (b :: r) else a :: compactZ (b :: r) := by rw [compactZ]
    rw [e, ih, e2, List.getLast_cons (List.cons_ne_nil b r)]
    by_cases h1 : a = b
    · simp only [if_pos h1]
    · simp only [if_neg h1]
      split
      · rfl
      · rfl
theorem compact_id : ∀ {l : List (Int × Int)}, (∀ j, j + 1 < l.length → l.getD j (0, 0) ≠ l.getD (j + 1) (0, 0)) → compactZ l = l
  | [], _ => rfl
  | [_], _ => rfl
  | a :: b :: r, h => by
    have h0 : a ≠ b := h 0 (by simp)
    rw [compactZ, if_neg h0, compact_id (l := b :: r) fun j hj => h (j + 1) (by simpa using hj)]
theorem take_succ (L : List (Int × Int)) {t : Nat} (h : t < L.length) : L.take (t + 1) = L.take t ++ [L.getD t (0, 0)] := by
  rw [List.take_add_one, List.getD_eq_getElem?_getD, List.getElem?_eq_getElem h]; rfl
theorem compact_take (L : List (Int × Int)) {t : Nat} (h : t + 1 < L.length) : compactZ (L.take (t + 2)) = if L.getD t (0, 0) = L.getD (t + 1) (0, 0) then compactZ (L.take (t + 1)) else compactZ (L.take (t + 1)) ++ [L.getD (t + 1) (0, 0)] := by
  have hne : L.take (t + 1) ≠ [] := fun e => by
    have : (L.take (t + 1)).length = 0 := by rw [e]; rfl
    rw [List.length_take] at this; omega
  rw [take_succ L (t := t + 1) h, compact_snoc _ hne]
  have : (L.take (t + 1)).getLast hne = L.getD t (0, 0) := by
    have e := take_succ L (t := t) (by omega)
    simp only [e]
    exact List.getLast_concat
  rw [this]
theorem pairEq {a b : Int × Int} {q : Bool} (h : (a.1 == b.1 && a.2 == b.2) = q) : q = decide (a = b) := by
  subst h
  obtain ⟨x, y⟩ := a; obtain ⟨u, v⟩ := b
  simp only [Prod.mk.injEq]
  by_cases h1 : x = u <;> by_cases h2 : y = v <;> simp [h1, h2]

theorem compact_rn (c : Cast) (L : List (Int × Int)) (h2l : 2 ≤ L.length) (hl : L.length ≤ 8) (hb : ∀ q ∈ L, BdP 100000000 q) (hm : BdP 100000000 (c.mx, c.my)) (hr : Bd 100000000 c.r) :
    Rn cT 57 (RT c (hullS L)) ⟨⟨141, [(0, .osl 16 3), (3, I 1)], Tryz.f141.ntmps, loopAt Tryz.f141 0, [], none⟩,
      [⟨109, [], Tryz.f109.ntmps, callAt Tryz.f109 2 1, [], none⟩, ⟨57, [(2, .ptr 0 0)], Tryz.f57.ntmps, callAt Tryz.f57 9 1, [], none⟩],
      [(0, .flat (castL c false) 97), (16, rowZ L 3)], 17⟩ := by
  have v : Nat.beq 3 3 = true := rfl
  refine Rn.loop2 (fun _ => []) (fun k : Nat => [(0, .osl 16 3), (3, I (k : Int))]) (fun k => [(0, .flat (castL c false) 97), (16, rowZ L 3)]) 17
    (fun k => 1 ≤ k ∧ k ≤ L.length ∧ ∀ j, j + 1 < k → L.getD j (0, 0) ≠ L.getD (j + 1) (0, 0)) (fun k => L.length - k) 1 ⟨Nat.le_refl _, by omega, fun j hj => by omega⟩
    ⟨⟨rfl, rfl, rfl, rfl, rfl, .cons rfl (.refl rfl) (.cons rfl (.refl rfl) .nil), rfl⟩, FrsTo.refl rfl,
      .cons rfl (.flat' rfl rfl) (.cons rfl (.row_eq rfl rfl rfl fun i hi => rfl) .nil)⟩ ?_
  rintro k ⟨hk1, hk, hall⟩ ih
  refine Rn.asr 1000 rfl v ?_
  refine Rn.ite 1000 rfl (fun h => ?_) (fun h => ?_)
  · have h : (k : Int) < (L.length : Int) := of_decide_eq_true h
    obtain ⟨k, rfl⟩ : ∃ q, k = q + 1 := ⟨k - 1, by omega⟩
    have ek : IntKind.wrap IntKind.i64 (((k + 1 : Nat) : Int) - 1) = (k : Int) := by show w64 _ = _; rw [w64_id (by omega)]; omega
    have in1 : inB (((k + 1 : Nat) : Int)) L.length = true := by simp only [inB, Bool.and_eq_true, decide_eq_true_eq]; omega
    have in2 : inB (IntKind.wrap IntKind.i64 (((k + 1 : Nat) : Int) - 1)) L.length = true := by rw [ek]; simp only [inB, Bool.and_eq_true, decide_eq_true_eq]; omega
    repeat (first | refine Rn.asr 1000 rfl v ?_ | refine Rn.asr 1000 rfl in1 ?_ | refine Rn.asr 1000 rfl in2 ?_)
    refine Rn.chk 1000 rfl (by kernel_rfl) ?_
    refine Rn.ite 1000 rfl (fun he => ?_) (fun he => ?_)
    · have he := of_decide_eq_true (pairEq (a := L.getD (((k + 1 : Nat) : Int)).toNat (0, 0)) (b := L.getD (IntKind.wrap IntKind.i64 (((k + 1 : Nat) : Int) - 1)).toNat (0, 0)) he).symm
      rw [ek, Int.toNat_natCast, Int.toNat_natCast] at he
      have hg : (decide ((0 : Int) ≤ ((k + 1 : Nat) : Int)) && decide ((((k + 1 : Nat) : Int)) ≤ (L.length : Int))) = true := by simp only [Bool.and_eq_true, decide_eq_true_eq]; omega
      repeat (first | refine Rn.asr 1000 rfl v ?_ | refine Rn.asr 1000 rfl hg ?_)
      refine Rn.stop 1000 rfl ?_
      -- the inner loop: x = (k, k2, R)
      refine Rn.loop2 (fun _ => []) (fun x : Nat × Nat × List (Int × Int) => [(0, .osl 16 3), (3, I (x.1 : Int)), (4, .oss 16 3 (k + 1)), (5, I (x.2.1 : Int))]) (fun x => [(0, .flat (castL c false) 97), (16, rowZ x.2.2 3)]) 17
        (fun x => x.2.2.length = L.length ∧ 1 ≤ x.2.1 ∧ k + 1 + x.2.1 ≤ L.length ∧ x.1 ≤ k + x.2.1 ∧ k + 1 ≤ x.1 ∧ (∀ j, k + x.2.1 ≤ j → j < L.length → x.2.2.getD j (0, 0) = L.getD j (0, 0)) ∧ x.2.2.take x.1 = compactZ (L.take (k + 1 + x.2.1)))
        (fun x => L.length - x.2.1) (k + 1, 1, L)
        ⟨rfl, Nat.le_refl _, by simp only; omega, Nat.le_refl _, Nat.le_refl _, fun j _ _ => rfl, by
          simp only
          rw [compact_take L (by omega), if_pos he.symm, compact_id]
          intro j hj
          rw [List.length_take] at hj
          have e1 : (L.take (k + 1)).getD j (0, 0) = L.getD j (0, 0) := take_getD (by omega)
          have e2 : (L.take (k + 1)).getD (j + 1) (0, 0) = L.getD (j + 1) (0, 0) := take_getD (by omega)
          rw [e1, e2]; exact hall j (by omega)⟩
        ⟨⟨rfl, rfl, rfl, rfl, rfl, .cons rfl (.refl rfl) (.cons rfl (.refl rfl) (.cons rfl (.refl rfl) (.cons rfl (.int _ _) .nil))), rfl⟩, FrsTo.refl rfl,
          .cons rfl (.flat' rfl rfl) (.cons rfl (.row_eq rfl rfl rfl fun i hi => rfl) .nil)⟩ ?_
      rintro ⟨kk, k2, R⟩ ⟨hR, hk2, ht, hkt, hk0, hsame, htake⟩ ih2
      simp only at hR hk2 ht hkt hk0 hsame htake
      refine Rn.asr 1000 rfl v ?_
      refine Rn.ite 1000 rfl (fun h => ?_) (fun h => ?_)
      · have h : (k2 : Int) < ((R.length - (k + 1) : Nat) : Int) := of_decide_eq_true h
        obtain ⟨k2, rfl⟩ : ∃ q, k2 = q + 1 := ⟨k2 - 1, by omega⟩
        have ek2 : IntKind.wrap IntKind.i64 (((k2 + 1 : Nat) : Int) - 1) = (k2 : Int) := by show w64 _ = _; rw [w64_id (by omega)]; omega
        have in3 : inB (((k2 + 1 : Nat) : Int)) (R.length - (k + 1)) = true := by simp only [inB, Bool.and_eq_true, decide_eq_true_eq]; omega
        have in4 : inB (IntKind.wrap IntKind.i64 (((k2 + 1 : Nat) : Int) - 1)) (R.length - (k + 1)) = true := by rw [ek2]; simp only [inB, Bool.and_eq_true, decide_eq_true_eq]; omega
        have in5 : inB (kk : Int) R.length = true := by simp only [inB, Bool.and_eq_true, decide_eq_true_eq]; omega
        repeat (first | refine Rn.asr 1000 rfl v ?_ | refine Rn.asr 1000 rfl in3 ?_ | refine Rn.asr 1000 rfl in4 ?_)
        refine Rn.chk 1000 rfl (by kernel_rfl) ?_
        have g1 : R.getD (k + 1 + (k2 + 1)) (0, 0) = L.getD (k + 1 + (k2 + 1)) (0, 0) := hsame _ (by omega) (by omega)
        have g2 : R.getD (k + 1 + k2) (0, 0) = L.getD (k + 1 + k2) (0, 0) := hsame _ (by omega) (by omega)
        have hct := compact_take L (t := k + 1 + k2) (by omega)
        rw [show k + 1 + k2 + 2 = k + 1 + (k2 + 1) + 1 by omega, show k + 1 + k2 + 1 = k + 1 + (k2 + 1) by omega] at hct
        refine Rn.ite 1000 rfl (fun hn => ?_) (fun hn => ?_)
        · have hn : (!((R.getD (k + 1 + (((k2 + 1 : Nat) : Int)).toNat) (0, 0)).1 == (R.getD (k + 1 + (IntKind.wrap IntKind.i64 (((k2 + 1 : Nat) : Int) - 1)).toNat) (0, 0)).1 &&
              (R.getD (k + 1 + (((k2 + 1 : Nat) : Int)).toNat) (0, 0)).2 == (R.getD (k + 1 + (IntKind.wrap IntKind.i64 (((k2 + 1 : Nat) : Int) - 1)).toNat) (0, 0)).2)) = true := hn
          rw [pairEq (a := R.getD (k + 1 + (((k2 + 1 : Nat) : Int)).toNat) (0, 0)) rfl, ek2, Int.toNat_natCast, Int.toNat_natCast, g1, g2] at hn
          have hn : ¬ L.getD (k + 1 + (k2 + 1)) (0, 0) = L.getD (k + 1 + k2) (0, 0) := by simpa using hn
          repeat (first | refine Rn.asr 1000 rfl v ?_ | refine Rn.asr 1000 rfl in3 ?_ | refine Rn.asr 1000 rfl in5 ?_)
          refine Rn.stop 1000 rfl ?_
          refine Rn.weaken trivial ?_ (ih2 (kk + 1, k2 + 2, R.set kk (L.getD (k + 1 + (k2 + 1)) (0, 0))) (by simp only; omega) ⟨by simp only [List.length_set]; exact hR, by simp only; omega, by simp only; omega, by simp only; omega, by simp only; omega, fun j h1 h2 => ?_, ?_⟩)
          · refine ⟨⟨rfl, rfl, rfl, rfl, rfl, .cons rfl (.refl rfl) (.cons rfl (.eq rfl (congrArg I (w64_nat (n := kk) (m := L.length) (by omega) (by omega)))) (.cons rfl (.refl rfl) (.cons rfl (.eq rfl (congrArg I (w64_nat (n := k2 + 1) (m := L.length) (by omega) (by omega)))) .nil))), rfl⟩, FrsTo.refl rfl,
              .cons rfl (.flat' rfl rfl) (.cons rfl (.row_eq rfl (by simp only [List.length_set]) rfl fun q hq => ?_) .nil)⟩
            show ptC ((R.set kk (L.getD (k + 1 + (k2 + 1)) (0, 0))).getD q (0, 0)) = setGet (fun k => ptC (R.getD k (0, 0))) ((kk : Int)).toNat 0 (ptC (R.getD (k + 1 + (((k2 + 1 : Nat) : Int)).toNat) (0, 0))) q
            rw [Int.toNat_natCast, Int.toNat_natCast, g1, setGet_pt R (by omega)]
          · simp only at h1 h2 ⊢
            rw [List.getD_eq_getElem?_getD, List.getElem?_set_ne (by omega), ← List.getD_eq_getElem?_getD]
            exact hsame j (by omega) h2
          · simp only
            rw [show k + 1 + (k2 + 2) = k + 1 + (k2 + 1) + 1 by omega, hct, if_neg (fun e => hn e.symm), ← htake]
            rw [List.take_add_one, List.getElem?_set_self (by omega), List.take_set_of_le (by omega)]
            rfl
        · have hn : (!((R.getD (k + 1 + (((k2 + 1 : Nat) : Int)).toNat) (0, 0)).1 == (R.getD (k + 1 + (IntKind.wrap IntKind.i64 (((k2 + 1 : Nat) : Int) - 1)).toNat) (0, 0)).1 &&
              (R.getD (k + 1 + (((k2 + 1 : Nat) : Int)).toNat) (0, 0)).2 == (R.getD (k + 1 + (IntKind.wrap IntKind.i64 (((k2 + 1 : Nat) : Int) - 1)).toNat) (0, 0)).2)) = false := hn
          rw [pairEq (a := R.getD (k + 1 + (((k2 + 1 : Nat) : Int)).toNat) (0, 0)) rfl, ek2, Int.toNat_natCast, Int.toNat_natCast, g1, g2] at hn
          have hn : L.getD (k + 1 + (k2 + 1)) (0, 0) = L.getD (k + 1 + k2) (0, 0) := by simpa using hn
          refine Rn.stop 1000 rfl ?_
          refine Rn.weaken trivial ?_ (ih2 (kk, k2 + 2, R) (by simp only; omega) ⟨hR, by simp only; omega, by simp only; omega, by simp only; omega, by simp only; omega, fun j h1 h2 => hsame j (by simp only at h1; omega) h2, ?_⟩)
          · exact ⟨⟨rfl, rfl, rfl, rfl, rfl, .cons rfl (.refl rfl) (.cons rfl (.refl rfl) (.cons rfl (.refl rfl) (.cons rfl (.eq rfl (congrArg I (w64_nat (n := k2 + 1) (m := L.length) (by omega) (by omega)))) .nil))), rfl⟩, FrsTo.refl rfl,
              .cons rfl (.flat' rfl rfl) (.cons rfl (.row_eq rfl rfl rfl fun q hq => rfl) .nil)⟩
          · simp only
            rw [show k + 1 + (k2 + 2) = k + 1 + (k2 + 1) + 1 by omega, hct, if_pos hn.symm, ← htake]
      · have h : ¬ (k2 : Int) < ((R.length - (k + 1) : Nat) : Int) := of_decide_eq_false h
        have hkt2 : k + 1 + k2 = L.length := by omega
        rw [hkt2, List.take_length] at htake
        have hcl : (compactZ L).length = kk := by rw [← htake, List.length_take]; omega
        have hget : ∀ j, j < kk → R.getD j (0, 0) = (compactZ L).getD j (0, 0) := fun j hj => by rw [← htake, take_getD hj]
        have hg1 : (decide ((0 : Int) ≤ (kk : Int)) && decide ((kk : Int) ≤ (R.length : Int))) = true := by simp only [Bool.and_eq_true, decide_eq_true_eq]; omega
        repeat (first | refine Rn.asr 1000 rfl v ?_ | refine Rn.asr 1000 rfl hg1 ?_)
        refine Rn.ite 1000 rfl (fun h3 => ?_) (fun h3 => ?_)
        · have h3 : ((((kk : Int)).toNat : Nat) : Int) < 3 := of_decide_eq_true h3
          have hlt : (compactZ L).length < 3 := by omega
          have hres : hullS L = compactZ L := by unfold hullS; rw [if_pos hlt]
          rw [hres]
          repeat (first | refine Rn.asr 1000 rfl rfl ?_)
          refine Rn.stop 1000 rfl ?_
          refine Rn.weaken trivial ?_ (fin16_rn c (compactZ L) 4 (by omega) (fun q hq => hb q ((compact_mem L q).1 hq)) hm hr)
          refine ⟨⟨rfl, rfl, rfl, rfl, rfl, .cons rfl (.refl rfl) (.cons rfl (.refl rfl) (.cons rfl (.eq rfl (congrArg B ?_)) (.cons rfl (.refl rfl) (.cons rfl (.eq rfl (congrArg I ?_)) (.cons rfl (.int _ _) .nil))))), rfl⟩, trivial,
            .cons rfl (.flat' rfl rfl) (.cons rfl (.row_eq rfl ?_ rfl fun q hq => ?_) .nil)⟩
          · show decide (((((kk : Int)).toNat : Nat) : Int) > 2) = decide (2 < (compactZ L).length)
            congr 1
            exact propext ⟨fun h => by omega, fun h => by omega⟩
          · show ((((kk : Int)).toNat : Nat) : Int) = _
            omega
          · show ((kk : Int)).toNat = _
            omega
          · have hq : q < ((kk : Int)).toNat := hq
            rw [Int.toNat_natCast] at hq; show ptC _ = clearGet (fun k => ptC (R.getD k (0, 0))) ((kk : Int)).toNat _ q; rw [Int.toNat_natCast, ← hget q hq]; unfold clearGet; rw [show Nat.blt q kk = true from Nat.ble_eq_true_of_le hq]
        · have h3 : ¬ ((((kk : Int)).toNat : Nat) : Int) < 3 := of_decide_eq_false h3
          have hlt : ¬ (compactZ L).length < 3 := by omega
          have hres : hullS L = (chainZ (compactZ L)).tail.reverse ++ (chainZ (compactZ L).reverse).tail.reverse := by unfold hullS; rw [if_neg hlt]
          rw [hres]
          repeat (first | refine Rn.asr 1000 rfl rfl ?_)
          refine Rn.stop 1000 rfl ?_
          refine Rn.weaken trivial ?_ (chain1_rn c (compactZ L) 4 (fun e => by rw [e] at hlt; simp at hlt) (by omega) (fun q hq => hb q ((compact_mem L q).1 hq)) hm hr)
          refine ⟨⟨rfl, rfl, rfl, rfl, rfl, .cons rfl (.refl rfl) (.cons rfl (.refl rfl) (.cons rfl (.refl rfl) (.cons rfl (.eq rfl (congrArg I ?_)) (.cons rfl (.int _ _) .nil)))), rfl⟩,
            ⟨⟨rfl, rfl, rfl, rfl, rfl, .cons rfl (.refl rfl) (.cons rfl (.refl rfl) (.cons rfl (.refl rfl) .nil)), rfl⟩, ⟨rfl, rfl, rfl, rfl, rfl, .cons rfl (.refl rfl) .nil, rfl⟩, trivial⟩,
            .cons rfl (.flat' rfl rfl) (.cons rfl (.row_eq rfl ?_ rfl fun q hq => ?_) (.cons rfl (.flat' rfl rfl) .nil))⟩
          · show ((((kk : Int)).toNat : Nat) : Int) = _
            omega
          · show ((kk : Int)).toNat = _
            omega
          · have hq : q < ((kk : Int)).toNat := hq
            rw [Int.toNat_natCast] at hq; show ptC _ = clearGet (fun k => ptC (R.getD k (0, 0))) ((kk : Int)).toNat _ q; rw [Int.toNat_natCast, ← hget q hq]; unfold clearGet; rw [show Nat.blt q kk = true from Nat.ble_eq_true_of_le hq]
    · have he := of_decide_eq_false (pairEq (a := L.getD (((k + 1 : Nat) : Int)).toNat (0, 0)) (b := L.getD (IntKind.wrap IntKind.i64 (((k + 1 : Nat) : Int) - 1)).toNat (0, 0)) he).symm
      rw [ek, Int.toNat_natCast, Int.toNat_natCast] at he
      refine Rn.stop 1000 rfl ?_
      refine Rn.weaken trivial ?_ (ih (k + 2) (by omega) ⟨by omega, by omega, fun j hj => ?_⟩)
      · exact ⟨⟨rfl, rfl, rfl, rfl, rfl, .cons rfl (.refl rfl) (.cons rfl (.eq rfl (congrArg I (w64_nat (n := k + 1) (m := L.length) (by omega) (by omega)))) .nil), rfl⟩, FrsTo.refl rfl,
          .cons rfl (.flat' rfl rfl) (.cons rfl (.row_eq rfl rfl rfl fun i hi => rfl) .nil)⟩
      · by_cases e : j = k
        · subst e; exact fun q => he q.symm
        · exact hall j (by omega)
  · have h : ¬ (k : Int) < (L.length : Int) := of_decide_eq_false h
    have hkl : k = L.length := by omega
    subst hkl
    have hid : compactZ L = L := compact_id hall
    have hidl : (compactZ L).length = L.length := by rw [hid]
    refine Rn.asr 1000 rfl v ?_
    refine Rn.ite 1000 rfl (fun h3 => ?_) (fun h3 => ?_)
    · have h3 : (L.length : Int) < 3 := of_decide_eq_true h3
      have hlt : (compactZ L).length < 3 := (by have := hidl; omega)
      have hres : hullS L = compactZ L := by unfold hullS; rw [if_pos hlt]
      rw [hres]
      repeat (first | refine Rn.asr 1000 rfl rfl ?_)
      refine Rn.stop 1000 rfl ?_
      refine Rn.weaken trivial ?_ (fin16_rn c (compactZ L) 3 (by omega) (fun q hq => hb q ((compact_mem L q).1 hq)) hm hr)
      refine ⟨⟨rfl, rfl, rfl, rfl, rfl, .cons rfl (.refl rfl) (.cons rfl (.refl rfl) (.cons rfl (.eq rfl (congrArg B ?_)) (.cons rfl (.refl rfl) (.cons rfl (.eq rfl (congrArg I ?_)) (.cons rfl (.int _ _) .nil))))), rfl⟩, trivial,
        .cons rfl (.flat' rfl rfl) (.cons rfl (.row_eq rfl ?_ rfl fun q hq => ?_) .nil)⟩
      · show decide ((L.length : Int) > 2) = decide (2 < (compactZ L).length)
        congr 1
        exact propext ⟨fun h => (by have := hidl; omega), fun h => (by have := hidl; omega)⟩
      · show (L.length : Int) = _
        have := hidl; omega
      · show L.length = _
        have := hidl; omega
      · have hq : q < L.length := hq
        rw [hid]
    · have h3 : ¬ (L.length : Int) < 3 := of_decide_eq_false h3
      have hlt : ¬ (compactZ L).length < 3 := (by have := hidl; omega)
      have hres : hullS L = (chainZ (compactZ L)).tail.reverse ++ (chainZ (compactZ L).reverse).tail.reverse := by unfold hullS; rw [if_neg hlt]
      rw [hres]
      repeat (first | refine Rn.asr 1000 rfl rfl ?_)
      refine Rn.stop 1000 rfl ?_
      refine Rn.weaken trivial ?_ (chain1_rn c (compactZ L) 3 (fun e => by rw [e] at hlt; simp at hlt) ((by have := hidl; omega)) (fun q hq => hb q ((compact_mem L q).1 hq)) hm hr)
      refine ⟨⟨rfl, rfl, rfl, rfl, rfl, .cons rfl (.refl rfl) (.cons rfl (.refl rfl) (.cons rfl (.refl rfl) (.cons rfl (.eq rfl (congrArg I ?_)) (.cons rfl (.int _ _) .nil)))), rfl⟩,
        ⟨⟨rfl, rfl, rfl, rfl, rfl, .cons rfl (.refl rfl) (.cons rfl (.refl rfl) (.cons rfl (.refl rfl) .nil)), rfl⟩, ⟨rfl, rfl, rfl, rfl, rfl, .cons rfl (.refl rfl) .nil, rfl⟩, trivial⟩,
        .cons rfl (.flat' rfl rfl) (.cons rfl (.row_eq rfl ?_ rfl fun q hq => ?_) (.cons rfl (.flat' rfl rfl) .nil))⟩
      · show (L.length : Int) = _
        have := hidl; omega
      · show L.length = _
        have := hidl; omega
      · have hq : q < L.length := hq
        rw [hid]
end Go.Proofs.Am

/- The program's question whether a shadow touches a patch: the answer of the reference's question. -/
namespace Go.Proofs.Am
open Go Go.Proofs.Geo
set_option maxRecDepth 100000

def withinB (m a b c : Int × Int) : Bool := decide (sideZ a b c ≠ 0) && ((decide (0 ≤ sideZ a b m) && (decide (0 ≤ sideZ b c m) && decide (0 ≤ sideZ c a m))) || (decide (sideZ a b m ≤ 0) && (decide (sideZ b c m ≤ 0) && decide (sideZ c a m ≤ 0))))
theorem withinB_iff {m a b c : Int × Int} : withinB m a b c = true ↔ WithinZ m a b c := by
  unfold withinB WithinZ
  simp only [Bool.and_eq_true, Bool.or_eq_true, decide_eq_true_eq]
/-- Some pair is near, or some triple has the point within. -/
def touchRB (S : List (Int × Int)) (m : Int × Int) (r : Int) : Bool := S.any (fun a => S.any fun b => nearZ a b m r) || S.any fun a => S.any fun b => S.any fun c => withinB m a b c
theorem touchRB_iff {S : List (Int × Int)} {m : Int × Int} {r : Int} : touchRB S m r = true ↔ TouchR S m r := by
  unfold touchRB TouchR
  simp only [Bool.or_eq_true, List.any_eq_true, withinB_iff]
theorem conv_mem {S S' : List (Int × Int)} (h : ∀ q, q ∈ S → q ∈ S') {x : Pt} (hx : Conv S x) : Conv S' x := by
  induction hx with
  | pt p hp => exact .pt p (h p hp)
  | seg a b t h0 h1 _ _ ha hb => exact .seg a b t h0 h1 ha hb
theorem touchS_mem {S S' : List (Int × Int)} (h : ∀ q, q ∈ S → q ∈ S') {m : Int × Int} {r : Int} (ht : TouchS S m r) : TouchS S' m r := by
  obtain ⟨x, hx, hd⟩ := ht
  exact ⟨x, conv_mem h hx, hd⟩
theorem touchR_mem {S S' : List (Int × Int)} (h : ∀ q, q ∈ S → q ∈ S') {m : Int × Int} {r : Int} (ht : TouchR S m r) : TouchR S' m r := by
  rcases ht with ⟨a, ha, b, hb, h1⟩ | ⟨a, ha, b, hb, c, hc, h1⟩
  · exact .inl ⟨a, h a ha, b, h b hb, h1⟩
  · exact .inr ⟨a, h a ha, b, h b hb, c, h c hc, h1⟩
theorem touchP_eq {L S : List (Int × Int)} {m : Int × Int} {r : Int} (hl : 0 < L.length) (hs : L.Pairwise (fun a b => leZ a b = true)) (hm : ∀ q, q ∈ L ↔ q ∈ S) : touchP (hullS L) m r = touchRB S m r := by
  have hne : L ≠ [] := fun e => by rw [e] at hl; simp at hl
  rw [Bool.eq_iff_iff, touchRB_iff]
  constructor
  · intro h
    exact touchR_mem (fun q hq => (hm q).1 hq) (touch_pr (hull_cases hne hs).1 h)
  · intro h
    exact touch_sp hne hs (touchS_mem (fun q hq => (hm q).2 hq) (touch_rs h))
theorem touches_fun (c : Cast) (q : Bool) (p : Pa) (hb : ∀ q ∈ eightB c p, BdP 100000000 q) (hm : BdP 100000000 (c.mx, c.my)) (hr : Bd 100000000 c.r) : Fun Tryz.prog 57 [castA c q, paA p] (B (!q && touchRB (eightB c p) (c.mx, c.my) c.r)) := by
  refine Fun.of_run cT rfl ?_
  refine Rn.ite 1000 rfl (fun h => ?_) (fun h => ?_)
  · refine Rn.ret 1000 rfl rfl ?_
    have h : q = true := h
    subst h; rfl
  have h : q = false := h
  subst h
  refine Rn.call 1000 rfl _ (corners_fun p) ?_
  refine Rn.stop 1000 rfl ?_
  refine Rn.call 1000 rfl _ (at_fun c false _ _ _) ?_
  refine Rn.call 1000 rfl _ (at_fun c false _ _ _) ?_
  refine Rn.asr 1000 rfl rfl ?_
  refine Rn.chk 1000 rfl (by kernel_rfl) ?_
  refine Rn.stop 1000 rfl ?_
  refine Rn.call 1000 rfl _ (at_fun c false _ _ _) ?_
  refine Rn.call 1000 rfl _ (at_fun c false _ _ _) ?_
  refine Rn.asr 1000 rfl rfl ?_
  refine Rn.asr 1000 rfl rfl ?_
  refine Rn.chk 1000 rfl (by kernel_rfl) ?_
  refine Rn.stop 1000 rfl ?_
  refine Rn.call 1000 rfl _ (at_fun c false _ _ _) ?_
  refine Rn.call 1000 rfl _ (at_fun c false _ _ _) ?_
  refine Rn.asr 1000 rfl rfl ?_
  refine Rn.asr 1000 rfl rfl ?_
  refine Rn.chk 1000 rfl (by kernel_rfl) ?_
  refine Rn.stop 1000 rfl ?_
  refine Rn.call 1000 rfl _ (at_fun c false _ _ _) ?_
  refine Rn.call 1000 rfl _ (at_fun c false _ _ _) ?_
  refine Rn.asr 1000 rfl rfl ?_
  refine Rn.asr 1000 rfl rfl ?_
  refine Rn.chk 1000 rfl (by kernel_rfl) ?_
  refine Rn.stop 1000 rfl ?_
  refine Rn.loop2 (fun _ => []) (fun L : List (Int × Int) => [(2, .ptr 0 0), (5, .osl 16 3), (16, .n .i64 4)]) (fun L => [(0, .flat (castL c false) 97), (16, rowZ L 3)]) 17
    (fun L => L.length = 8 ∧ ∀ q, q ∈ L ↔ q ∈ eightB c p) (fun _ => 0) (eightB c p) ⟨rfl, fun q => Iff.rfl⟩
    ⟨⟨rfl, rfl, rfl, rfl, rfl, .cons rfl (.refl rfl) (.cons rfl (.refl rfl) (.cons rfl (.refl rfl) .nil)), rfl⟩, trivial,
      .cons rfl (.flat' rfl rfl) (.cons rfl (.row_eq rfl rfl rfl fun i hi => by revert i; exact lt8 rfl rfl rfl rfl rfl rfl rfl rfl) .nil)⟩ ?_
  rintro L0 ⟨hL0, hmem0⟩ _
  refine Rn.asr 1000 rfl rfl ?_
  refine Rn.call 1000 rfl _ (show Fun Tryz.prog 131 [U (IntKind.u64.wrap (L0.length : Int))] (I 4) by rw [hL0]; exact len8_fun) ?_
  refine Rn.stop 1000 rfl ?_
  refine Rn.ite 1000 rfl (fun _ => ?_) (fun h => ?_)
  case refine_2 =>
    have h : ¬ w64 ((L0.length : Int) - 0) ≤ 12 := of_decide_eq_false h
    rw [hL0] at h; exact absurd (by decide) h
  refine Rn.stop 1000 rfl ?_
  -- the outer loop of the sort
  refine Rn.loop2 (fun _ => [[], [], [(0, .osl 16 3)], [(2, .ptr 0 0)]]) (fun x : Nat × List (Int × Int) => [(0, .osl 16 3), (1, .n .i64 0), (2, I 8), (3, .fn (.func 140) []), (8, I (x.1 : Int))]) (fun x => [(0, .flat (castL c false) 97), (16, rowZ x.2 3)]) 17
    (fun x => x.2.length = 8 ∧ (∀ q, q ∈ x.2 ↔ q ∈ eightB c p) ∧ 1 ≤ x.1 ∧ x.1 ≤ 8 ∧ sortedTo x.2 x.1) (fun x => 8 - x.1) (1, L0) ⟨hL0, hmem0, Nat.le_refl 1, by simp only; omega, fun a b h1 h2 => by omega⟩
    ⟨⟨rfl, rfl, rfl, rfl, rfl, .cons rfl (.refl rfl) (.cons rfl (.refl rfl) (.cons rfl (.eq rfl (by rw [hL0]; rfl)) (.cons rfl (.refl rfl) (.cons rfl (.int _ _) .nil)))), rfl⟩,
      ⟨⟨rfl, rfl, rfl, rfl, rfl, .nil, rfl⟩, ⟨rfl, rfl, rfl, rfl, rfl, .nil, rfl⟩, ⟨rfl, rfl, rfl, rfl, rfl, .cons rfl (.refl rfl) .nil, rfl⟩, ⟨rfl, rfl, rfl, rfl, rfl, .cons rfl (.refl rfl) .nil, rfl⟩, trivial⟩,
      .cons rfl (.flat' rfl rfl) (.cons rfl (.row_eq rfl rfl rfl fun i hi => rfl) .nil)⟩ ?_
  rintro ⟨i, L⟩ ⟨hL, hmem, hi1, hi8, hs⟩ ih
  simp only at hL hmem hi1 hi8 hs
  refine Rn.ite 1000 rfl (fun h => ?_) (fun h => ?_)
  · have h : (i : Int) < 8 := of_decide_eq_true h
    have hi : i < 8 := by omega
    refine Rn.stop 1000 rfl ?_
    refine Rn.loop2 (fun _ => []) (fun x : Nat × List (Int × Int) => [(0, .osl 16 3), (1, .n .i64 0), (2, I 8), (3, .fn (.func 140) []), (8, I (i : Int)), (9, I (x.1 : Int))]) (fun x => [(0, .flat (castL c false) 97), (16, rowZ x.2 3)]) 17
      (fun x => x.2.length = 8 ∧ (∀ q, q ∈ x.2 ↔ q ∈ eightB c p) ∧ x.1 ≤ i ∧ almost x.2 i x.1) (fun x => x.1) (i, L)
      ⟨hL, hmem, Nat.le_refl _, fun a b h1 h2 h3 h4 => hs a b h1 (by omega), fun b h1 h2 => by omega⟩
      ⟨⟨rfl, rfl, rfl, rfl, rfl, .cons rfl (.refl rfl) (.cons rfl (.refl rfl) (.cons rfl (.refl rfl) (.cons rfl (.refl rfl) (.cons rfl (.refl rfl) (.cons rfl (.refl rfl) .nil))))), rfl⟩, FrsTo.refl rfl,
        .cons rfl (.flat' rfl rfl) (.cons rfl (.row_eq rfl rfl rfl fun i hi => rfl) .nil)⟩ ?_
    rintro ⟨j, L⟩ ⟨hL, hmem, hj, ha⟩ ih2
    simp only at hL hmem hj ha
    have bd : ∀ k, k < 8 → BdP 100000000 (L.getD k (0, 0)) := fun k hk => hb _ ((hmem _).1 (getZ_lt (by omega)))
    -- behind the inner loop
    have out : sortedTo L (i + 1) → ∀ y : Nat × List (Int × Int), y = (i + 1, L) → (y.2.length = 8 ∧ (∀ q, q ∈ y.2 ↔ q ∈ eightB c p) ∧ 1 ≤ y.1 ∧ y.1 ≤ 8 ∧ sortedTo y.2 y.1) := by
      rintro hs y rfl
      exact ⟨hL, hmem, by simp only; omega, by simp only; omega, hs⟩
    refine Rn.ite 1000 rfl (fun h => ?_) (fun h => ?_)
    · have h : (j : Int) > 0 := of_decide_eq_true h
      obtain ⟨j, rfl⟩ : ∃ k, j = k + 1 := ⟨j - 1, by omega⟩
      have ej : w64 (((j + 1 : Nat) : Int) - 1) = (j : Int) := by rw [w64_id (by omega)]; omega
      have in1 : inB (((j + 1 : Nat) : Int)) L.length = true := by simp only [inB, Bool.and_eq_true, decide_eq_true_eq]; omega
      have in2 : inB (IntKind.wrap IntKind.i64 (((j + 1 : Nat) : Int) - 1)) L.length = true := by
        rw [show IntKind.wrap IntKind.i64 (((j + 1 : Nat) : Int) - 1) = (j : Int) from ej]
        simp only [inB, Bool.and_eq_true, decide_eq_true_eq]; omega
      repeat (first | refine Rn.asr 1000 rfl rfl ?_ | refine Rn.asr 1000 rfl in1 ?_ | refine Rn.asr 1000 rfl in2 ?_)
      refine Rn.call 1000 rfl _ (cmp_fun _ _) ?_
      refine Rn.chk 1000 rfl (by kernel_rfl) ?_
      refine Rn.ite 1000 rfl (fun h2 => ?_) (fun h2 => ?_)
      · have e1 : (((j + 1 : Nat) : Int)).toNat = j + 1 := Int.toNat_natCast _
        have e2 : (IntKind.wrap IntKind.i64 (((j + 1 : Nat) : Int) - 1)).toNat = j := by
          rw [show IntKind.wrap IntKind.i64 (((j + 1 : Nat) : Int) - 1) = (j : Int) from ej]; exact Int.toNat_natCast _
        have h2 : cmpB (L.getD (((j + 1 : Nat) : Int)).toNat (0, 0)) (L.getD (IntKind.wrap IntKind.i64 (((j + 1 : Nat) : Int) - 1)).toNat (0, 0)) < 0 := of_decide_eq_true h2
        rw [e1, e2, cmp_lt (bd _ (by omega)) (bd _ (by omega))] at h2
        repeat (first | refine Rn.asr 1000 rfl rfl ?_ | refine Rn.asr 1000 rfl in1 ?_ | refine Rn.asr 1000 rfl in2 ?_)
        refine Rn.chk 1000 rfl (by kernel_rfl) ?_
        refine Rn.stop 1000 rfl ?_
        refine Rn.weaken trivial ?_ (ih2 (j, swapZ L j) (by simp only; omega) ⟨by simp only; rw [swapZ_len]; exact hL, fun q => by simp only; rw [swapZ_mem L (by omega)]; exact hmem q, by simp only; omega, almost_step (by omega) (by omega) ha h2⟩)
        refine ⟨⟨rfl, rfl, rfl, rfl, rfl, .cons rfl (.refl rfl) (.cons rfl (.refl rfl) (.cons rfl (.refl rfl) (.cons rfl (.refl rfl) (.cons rfl (.refl rfl) (.cons rfl (.eq rfl (congrArg I ej)) .nil))))), rfl⟩, FrsTo.refl rfl,
          .cons rfl (.flat' rfl rfl) (.cons rfl (.row_eq rfl (swapZ_len L j).symm rfl fun k hk => ?_) .nil)⟩
        show ptC ((swapZ L j).getD k (0, 0)) = setGet (setGet (fun k => ptC (L.getD k (0, 0))) (((j + 1 : Nat) : Int)).toNat 0 (ptC (L.getD (IntKind.wrap IntKind.i64 (((j + 1 : Nat) : Int) - 1)).toNat (0, 0))))
          (IntKind.wrap IntKind.i64 (((j + 1 : Nat) : Int) - 1)).toNat 0 (ptC (L.getD (((j + 1 : Nat) : Int)).toNat (0, 0))) k
        rw [e1, e2, setGet_pt L (by omega), setGet_pt _ (by simp; omega)]
        rfl
      · have e1 : (((j + 1 : Nat) : Int)).toNat = j + 1 := Int.toNat_natCast _
        have e2 : (IntKind.wrap IntKind.i64 (((j + 1 : Nat) : Int) - 1)).toNat = j := by
          rw [show IntKind.wrap IntKind.i64 (((j + 1 : Nat) : Int) - 1) = (j : Int) from ej]; exact Int.toNat_natCast _
        have h2 : ¬ cmpB (L.getD (((j + 1 : Nat) : Int)).toNat (0, 0)) (L.getD (IntKind.wrap IntKind.i64 (((j + 1 : Nat) : Int) - 1)).toNat (0, 0)) < 0 := of_decide_eq_false h2
        rw [e1, e2, cmp_lt (bd _ (by omega)) (bd _ (by omega))] at h2
        refine Rn.stop 1000 rfl ?_
        refine Rn.weaken trivial ?_ (ih (i + 1, L) (by simp only; omega) (out (almost_done hj ha (.inr ⟨j, rfl, by simpa using h2⟩)) _ rfl))
        exact ⟨⟨rfl, rfl, rfl, rfl, rfl, .cons rfl (.refl rfl) (.cons rfl (.refl rfl) (.cons rfl (.refl rfl) (.cons rfl (.refl rfl) (.cons rfl (.eq rfl (congrArg I (w64_nat hi (by decide)))) .nil)))), rfl⟩, FrsTo.refl rfl,
          .cons rfl (.flat' rfl rfl) (.cons rfl (.row_eq rfl rfl rfl fun k hk => rfl) .nil)⟩
    · have h : ¬ (j : Int) > 0 := of_decide_eq_false h
      refine Rn.chk 1000 rfl (by kernel_rfl) ?_
      refine Rn.stop 1000 rfl ?_
      refine Rn.weaken trivial ?_ (ih (i + 1, L) (by simp only; omega) (out (almost_done hj ha (.inl (by omega))) _ rfl))
      exact ⟨⟨rfl, rfl, rfl, rfl, rfl, .cons rfl (.refl rfl) (.cons rfl (.refl rfl) (.cons rfl (.refl rfl) (.cons rfl (.refl rfl) (.cons rfl (.eq rfl (congrArg I (w64_nat hi (by decide)))) .nil)))), rfl⟩, FrsTo.refl rfl,
          .cons rfl (.flat' rfl rfl) (.cons rfl (.row_eq rfl rfl rfl fun k hk => rfl) .nil)⟩
  -- sorted
  have h : ¬ (i : Int) < 8 := of_decide_eq_false h
  have hi : i = 8 := by omega
  subst hi
  have hpw := sortedTo_pw (L := L) (by rw [hL]; exact hs)
  clear ih hs hi1 hi8 h
  rw [show (!false && touchRB (eightB c p) (c.mx, c.my) c.r) = touchP (hullS L) (c.mx, c.my) c.r by rw [touchP_eq (by rw [hL]; decide) hpw hmem]; rfl]
  repeat (refine Rn.asr 1000 rfl rfl ?_)
  refine Rn.ite 1000 rfl (fun h => ?_) (fun h => ?_)
  · have h : (L.length : Int) < 2 := of_decide_eq_true h
    omega
  refine Rn.stop 1000 rfl ?_
  refine Rn.weaken trivial ?_ (compact_rn c L (by omega) (by omega) (fun q hq => hb q ((hmem q).1 hq)) hm hr)
  exact ⟨⟨rfl, rfl, rfl, rfl, rfl, .cons rfl (.refl rfl) (.cons rfl (.int _ _) .nil), rfl⟩,
    ⟨⟨rfl, rfl, rfl, rfl, rfl, .nil, rfl⟩, ⟨rfl, rfl, rfl, rfl, rfl, .cons rfl (.refl rfl) .nil, rfl⟩, trivial⟩,
    .cons rfl (.flat' rfl rfl) (.cons rfl (.row_eq rfl rfl rfl fun i hi => rfl) .nil)⟩
end Go.Proofs.Am

/- The reference's shadows: small functions. -/
namespace Go.Proofs.Am
open Go Go.Proofs.Geo
set_option maxRecDepth 100000

noncomputable abbrev fsE : List (Nat × Func) := [(144, Tryz.f144), (110, Tryz.f110), (104, Tryz.f104), (105, Tryz.f105), (107, Tryz.f107), (52, Tryz.f52), (60, Tryz.f60)]
theorem cE : CtxOK Tryz.prog (ctx [] fsE) := ctx_ok (show FsOK Tryz.prog fsE from ⟨Tryz.func144, Tryz.call144, Tryz.func110, Tryz.call110, Tryz.func104, Tryz.call104, Tryz.func105, Tryz.call105, Tryz.func107, Tryz.call107, Tryz.func52, Tryz.call52, Tryz.func60, Tryz.call60, trivial⟩) rfl

theorem sign_fun (n : Int) : Fun Tryz.prog 144 [I n] (I (signZ n)) := by
  refine Fun.of_run cE rfl (Rn.ret 1000 rfl rfl (congrArg I ?_))
  show (if (if n < 1 then n else 1) > -1 then (if n < 1 then n else 1) else -1) = signZ n
  unfold signZ; omega
theorem sign_nn {n : Int} : decide (signZ n ≥ 0) = decide (0 ≤ n) := by congr 1; unfold signZ; exact propext (by omega)
theorem sign_np {n : Int} : decide (signZ n ≤ 0) = decide (n ≤ 0) := by congr 1; unfold signZ; exact propext (by omega)
def withinV (m a b c : Int × Int) : Bool := !(sideB a b c == 0) && ((decide (0 ≤ sideB a b m) && (decide (0 ≤ sideB b c m) && decide (0 ≤ sideB c a m))) || (decide (sideB a b m ≤ 0) && (decide (sideB b c m ≤ 0) && decide (sideB c a m ≤ 0))))
theorem Fun.as {P : Program} {f : FuncId} {args : List AV} {r r' : AV} (hf : Fun P f args r) (h : r' = r) : Fun P f args r' := h ▸ hf
theorem within_fun (m a b c : Int × Int) : Fun Tryz.prog 110 [V m.1 m.2, V a.1 a.2, V b.1 b.2, V c.1 c.2] (B (withinV m a b c)) := by
  obtain ⟨x, hx⟩ : ∃ x, x = signZ (sideB a b m) := ⟨_, rfl⟩
  obtain ⟨y, hy⟩ : ∃ x, x = signZ (sideB b c m) := ⟨_, rfl⟩
  obtain ⟨z, hz⟩ : ∃ x, x = signZ (sideB c a m) := ⟨_, rfl⟩
  obtain ⟨f, hf⟩ : ∃ x, x = sideB a b c := ⟨_, rfl⟩
  have key : withinV m a b c = (!(f == 0) && ((decide (x ≥ 0) && (decide (y ≥ 0) && decide (z ≥ 0))) || (decide (x ≤ 0) && (decide (y ≤ 0) && decide (z ≤ 0))))) := by
    subst hx; subst hy; subst hz; subst hf
    unfold withinV
    simp only [sign_nn, sign_np]
  rw [key]
  refine Fun.of_run cE rfl ?_
  refine Rn.call 1000 rfl _ (rminus_fun _ _ _ _) ?_
  refine Rn.call 1000 rfl _ (rminus_fun _ _ _ _) ?_
  refine Rn.call 1000 rfl _ (rcross_fun _ _ _ _) ?_
  refine Rn.call 1000 rfl _ ((sign_fun _).as (congrArg I hx)) ?_
  refine Rn.call 1000 rfl _ (rminus_fun _ _ _ _) ?_
  refine Rn.call 1000 rfl _ (rminus_fun _ _ _ _) ?_
  refine Rn.call 1000 rfl _ (rcross_fun _ _ _ _) ?_
  refine Rn.call 1000 rfl _ ((sign_fun _).as (congrArg I hy)) ?_
  refine Rn.call 1000 rfl _ (rminus_fun _ _ _ _) ?_
  refine Rn.call 1000 rfl _ (rminus_fun _ _ _ _) ?_
  refine Rn.call 1000 rfl _ (rcross_fun _ _ _ _) ?_
  refine Rn.call 1000 rfl _ ((sign_fun _).as (congrArg I hz)) ?_
  refine Rn.chk 1000 rfl (by kernel_rfl) ?_
  refine Rn.call 1000 rfl _ (rminus_fun _ _ _ _) ?_
  refine Rn.call 1000 rfl _ (rminus_fun _ _ _ _) ?_
  refine Rn.call 1000 rfl _ ((rcross_fun _ _ _ _).as (congrArg I hf)) ?_
  refine Rn.chk 1000 rfl (by kernel_rfl) ?_
  clear hx hy hz hf key
  repeat' (refine Rn.ite 1000 rfl (fun _ => ?_) (fun _ => ?_))
  all_goals
    refine Rn.ret 1000 rfl rfl (congrArg B ?_)
    first
      | (simp_all; done)
      | grind
end Go.Proofs.Am

/- The reference's shadows. -/
namespace Go.Proofs.Am
open Go Go.Proofs.Geo
set_option maxRecDepth 100000

def minI (x y : Int) : Int := if y < x then y else x
def rcastC (c : Cl) (t : Tr) : Cast := ⟨c.x, c.y, c.h, w64 (c.h - minI t.high c.h), w64 (c.h - t.low), w64 (c.h * t.x), w64 (c.h * t.y), w64 (c.h * t.r)⟩
def isB (c : Cl) (t : Tr) : Bool := decide (t.low ≤ c.h)
theorem reach_fun (c : Cl) (t : Tr) : Fun Tryz.prog 104 [.agg (clC c), .agg (trC t)] (.tup [I (rcastC c t).n0, I (rcastC c t).n1, B (isB c t)]) := by
  refine Fun.of_run cE rfl ?_
  refine Rn.chk 1000 rfl (by kernel_rfl) ?_
  exact Rn.ret 1000 rfl rfl rfl
theorem axis_fun (c : Cl) (t : Tr) : Fun Tryz.prog 105 [.agg (clC c), .agg (trC t)] (.tup [V (rcastC c t).mx (rcastC c t).my, I (rcastC c t).r]) := by
  refine Fun.of_run cE rfl ?_
  refine Rn.chk 1000 rfl (by kernel_rfl) ?_
  exact Rn.ret 1000 rfl rfl rfl
theorem along_fun (c : Cl) (t : Tr) (p : Int × Int) (n : Int) : Fun Tryz.prog 107 [.agg (clC c), V p.1 p.2, I n] (V (atB (rcastC c t) p n).1 (atB (rcastC c t) p n).2) := by
  refine Fun.of_run cE rfl ?_
  exact Rn.ret 1000 rfl rfl rfl
def shadesB (c : Cl) (t : Tr) (p : Int × Int) : Bool := isB c t && nearB (atB (rcastC c t) p (rcastC c t).n0) (atB (rcastC c t) p (rcastC c t).n1) ((rcastC c t).mx, (rcastC c t).my) (rcastC c t).r
theorem shades_fun (c : Cl) (t : Tr) (p : Int × Int) : Fun Tryz.prog 52 [.agg (clC c), .agg (trC t), V p.1 p.2] (B (shadesB c t p)) := by
  refine Fun.of_run cE rfl ?_
  refine Rn.call 1000 rfl _ (reach_fun c t) ?_
  refine Rn.call 1000 rfl _ (axis_fun c t) ?_
  refine Rn.ite (b := isB c t) 1000 rfl (fun h => ?_) (fun h => ?_)
  · refine Rn.call 1000 rfl _ (along_fun c t p _) ?_
    refine Rn.call 1000 rfl _ (along_fun c t p _) ?_
    refine Rn.call 1000 rfl _ (rnear_fun _ _ _ _ _ _ _) ?_
    refine Rn.chk 1000 rfl (by kernel_rfl) ?_
    exact Rn.ret 1000 rfl rfl (congrArg B (by unfold shadesB; rw [h]; rfl))
  · refine Rn.chk 1000 rfl (by kernel_rfl) ?_
    exact Rn.ret 1000 rfl rfl (congrArg B (by unfold shadesB; rw [h]; rfl))

abbrev rowP (L : List (Int × Int)) (k : Nat) : AB := .row L.length 2 (fun i => ptC (L.getD i (0, 0))) 106 k
/-- The question by indices, as the reference asks it. -/
def TouchI (l : List (Int × Int)) (m : Int × Int) (r : Int) : Prop :=
  ∃ i j, i < l.length ∧ j < i ∧ (nearZ (l.getD i (0, 0)) (l.getD j (0, 0)) m r = true ∨ ∃ n, n < j ∧ withinB m (l.getD i (0, 0)) (l.getD j (0, 0)) (l.getD n (0, 0)) = true)

theorem nearZ_swap {a b m : Int × Int} {r : Int} (h : nearZ a b m r = true) : nearZ b a m r = true := by
  rw [nearZ_iff] at *; exact near_swap h
theorem within_rot {m a b c : Int × Int} (h : WithinZ m a b c) : WithinZ m b c a := by
  obtain ⟨h0, h⟩ := h
  have e : sideZ b c a = sideZ a b c := by unfold sideZ; grind
  exact ⟨by rw [e]; exact h0, by rcases h with ⟨a1, a2, a3⟩ | ⟨a1, a2, a3⟩; exact .inl ⟨a2, a3, a1⟩; exact .inr ⟨a2, a3, a1⟩⟩
theorem within_swap {m a b c : Int × Int} (h : WithinZ m a b c) : WithinZ m b a c := by
  obtain ⟨h0, h⟩ := h
  have e : ∀ a b c : Int × Int, sideZ b a c = - sideZ a b c := fun a b c => by unfold sideZ; grind
  refine ⟨by rw [e]; omega, ?_⟩
  rw [e a b m, e c a m, e b c m]
  rcases h with ⟨a1, a2, a3⟩ | ⟨a1, a2, a3⟩
  · right; omega
  · left; omega
theorem touchRB_idx {l : List (Int × Int)} {m : Int × Int} {r : Int} (h2 : 2 ≤ l.length) : touchRB l m r = true ↔ TouchI l m r := by
  rw [touchRB_iff]
  constructor
  · rintro (⟨a, ha, b, hb, h⟩ | ⟨a, ha, b, hb, c, hc, h⟩)
    · obtain ⟨i, hi, rfl⟩ := mem_getD.1 ha
      obtain ⟨j, hj, rfl⟩ := mem_getD.1 hb
      have any : ∀ i j, i < l.length → j < l.length → i ≠ j → nearZ (l.getD i (0, 0)) (l.getD j (0, 0)) m r = true → TouchI l m r := fun i j hi hj hne h => by
        rcases Nat.lt_or_ge j i with k | k
        · exact ⟨i, j, hi, k, .inl h⟩
        · exact ⟨j, i, hj, by omega, .inl (nearZ_swap h)⟩
      by_cases e : i = j
      · subst e
        rw [nearZ_iff] at h
        obtain ⟨t, _, _, ht⟩ := h
        have hs : on (toP (l.getD i (0, 0))) (toP (l.getD i (0, 0))) t = toP (l.getD i (0, 0)) := by
          unfold on; cases toP (l.getD i (0, 0)); simp only [Pt.mk.injEq]; constructor <;> grind
        rw [hs] at ht
        have one : ∀ k, nearZ (l.getD i (0, 0)) (l.getD k (0, 0)) m r = true := fun k => by
          rw [nearZ_iff]
          exact ⟨0, by grind, by grind, by rw [on_zero]; exact ht⟩
        by_cases e0 : i = 0
        · exact any i 1 hi (by omega) (by omega) (one 1)
        · exact any i 0 hi (by omega) e0 (one 0)
      · exact any i j hi hj e h
    · obtain ⟨i, hi, rfl⟩ := mem_getD.1 ha
      obtain ⟨j, hj, rfl⟩ := mem_getD.1 hb
      obtain ⟨k, hk, rfl⟩ := mem_getD.1 hc
      have n1 : i ≠ j := fun e => by subst e; exact h.1 (by unfold sideZ; grind)
      have n2 : j ≠ k := fun e => by subst e; exact h.1 (by unfold sideZ; grind)
      have n3 : i ≠ k := fun e => by subst e; exact h.1 (by unfold sideZ; grind)
      have go : ∀ i j k, i < l.length → j < i → k < j → WithinZ m (l.getD i (0, 0)) (l.getD j (0, 0)) (l.getD k (0, 0)) → TouchI l m r := fun i j k hi hj hk h =>
        ⟨i, j, hi, hj, .inr ⟨k, hk, withinB_iff.2 h⟩⟩
      have p2 := within_rot h
      have p3 := within_rot p2
      have q1 := within_swap h
      have q2 := within_rot q1
      have q3 := within_rot q2
      rcases Nat.lt_or_ge j i with a | a
      · rcases Nat.lt_or_ge k j with b | b
        · exact go i j k hi a b h
        · rcases Nat.lt_or_ge k i with d | d
          · exact go i k j hi d (by omega) q2
          · exact go k i j hk (by omega) a p3
      · rcases Nat.lt_or_ge k i with b | b
        · exact go j i k hj (by omega) b q1
        · rcases Nat.lt_or_ge k j with d | d
          · exact go j k i hj d (by omega) p2
          · exact go k j i hk (by omega) (by omega) q3
  · rintro ⟨i, j, hi, hj, h | ⟨n, hn, h⟩⟩
    · exact .inl ⟨_, getZ_lt hi, _, getZ_lt (by omega), h⟩
    · exact .inr ⟨_, getZ_lt hi, _, getZ_lt (by omega), _, getZ_lt (by omega), withinB_iff.1 h⟩
theorem withinV_eq {m a b c : Int × Int} (hm : BdP 100000000 m) (ha : BdP 100000000 a) (hb : BdP 100000000 b) (hc : BdP 100000000 c) : withinV m a b c = withinB m a b c := by
  unfold withinV withinB
  rw [sideB_eq ha hb hc, sideB_eq ha hb hm, sideB_eq hb hc hm, sideB_eq hc ha hm]
  congr 1
  by_cases h : sideZ a b c = 0 <;> simp [h]

/-- Nothing was found for i and j, up to n. -/
def okIJ (l : List (Int × Int)) (m : Int × Int) (r : Int) (i j n : Nat) : Prop := nearZ (l.getD i (0, 0)) (l.getD j (0, 0)) m r = false ∧ ∀ q, q < n → withinB m (l.getD i (0, 0)) (l.getD j (0, 0)) (l.getD q (0, 0)) = false
theorem rtouches_fun (c : Cl) (t : Tr) (p : Pa) (hb : ∀ q ∈ eightB (rcastC c t) p, BdP 100000000 q) (hm : BdP 100000000 ((rcastC c t).mx, (rcastC c t).my)) (hr : Bd 100000000 (rcastC c t).r) :
    Fun Tryz.prog 60 [.agg (clC c), .agg (trC t), paA p] (B (isB c t && touchRB (eightB (rcastC c t) p) ((rcastC c t).mx, (rcastC c t).my) (rcastC c t).r)) := by
  refine Fun.of_run cE rfl ?_
  refine Rn.call 1000 rfl _ (reach_fun c t) ?_
  refine Rn.ite (b := !isB c t) 1000 rfl (fun h => ?_) (fun h => ?_)
  · exact Rn.ret 1000 rfl rfl (congrArg B (by rw [Bool.not_eq_true'] at h; rw [h]; rfl))
  rw [Bool.not_eq_false'] at h
  rw [h, Bool.true_and]
  refine Rn.call 1000 rfl _ (axis_fun c t) ?_
  refine Rn.call 1000 rfl _ (rcorners_fun p) ?_
  refine Rn.stop 1000 rfl ?_
  repeat
    refine Rn.call 1000 rfl _ (along_fun c t (_, _) _) ?_
    refine Rn.call 1000 rfl _ (along_fun c t (_, _) _) ?_
    repeat (refine Rn.asr 1000 rfl rfl ?_)
    refine Rn.chk 1000 rfl (by kernel_rfl) ?_
    refine Rn.stop 1000 rfl ?_
  refine Rn.stop 1000 rfl ?_
  generalize rcastC c t = k at *
  -- the outer loop
  refine Rn.loop2 (fun _ => []) (fun x : List (Int × Int) × Nat => [(10, .ptr 3 0), (11, I k.r), (13, .osl 20 3), (15, I (x.2 : Int))]) (fun x => [(3, .flat (ptC (k.mx, k.my)) 106), (20, rowP x.1 3)]) 21
    (fun x => x.1 = eightB k p ∧ x.2 ≤ 8 ∧ ∀ i j, i < x.2 → j < i → okIJ x.1 (k.mx, k.my) k.r i j j)
    (fun x => 8 - x.2) (eightB k p, 0) ⟨rfl, by simp only; omega, fun i j h1 h2 => absurd h1 (by simp only; omega)⟩
    ⟨⟨rfl, rfl, rfl, rfl, rfl, .cons rfl (.refl rfl) (.cons rfl (.refl rfl) (.cons rfl (.refl rfl) (.cons rfl (.int _ _) .nil))), rfl⟩, trivial,
      .cons rfl (.flat' rfl rfl) (.cons rfl (.row_eq rfl rfl rfl fun i hi => by revert i; exact lt8 rfl rfl rfl rfl rfl rfl rfl rfl) .nil)⟩ ?_
  rintro ⟨l, i⟩ ⟨hl, hi, hall⟩ ih
  simp only at hl hi hall
  have hl8 : l.length = 8 := by rw [hl]; rfl
  have bd : ∀ q, q < 8 → BdP 100000000 (l.getD q (0, 0)) := fun q hq => hb _ (hl ▸ getZ_lt (by omega))
  rw [← hl] at ih ⊢
  have idx := touchRB_idx (l := l) (m := (k.mx, k.my)) (r := k.r) (by omega)
  have v : Nat.beq 3 3 = true := rfl
  refine Rn.asr 1000 rfl v ?_
  refine Rn.ite 1000 rfl (fun h => ?_) (fun h => ?_)
  · have h : (i : Int) < (l.length : Int) := of_decide_eq_true h
    have hi : i < 8 := by omega
    refine Rn.stop 1000 rfl ?_
    refine Rn.loop2 (fun _ => []) (fun j : Nat => [(10, .ptr 3 0), (11, I k.r), (13, .osl 20 3), (15, I (i : Int)), (16, I (j : Int))]) (fun x => [(3, .flat (ptC (k.mx, k.my)) 106), (20, rowP l 3)]) 21
      (fun j => j ≤ i ∧ ∀ j', j' < j → okIJ l (k.mx, k.my) k.r i j' j') (fun j => i - j) 0 ⟨Nat.zero_le _, fun j hj => absurd hj (by omega)⟩
      ⟨⟨rfl, rfl, rfl, rfl, rfl, .cons rfl (.refl rfl) (.cons rfl (.refl rfl) (.cons rfl (.refl rfl) (.cons rfl (.refl rfl) (.cons rfl (.int _ _) .nil)))), rfl⟩, trivial,
        .cons rfl (.flat' rfl rfl) (.cons rfl (.row_eq rfl rfl rfl fun i hi => rfl) .nil)⟩ ?_
    rintro j ⟨hj, hall2⟩ ih2
    have in1 : inB (i : Int) l.length = true := by simp only [inB, Bool.and_eq_true, decide_eq_true_eq]; omega
    refine Rn.ite 1000 rfl (fun h => ?_) (fun h => ?_)
    · have h : (j : Int) < (i : Int) := of_decide_eq_true h
      have hj : j < i := by omega
      have in2 : inB (j : Int) l.length = true := by simp only [inB, Bool.and_eq_true, decide_eq_true_eq]; omega
      repeat (first | refine Rn.asr 1000 rfl v ?_ | refine Rn.asr 1000 rfl in1 ?_ | refine Rn.asr 1000 rfl in2 ?_)
      refine Rn.call 1000 rfl _ (rnear_fun _ _ _ _ _ _ _) ?_
      refine Rn.chk 1000 rfl (by kernel_rfl) ?_
      have en : nearB (l.getD ((i : Int)).toNat (0, 0)) (l.getD ((j : Int)).toNat (0, 0)) (k.mx, k.my) k.r = nearZ (l.getD i (0, 0)) (l.getD j (0, 0)) (k.mx, k.my) k.r := by
        rw [Int.toNat_natCast, Int.toNat_natCast, nearB_eq (bd _ (by omega)) (bd _ (by omega)) hm hr]
      refine Rn.ite 1000 rfl (fun hn => ?_) (fun hn => ?_)
      · have hn : nearB (l.getD ((i : Int)).toNat (0, 0)) (l.getD ((j : Int)).toNat (0, 0)) (k.mx, k.my) k.r = true := hn
        rw [en] at hn
        exact Rn.ret 1000 rfl rfl (by rw [idx.2 ⟨i, j, by omega, hj, .inl hn⟩])
      · have hn : nearB (l.getD ((i : Int)).toNat (0, 0)) (l.getD ((j : Int)).toNat (0, 0)) (k.mx, k.my) k.r = false := hn
        rw [en] at hn
        refine Rn.stop 1000 rfl ?_
        refine Rn.loop2 (fun _ => []) (fun n : Nat => [(10, .ptr 3 0), (11, I k.r), (13, .osl 20 3), (15, I (i : Int)), (16, I (j : Int)), (17, I (n : Int))]) (fun x => [(3, .flat (ptC (k.mx, k.my)) 106), (20, rowP l 3)]) 21
          (fun n => n ≤ j ∧ okIJ l (k.mx, k.my) k.r i j n) (fun n => j - n) 0 ⟨Nat.zero_le _, hn, fun n hn => absurd hn (by omega)⟩
          ⟨⟨rfl, rfl, rfl, rfl, rfl, .cons rfl (.refl rfl) (.cons rfl (.refl rfl) (.cons rfl (.refl rfl) (.cons rfl (.refl rfl) (.cons rfl (.refl rfl) (.cons rfl (.int _ _) .nil))))), rfl⟩, trivial,
            .cons rfl (.flat' rfl rfl) (.cons rfl (.row_eq rfl rfl rfl fun i hi => rfl) .nil)⟩ ?_
        rintro n ⟨hnj, _, hall3⟩ ih3
        refine Rn.ite 1000 rfl (fun h => ?_) (fun h => ?_)
        · have h : (n : Int) < (j : Int) := of_decide_eq_true h
          have hnj : n < j := by omega
          have in3 : inB (n : Int) l.length = true := by simp only [inB, Bool.and_eq_true, decide_eq_true_eq]; omega
          repeat (first | refine Rn.asr 1000 rfl v ?_ | refine Rn.asr 1000 rfl in1 ?_ | refine Rn.asr 1000 rfl in2 ?_ | refine Rn.asr 1000 rfl in3 ?_)
          refine Rn.call 1000 rfl _ (within_fun (k.mx, k.my) (l.getD ((i : Int)).toNat (0, 0)) (l.getD ((j : Int)).toNat (0, 0)) (l.getD ((n : Int)).toNat (0, 0))) ?_
          refine Rn.chk 1000 rfl (by kernel_rfl) ?_
          have ew : withinV (k.mx, k.my) (l.getD ((i : Int)).toNat (0, 0)) (l.getD ((j : Int)).toNat (0, 0)) (l.getD ((n : Int)).toNat (0, 0)) = withinB (k.mx, k.my) (l.getD i (0, 0)) (l.getD j (0, 0)) (l.getD n (0, 0)) := by
            rw [Int.toNat_natCast, Int.toNat_natCast, Int.toNat_natCast, withinV_eq hm (bd _ (by omega)) (bd _ (by omega)) (bd _ (by omega))]
          refine Rn.ite (b := withinV (k.mx, k.my) (l.getD ((i : Int)).toNat (0, 0)) (l.getD ((j : Int)).toNat (0, 0)) (l.getD ((n : Int)).toNat (0, 0))) 1000 rfl (fun hw => ?_) (fun hw => ?_)
          · rw [ew] at hw
            exact Rn.ret 1000 rfl rfl (by rw [idx.2 ⟨i, j, by omega, hj, .inr ⟨n, hnj, hw⟩⟩])
          · rw [ew] at hw
            refine Rn.stop 1000 rfl ?_
            refine Rn.weaken trivial ?_ (ih3 (n + 1) (by omega) ⟨by omega, hn, fun q hq => ?_⟩)
            · exact ⟨⟨rfl, rfl, rfl, rfl, rfl, .cons rfl (.refl rfl) (.cons rfl (.refl rfl) (.cons rfl (.refl rfl) (.cons rfl (.refl rfl) (.cons rfl (.refl rfl) (.cons rfl (.eq rfl (congrArg I (w64_nat (n := n) (m := 8) (by omega) (by omega)))) .nil))))), rfl⟩, trivial,
                .cons rfl (.flat' rfl rfl) (.cons rfl (.row_eq rfl rfl rfl fun i hi => rfl) .nil)⟩
            · rcases Nat.lt_or_ge q n with hq' | hq'
              · exact hall3 q hq'
              · have : q = n := by omega
                subst this; exact hw
        · have h : ¬ (n : Int) < (j : Int) := of_decide_eq_false h
          have hnj : n = j := by omega
          subst hnj
          refine Rn.stop 1000 rfl ?_
          refine Rn.weaken trivial ?_ (ih2 (n + 1) (by omega) ⟨by omega, fun q hq => ?_⟩)
          · exact ⟨⟨rfl, rfl, rfl, rfl, rfl, .cons rfl (.refl rfl) (.cons rfl (.refl rfl) (.cons rfl (.refl rfl) (.cons rfl (.refl rfl) (.cons rfl (.eq rfl (congrArg I (w64_nat (n := n) (m := 8) (by omega) (by omega)))) .nil)))), rfl⟩, trivial,
              .cons rfl (.flat' rfl rfl) (.cons rfl (.row_eq rfl rfl rfl fun i hi => rfl) .nil)⟩
          · rcases Nat.lt_or_ge q n with hq' | hq'
            · exact hall2 q hq'
            · have : q = n := by omega
              subst this; exact ⟨hn, hall3⟩
    · have h : ¬ (j : Int) < (i : Int) := of_decide_eq_false h
      have hji : j = i := by omega
      subst hji
      refine Rn.stop 1000 rfl ?_
      refine Rn.weaken trivial ?_ (ih (l, j + 1) (by simp only; omega) ⟨rfl, by simp only; omega, fun q j' hq hj' => ?_⟩)
      · exact ⟨⟨rfl, rfl, rfl, rfl, rfl, .cons rfl (.refl rfl) (.cons rfl (.refl rfl) (.cons rfl (.refl rfl) (.cons rfl (.eq rfl (congrArg I (w64_nat (n := j) (m := 8) (by omega) (by omega)))) .nil))), rfl⟩, trivial,
          .cons rfl (.flat' rfl rfl) (.cons rfl (.row_eq rfl rfl rfl fun i hi => rfl) .nil)⟩
      · simp only at hq
        rcases Nat.lt_or_ge q j with hq' | hq'
        · exact hall q j' hq' hj'
        · have : q = j := by omega
          subst this; exact hall2 j' hj'
  · have h : ¬ (i : Int) < (l.length : Int) := of_decide_eq_false h
    have hi8 : i = 8 := by omega
    subst hi8
    have hno : touchRB l (k.mx, k.my) k.r = false := by
      cases hq : touchRB l (k.mx, k.my) k.r with
      | false => rfl
      | true =>
        obtain ⟨i, j, hi, hj, hh⟩ := idx.1 hq
        obtain ⟨g1, g2⟩ := hall i j (by omega) hj
        rcases hh with hh | ⟨n, hn, hh⟩
        · rw [g1] at hh; cases hh
        · rw [g2 n hn] at hh; cases hh
    exact Rn.ret 1000 rfl rfl (by rw [hno])
end Go.Proofs.Am
