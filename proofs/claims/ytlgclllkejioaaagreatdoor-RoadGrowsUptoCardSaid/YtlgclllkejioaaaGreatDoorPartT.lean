/- Part of the proofs about the layer of roads: The statement RoadGrows, walked. The arguments of RoadGrows and RoadMoves, opened. -/
import Derived.Test.YtlgclllkejioaaaGreatDoorPartQ
import Derived.Test.YtlgclllkejioaaaGreatDoorPartR
import Derived.Test.YtlgclllkejioaaaGreatDoorPartL
set_option linter.unusedVariables false
set_option linter.unusedSimpArgs false

/- The statement RoadGrows, walked. -/
namespace Go.Proofs.Am
open Go Go.Proofs.Geo
set_option maxRecDepth 100000

/-- What is to do behind the branchings, in the text's order. -/
def condsOf : Code → List AIt → List (List AIt)
  | .seq a b, k => condsOf a (.code b :: k) ++ condsOf b k
  | .cond _ a b, k => k :: (condsOf a k ++ condsOf b k)
  | .block id b, k => condsOf b (.inBlock id :: k)
  | .scope b, k => condsOf b (.inScope b :: k)
  | .loop b, k => condsOf b (.inLoop b :: k)
  | _, _ => []
def condAt (f : Func) (n : Nat) : List AIt := match f.body with | some b => nthL (condsOf b []) n | none => []
theorem FzA.rowArg {hp : Hp} {b n n' sz k : Nat} {get get' : Nat → List AV} {t : TypeId} {seen : List Nat} (h : tget hp b = some (.row n sz get t k)) (hb : memF b seen = true) (e : n' = n) (g : ∀ i, i < n → ArgsTo (get i) (get' i)) : FzA hp seen (.osl b k) (.rsl n' sz get') := by
  subst e
  refine .inr ⟨_, [b], [b], ?_, fun x hx => ?_, ArgTo.row g⟩
  · show (RM.rd b _).evalL hp [] = _
    simp [RM.evalL, h, Nat.beq_refl]
  · rw [List.mem_singleton] at hx; subst hx; exact memF_mem.1 hb

structure Gw where
  r : Int
  high : Int
  low : Int
  width : Int
  tree : Int
abbrev U8 (x : Int) : AV := .v (.int .u8 x)
abbrev gwC (g : Gw) : List AV := [U8 g.r, U8 g.high, U8 g.low, U8 g.width, U8 g.tree]
structure Gw.ok (g : Gw) : Prop where
  r : 0 ≤ g.r ∧ g.r ≤ 255
  high : 0 ≤ g.high ∧ g.high ≤ 255
  low : 0 ≤ g.low ∧ g.low ≤ 255
  width : 0 ≤ g.width ∧ g.width ≤ 255
  tree : 0 ≤ g.tree ∧ g.tree ≤ 255
def wgR (w : Int) (r : Rd) : Rd := ⟨r.name, r.kind, r.pts, w64 (mn2 r.width 30000 + w64 w)⟩
def gwT (g : Gw) (t : Tr) : Tr := ⟨t.x, t.y, w64 (mn2 t.r 20000 + w64 g.r), mx2 0 (w64 (mn2 t.low 1000 - w64 g.low)), w64 (mn2 t.high 1000 + w64 g.high)⟩
def gwI (s : Sc) (g : Gw) : Nat := ((w64 g.tree).tmod (s.trees.length : Int)).toNat
def gwL (s : Sc) (g : Gw) : List Tr := if 0 < s.trees.length then s.trees.set (gwI s g) (gwT g (s.trees.getD (gwI s g) default)) else s.trees
def gwS (s : Sc) (g : Gw) : Sc := ⟨s.roads.map (wgR g.width), gwL s g, s.fronts, s.cols⟩
def newT (a : Sp) (g : Gw) : Tr := ⟨a.x, a.y, w64 (1 + w64 g.r), 0, w64 (1 + w64 g.high)⟩
theorem gwL_len (s : Sc) (g : Gw) : (gwL s g).length = s.trees.length := by unfold gwL; split <;> simp
theorem gwI_lt {s : Sc} {g : Gw} (hg : g.ok) (h : 0 < s.trees.length) : gwI s g < s.trees.length ∧ inB ((w64 g.tree).tmod (s.trees.length : Int)) s.trees.length = true := by
  obtain ⟨h0, h1⟩ := hg.tree
  have e : (w64 g.tree).tmod (s.trees.length : Int) = g.tree % (s.trees.length : Int) := by
    rw [w64_id (by omega), Int.tmod_eq_emod_of_nonneg h0]
  have a := Int.emod_nonneg g.tree (show (s.trees.length : Int) ≠ 0 by omega)
  have b := Int.emod_lt_of_pos g.tree (show (0 : Int) < s.trees.length by omega)
  unfold gwI
  rw [e]
  refine ⟨by omega, ?_⟩
  simp only [inB, Bool.and_eq_true, decide_eq_true_eq]
  omega
theorem gwS_ok {s : Sc} (h : s.ok) (g : Gw) : (gwS s g).ok := by
  obtain ⟨h1, h2, h3, h4, h5, h6, h7⟩ := h
  refine ⟨by simpa [gwS] using h1, by show small (gwL s g).length; rw [gwL_len]; exact h2, h3, h4, fun r hr => ?_, h6, h7⟩
  obtain ⟨q, hq, rfl⟩ := List.mem_map.1 hr
  exact h5 q hq
theorem more_ok {s : Sc} (h : s.ok) (hl : s.trees.length ≤ 1048576) (t : Tr) : (moreS s t).ok := by
  obtain ⟨h1, h2, h3, h4, h5, h6, h7⟩ := h
  exact ⟨h1, by show small (s.trees ++ [t]).length; unfold small; simp; omega, h3, h4, h5, h6, h7⟩
theorem gw_grw {s : Sc} {g : Gw} (hg : g.ok) (h : goodE s = 0) : Grw s (gwS s g) := by
  have ok := good_ok h
  obtain ⟨r1, r2⟩ := hg.r
  obtain ⟨l1, l2⟩ := hg.low
  obtain ⟨h1, h2⟩ := hg.high
  obtain ⟨w1, w2⟩ := hg.width
  have hrd : ∀ k, k < s.roads.length → (gwS s g).roads.getD k default = wgR g.width (s.roads.getD k default) := fun k hk => map_getD' _ hk
  refine ⟨by simp [gwS], by rw [show (gwS s g).trees = gwL s g from rfl, gwL_len]; omega, rfl, fun k hk => by rw [hrd k hk]; rfl, fun k hk => ?_, fun k hk => ?_⟩
  · rw [hrd k hk]
    have hr := (road_ok ((good_parts h).2.1 k hk))
    have a := hr.2
    have b := hr.1.w
    show _ ≤ w64 (mn2 (s.roads.getD k default).width 30000 + w64 g.width)
    unfold mn2
    rw [w64_id (x := g.width) (by omega)]
    split
    · rw [w64_id (by omega)]; omega
    · rw [w64_id (by omega)]; omega
  · show GrT (s.trees.getD k default) ((gwL s g).getD k default)
    unfold gwL
    rw [if_pos (by omega)]
    by_cases e : gwI s g = k
    · have hk2 := ok.tr k hk
      have : (s.trees.set (gwI s g) (gwT g (s.trees.getD (gwI s g) default))).getD k default = gwT g (s.trees.getD k default) := by
        rw [List.getD_eq_getElem?_getD, e, List.getElem?_set_self hk]; rfl
      rw [this]
      obtain ⟨_, _, ⟨q1, q2⟩, ⟨q3, q4⟩, q5⟩ := hk2
      refine ⟨rfl, rfl, ?_, ?_, ?_⟩
      · show _ ≤ w64 (mn2 (s.trees.getD k default).r 20000 + w64 g.r)
        unfold mn2
        rw [w64_id (x := g.r) (by omega)]
        split <;> (rw [w64_id (by omega)]; omega)
      · show mx2 0 (w64 (mn2 (s.trees.getD k default).low 1000 - w64 g.low)) ≤ _
        unfold mx2 mn2
        rw [w64_id (x := g.low) (by omega)]
        rw [if_neg (by omega : ¬ (1000 : Int) < (s.trees.getD k default).low), w64_id (by omega)]
        split <;> omega
      · show _ ≤ w64 (mn2 (s.trees.getD k default).high 1000 + w64 g.high)
        unfold mn2
        rw [w64_id (x := g.high) (by omega)]
        split <;> (rw [w64_id (by omega)]; omega)
    · have : (s.trees.set (gwI s g) (gwT g (s.trees.getD (gwI s g) default))).getD k default = s.trees.getD k default := by
        rw [List.getD_eq_getElem?_getD, List.getElem?_set_ne e, ← List.getD_eq_getElem?_getD]
      rw [this]
      exact .refl _
/-- The roads, the first n of them wider. -/
def widV (w : Int) (l : List Rd) (n : Nat) (j : Nat) : Int := if j < n then w64 (mn2 (l.getD j default).width 30000 + w64 w) else (l.getD j default).width
def widGet (w : Int) (l : List Rd) (n : Nat) (j : Nat) : List AV := [S (l.getD j default).name, I (l.getD j default).kind, ptsA (l.getD j default).pts, I (widV w l n j)]
theorem widGet_all (w : Int) (l : List Rd) : ∀ i, i < l.length → rdC ((l.map (wgR w)).getD i default) = widGet w l l.length i := fun i hi => by
  unfold widGet widV
  rw [if_pos hi, map_getD' (wgR w) (d := default) hi]
  rfl
theorem widGet_zero (w : Int) (l : List Rd) : ∀ i, widGet w l 0 i = rdC (l.getD i default) := fun i => by
  unfold widGet widV
  rw [if_neg (by omega)]
theorem widGet_step (w : Int) (l : List Rd) (n : Nat) : ∀ i, widGet w l (n + 1) i = setGet (widGet w l n) n 3 [I (w64 (mn2 (widV w l n n) 30000 + w64 w))] i := fun i => by
  unfold setGet
  by_cases e : i = n
  · subst e
    rw [Nat.beq_refl]
    unfold widGet widV
    rw [if_pos (by omega), if_neg (by omega)]
    rfl
  · have : Nat.beq i n = false := by
      cases hq : Nat.beq i n with
      | false => rfl
      | true => exact absurd (beq_t hq) e
    rw [this]
    simp only
    unfold widGet widV
    by_cases h : i < n
    · rw [if_pos h, if_pos (by omega)]
    · rw [if_neg h, if_neg (by omega)]
theorem set3_get (g : Gw) (l : List Tr) (n : Nat) (hn : n < l.length) (x y z : Int) (hx : x = (gwT g (l.getD n default)).r) (hy : y = (gwT g (l.getD n default)).high) (hz : z = (gwT g (l.getD n default)).low) :
    ∀ i, trC ((l.set n (gwT g (l.getD n default))).getD i default) = setGet (setGet (setGet (fun j => trC (l.getD j default)) n 2 [I x]) n 4 [I y]) n 3 [I z] i := fun i => by
  unfold setGet
  by_cases e : i = n
  · subst e
    rw [Nat.beq_refl, List.getD_eq_getElem?_getD, List.getElem?_set_self hn, hx, hy, hz]
    rfl
  · have : Nat.beq i n = false := by
      cases hq : Nat.beq i n with
      | false => rfl
      | true => exact absurd (beq_t hq) e
    rw [this, List.getD_eq_getElem?_getD, List.getElem?_set_ne (fun q => e q.symm), ← List.getD_eq_getElem?_getD]

abbrev sc4 (s : Sc) : List AV := [rdsA s.roads, trsA s.trees, ftsA s.fronts, clsA s.cols]
abbrev spC (a : Sp) : List AV := [I a.i, I a.x, I a.y, I a.p.x0, I a.p.y0, I a.p.x1, I a.p.y1]
noncomputable abbrev cfG (k : Nat) (tm : Tm) (hp : Hp) (nx : Nat) : Conf := ⟨⟨7, tm, Tryz.f7.ntmps, condAt Tryz.f7 k, [], none⟩, [], hp, nx⟩
theorem more_get (a : Sp) (g : Gw) (l : List Tr) {h : Nat → List AV} (hh : h 0 = [I a.x, I a.y, I (w64 (1 + w64 g.r)), .n .i64 0, I (w64 (1 + w64 g.high))]) :
    ∀ i, i < l.length + 1 → ArgsTo (appGet l.length (fun j => trC (l.getD j default)) h i) (trC ((l ++ [newT a g]).getD i default)) := fun i hi => by
  unfold appGet
  by_cases e : i < l.length
  · have : Nat.blt i l.length = true := by rw [Nat.blt_eq]; exact e
    rw [this, List.getD_eq_getElem?_getD (l := l ++ _), List.getElem?_append_left e, ← List.getD_eq_getElem?_getD]
    exact ArgsTo.refl _
  · have hb : Nat.blt i l.length = false := by
      cases hq : Nat.blt i l.length with
      | false => rfl
      | true => rw [Nat.blt_eq] at hq; exact absurd hq e
    have ei : i = l.length := by omega
    rw [hb]
    simp only
    rw [ei, Nat.sub_self, hh, List.getD_eq_getElem?_getD, List.getElem?_append_right (Nat.le_refl _), Nat.sub_self]
    exact ⟨.refl _, .refl _, .refl _, fun m v r => by cases r; exact .v _, .refl _, trivial⟩

/-- The end: with one tree more. -/
theorem grows_more (s m : Sc) (hm : m.ok) (a : Sp) (em e1 a0 x0 : Int) (hem : em = goodE m)
    (hh : goodE m = 0 → (shadedS m a.i a.x a.y).2 = e1 ∧ (0 ≤ a0 → (shadedS m a.i a.x a.y).1 = a0) ∧ x0 ≤ (shadeS m a.i a.p).1) :
    Rn cLH 7 (· = B true) (cfG 3 [(3, .ptr 0 0), (4, .ptr 1 0), (10, .ptr 15 0), (13, I e1), (19, I em), (20, I a0), (21, I x0)] [(0, .flat (sc4 s) 27), (1, .flat (spC a) 31), (15, .flat (sc4 m) 27)] 16) := by
  refine Rn.ite (b := em == 0) 1000 rfl (fun h => ?_) (fun h => ?_)
  · obtain ⟨f1, f2, f3⟩ := hh (hem ▸ eq_of_beq h)
    have k1 := Shaded_fun m hm a.i a.x a.y
    have k2 := Shade_fun m hm a.i a.p
    generalize shadedS m a.i a.x a.y = b at *
    generalize shadeS m a.i a.p = y at *
    obtain ⟨b1, b2⟩ := b
    obtain ⟨y1, y2⟩ := y
    simp only at f1 f2 f3 k1 k2
    refine Rn.call 1000 rfl _ k1 ?_
    refine Rn.call 1000 rfl _ k2 ?_
    refine Rn.no (b := !(e1 == b2)) 1000 rfl (by rw [f1]; simp) ?_
    refine Rn.ite (b := decide (a0 ≥ 0)) 1000 rfl (fun h1 => ?_) (fun h1 => ?_)
    · refine Rn.no (b := !(b1 == a0)) 1000 rfl (by rw [f2 (of_decide_eq_true h1)]; simp) ?_
      refine Rn.no (b := decide (y1 < x0)) 1000 rfl (decide_eq_false (by omega)) ?_
      refine Rn.call 1000 rfl _ awake_fun ?_
      exact Rn.ret 1000 rfl rfl rfl
    · refine Rn.no (b := decide (y1 < x0)) 1000 rfl (decide_eq_false (by omega)) ?_
      refine Rn.call 1000 rfl _ awake_fun ?_
      exact Rn.ret 1000 rfl rfl rfl
  · refine Rn.call 1000 rfl _ awake_fun ?_
    exact Rn.ret 1000 rfl rfl rfl

theorem grows_rest (s : Sc) (hs : s.ok) (hl : s.trees.length ≤ 1048576) (a : Sp) (g : Gw) (hg : g.ok) :
    Rn cLH 7 (· = B true) (cfG 1 [(3, .ptr 0 0), (4, .ptr 1 0), (5, .ptr 2 0), (7, .ptr 3 0)]
      [(0, .flat (sc4 s) 27), (1, .flat (spC a) 31), (2, .flat (gwC g) 51), (3, .flat [rdsA (s.roads.map (wgR g.width)), .osl 14 0, ftsA s.fronts, clsA s.cols] 27), (14, .row s.trees.length 5 (fun j => trC ((gwL s g).getD j default)) 57 0)] 15) := by
  refine Rn.asr (b := Nat.ble s.trees.length 4194304) 1000 rfl (Nat.ble_eq_true_of_le (by omega)) ?_
  refine Rn.asr 1000 rfl rfl ?_
  refine Rn.asr (b := Nat.ble (s.trees.length + 1) 4194304) 1000 rfl (Nat.ble_eq_true_of_le (by omega)) ?_
  refine Rn.chk 1000 rfl (by kernel_rfl) ?_
  refine Rn.freeze [14] _ _ .refl (FzX.hp (.set (c := 3) (x' := .flat (sc4 (gwS s g)) 27) rfl (.flat ⟨.same, .rowTo rfl rfl (gwL_len s g) fun i hi => rfl, .same, .same, trivial⟩) .refl)) ?_
  refine Rn.freeze [20] _ _ .refl (FzX.hp (.set (c := 15) (x' := .flat (sc4 (moreS s (newT a g))) 27) rfl (.flat ⟨.same, .rowArg rfl rfl (by simp [moreS]) (more_get a g s.trees rfl), .same, .same, trivial⟩) .refl)) ?_
  have hu := gwS_ok hs g
  have hm := more_ok hs hl (newT a g)
  refine Rn.call 1000 rfl _ (check_fun s hs) ?_
  refine Rn.call 1000 rfl _ (check_fun (gwS s g) hu) ?_
  refine Rn.call 1000 rfl _ (check_fun (moreS s (newT a g)) hm) ?_
  refine Rn.ite (b := !(goodE s == 0)) 1000 rfl (fun h => ?_) (fun h => ?_)
  · refine Rn.call 1000 rfl _ awake_fun ?_
    exact Rn.ret 1000 rfl rfl rfl
  have g0 : goodE s = 0 := by simpa using h
  have grw := gw_grw hg g0
  have k1 := Shaded_fun s hs a.i a.x a.y
  have k2 := Shade_fun s hs a.i a.p
  have k3 := On_fun s hs a.i a.x a.y
  have k4 := Meets_fun s hs a.i a.p
  have m1 : goodE (moreS s (newT a g)) = 0 → (shadedS (moreS s (newT a g)) a.i a.x a.y).2 = (shadedS s a.i a.x a.y).2 ∧ (0 ≤ (shadedS s a.i a.x a.y).1 → (shadedS (moreS s (newT a g)) a.i a.x a.y).1 = (shadedS s a.i a.x a.y).1) ∧ (shadeS s a.i a.p).1 ≤ (shadeS (moreS s (newT a g)) a.i a.p).1 := fun h =>
    ⟨(more_shaded g0 h a.i a.x a.y).1, (more_shaded g0 h a.i a.x a.y).2, (more_grw s _).shade g0 h a.i a.p⟩
  have u1 : goodE (gwS s g) = 0 → _ := fun h => grw.shaded g0 h a.i a.x a.y
  have u2 : goodE (gwS s g) = 0 → _ := fun h => grw.shade g0 h a.i a.p
  have u3 : goodE (gwS s g) = 0 → _ := fun h => grw.on g0 h a.i a.x a.y
  have u4 : goodE (gwS s g) = 0 → _ := fun h => grw.meets g0 h a.i a.p
  generalize shadedS s a.i a.x a.y = sa at *
  generalize shadeS s a.i a.p = sx at *
  generalize onS s a.i a.x a.y = so at *
  generalize meetsS s a.i a.p = sm at *
  obtain ⟨a0, e1⟩ := sa
  obtain ⟨x0, x1⟩ := sx
  obtain ⟨o0, o1⟩ := so
  obtain ⟨m0, mm⟩ := sm
  simp only at k1 k2 k3 k4 m1 u1 u2 u3 u4
  have tail := grows_more s (moreS s (newT a g)) hm a (goodE (moreS s (newT a g))) e1 a0 x0 rfl m1
  refine Rn.call 1000 rfl _ k1 ?_
  refine Rn.call 1000 rfl _ k2 ?_
  refine Rn.call 1000 rfl _ k3 ?_
  refine Rn.call 1000 rfl _ k4 ?_
  refine Rn.ite (b := goodE (gwS s g) == 0) 1000 rfl (fun h => ?_) (fun h => ?_)
  · have hu0 : goodE (gwS s g) = 0 := eq_of_beq h
    obtain ⟨p1, p2⟩ := u1 hu0
    have p3 := u2 hu0
    obtain ⟨p4, p5⟩ := u3 hu0
    obtain ⟨p6, p7⟩ := u4 hu0
    have q1 := Shaded_fun (gwS s g) hu a.i a.x a.y
    have q2 := Shade_fun (gwS s g) hu a.i a.p
    have q3 := On_fun (gwS s g) hu a.i a.x a.y
    have q4 := Meets_fun (gwS s g) hu a.i a.p
    clear u1 u2 u3 u4 k1 k2 k3 k4 m1
    generalize shadedS (gwS s g) a.i a.x a.y = ta at *
    generalize shadeS (gwS s g) a.i a.p = tx at *
    generalize onS (gwS s g) a.i a.x a.y = to at *
    generalize meetsS (gwS s g) a.i a.p = tm at *
    obtain ⟨b0, b1⟩ := ta
    obtain ⟨y0, y1⟩ := tx
    obtain ⟨i0, i1⟩ := to
    obtain ⟨n0, n1⟩ := tm
    simp only at p1 p2 p3 p4 p5 p6 p7 q1 q2 q3 q4
    refine Rn.call 1000 rfl _ q1 ?_
    refine Rn.call 1000 rfl _ q2 ?_
    refine Rn.no (b := !(e1 == b1)) 1000 rfl (by rw [p1]; simp) ?_
    refine Rn.ite (b := decide (a0 ≥ 0)) 1000 rfl (fun h1 => ?_) (fun h1 => ?_)
    · obtain ⟨r1, r2⟩ := p2 (of_decide_eq_true h1)
      refine Rn.no (b := decide (b0 < 0)) 1000 rfl (decide_eq_false (by omega)) ?_
      refine Rn.no (b := decide (b0 > a0)) 1000 rfl (decide_eq_false (by omega)) ?_
      refine Rn.no (b := decide (y0 < x0)) 1000 rfl (decide_eq_false (by omega)) ?_
      refine Rn.call 1000 rfl _ q3 ?_
      refine Rn.call 1000 rfl _ q4 ?_
      refine Rn.no (b := !(i1 == o1)) 1000 rfl (by rw [p4]; simp) ?_
      refine Rn.no (b := !(n1 == mm)) 1000 rfl (by rw [p6]; simp) ?_
      refine Rn.ite (b := o0) 1000 rfl (fun h2 => ?_) (fun h2 => ?_)
      · refine Rn.no (b := !i0) 1000 rfl (by rw [p5 h2]; rfl) ?_
        refine Rn.no (b := decide (n0 < m0)) 1000 rfl (decide_eq_false (by omega)) ?_
        refine Rn.stop 1 rfl ?_
        refine Rn.weakenC ?_ tail
        exact ⟨⟨rfl, rfl, rfl, rfl, rfl, .cons rfl (.refl rfl) (.cons rfl (.refl rfl) (.cons rfl (.refl rfl) (.cons rfl (.refl rfl) (.cons rfl (.refl rfl) (.cons rfl (.refl rfl) (.cons rfl (.refl rfl) .nil)))))), rfl⟩, trivial, .cons rfl (.flat' rfl rfl) (.cons rfl (.flat' rfl rfl) (.cons rfl (.flat' rfl rfl) .nil))⟩
      · refine Rn.no (b := decide (n0 < m0)) 1000 rfl (decide_eq_false (by omega)) ?_
        refine Rn.stop 1 rfl ?_
        refine Rn.weakenC ?_ tail
        exact ⟨⟨rfl, rfl, rfl, rfl, rfl, .cons rfl (.refl rfl) (.cons rfl (.refl rfl) (.cons rfl (.refl rfl) (.cons rfl (.refl rfl) (.cons rfl (.refl rfl) (.cons rfl (.refl rfl) (.cons rfl (.refl rfl) .nil)))))), rfl⟩, trivial, .cons rfl (.flat' rfl rfl) (.cons rfl (.flat' rfl rfl) (.cons rfl (.flat' rfl rfl) .nil))⟩
    · refine Rn.no (b := decide (y0 < x0)) 1000 rfl (decide_eq_false (by omega)) ?_
      refine Rn.call 1000 rfl _ q3 ?_
      refine Rn.call 1000 rfl _ q4 ?_
      refine Rn.no (b := !(i1 == o1)) 1000 rfl (by rw [p4]; simp) ?_
      refine Rn.no (b := !(n1 == mm)) 1000 rfl (by rw [p6]; simp) ?_
      refine Rn.ite (b := o0) 1000 rfl (fun h2 => ?_) (fun h2 => ?_)
      · refine Rn.no (b := !i0) 1000 rfl (by rw [p5 h2]; rfl) ?_
        refine Rn.no (b := decide (n0 < m0)) 1000 rfl (decide_eq_false (by omega)) ?_
        refine Rn.stop 1 rfl ?_
        refine Rn.weakenC ?_ tail
        exact ⟨⟨rfl, rfl, rfl, rfl, rfl, .cons rfl (.refl rfl) (.cons rfl (.refl rfl) (.cons rfl (.refl rfl) (.cons rfl (.refl rfl) (.cons rfl (.refl rfl) (.cons rfl (.refl rfl) (.cons rfl (.refl rfl) .nil)))))), rfl⟩, trivial, .cons rfl (.flat' rfl rfl) (.cons rfl (.flat' rfl rfl) (.cons rfl (.flat' rfl rfl) .nil))⟩
      · refine Rn.no (b := decide (n0 < m0)) 1000 rfl (decide_eq_false (by omega)) ?_
        refine Rn.stop 1 rfl ?_
        refine Rn.weakenC ?_ tail
        exact ⟨⟨rfl, rfl, rfl, rfl, rfl, .cons rfl (.refl rfl) (.cons rfl (.refl rfl) (.cons rfl (.refl rfl) (.cons rfl (.refl rfl) (.cons rfl (.refl rfl) (.cons rfl (.refl rfl) (.cons rfl (.refl rfl) .nil)))))), rfl⟩, trivial, .cons rfl (.flat' rfl rfl) (.cons rfl (.flat' rfl rfl) (.cons rfl (.flat' rfl rfl) .nil))⟩
  · refine Rn.stop 1 rfl ?_
    refine Rn.weakenC ?_ tail
    exact ⟨⟨rfl, rfl, rfl, rfl, rfl, .cons rfl (.refl rfl) (.cons rfl (.refl rfl) (.cons rfl (.refl rfl) (.cons rfl (.refl rfl) (.cons rfl (.refl rfl) (.cons rfl (.refl rfl) (.cons rfl (.refl rfl) .nil)))))), rfl⟩, trivial, .cons rfl (.flat' rfl rfl) (.cons rfl (.flat' rfl rfl) (.cons rfl (.flat' rfl rfl) .nil))⟩

theorem roadGrows_fun (s : Sc) (hs : s.ok) (hr : s.roads.length ≤ 1048576) (hl : s.trees.length ≤ 1048576) (a : Sp) (g : Gw) (hg : g.ok) : Fun Tryz.prog 7 [scA s, .agg (spC a), .agg (gwC g)] (B true) := by
  refine Fun.of_run cLH rfl ?_
  refine Rn.asr (b := Nat.ble s.roads.length 4194304) 1000 rfl (Nat.ble_eq_true_of_le (by omega)) ?_
  refine Rn.asr (b := Nat.ble s.trees.length 4194304) 1000 rfl (Nat.ble_eq_true_of_le (by omega)) ?_
  refine Rn.chk 1000 rfl (by kernel_rfl) ?_
  refine Rn.stop 1000 rfl ?_
  refine Rn.loop2 (fun _ => []) (fun n : Nat => [(3, .ptr 0 0), (4, .ptr 1 0), (5, .ptr 2 0), (7, .ptr 3 0), (8, I (n : Int))])
    (fun n => [(0, .flat (sc4 s) 27), (1, .flat (spC a) 31), (2, .flat (gwC g) 51), (3, .flat [.osl 8 0, .osl 14 0, ftsA s.fronts, clsA s.cols] 27), (8, .row s.roads.length 4 (widGet g.width s.roads n) 54 0), (14, .row s.trees.length 5 (fun j => trC (s.trees.getD j default)) 57 0)]) 15
    (fun n => n ≤ s.roads.length) (fun n => s.roads.length - n) 0 (Nat.zero_le _)
    ⟨⟨rfl, rfl, rfl, rfl, rfl, .cons rfl (.refl rfl) (.cons rfl (.refl rfl) (.cons rfl (.refl rfl) (.cons rfl (.refl rfl) (.cons rfl (.int _ _) .nil)))), rfl⟩, trivial,
      .cons rfl (.flat' rfl rfl) (.cons rfl (.flat' rfl rfl) (.cons rfl (.flat' rfl rfl) (.cons rfl (.flat' rfl rfl) (.cons rfl (.row rfl fun i hi => widGet_zero _ _ i) (.cons rfl (.row rfl fun i hi => rfl) .nil)))))⟩ ?_
  rintro n hn ih
  refine Rn.asr 1000 rfl rfl ?_
  refine Rn.ite (b := decide ((n : Int) < (s.roads.length : Int))) 1000 rfl (fun h => ?_) (fun h => ?_)
  · have h : n < s.roads.length := by have := of_decide_eq_true h; omega
    have in1 : inB (n : Int) s.roads.length = true := by simp only [inB, Bool.and_eq_true, decide_eq_true_eq]; omega
    repeat (first | refine Rn.asr 1000 rfl rfl ?_ | refine Rn.asr 1000 rfl in1 ?_)
    refine Rn.chk 1000 rfl (by kernel_rfl) ?_
    refine Rn.stop 1000 rfl ?_
    refine Rn.weaken trivial ?_ (ih (n + 1) (by omega) h)
    refine ⟨⟨rfl, rfl, rfl, rfl, rfl, .cons rfl (.refl rfl) (.cons rfl (.refl rfl) (.cons rfl (.refl rfl) (.cons rfl (.refl rfl) (.cons rfl (.eq rfl (congrArg I (w64_nat (m := 1048577) (by omega) (by omega)))) .nil)))), rfl⟩, trivial,
      .cons rfl (.flat' rfl rfl) (.cons rfl (.flat' rfl rfl) (.cons rfl (.flat' rfl rfl) (.cons rfl (.flat' rfl rfl) (.cons rfl (.row rfl fun i _ => ?_) (.cons rfl (.row rfl fun i hi => rfl) .nil)))))⟩
    exact widGet_step _ _ _ i
  · have h : n = s.roads.length := by have := of_decide_eq_false h; omega
    subst h
    refine Rn.freeze [8] _ _ .refl (FzX.hp (.set (c := 3) (x' := .flat [rdsA (s.roads.map (wgR g.width)), .osl 14 0, ftsA s.fronts, clsA s.cols] 27) rfl
      (.flat ⟨.rowTo rfl rfl (by simp) (widGet_all g.width s.roads), .same, .same, .same, trivial⟩) .refl)) ?_
    refine Rn.asr 1000 rfl rfl ?_
    have rest := grows_rest s hs hl a g hg
    refine Rn.ite (b := decide ((s.trees.length : Int) > 0)) 1000 rfl (fun h => ?_) (fun h => ?_)
    · have h : 0 < s.trees.length := by have := of_decide_eq_true h; omega
      obtain ⟨in1, in2⟩ := gwI_lt hg h
      have nz : (!(decide ((s.trees.length : Int) = 0))) = true := by rw [Bool.not_eq_true', decide_eq_false_iff_not]; omega
      repeat (first | refine Rn.asr 1000 rfl rfl ?_ | refine Rn.asr 1000 rfl nz ?_ | refine Rn.asr 1000 rfl in2 ?_)
      refine Rn.chk 1000 rfl (by kernel_rfl) ?_
      repeat (refine Rn.asr 1000 rfl rfl ?_)
      refine Rn.chk 1000 rfl (by kernel_rfl) ?_
      refine Rn.weakenC ?_ rest
      refine ⟨⟨rfl, rfl, rfl, rfl, rfl, .cons rfl (.refl rfl) (.cons rfl (.refl rfl) (.cons rfl (.refl rfl) (.cons rfl (.refl rfl) .nil))), rfl⟩, trivial,
        .cons rfl (.flat' rfl rfl) (.cons rfl (.flat' rfl rfl) (.cons rfl (.flat' rfl rfl) (.cons rfl (.flat' rfl rfl) (.cons rfl (.row rfl fun i _ => ?_) .nil))))⟩
      unfold gwL
      rw [if_pos h]
      exact set3_get g s.trees (gwI s g) in1 _ _ _ rfl rfl rfl i
    · have h : ¬ 0 < s.trees.length := by have := of_decide_eq_false h; omega
      refine Rn.stop 1 rfl ?_
      refine Rn.weakenC ?_ rest
      refine ⟨⟨rfl, rfl, rfl, rfl, rfl, .cons rfl (.refl rfl) (.cons rfl (.refl rfl) (.cons rfl (.refl rfl) (.cons rfl (.refl rfl) .nil))), rfl⟩, trivial,
        .cons rfl (.flat' rfl rfl) (.cons rfl (.flat' rfl rfl) (.cons rfl (.flat' rfl rfl) (.cons rfl (.flat' rfl rfl) (.cons rfl (.row rfl fun i _ => ?_) .nil))))⟩
      unfold gwL
      rw [if_neg h]
end Go.Proofs.Am

/- The arguments of RoadGrows and RoadMoves, opened. -/
namespace Go.Proofs.Am
open Go Go.ChangeShapes Go.WideShapes Go.RowKit
set_option maxRecDepth 100000
variable {H : Type} {enc : TypeId × Value → H} {W : World}
theorem cel51 : Tryz.prog.cellsOf 51 = 5 := by kernel_rfl
theorem u8_bd {z : Int} (h : (Lit.int .u8 z).wf = true) : 0 ≤ z ∧ z ≤ 255 := by simpa [Lit.wf, IntKind.min, IntKind.max, IntKind.signed, IntKind.bits] using h
theorem op51 : Opens enc Tryz.prog W 51 gwC Gw.ok := fun fuel cs x h => by
  obtain ⟨hl, m, hf⟩ := field_of Tryz.underlying51 h
  obtain ⟨_, f0⟩ := hf 0 _ rfl
  obtain ⟨a0, h0, r0⟩ := op5 _ _ _ f0
  have r0 := RC.cut (off := 0) cel5 r0
  obtain ⟨_, f1⟩ := hf 1 _ rfl
  obtain ⟨a1, h1, r1⟩ := op5 _ _ _ f1
  have r1 := RC.cut (off := 1) cel5 r1
  obtain ⟨_, f2⟩ := hf 2 _ rfl
  obtain ⟨a2, h2, r2⟩ := op5 _ _ _ f2
  have r2 := RC.cut (off := 2) cel5 r2
  obtain ⟨_, f3⟩ := hf 3 _ rfl
  obtain ⟨a3, h3, r3⟩ := op5 _ _ _ f3
  have r3 := RC.cut (off := 3) cel5 r3
  obtain ⟨_, f4⟩ := hf 4 _ rfl
  obtain ⟨a4, h4, r4⟩ := op5 _ _ _ f4
  have r4 := RC.cut (off := 4) cel5 r4
  exact ⟨⟨a0, a1, a2, a3, a4⟩, ⟨u8_bd h0, u8_bd h1, u8_bd h2, u8_bd h3, u8_bd h4⟩, whole_of (hl.trans cel51) (RC.join (off := 0) (n := 4) (k := 1) (RC.join (off := 0) (n := 3) (k := 1) (RC.join (off := 0) (n := 2) (k := 1) (RC.join (off := 0) (n := 1) (k := 1) r0 r1) r2) r3) r4)⟩
end Go.Proofs.Am
