/- Part of the proofs about the layer of roads: The box of a road. Loops in which the next block's number may change. The squares that cover a road: what they are. Patches, the reference's. Patches, the program's. The statement RoadPatches, walked. -/
import Derived.Test.YtlgclllkejioaaaGreatDoorPartN
set_option linter.unusedVariables false
set_option linter.unusedSimpArgs false

/- The box of a road. -/
namespace Go.Proofs.Am
open Go Go.Proofs.Geo
set_option maxRecDepth 100000

/-- The least and the greatest of the first numbers. -/
def mnN (c : Nat → Int) : Nat → Int
  | 0 => c 0
  | k + 1 => mn2 (mnN c k) (c k)
def mxN (c : Nat → Int) : Nat → Int
  | 0 => c 0
  | k + 1 => mx2 (mxN c k) (c k)
def ptX (r : Rd) (k : Nat) : Int := (r.pts.getD k (0, 0)).1
def ptY (r : Rd) (k : Nat) : Int := (r.pts.getD k (0, 0)).2
noncomputable abbrev fsPa : List (Nat × Func) := [(87, Tryz.f87), (35, Tryz.f35), (36, Tryz.f36), (11, Tryz.f11)]
theorem cPa : CtxOK Tryz.prog (ctx [] fsPa) := ctx_ok (show FsOK Tryz.prog fsPa from ⟨Tryz.func87, Tryz.call87, Tryz.func35, Tryz.call35, Tryz.func36, Tryz.call36, Tryz.func11, Tryz.call11, trivial⟩) rfl

theorem box0_fun {r : Rd} (hr : RdOk r) : Fun Tryz.prog 87 [.agg (rdC r), I 0] (.tup [I (mnN (ptX r) r.pts.length), I (mxN (ptX r) r.pts.length)]) := by
  obtain ⟨hlo, hhi, -, hw, -⟩ := id hr
  have in0 : inB 0 r.pts.length = true := by simp only [inB, Bool.and_eq_true, decide_eq_true_eq]; omega
  have in9 : inB 0 2 = true := rfl
  refine Fun.of_run cPa rfl ?_
  refine Rn.asr 1000 rfl in0 ?_
  refine Rn.asr 1000 rfl in9 ?_
  refine Rn.asr 1000 rfl in0 ?_
  refine Rn.asr 1000 rfl in9 ?_
  refine Rn.chk 1000 rfl (by kernel_rfl) ?_
  refine Rn.stop 1000 rfl ?_
  refine Rn.loop2 (fun _ => []) (fun k : Nat => [(1, I 0), (2, .ptr 0 0), (6, I (mnN (ptX r) k)), (7, I (mxN (ptX r) k)), (8, I (k : Int))]) (fun _ => [(0, .flat (rdC r) 54)]) 1
    (fun k => k ≤ r.pts.length) (fun k => r.pts.length - k) 0 (Nat.zero_le _)
    ⟨⟨rfl, rfl, rfl, rfl, rfl, .cons rfl (.refl rfl) (.cons rfl (.refl rfl) (.cons rfl (.refl rfl) (.cons rfl (.refl rfl) (.cons rfl (.int _ _) .nil)))), rfl⟩, trivial, .cons rfl (.flat' rfl rfl) .nil⟩ ?_
  rintro k hk ih
  refine Rn.ite (b := decide ((k : Int) < (r.pts.length : Int))) 1000 rfl (fun h => ?_) (fun h => ?_)
  · have h : k < r.pts.length := by have := of_decide_eq_true h; omega
    have in1 : inB (k : Int) r.pts.length = true := by simp only [inB, Bool.and_eq_true, decide_eq_true_eq]; omega
    refine Rn.asr 1000 rfl in1 ?_
    refine Rn.asr 1000 rfl in9 ?_
    refine Rn.asr 1000 rfl in1 ?_
    refine Rn.asr 1000 rfl in9 ?_
    refine Rn.chk 1000 rfl (by kernel_rfl) ?_
    refine Rn.stop 1000 rfl ?_
    refine Rn.weaken trivial ?_ (ih (k + 1) (by omega) h)
    exact ⟨⟨rfl, rfl, rfl, rfl, rfl, .cons rfl (.refl rfl) (.cons rfl (.refl rfl) (.cons rfl (.refl rfl) (.cons rfl (.refl rfl) (.cons rfl (.eq rfl (congrArg I (w64_nat (m := 8) (by omega) (by omega)))) .nil)))), rfl⟩, trivial, .cons rfl (.flat' rfl rfl) .nil⟩
  · have h : ¬ (k : Int) < (r.pts.length : Int) := of_decide_eq_false h
    have : k = r.pts.length := by omega
    subst this
    exact Rn.ret 1000 rfl rfl rfl
theorem box1p_fun {r : Rd} (hr : RdOk r) : Fun Tryz.prog 87 [.agg (rdC r), I 1] (.tup [I (mnN (ptY r) r.pts.length), I (mxN (ptY r) r.pts.length)]) := by
  obtain ⟨hlo, hhi, -, hw, -⟩ := id hr
  have in0 : inB 0 r.pts.length = true := by simp only [inB, Bool.and_eq_true, decide_eq_true_eq]; omega
  have in9 : inB 1 2 = true := rfl
  refine Fun.of_run cPa rfl ?_
  refine Rn.asr 1000 rfl in0 ?_
  refine Rn.asr 1000 rfl in9 ?_
  refine Rn.asr 1000 rfl in0 ?_
  refine Rn.asr 1000 rfl in9 ?_
  refine Rn.chk 1000 rfl (by kernel_rfl) ?_
  refine Rn.stop 1000 rfl ?_
  refine Rn.loop2 (fun _ => []) (fun k : Nat => [(1, I 1), (2, .ptr 0 0), (6, I (mnN (ptY r) k)), (7, I (mxN (ptY r) k)), (8, I (k : Int))]) (fun _ => [(0, .flat (rdC r) 54)]) 1
    (fun k => k ≤ r.pts.length) (fun k => r.pts.length - k) 0 (Nat.zero_le _)
    ⟨⟨rfl, rfl, rfl, rfl, rfl, .cons rfl (.refl rfl) (.cons rfl (.refl rfl) (.cons rfl (.refl rfl) (.cons rfl (.refl rfl) (.cons rfl (.int _ _) .nil)))), rfl⟩, trivial, .cons rfl (.flat' rfl rfl) .nil⟩ ?_
  rintro k hk ih
  refine Rn.ite (b := decide ((k : Int) < (r.pts.length : Int))) 1000 rfl (fun h => ?_) (fun h => ?_)
  · have h : k < r.pts.length := by have := of_decide_eq_true h; omega
    have in1 : inB (k : Int) r.pts.length = true := by simp only [inB, Bool.and_eq_true, decide_eq_true_eq]; omega
    refine Rn.asr 1000 rfl in1 ?_
    refine Rn.asr 1000 rfl in9 ?_
    refine Rn.asr 1000 rfl in1 ?_
    refine Rn.asr 1000 rfl in9 ?_
    refine Rn.chk 1000 rfl (by kernel_rfl) ?_
    refine Rn.stop 1000 rfl ?_
    refine Rn.weaken trivial ?_ (ih (k + 1) (by omega) h)
    exact ⟨⟨rfl, rfl, rfl, rfl, rfl, .cons rfl (.refl rfl) (.cons rfl (.refl rfl) (.cons rfl (.refl rfl) (.cons rfl (.refl rfl) (.cons rfl (.eq rfl (congrArg I (w64_nat (m := 8) (by omega) (by omega)))) .nil)))), rfl⟩, trivial, .cons rfl (.flat' rfl rfl) .nil⟩
  · have h : ¬ (k : Int) < (r.pts.length : Int) := of_decide_eq_false h
    have : k = r.pts.length := by omega
    subst this
    exact Rn.ret 1000 rfl rfl rfl
end Go.Proofs.Am

/- Loops in which the next block's number may change. -/
namespace Go.Proofs.Am
open Go Go.RowKit

theorem Rn.loop3 {P : Program} {C : Ctx} {ok : CtxOK P C} {f : FuncId} {R : AV → Prop} {fn : FuncId} {nt : Nat} {b : Code} {k : List AIt} {defs : List Nat} {rnd : Option Nat} {cs : List AFr} {tm0 : Tm} {hp0 : Hp} {nx0 : Nat}
    {α : Type} (tms : α → List Tm) (tm : α → Tm) (hp : α → Hp) (nx : α → Nat) (Inv : α → Prop) (μ : α → Nat) (x0 : α) (hI : Inv x0)
    (h0 : CfTo ⟨⟨fn, tm0, nt, .code b :: .inLoop b :: k, defs, rnd⟩, cs, hp0, nx0⟩ ⟨⟨fn, tm x0, nt, .code b :: .inLoop b :: k, defs, rnd⟩, putCs cs (tms x0), hp x0, nx x0⟩)
    (step : ∀ x, Inv x → (∀ y, μ y < μ x → Inv y → Rn ok f R ⟨⟨fn, tm y, nt, .code b :: .inLoop b :: k, defs, rnd⟩, putCs cs (tms y), hp y, nx y⟩) →
      Rn ok f R ⟨⟨fn, tm x, nt, .code b :: .inLoop b :: k, defs, rnd⟩, putCs cs (tms x), hp x, nx x⟩) :
    Rn ok f R ⟨⟨fn, tm0, nt, .code b :: .inLoop b :: k, defs, rnd⟩, cs, hp0, nx0⟩ := by
  refine Rn.weaken trivial h0 ?_
  have : ∀ n x, μ x = n → Inv x → Rn ok f R ⟨⟨fn, tm x, nt, .code b :: .inLoop b :: k, defs, rnd⟩, putCs cs (tms x), hp x, nx x⟩ := by
    intro n
    induction n using Nat.strongRecOn with
    | ind n ih =>
      rintro x rfl hx
      exact step x hx fun y hy hIy => ih (μ y) hy y rfl hIy
  exact this _ x0 rfl hI
end Go.Proofs.Am

/- The squares that cover a road: what they are. -/
namespace Go.Proofs.Am
open Go Go.Proofs.Geo
set_option maxRecDepth 100000

structure Gr where
  st : Int
  x0 : Int
  x1 : Int
  y0 : Int
  y1 : Int
def grid (r : Rd) (st : Int) : Gr := ⟨st, (mnN (ptX r) r.pts.length - r.width) / st, (mxN (ptX r) r.pts.length + r.width) / st, (mnN (ptY r) r.pts.length - r.width) / st, (mxN (ptY r) r.pts.length + r.width) / st⟩
def sqP (g : Gr) (a b : Nat) : Pa := ⟨(g.x0 + a) * g.st, (g.y0 + b) * g.st, (g.x0 + a + 1) * g.st, (g.y0 + b + 1) * g.st⟩
def nw (g : Gr) : Nat := (g.x1 - g.x0 + 1).toNat
def nh (g : Gr) : Nat := (g.y1 - g.y0 + 1).toNat
def hitB (r : Rd) (g : Gr) (a b : Nat) : Bool := !(meetsZ r (bx (sqP g a b)) == 0)
def rowN (r : Rd) (g : Gr) (b : Nat) : Nat → List Pa
  | 0 => []
  | a + 1 => rowN r g b a ++ if hitB r g a b then [sqP g a b] else []
def allR (r : Rd) (g : Gr) : Nat → List Pa
  | 0 => []
  | b + 1 => allR r g b ++ rowN r g b (nw g)
theorem mn_mem {c : Nat → Int} {n : Nat} (h : 0 < n) : ∀ k, k ≤ n → ∃ j, j < n ∧ mnN c k = c j
  | 0, _ => ⟨0, h, rfl⟩
  | k + 1, hk => by
    obtain ⟨j, hj, e⟩ := mn_mem (c := c) h k (by omega)
    rw [mnN, mn2]
    split
    · exact ⟨k, by omega, rfl⟩
    · exact ⟨j, hj, e⟩
theorem mx_mem {c : Nat → Int} {n : Nat} (h : 0 < n) : ∀ k, k ≤ n → ∃ j, j < n ∧ mxN c k = c j
  | 0, _ => ⟨0, h, rfl⟩
  | k + 1, hk => by
    obtain ⟨j, hj, e⟩ := mx_mem (c := c) h k (by omega)
    rw [mxN, mx2]
    split
    · exact ⟨k, by omega, rfl⟩
    · exact ⟨j, hj, e⟩
theorem box_bd {r : Rd} (hr : RdOk r) : (Bd 100000 (mnN (ptX r) r.pts.length) ∧ Bd 100000 (mxN (ptX r) r.pts.length)) ∧ Bd 100000 (mnN (ptY r) r.pts.length) ∧ Bd 100000 (mxN (ptY r) r.pts.length) := by
  have h0 : 0 < r.pts.length := by have := hr.lo; omega
  refine ⟨⟨?_, ?_⟩, ?_, ?_⟩
  · obtain ⟨j, hj, e⟩ := mn_mem (c := ptX r) h0 _ (Nat.le_refl _); rw [e]; exact (hr.get hj).1
  · obtain ⟨j, hj, e⟩ := mx_mem (c := ptX r) h0 _ (Nat.le_refl _); rw [e]; exact (hr.get hj).1
  · obtain ⟨j, hj, e⟩ := mn_mem (c := ptY r) h0 _ (Nat.le_refl _); rw [e]; exact (hr.get hj).2
  · obtain ⟨j, hj, e⟩ := mx_mem (c := ptY r) h0 _ (Nat.le_refl _); rw [e]; exact (hr.get hj).2
theorem cell_lo {n st i : Int} (hst : 0 < st) (h : n / st ≤ i) : n - st < i * st := by
  have e1 := Int.mul_ediv_add_emod n st
  have e2 := Int.emod_lt_of_pos n hst
  have e3 := Int.mul_le_mul_of_nonneg_right h (Int.le_of_lt hst)
  rw [Int.mul_comm st] at e1
  omega
theorem cell_hi {n st i : Int} (hst : 0 < st) (h : i ≤ n / st) : i * st ≤ n := by
  have e1 := Int.mul_ediv_add_emod n st
  have e2 := Int.emod_nonneg n (show st ≠ 0 by omega)
  have e3 := Int.mul_le_mul_of_nonneg_right h (Int.le_of_lt hst)
  rw [Int.mul_comm st] at e1
  omega
theorem grid_bd {n st : Int} (hn : Bd 130000 n) (hst : 100 ≤ st ∧ st ≤ 100000) : Bd 130000 (n / st) := by
  obtain ⟨n1, n2⟩ := hn
  constructor
  · rw [Int.le_ediv_iff_mul_le (by omega)]
    have := Int.mul_le_mul_of_nonneg_left (show (1 : Int) ≤ st by omega) (show (0 : Int) ≤ 130000 by omega)
    omega
  · apply Classical.byContradiction
    intro h
    have := cell_hi (n := n) (st := st) (i := n / st) (by omega) (Int.le_refl _)
    have h2 := Int.mul_le_mul_of_nonneg_left (show (1 : Int) ≤ st by omega) (show (0 : Int) ≤ n / st by omega)
    omega
/-- Where a square of the grid lies. -/
theorem cell_bd {lo hi st i : Int} (hl : Bd 130000 lo) (hh : Bd 130000 hi) (hst : 100 ≤ st ∧ st ≤ 100000) (h1 : lo / st ≤ i) (h2 : i ≤ hi / st) : (Bd 230000 (i * st) ∧ Bd 230000 ((i + 1) * st)) ∧ Bd 130000 i ∧ i * st ≤ (i + 1) * st := by
  obtain ⟨l1, l2⟩ := hl
  obtain ⟨g1, g2⟩ := hh
  have a := cell_lo (show 0 < st by omega) h1
  have b := cell_hi (show 0 < st by omega) h2
  have c : (i + 1) * st = i * st + st := by rw [Int.add_mul, Int.one_mul]
  have d1 := grid_bd (n := lo) (st := st) ⟨l1, l2⟩ hst
  have d2 := grid_bd (n := hi) (st := st) ⟨g1, g2⟩ hst
  obtain ⟨d1, _⟩ := d1
  obtain ⟨_, d2⟩ := d2
  rw [c]
  exact ⟨⟨⟨by omega, by omega⟩, by omega, by omega⟩, ⟨by omega, by omega⟩, by omega⟩
structure GrOk (r : Rd) (st : Int) : Prop where
  s : 100 ≤ st ∧ st ≤ 100000
  r : RdOk r
theorem sq_ok {r : Rd} {st : Int} (h : GrOk r st) {a b : Nat} (ha : a < nw (grid r st)) (hb : b < nh (grid r st)) :
    PaBig (sqP (grid r st) a b) ∧ (bx (sqP (grid r st) a b)).ok ∧ Bd 130000 ((grid r st).x0 + a) ∧ Bd 130000 ((grid r st).y0 + b) := by
  obtain ⟨⟨⟨x1, x2⟩, x3, x4⟩, ⟨y1, y2⟩, y3, y4⟩ := box_bd h.r
  obtain ⟨w1, w2⟩ := h.r.w
  unfold nw at ha
  unfold nh at hb
  have cx := cell_bd (lo := mnN (ptX r) r.pts.length - r.width) (hi := mxN (ptX r) r.pts.length + r.width) (st := st) (i := (grid r st).x0 + a) ⟨by omega, by omega⟩ ⟨by omega, by omega⟩ h.s (by show (grid r st).x0 ≤ _; omega) (by show _ ≤ (grid r st).x1; omega)
  have cy := cell_bd (lo := mnN (ptY r) r.pts.length - r.width) (hi := mxN (ptY r) r.pts.length + r.width) (st := st) (i := (grid r st).y0 + b) ⟨by omega, by omega⟩ ⟨by omega, by omega⟩ h.s (by show (grid r st).y0 ≤ _; omega) (by show _ ≤ (grid r st).y1; omega)
  obtain ⟨⟨⟨a1, a2⟩, a3, a4⟩, a5, a6⟩ := cx
  obtain ⟨⟨⟨b1, b2⟩, b3, b4⟩, b5, b6⟩ := cy
  have es : (grid r st).st = st := rfl
  unfold sqP
  rw [es]
  refine ⟨⟨⟨⟨by simp only; omega, by simp only; omega⟩, by simp only; omega, by simp only; omega⟩, ⟨by simp only; omega, by simp only; omega⟩, by simp only; omega, by simp only; omega⟩, ⟨by simp only [bx]; omega, by simp only [bx]; omega⟩, a5, b5⟩
end Go.Proofs.Am

/- Patches, the reference's. -/
namespace Go.Proofs.Am
open Go Go.Proofs.Geo
set_option maxRecDepth 100000

instance : Inhabited Pa := ⟨⟨0, 0, 0, 0⟩⟩
abbrev paC (p : Pa) : List AV := [I p.x0, I p.y0, I p.x1, I p.y1]
theorem appGet_pa (L : List Pa) (p : Pa) {k : Nat} (h : k < L.length + 1) : paC ((L ++ [p]).getD k default) = appGet L.length (fun k => paC (L.getD k default)) (fun i => sub (paC p) (0 + i * 4) 4) k := by
  unfold appGet
  cases hb : Nat.blt k L.length with
  | true =>
    have := blt_lt hb
    show paC _ = paC (L.getD k default)
    rw [List.getD_eq_getElem?_getD, List.getElem?_append_left this, List.getD_eq_getElem?_getD]
  | false =>
    have : ¬ k < L.length := fun h => by rw [show Nat.blt k L.length = true from Nat.ble_eq_true_of_le h] at hb; cases hb
    have : k = L.length := by omega
    subst this
    rw [List.getD_eq_getElem?_getD, List.getElem?_append_right (Nat.le_refl _)]
    simp [sub]
/-- The squares found so far, as the code holds them. -/
def hdl (b : Nat) (L : List Pa) (v : Nat) : AV := match L with | [] => .v (.slice none 0 0) | _ :: _ => .osl b v
def rws (b : Nat) (L : List Pa) (v : Nat) : Hp := match L with | [] => [] | _ :: _ => [(b, .row L.length 4 (fun i => paC (L.getD i default)) 29 v)]
def nxs (b : Nat) (L : List Pa) (n : Nat) : Nat := match L with | [] => n | _ :: _ => b + 1
def badP (s : Sc) (i st : Int) : Int := errS s i s.roads.length (outB st 100 100000)
def bigG (g : Gr) : Bool := decide ((g.x1 - g.x0 + 1) * (g.y1 - g.y0 + 1) > 4000)
def bigW (g : Gr) : Bool := decide (w64 (w64 (w64 (g.x1 - g.x0) + 1) * w64 (w64 (g.y1 - g.y0) + 1)) > 4000)
theorem bigG_eq {g : Gr} (a : Bd 130000 g.x0) (b : Bd 130000 g.x1) (c : Bd 130000 g.y0) (d : Bd 130000 g.y1) : bigW g = bigG g := by
  obtain ⟨_, _⟩ := a
  obtain ⟨_, _⟩ := b
  obtain ⟨_, _⟩ := c
  obtain ⟨_, _⟩ := d
  have m := mulbd' (x := g.x1 - g.x0 + 1) (y := g.y1 - g.y0 + 1) (a := 260001) (b := 260001) (c := 67600520001) ⟨by omega, by omega⟩ ⟨by omega, by omega⟩ (by decide)
  obtain ⟨m1, m2⟩ := m
  unfold bigW bigG
  rw [w64_id (x := g.x1 - g.x0) (by omega), w64_id (x := g.x1 - g.x0 + 1) (by omega), w64_id (x := g.y1 - g.y0) (by omega), w64_id (x := g.y1 - g.y0 + 1) (by omega), w64_id (by omega)]
def patR (r : Rd) (st : Int) : List Pa × Int := if bigG (grid r st) then ([], 3) else if decide (((allR r (grid r st) (nh (grid r st))).length : Int) > 400) then ([], 3) else (allR r (grid r st) (nh (grid r st)), 0)
def patS (s : Sc) (i st : Int) : List Pa × Int := if badP s i st == 0 then patR (s.roads.getD i.toNat default) st else ([], badP s i st)
abbrev pasA (L : List Pa) : AV := rowOf 4 paC default L
theorem ArgTo.tup {l l' : List AV} (h : ArgsTo l l') : ArgTo (.tup l) (.tup l') := fun m v r => by
  cases r with
  | tup _ vs hl hr => exact .tup _ vs (by rw [← h.len]; exact hl) fun i hi hj => h.at i (by rw [h.len]; exact hi) hi _ _ (hr i (by rw [h.len]; exact hi) hj)
theorem row_len (r : Rd) (g : Gr) (b : Nat) : ∀ a, (rowN r g b a).length ≤ a
  | 0 => Nat.le_refl _
  | a + 1 => by
    have := row_len r g b a
    rw [rowN, List.length_append]
    split <;> simp <;> omega
theorem all_len (r : Rd) (g : Gr) : ∀ b, (allR r g b).length ≤ b * nw g
  | 0 => by simp [allR]
  | b + 1 => by
    have := all_len r g b
    have h2 := row_len r g b (nw g)
    rw [allR, List.length_append, Nat.add_mul]
    omega
theorem len_bd {r : Rd} {g : Gr} (hb : bigG g = false) {a b : Nat} (ha : a < nw g) (hbn : b < nh g) : (allR r g b ++ rowN r g b a).length ≤ 4000 := by
  have h1 := all_len r g b
  have h2 := row_len r g b a
  have h3 : (b + 1) * nw g ≤ nh g * nw g := Nat.mul_le_mul_right _ (by omega)
  have h4 : ((nh g * nw g : Nat) : Int) = (g.y1 - g.y0 + 1) * (g.x1 - g.x0 + 1) := by
    rw [Int.natCast_mul]
    unfold nw nh at *
    rw [Int.toNat_of_nonneg (by omega), Int.toNat_of_nonneg (by omega)]
  have h5 := of_decide_eq_false hb
  rw [Int.mul_comm] at h5
  rw [List.length_append]
  rw [Nat.add_mul] at h3
  omega
theorem hdl_to (L : List Pa) (v : Nat) : AvTo (nxs 4 L 2) (hdl 4 L v) (hdl 4 L v) := by
  cases L with
  | nil => exact .refl rfl
  | cons p L => exact .refl rfl
theorem rws_to (r : Rd) (L : List Pa) (v : Nat) : HpTo (nxs 4 L 2) ((1, .flat (rdC r) 54) :: rws 4 L v) ((1, .flat (rdC r) 54) :: rws 4 L v) := by
  cases L with
  | nil => exact .cons rfl (.flat' rfl rfl) .nil
  | cons p L => exact .cons rfl (.flat' rfl rfl) (.cons rfl (.row rfl fun i hi => rfl) .nil)
theorem close_row {b v : Nat} {n sz : Nat} {get : Nat → List AV} {t : TypeId} {hp : Hp} (h : tget hp b = some (.row n sz get t v)) : (close 6 (.tup [.osl b v, .n .i64 0])).evalL hp [] = some ((.tup [.rsl n sz get, I 0], [b]), [b]) := by
  simp [close, close.closeL, RM.bind, RM.evalL, h, Nat.beq_refl]
/-- Said of the answer in the code's form. -/
def PatA (p : List Pa × Int) (a : AV) : Prop := ArgTo a (.tup [pasA p.1, I p.2])
theorem patA_nil (e : Int) : PatA ([], e) (.tup [.v (.slice none 0 0), I e]) := ArgTo.tup ⟨nil_to _ _, .refl _, trivial⟩

theorem rPatches_fun (s : Sc) (hs : s.ok) (i st : Int) : FunR Tryz.prog 36 [scA s, I i, I st] (PatA (patS s i st)) := by
  refine FunR.of_run cPa rfl ?_
  refine Rn.call 1000 rfl _ (indexed_fun s hs i s.roads.length) ?_
  refine Rn.ite (b := idxE s i s.roads.length == 0) 1000 rfl (fun h => ?_) (fun h => ?_)
  rotate_left
  · refine Rn.ite (b := !(idxE s i s.roads.length == 0)) 1000 rfl (fun h2 => ?_) (fun h2 => ?_)
    · exact Rn.ret 1000 rfl rfl (by unfold patS badP; rw [errS_1 h, h]; exact patA_nil _)
    · rw [h] at h2; cases h2
  refine Rn.call 1000 rfl _ (from_fun st 100 100000) ?_
  refine Rn.ite (b := !!outB st 100 100000) 1000 rfl (fun h1 => ?_) (fun h1 => ?_)
  · rw [Bool.not_not] at h1
    exact Rn.ret 1000 rfl rfl (by unfold patS badP errS; rw [h, h1]; exact patA_nil _)
  rw [Bool.not_not] at h1
  refine Rn.ite (b := !(idxE s i s.roads.length == 0)) 1000 rfl (fun h2 => ?_) (fun h2 => ?_)
  · rw [h] at h2; cases h2
  clear h2
  obtain ⟨g, i0, i1⟩ := idxE_zero (eq_of_beq h)
  have in1 : inB i s.roads.length = true := by simp only [inB, Bool.and_eq_true, decide_eq_true_eq]; omega
  have res : patS s i st = patR (s.roads.getD i.toNat default) st := by unfold patS badP errS; rw [h, h1]; rfl
  rw [res]
  have hst : 100 ≤ st ∧ st ≤ 100000 := by unfold outB at h1; simp only [Bool.or_eq_false_iff, decide_eq_false_iff_not] at h1; omega
  have hr := (good_ok g).rd i.toNat (by omega)
  refine Rn.asr 1000 rfl in1 ?_
  obtain ⟨r, hre⟩ : ∃ r, r = s.roads.getD i.toNat default := ⟨_, rfl⟩
  rw [← hre] at hr ⊢
  have ok : GrOk r st := ⟨hst, hr⟩
  obtain ⟨⟨⟨x1, x2⟩, x3, x4⟩, ⟨y1, y2⟩, y3, y4⟩ := box_bd hr
  obtain ⟨w1, w2⟩ := hr.w
  have k1 : Fun Tryz.prog 88 [I (w64 (mnN (ptX r) r.pts.length - r.width)), I st] (I (grid r st).x0) := by rw [w64_id (by omega)]; exact rdown_fun ⟨by omega, by omega⟩ ⟨by omega, by omega⟩
  have k2 : Fun Tryz.prog 88 [I (w64 (mxN (ptX r) r.pts.length + r.width)), I st] (I (grid r st).x1) := by rw [w64_id (by omega)]; exact rdown_fun ⟨by omega, by omega⟩ ⟨by omega, by omega⟩
  have k3 : Fun Tryz.prog 88 [I (w64 (mnN (ptY r) r.pts.length - r.width)), I st] (I (grid r st).y0) := by rw [w64_id (by omega)]; exact rdown_fun ⟨by omega, by omega⟩ ⟨by omega, by omega⟩
  have k4 : Fun Tryz.prog 88 [I (w64 (mxN (ptY r) r.pts.length + r.width)), I st] (I (grid r st).y1) := by rw [w64_id (by omega)]; exact rdown_fun ⟨by omega, by omega⟩ ⟨by omega, by omega⟩
  have k5 := box0_fun hr
  have k6 := box1p_fun hr
  subst hre
  refine Rn.call 1000 rfl _ k5 ?_
  refine Rn.call 1000 rfl _ k6 ?_
  refine Rn.call 1000 rfl _ k1 ?_
  refine Rn.call 1000 rfl _ k2 ?_
  refine Rn.chk 1000 rfl (by kernel_rfl) ?_
  refine Rn.call 1000 rfl _ k3 ?_
  refine Rn.call 1000 rfl _ k4 ?_
  refine Rn.chk 1000 rfl (by kernel_rfl) ?_
  have bx0 : Bd 130000 (grid (s.roads.getD i.toNat default) st).x0 := grid_bd ⟨by omega, by omega⟩ hst
  have bx1 : Bd 130000 (grid (s.roads.getD i.toNat default) st).x1 := grid_bd ⟨by omega, by omega⟩ hst
  have by0 : Bd 130000 (grid (s.roads.getD i.toNat default) st).y0 := grid_bd ⟨by omega, by omega⟩ hst
  have by1 : Bd 130000 (grid (s.roads.getD i.toNat default) st).y1 := grid_bd ⟨by omega, by omega⟩ hst
  have eb := bigG_eq bx0 bx1 by0 by1
  clear k1 k2 k3 k4 k5 k6 x1 x2 x3 x4 y1 y2 y3 y4 w1 w2
  refine Rn.ite (b := bigW (grid (s.roads.getD i.toNat default) st)) 1000 rfl (fun hb => ?_) (fun hb => ?_)
  · rw [eb] at hb
    exact Rn.ret 1000 rfl rfl (by unfold patR; rw [hb]; exact patA_nil _)
  rw [eb] at hb
  have res2 : patR (s.roads.getD i.toNat default) st = if decide (((allR (s.roads.getD i.toNat default) (grid (s.roads.getD i.toNat default) st) (nh (grid (s.roads.getD i.toNat default) st))).length : Int) > 400) then ([], 3) else (allR (s.roads.getD i.toNat default) (grid (s.roads.getD i.toNat default) st) (nh (grid (s.roads.getD i.toNat default) st)), 0) := by unfold patR; rw [hb]; rfl
  rw [res2]
  clear eb res res2 h h1 in1
  refine Rn.stop 1000 rfl ?_
  have hlen : ∀ b a, b < nh (grid (s.roads.getD i.toNat default) st) → a < nw (grid (s.roads.getD i.toNat default) st) → (allR (s.roads.getD i.toNat default) (grid (s.roads.getD i.toNat default) st) b ++ rowN (s.roads.getD i.toNat default) (grid (s.roads.getD i.toNat default) st) b a).length < 4194304 := fun b a h1 h2 => Nat.lt_of_le_of_lt (len_bd hb h2 h1) (by decide)
  clear hb
  refine Rn.loop3 (fun _ => []) (fun x : List Pa × Nat × Nat => [(2, I st), (9, .ptr 1 0), (14, I (grid (s.roads.getD i.toNat default) st).x0), (15, I (grid (s.roads.getD i.toNat default) st).x1), (17, I (grid (s.roads.getD i.toNat default) st).y1), (18, hdl 4 x.1 x.2.1), (19, I ((grid (s.roads.getD i.toNat default) st).y0 + x.2.2))])
    (fun x => (1, .flat (rdC (s.roads.getD i.toNat default)) 54) :: rws 4 x.1 x.2.1) (fun x => nxs 4 x.1 2)
    (fun x => x.1 = allR (s.roads.getD i.toNat default) (grid (s.roads.getD i.toNat default) st) x.2.2 ∧ x.2.2 ≤ nh (grid (s.roads.getD i.toNat default) st)) (fun x => nh (grid (s.roads.getD i.toNat default) st) - x.2.2) ([], 0, 0) ⟨rfl, Nat.zero_le _⟩
    ⟨⟨rfl, rfl, rfl, rfl, rfl, .cons rfl (.refl rfl) (.cons rfl (.refl rfl) (.cons rfl (.refl rfl) (.cons rfl (.refl rfl) (.cons rfl (.refl rfl) (.cons rfl (.refl rfl) (.cons rfl (.eq rfl (congrArg I (by simp))) .nil)))))), rfl⟩, trivial, .cons rfl (.flat' rfl rfl) .nil⟩ ?_
  generalize s.roads.getD i.toNat default = r at *
  rintro ⟨L, v, b⟩ ⟨hL, hbn⟩ ih
  simp only at hL hbn
  generalize hg : grid r st = g at *
  refine Rn.ite (b := decide (g.y0 + (b : Int) ≤ g.y1)) 1000 rfl (fun h => ?_) (fun h => ?_)
  rotate_left
  · have h := of_decide_eq_false h
    have hb : b = nh g := by unfold nh at *; omega
    subst hb
    rw [← hL]
    cases L with
    | nil => exact Rn.ret 1000 rfl rfl (patA_nil _)
    | cons p0 L0 =>
      refine Rn.asr 1000 rfl (Nat.beq_refl v) ?_
      refine Rn.ite (b := decide (((p0 :: L0).length : Int) > 400)) 1000 rfl (fun hq => ?_) (fun hq => ?_)
      · exact Rn.ret 1000 rfl rfl (by rw [hq]; exact patA_nil _)
      · exact Rn.ret 1000 rfl (close_row rfl) (by rw [hq]; exact ArgTo.refl _)
  have h := of_decide_eq_true h
  have hb : b < nh g := by unfold nh; omega
  obtain ⟨bx0, bx0'⟩ := bx0
  obtain ⟨bx1, bx1'⟩ := bx1
  obtain ⟨by0, by0'⟩ := by0
  obtain ⟨by1, by1'⟩ := by1
  refine Rn.stop 1000 rfl ?_
  refine Rn.loop3 (fun _ => []) (fun x : List Pa × Nat × Nat => [(2, I st), (9, .ptr 1 0), (14, I g.x0), (15, I g.x1), (17, I g.y1), (18, hdl 4 x.1 x.2.1), (19, I (g.y0 + b)), (20, I (g.x0 + x.2.2))])
    (fun x => (1, .flat (rdC r) 54) :: rws 4 x.1 x.2.1) (fun x => nxs 4 x.1 2)
    (fun x => x.1 = allR r g b ++ rowN r g b x.2.2 ∧ x.2.2 ≤ nw g) (fun x => nw g - x.2.2) (L, v, 0) ⟨by rw [hL]; simp [rowN], Nat.zero_le _⟩
    ⟨⟨rfl, rfl, rfl, rfl, rfl, .cons rfl (.refl rfl) (.cons rfl (.refl (by cases L <;> rfl)) (.cons rfl (.refl rfl) (.cons rfl (.refl rfl) (.cons rfl (.refl rfl) (.cons rfl (hdl_to L v) (.cons rfl (.refl rfl) (.cons rfl (.eq rfl (congrArg I (by simp))) .nil))))))), by cases L <;> rfl⟩, trivial, rws_to r L v⟩ ?_
  rintro ⟨L', v', a⟩ ⟨hL', han⟩ ih2
  simp only at hL' han
  refine Rn.ite (b := decide (g.x0 + (a : Int) ≤ g.x1)) 1000 rfl (fun h' => ?_) (fun h' => ?_)
  rotate_left
  · have h' := of_decide_eq_false h'
    have ha : a = nw g := by unfold nw at *; omega
    refine Rn.stop 1000 rfl ?_
    refine Rn.weaken trivial ?_ (ih (L', v', b + 1) (by simp only; omega) ⟨by simp only; rw [allR, hL', ha], hb⟩)
    exact ⟨⟨rfl, rfl, rfl, rfl, rfl, .cons rfl (.refl rfl) (.cons rfl (.refl (by cases L' <;> rfl)) (.cons rfl (.refl rfl) (.cons rfl (.refl rfl) (.cons rfl (.refl rfl) (.cons rfl (hdl_to L' v') (.cons rfl (.eq rfl (congrArg I (by show w64 _ = _; rw [w64_id (by omega)]; simp only; omega))) .nil)))))), by cases L' <;> rfl⟩, trivial, rws_to r L' v'⟩
  have h' := of_decide_eq_true h'
  have ha : a < nw g := by unfold nw; omega
  have sq := sq_ok (r := r) (st := st) ok (a := a) (b := b) (by rw [hg]; exact ha) (by rw [hg]; exact hb)
  rw [hg] at sq
  obtain ⟨sq1, sq2, _, _⟩ := sq
  have est : g.st = st := by rw [← hg]; rfl
  have ep : (⟨w64 ((g.x0 + a) * st), w64 ((g.y0 + b) * st), w64 (w64 ((g.x0 + a) * st) + st), w64 (w64 ((g.y0 + b) * st) + st)⟩ : Pa) = sqP g a b := by
    obtain ⟨⟨⟨q1, q2⟩, q3, q4⟩, ⟨q5, q6⟩, q7, q8⟩ := sq1
    unfold sqP at *
    simp only [est, Int.add_mul (g.x0 + a), Int.add_mul (g.y0 + b), Int.one_mul] at *
    rw [w64_id (x := (g.x0 + a) * st) (by omega), w64_id (x := (g.y0 + b) * st) (by omega), w64_id (x := (g.x0 + a) * st + st) (by omega), w64_id (x := (g.y0 + b) * st + st) (by omega)]
  have km : Fun Tryz.prog 76 [.agg (rdC r), paA ⟨w64 ((g.x0 + a) * st), w64 ((g.y0 + b) * st), w64 (w64 ((g.x0 + a) * st) + st), w64 (w64 ((g.y0 + b) * st) + st)⟩] (I (meetsZ r (bx (sqP g a b)))) := by
    rw [ep, meetsZ_eq hr sq2]; exact rmeets_fun hr sq1
  have nrow : rowN r g b (a + 1) = rowN r g b a ++ if hitB r g a b then [sqP g a b] else [] := rfl
  have e1 : w64 ((g.x0 + a) + 1) = g.x0 + ((a + 1 : Nat) : Int) := by rw [w64_id (by omega)]; omega
  have hl := hlen b a hb ha
  rw [← hL'] at hl
  cases L' with
  | nil =>
    refine Rn.call 1000 rfl _ km ?_
    refine Rn.ite (b := hitB r g a b) 1000 rfl (fun hh => ?_) (fun hh => ?_)
    · refine Rn.asr 1000 rfl rfl ?_
      refine Rn.stop 1000 rfl ?_
      refine Rn.weaken trivial ?_ (ih2 ([sqP g a b], 0, a + 1) (by simp only; omega) ⟨by show [sqP g a b] = _; rw [nrow, hh, ← List.append_assoc, ← hL']; rfl, ha⟩)
      refine ⟨⟨rfl, rfl, rfl, rfl, rfl, .cons rfl (.refl rfl) (.cons rfl (.refl rfl) (.cons rfl (.refl rfl) (.cons rfl (.refl rfl) (.cons rfl (.refl rfl) (.cons rfl (.refl rfl) (.cons rfl (.refl rfl) (.cons rfl (.eq rfl (congrArg I e1)) .nil))))))), rfl⟩, trivial, .cons rfl (.flat' rfl rfl) (.cons rfl (.row_eq rfl rfl rfl fun i hi => ?_) .nil)⟩
      have : i = 0 := by simpa using hi
      subst this
      rw [← ep]; rfl
    · refine Rn.stop 1000 rfl ?_
      refine Rn.weaken trivial ?_ (ih2 ([], v', a + 1) (by simp only; omega) ⟨by show [] = _; rw [nrow, hh]; simpa using hL', ha⟩)
      exact ⟨⟨rfl, rfl, rfl, rfl, rfl, .cons rfl (.refl rfl) (.cons rfl (.refl rfl) (.cons rfl (.refl rfl) (.cons rfl (.refl rfl) (.cons rfl (.refl rfl) (.cons rfl (.refl rfl) (.cons rfl (.refl rfl) (.cons rfl (.eq rfl (congrArg I e1)) .nil))))))), rfl⟩, trivial, .cons rfl (.flat' rfl rfl) .nil⟩
  | cons p0 L0 =>
    refine Rn.call 1000 rfl _ km ?_
    refine Rn.ite (b := hitB r g a b) 1000 rfl (fun hh => ?_) (fun hh => ?_)
    · refine Rn.asr 1000 rfl (Nat.beq_refl v') ?_
      refine Rn.asr (b := Nat.ble ((p0 :: L0).length + 1) 4194304) 1000 rfl (Nat.ble_eq_true_of_le (by omega)) ?_
      refine Rn.stop 1000 rfl ?_
      refine Rn.weaken trivial ?_ (ih2 ((p0 :: L0) ++ [sqP g a b], v' + 1, a + 1) (by simp only; omega) ⟨by show (p0 :: L0) ++ [sqP g a b] = _; rw [nrow, hh, ← List.append_assoc, ← hL']; rfl, ha⟩)
      refine ⟨⟨rfl, rfl, rfl, rfl, rfl, .cons rfl (.refl rfl) (.cons rfl (.refl rfl) (.cons rfl (.refl rfl) (.cons rfl (.refl rfl) (.cons rfl (.refl rfl) (.cons rfl (.refl rfl) (.cons rfl (.refl rfl) (.cons rfl (.eq rfl (congrArg I e1)) .nil))))))), rfl⟩, trivial, .cons rfl (.flat' rfl rfl) (.cons rfl (.row_eq rfl (by simp) rfl fun i hi => ?_) .nil)⟩
      rw [← ep]
      exact appGet_pa (p0 :: L0) _ hi
    · refine Rn.stop 1000 rfl ?_
      refine Rn.weaken trivial ?_ (ih2 (p0 :: L0, v', a + 1) (by simp only; omega) ⟨by show p0 :: L0 = _; rw [nrow, hh]; simpa using hL', ha⟩)
      exact ⟨⟨rfl, rfl, rfl, rfl, rfl, .cons rfl (.refl rfl) (.cons rfl (.refl rfl) (.cons rfl (.refl rfl) (.cons rfl (.refl rfl) (.cons rfl (.refl rfl) (.cons rfl (.refl rfl) (.cons rfl (.refl rfl) (.cons rfl (.eq rfl (congrArg I e1)) .nil))))))), rfl⟩, trivial, .cons rfl (.flat' rfl rfl) (.cons rfl (.row rfl fun i hi => rfl) .nil)⟩
end Go.Proofs.Am

/- Patches, the program's. -/
namespace Go.Proofs.Am
open Go Go.Proofs.Geo
set_option maxRecDepth 100000

abbrev hpF (r : Rd) (g : Gr) (L : List Pa) (v : Nat) : Hp := (2, .flat (rdC r) 54) :: (11, .flat [I g.x0, I g.y0] 72) :: (13, .flat [I g.x1, I g.y1] 72) :: rws 16 L v
theorem hdl_to2 (L : List Pa) (v : Nat) : AvTo (nxs 16 L 14) (hdl 16 L v) (hdl 16 L v) := by
  cases L with
  | nil => exact .refl rfl
  | cons p L => exact .refl rfl
theorem rws_to2 (r : Rd) (g : Gr) (L : List Pa) (v : Nat) : HpTo (nxs 16 L 14) (hpF r g L v) (hpF r g L v) := by
  cases L with
  | nil => exact .cons rfl (.flat' rfl rfl) (.cons rfl (.flat' rfl rfl) (.cons rfl (.flat' rfl rfl) .nil))
  | cons p L => exact .cons rfl (.flat' rfl rfl) (.cons rfl (.flat' rfl rfl) (.cons rfl (.flat' rfl rfl) (.cons rfl (.row rfl fun i hi => rfl) .nil)))
theorem row_mono (r : Rd) (g : Gr) (b : Nat) {a : Nat} : ∀ n, a ≤ n → (rowN r g b a).length ≤ (rowN r g b n).length
  | 0, h => by have : a = 0 := by omega
               subst this; exact Nat.le_refl _
  | n + 1, h => by
    by_cases e : a = n + 1
    · subst e; exact Nat.le_refl _
    · have := row_mono r g b (a := a) n (by omega)
      rw [rowN, List.length_append]; omega
theorem all_mono (r : Rd) (g : Gr) {b : Nat} : ∀ n, b ≤ n → (allR r g b).length ≤ (allR r g n).length
  | 0, h => by have : b = 0 := by omega
               subst this; exact Nat.le_refl _
  | n + 1, h => by
    by_cases e : b = n + 1
    · subst e; exact Nat.le_refl _
    · have := all_mono r g (b := b) n (by omega)
      rw [allR, List.length_append]; omega
theorem pre_len {r : Rd} {g : Gr} {a b : Nat} (ha : a ≤ nw g) (hb : b < nh g) : (allR r g b ++ rowN r g b a).length ≤ (allR r g (nh g)).length := by
  have h1 := row_mono r g b (nw g) ha
  have h2 := all_mono r g (nh g) (show b + 1 ≤ nh g by omega)
  rw [allR, List.length_append] at h2
  rw [List.length_append]; omega
theorem Patches_fun (s : Sc) (hs : s.ok) (i st : Int) : FunR Tryz.prog 35 [scA s, I i, I st] (PatA (patS s i st)) := by
  refine FunR.of_run cPa rfl ?_
  refine Rn.call 1000 rfl _ (checked1_fun s hs i s.roads.length hs.1) ?_
  refine Rn.ite (b := !(idxE s i s.roads.length == 0)) 1000 rfl (fun h => ?_) (fun h => ?_)
  · rw [Bool.not_eq_true'] at h
    exact Rn.ret 1000 rfl rfl (by unfold patS badP; rw [errS_1 h, h]; exact patA_nil _)
  rw [Bool.not_eq_false'] at h
  refine Rn.call 1000 rfl _ (out_fun st 100 100000) ?_
  refine Rn.ite (b := outB st 100 100000) 1000 rfl (fun h1 => ?_) (fun h1 => ?_)
  · exact Rn.ret 1000 rfl rfl (by unfold patS badP errS; rw [h, h1]; exact patA_nil _)
  obtain ⟨g, i0, i1⟩ := idxE_zero (eq_of_beq h)
  have in1 : inB i s.roads.length = true := by simp only [inB, Bool.and_eq_true, decide_eq_true_eq]; omega
  have res : patS s i st = patR (s.roads.getD i.toNat default) st := by unfold patS badP errS; rw [h, h1]; rfl
  rw [res]
  have hst : 100 ≤ st ∧ st ≤ 100000 := by unfold outB at h1; simp only [Bool.or_eq_false_iff, decide_eq_false_iff_not] at h1; omega
  have hr := (good_ok g).rd i.toNat (by omega)
  refine Rn.asr 1000 rfl in1 ?_
  have hn : inB 0 (s.roads.getD i.toNat default).pts.length = true := by have := hr.lo; simp only [inB, Bool.and_eq_true, decide_eq_true_eq]; omega
  refine Rn.asr 1000 rfl hn ?_
  refine Rn.asr 1000 rfl hn ?_
  refine Rn.chk 1000 rfl (by kernel_rfl) ?_
  refine Rn.stop 1000 rfl ?_
  obtain ⟨r, hre⟩ : ∃ r, r = s.roads.getD i.toNat default := ⟨_, rfl⟩
  have hhi : (s.roads.getD i.toNat default).pts.length ≤ 8 := hr.hi
  refine Rn.loop2 (fun _ => []) (fun k : Nat => [(2, I st), (9, .ptr 2 0), (10, .ptr 11 0), (11, .ptr 13 0), (48, ptsA (s.roads.getD i.toNat default).pts), (49, I (s.roads.getD i.toNat default).pts.length), (50, I (k : Int))])
    (fun k => [(2, .flat (rdC (s.roads.getD i.toNat default)) 54), (11, .flat [I (mnN (ptX (s.roads.getD i.toNat default)) k), I (mnN (ptY (s.roads.getD i.toNat default)) k)] 72), (13, .flat [I (mxN (ptX (s.roads.getD i.toNat default)) k), I (mxN (ptY (s.roads.getD i.toNat default)) k)] 72)]) 14
    (fun k => k ≤ (s.roads.getD i.toNat default).pts.length) (fun k => (s.roads.getD i.toNat default).pts.length - k) 0 (Nat.zero_le _)
    ⟨⟨rfl, rfl, rfl, rfl, rfl, .cons rfl (.refl rfl) (.cons rfl (.refl rfl) (.cons rfl (.refl rfl) (.cons rfl (.refl rfl) (.cons rfl (.refl rfl) (.cons rfl (.refl rfl) (.cons rfl (.int _ _) .nil)))))), rfl⟩, trivial, .cons rfl (.flat' rfl rfl) (.cons rfl (.flat' rfl rfl) (.cons rfl (.flat' rfl rfl) .nil))⟩ ?_
  rw [← hre] at hr hn hhi ⊢
  clear hre in1 res h h1
  rintro k hk ih
  refine Rn.ite (b := decide ((k : Int) < (r.pts.length : Int))) 1000 rfl (fun h => ?_) (fun h => ?_)
  · have h : k < r.pts.length := by have := of_decide_eq_true h; omega
    have in2 : inB (k : Int) r.pts.length = true := by simp only [inB, Bool.and_eq_true, decide_eq_true_eq]; omega
    refine Rn.asr 1000 rfl in2 ?_
    refine Rn.stop 1000 rfl ?_
    refine Rn.chk 1000 rfl (by kernel_rfl) ?_
    refine Rn.stop 1000 rfl ?_
    refine Rn.chk 1000 rfl (by kernel_rfl) ?_
    refine Rn.stop 1000 rfl ?_
    refine Rn.stop 1000 rfl ?_
    refine Rn.weaken trivial ?_ (ih (k + 1) (by omega) h)
    exact ⟨⟨rfl, rfl, rfl, rfl, rfl, .cons rfl (.refl rfl) (.cons rfl (.refl rfl) (.cons rfl (.refl rfl) (.cons rfl (.refl rfl) (.cons rfl (.refl rfl) (.cons rfl (.refl rfl) (.cons rfl (.eq rfl (congrArg I (w64_nat (m := 8) (by omega) (by omega)))) .nil)))))), rfl⟩, trivial, .cons rfl (.flat' rfl rfl) (.cons rfl (.flat' rfl rfl) (.cons rfl (.flat' rfl rfl) .nil))⟩
  have h : ¬ (k : Int) < (r.pts.length : Int) := of_decide_eq_false h
  have : k = r.pts.length := by omega
  subst this
  have ok : GrOk r st := ⟨hst, hr⟩
  obtain ⟨⟨⟨x1, x2⟩, x3, x4⟩, ⟨y1, y2⟩, y3, y4⟩ := box_bd hr
  obtain ⟨w1, w2⟩ := hr.w
  have k1 : Fun Tryz.prog 81 [I (w64 (mnN (ptX r) r.pts.length - r.width)), I st] (I (grid r st).x0) := by rw [w64_id (by omega)]; exact down_fun ⟨by omega, by omega⟩ ⟨by omega, by omega⟩
  have k2 : Fun Tryz.prog 81 [I (w64 (mxN (ptX r) r.pts.length + r.width)), I st] (I (grid r st).x1) := by rw [w64_id (by omega)]; exact down_fun ⟨by omega, by omega⟩ ⟨by omega, by omega⟩
  have k3 : Fun Tryz.prog 81 [I (w64 (mnN (ptY r) r.pts.length - r.width)), I st] (I (grid r st).y0) := by rw [w64_id (by omega)]; exact down_fun ⟨by omega, by omega⟩ ⟨by omega, by omega⟩
  have k4 : Fun Tryz.prog 81 [I (w64 (mxN (ptY r) r.pts.length + r.width)), I st] (I (grid r st).y1) := by rw [w64_id (by omega)]; exact down_fun ⟨by omega, by omega⟩ ⟨by omega, by omega⟩
  have bx0 : Bd 130000 (grid r st).x0 := grid_bd ⟨by omega, by omega⟩ hst
  have bx1 : Bd 130000 (grid r st).x1 := grid_bd ⟨by omega, by omega⟩ hst
  have by0 : Bd 130000 (grid r st).y0 := grid_bd ⟨by omega, by omega⟩ hst
  have by1 : Bd 130000 (grid r st).y1 := grid_bd ⟨by omega, by omega⟩ hst
  have eb := bigG_eq bx0 bx1 by0 by1
  clear x1 x2 x3 x4 y1 y2 y3 y4 w1 w2 ih hk h
  refine Rn.stop 1000 rfl ?_
  refine Rn.call 1000 rfl _ k1 ?_
  refine Rn.call 1000 rfl _ k2 ?_
  refine Rn.chk 1000 rfl (by kernel_rfl) ?_
  refine Rn.stop 1000 rfl ?_
  refine Rn.call 1000 rfl _ k3 ?_
  refine Rn.call 1000 rfl _ k4 ?_
  refine Rn.chk 1000 rfl (by kernel_rfl) ?_
  refine Rn.stop 1000 rfl ?_
  refine Rn.ite (b := bigW (grid r st)) 1000 rfl (fun hb => ?_) (fun hb => ?_)
  · rw [eb] at hb
    exact Rn.ret 1000 rfl rfl (by unfold patR; rw [hb]; exact patA_nil _)
  rw [eb] at hb
  have res2 : patR r st = if decide (((allR r (grid r st) (nh (grid r st))).length : Int) > 400) then ([], 3) else (allR r (grid r st) (nh (grid r st)), 0) := by unfold patR; rw [hb]; rfl
  rw [res2]
  have hlen : ∀ b a, b < nh (grid r st) → a < nw (grid r st) → (allR r (grid r st) b ++ rowN r (grid r st) b a).length < 4194304 := fun b a h1 h2 => Nat.lt_of_le_of_lt (len_bd hb h2 h1) (by decide)
  clear hb res2 eb k1 k2 k3 k4
  refine Rn.stop 1000 rfl ?_
  generalize hg : grid r st = g at *
  refine Rn.loop3 (fun _ => []) (fun x : List Pa × Nat × Nat => [(2, I st), (9, .ptr 2 0), (10, .ptr 11 0), (11, .ptr 13 0), (16, hdl 16 x.1 x.2.1), (17, I (g.y0 + x.2.2))])
    (fun x => hpF r g x.1 x.2.1) (fun x => nxs 16 x.1 14)
    (fun x => x.1 = allR r g x.2.2 ∧ x.2.2 ≤ nh g ∧ x.1.length ≤ 400) (fun x => nh g - x.2.2) ([], 0, 0) ⟨rfl, Nat.zero_le _, Nat.zero_le _⟩
    ⟨⟨rfl, rfl, rfl, rfl, rfl, .cons rfl (.refl rfl) (.cons rfl (.refl rfl) (.cons rfl (.refl rfl) (.cons rfl (.refl rfl) (.cons rfl (.refl rfl) (.cons rfl (.eq rfl (congrArg I (by simp))) .nil))))), rfl⟩, trivial, .cons rfl (.flat' rfl rfl) (.cons rfl (.flat' rfl rfl) (.cons rfl (.flat' rfl rfl) .nil))⟩ ?_
  rintro ⟨L, v, b⟩ ⟨hL, hbn, hl4⟩ ih
  simp only at hL hbn hl4
  refine Rn.ite (b := decide (g.y0 + (b : Int) ≤ g.y1)) 1000 rfl (fun h => ?_) (fun h => ?_)
  rotate_left
  · have h := of_decide_eq_false h
    have hb : b = nh g := by unfold nh at *; omega
    subst hb
    rw [← hL]
    cases L with
    | nil => exact Rn.ret 1000 rfl rfl (patA_nil _)
    | cons p0 L0 =>
      refine Rn.asr 1000 rfl (Nat.beq_refl v) ?_
      refine Rn.ite (b := decide (((p0 :: L0).length : Int) > 400)) 1000 rfl (fun hq => ?_) (fun hq => ?_)
      · exact Rn.ret 1000 rfl rfl (by rw [hq]; exact patA_nil _)
      · exact Rn.ret 1000 rfl (close_row rfl) (by rw [hq]; exact ArgTo.refl _)
  have h := of_decide_eq_true h
  have hb : b < nh g := by unfold nh; omega
  obtain ⟨bx0, bx0'⟩ := bx0
  obtain ⟨bx1, bx1'⟩ := bx1
  obtain ⟨by0, by0'⟩ := by0
  obtain ⟨by1, by1'⟩ := by1
  refine Rn.stop 1000 rfl ?_
  refine Rn.loop3 (fun _ => []) (fun x : List Pa × Nat × Nat => [(2, I st), (9, .ptr 2 0), (10, .ptr 11 0), (11, .ptr 13 0), (16, hdl 16 x.1 x.2.1), (17, I (g.y0 + b)), (18, I (g.x0 + x.2.2))])
    (fun x => hpF r g x.1 x.2.1) (fun x => nxs 16 x.1 14)
    (fun x => x.1 = allR r g b ++ rowN r g b x.2.2 ∧ x.2.2 ≤ nw g ∧ x.1.length ≤ 400) (fun x => nw g - x.2.2) (L, v, 0) ⟨by rw [hL]; simp [rowN], Nat.zero_le _, hl4⟩
    ⟨⟨rfl, rfl, rfl, rfl, rfl, .cons rfl (.refl rfl) (.cons rfl (.refl (by cases L <;> rfl)) (.cons rfl (.refl (by cases L <;> rfl)) (.cons rfl (.refl (by cases L <;> rfl)) (.cons rfl (hdl_to2 L v) (.cons rfl (.refl rfl) (.cons rfl (.eq rfl (congrArg I (by simp))) .nil)))))), by cases L <;> rfl⟩, trivial, rws_to2 r g L v⟩ ?_
  rintro ⟨L', v', a⟩ ⟨hL', han, hl4'⟩ ih2
  simp only at hL' han hl4'
  refine Rn.ite (b := decide (g.x0 + (a : Int) ≤ g.x1)) 1000 rfl (fun h' => ?_) (fun h' => ?_)
  rotate_left
  · have h' := of_decide_eq_false h'
    have ha : a = nw g := by unfold nw at *; omega
    refine Rn.stop 1000 rfl ?_
    refine Rn.weaken trivial ?_ (ih (L', v', b + 1) (by simp only; omega) ⟨by simp only; rw [allR, hL', ha], hb, hl4'⟩)
    exact ⟨⟨rfl, rfl, rfl, rfl, rfl, .cons rfl (.refl rfl) (.cons rfl (.refl (by cases L' <;> rfl)) (.cons rfl (.refl (by cases L' <;> rfl)) (.cons rfl (.refl (by cases L' <;> rfl)) (.cons rfl (hdl_to2 L' v') (.cons rfl (.eq rfl (congrArg I (by show w64 _ = _; rw [w64_id (by omega)]; simp only; omega))) .nil))))), by cases L' <;> rfl⟩, trivial, rws_to2 r g L' v'⟩
  have h' := of_decide_eq_true h'
  have ha : a < nw g := by unfold nw; omega
  have sq := sq_ok (r := r) (st := st) ok (a := a) (b := b) (by rw [hg]; exact ha) (by rw [hg]; exact hb)
  rw [hg] at sq
  obtain ⟨sq1, sq2, _, _⟩ := sq
  have est : g.st = st := by rw [← hg]; rfl
  have ep : (⟨w64 ((g.x0 + a) * st), w64 ((g.y0 + b) * st), w64 (w64 ((g.x0 + a) + 1) * st), w64 (w64 ((g.y0 + b) + 1) * st)⟩ : Pa) = sqP g a b := by
    obtain ⟨⟨⟨q1, q2⟩, q3, q4⟩, ⟨q5, q6⟩, q7, q8⟩ := sq1
    unfold sqP at *
    simp only [est] at *
    rw [w64_id (x := g.x0 + a + 1) (by omega), w64_id (x := g.y0 + b + 1) (by omega), w64_id (x := (g.x0 + a) * st) (by omega), w64_id (x := (g.y0 + b) * st) (by omega), w64_id (x := (g.x0 + a + 1) * st) (by omega), w64_id (x := (g.y0 + b + 1) * st) (by omega)]
  have km : Fun Tryz.prog 61 [.agg (rdC r), paA ⟨w64 ((g.x0 + a) * st), w64 ((g.y0 + b) * st), w64 (w64 ((g.x0 + a) + 1) * st), w64 (w64 ((g.y0 + b) + 1) * st)⟩] (I (meetsZ r (bx (sqP g a b)))) := by
    rw [ep]; exact meets_fun hr sq1
  have nrow : rowN r g b (a + 1) = rowN r g b a ++ if hitB r g a b then [sqP g a b] else [] := rfl
  have e1 : w64 ((g.x0 + a) + 1) = g.x0 + ((a + 1 : Nat) : Int) := by rw [w64_id (by omega)]; omega
  have hpre := pre_len (r := r) (g := g) (a := a + 1) (b := b) ha hb
  rw [nrow, ← List.append_assoc, ← hL'] at hpre
  cases L' with
  | nil =>
    refine Rn.call 1000 rfl _ km ?_
    refine Rn.ite (b := meetsZ r (bx (sqP g a b)) == 0) 1000 rfl (fun hz => ?_) (fun hz => ?_)
    · have hh : hitB r g a b = false := by unfold hitB; rw [hz]; rfl
      refine Rn.stop 1000 rfl ?_
      refine Rn.weaken trivial ?_ (ih2 ([], v', a + 1) (by simp only; omega) ⟨by show [] = _; rw [nrow, hh]; simpa using hL', ha, Nat.zero_le _⟩)
      exact ⟨⟨rfl, rfl, rfl, rfl, rfl, .cons rfl (.refl rfl) (.cons rfl (.refl rfl) (.cons rfl (.refl rfl) (.cons rfl (.refl rfl) (.cons rfl (.refl rfl) (.cons rfl (.refl rfl) (.cons rfl (.eq rfl (congrArg I e1)) .nil)))))), rfl⟩, trivial, .cons rfl (.flat' rfl rfl) (.cons rfl (.flat' rfl rfl) (.cons rfl (.flat' rfl rfl) .nil))⟩
    · have hh : hitB r g a b = true := by unfold hitB; rw [hz]; rfl
      refine Rn.asr 1000 rfl rfl ?_
      refine Rn.asr 1000 rfl rfl ?_
      refine Rn.ite (b := decide (((1 : Nat) : Int) > 400)) 1000 rfl (fun q => absurd q (by decide)) (fun _ => ?_)
      refine Rn.stop 1000 rfl ?_
      refine Rn.weaken trivial ?_ (ih2 ([sqP g a b], 0, a + 1) (by simp only; omega) ⟨by show [sqP g a b] = _; rw [nrow, hh, ← List.append_assoc, ← hL']; rfl, ha, by simp⟩)
      refine ⟨⟨rfl, rfl, rfl, rfl, rfl, .cons rfl (.refl rfl) (.cons rfl (.refl rfl) (.cons rfl (.refl rfl) (.cons rfl (.refl rfl) (.cons rfl (.refl rfl) (.cons rfl (.refl rfl) (.cons rfl (.eq rfl (congrArg I e1)) .nil)))))), rfl⟩, trivial, .cons rfl (.flat' rfl rfl) (.cons rfl (.flat' rfl rfl) (.cons rfl (.flat' rfl rfl) (.cons rfl (.row_eq rfl rfl rfl fun i hi => ?_) .nil)))⟩
      have : i = 0 := by simpa using hi
      subst this
      rw [← ep]; rfl
  | cons p0 L0 =>
    refine Rn.call 1000 rfl _ km ?_
    refine Rn.ite (b := meetsZ r (bx (sqP g a b)) == 0) 1000 rfl (fun hz => ?_) (fun hz => ?_)
    · have hh : hitB r g a b = false := by unfold hitB; rw [hz]; rfl
      refine Rn.stop 1000 rfl ?_
      refine Rn.weaken trivial ?_ (ih2 (p0 :: L0, v', a + 1) (by simp only; omega) ⟨by show p0 :: L0 = _; rw [nrow, hh]; simpa using hL', ha, hl4'⟩)
      exact ⟨⟨rfl, rfl, rfl, rfl, rfl, .cons rfl (.refl rfl) (.cons rfl (.refl rfl) (.cons rfl (.refl rfl) (.cons rfl (.refl rfl) (.cons rfl (.refl rfl) (.cons rfl (.refl rfl) (.cons rfl (.eq rfl (congrArg I e1)) .nil)))))), rfl⟩, trivial, .cons rfl (.flat' rfl rfl) (.cons rfl (.flat' rfl rfl) (.cons rfl (.flat' rfl rfl) (.cons rfl (.row rfl fun i hi => rfl) .nil)))⟩
    · have hh : hitB r g a b = true := by unfold hitB; rw [hz]; rfl
      rw [hh] at hpre
      simp only [if_true, List.length_append, List.length_singleton] at hpre
      refine Rn.asr 1000 rfl (Nat.beq_refl v') ?_
      refine Rn.asr (b := Nat.ble ((p0 :: L0).length + 1) 4194304) 1000 rfl (Nat.ble_eq_true_of_le (by omega)) ?_
      refine Rn.asr 1000 rfl (Nat.beq_refl (v' + 1)) ?_
      refine Rn.ite (b := decide ((((p0 :: L0).length + 1 : Nat) : Int) > 400)) 1000 rfl (fun q => ?_) (fun q => ?_)
      · refine Rn.asr 1000 rfl (Nat.beq_refl (v' + 1)) ?_
        refine Rn.ite (b := decide ((((p0 :: L0).length + 1 : Nat) : Int) > 400)) 1000 rfl (fun _ => ?_) (fun q2 => by rw [q] at q2; cases q2)
        have q := of_decide_eq_true q
        have : decide (((allR r g (nh g)).length : Int) > 400) = true := decide_eq_true (by omega)
        exact Rn.ret 1000 rfl rfl (by rw [this]; exact patA_nil _)
      · have q := of_decide_eq_false q
        refine Rn.stop 1000 rfl ?_
        refine Rn.weaken trivial ?_ (ih2 ((p0 :: L0) ++ [sqP g a b], v' + 1, a + 1) (by simp only; omega) ⟨by show (p0 :: L0) ++ [sqP g a b] = _; rw [nrow, hh, ← List.append_assoc, ← hL']; rfl, ha, by show ((p0 :: L0) ++ [sqP g a b]).length ≤ 400; rw [List.length_append]; simp only [List.length_singleton]; omega⟩)
        refine ⟨⟨rfl, rfl, rfl, rfl, rfl, .cons rfl (.refl rfl) (.cons rfl (.refl rfl) (.cons rfl (.refl rfl) (.cons rfl (.refl rfl) (.cons rfl (.refl rfl) (.cons rfl (.refl rfl) (.cons rfl (.eq rfl (congrArg I e1)) .nil)))))), rfl⟩, trivial, .cons rfl (.flat' rfl rfl) (.cons rfl (.flat' rfl rfl) (.cons rfl (.flat' rfl rfl) (.cons rfl (.row_eq rfl (by simp) rfl fun i hi => ?_) .nil)))⟩
        rw [← ep]
        exact appGet_pa (p0 :: L0) _ hi
end Go.Proofs.Am

/- The statement RoadPatches, walked. -/
namespace Go.Proofs.Am
open Go Go.Proofs.Geo
set_option maxRecDepth 100000

theorem patA_fun {f : FuncId} {args : List AV} {p : List Pa × Int} (h : FunR Tryz.prog f args (PatA p)) : Fun Tryz.prog f args (.tup [pasA p.1, I p.2]) :=
  ⟨h.1, fun m w vs hm ha => Calls.mono (h.2 m w vs hm ha) fun e w' ⟨v, he, r, m', hr, h1, h2, h3, h4⟩ => ⟨v, he, _, m', rfl, h1, h2, h3, hr _ _ h4⟩⟩
theorem pat_len (s : Sc) (i st : Int) : (patS s i st).1.length ≤ 400 := by
  unfold patS patR
  split
  · split
    · simp
    · split
      · simp
      · rename_i h
        simp only [decide_eq_true_eq] at h
        simp only; omega
  · simp
theorem roadPatches_fun (s : Sc) (hs : s.ok) (i st : Int) : Fun Tryz.prog 11 [scA s, I i, I st] (B true) := by
  have hl := pat_len s i st
  have k1 := patA_fun (Patches_fun s hs i st)
  have k2 := patA_fun (rPatches_fun s hs i st)
  generalize patS s i st = p at *
  obtain ⟨L, e⟩ := p
  simp only at hl k1 k2
  refine Fun.of_run cPa rfl ?_
  refine Rn.call 1000 rfl _ k1 ?_
  refine Rn.call 1000 rfl _ k2 ?_
  refine Rn.ite (b := !(e == e)) 1000 rfl (fun h => absurd h (by simp)) (fun _ => ?_)
  refine Rn.ite (b := !((L.length : Int) == (L.length : Int))) 1000 rfl (fun h => absurd h (by simp)) (fun _ => ?_)
  refine Rn.stop 1000 rfl ?_
  refine Rn.loop2 (fun _ => []) (fun k : Nat => [(7, pasA L), (9, pasA L), (11, I (k : Int))]) (fun _ => []) 1
    (fun k => k ≤ L.length) (fun k => L.length - k) 0 (Nat.zero_le _)
    ⟨⟨rfl, rfl, rfl, rfl, rfl, .cons rfl (.refl rfl) (.cons rfl (.refl rfl) (.cons rfl (.int _ _) .nil)), rfl⟩, trivial, .nil⟩ ?_
  rintro k hk ih
  refine Rn.ite (b := decide ((k : Int) < (L.length : Int))) 1000 rfl (fun h => ?_) (fun h => ?_)
  · have h : k < L.length := by have := of_decide_eq_true h; omega
    have in1 : inB (k : Int) L.length = true := by simp only [inB, Bool.and_eq_true, decide_eq_true_eq]; omega
    refine Rn.asr 1000 rfl in1 ?_
    refine Rn.asr 1000 rfl in1 ?_
    refine Rn.chk 1000 rfl (by kernel_rfl) ?_
    refine Rn.ite 1000 rfl (fun h => absurd h (by simp)) (fun _ => ?_)
    refine Rn.stop 1000 rfl ?_
    refine Rn.weaken trivial ?_ (ih (k + 1) (by omega) h)
    exact ⟨⟨rfl, rfl, rfl, rfl, rfl, .cons rfl (.refl rfl) (.cons rfl (.refl rfl) (.cons rfl (.eq rfl (congrArg I (w64_nat (m := 400) (by omega) (by omega)))) .nil)), rfl⟩, trivial, .nil⟩
  · refine Rn.call 1000 rfl _ awake_fun ?_
    exact Rn.ret 1000 rfl rfl rfl
end Go.Proofs.Am
