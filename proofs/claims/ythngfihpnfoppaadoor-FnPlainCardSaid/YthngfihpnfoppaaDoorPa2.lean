/- Part 2 of the proof: contracts and walks. -/
import Derived.Test.YthngfihpnfoppaaDoorPa1
import Derived.Orders
import Derived.Deep.LoopGhost
import Derived.OneCell
namespace Go.Proofs.YthngfihpnfoppaaDoor
open Go.RowKit

def gd (g : Option (Nat × Bool)) (tm : Nat → PV) : Option Bool :=
  match g with
  | none => some true
  | some (t, want) =>
    match tm t with
    | .d (.v (.bool b)) => some (if want then b else !b)
    | .tup [] => some false
    | _ => none
def okFn (P : Program) (f : Nat) : Bool :=
  match P.funcs[f]? with
  | some fn => !(fn.name == "runtime.NumGoroutine") && fn.body.isSome
  | none => false
/-- a call, on values: the result's names dropped, or kept -/
def pcall (E : Env) (f : Nat) (xs : List PV) (d : Option Nat) (K : St → Prop) (s : St) : Prop :=
  ∃ args R, PV.dats xs = some args ∧ Fn E f args R ∧
    ((∀ x lv, R x lv → ∃ y, x.dat = some y ∧ K (s.put d y)) ∨
     (∀ x lv k, R x lv → 2 ≤ k → (∀ t, lv t → t < k) → ∃ y, x.shf s.nt = some y ∧ (∀ t ∈ x.toks, lv t) ∧ K (St.put { s with nt := s.nt + k, live := x.toks.map (· + s.nt) ++ s.live } d y)))
/-- a box that a load beside the call looks at stays as it is -/
def keepX (e : X → PV) (bx bx' : List (List PC)) (y : X) : Prop := match e y with
  | .ref p _ => bx'[p]? = bx[p]?
  | _ => True
theorem keepX_refl (e : X → PV) (bx : List (List PC)) (y : X) : keepX e bx bx y := by unfold keepX; split <;> trivial
theorem keepX_f (tm : Nat → PV) (bx bx' : List (List PC)) (k : Nat) : keepX (ev tm) bx bx' (.f k) := trivial
def pcallG (E : Env) (f : Nat) (xs : List PV) (d : Option Nat) (c : List X) (K : St → Prop) (s : St) : Prop :=
  ∃ R, FnG E f xs s.bx s.nt s.live R ∧ ∀ x bx nt live, R x bx nt live → (∀ y ∈ c, keepX (ev s.tm) s.bx bx y) ∧ K (St.put ⟨s.tm, bx, nt, live⟩ d x)
/-- a mark of a call that may work on the caller's boxes and rows -/
def MOpr.shm (m : MOpr) : Bool := match m.c with
  | .f _ :: _ => true
  | _ => false
/-- a store does not touch the boxes of the addresses beside it -/
def apartX (e : X → PV) (a y : X) : Bool :=
  match e a, e y with
  | .ref p _, .ref q _ => decide (q ≠ p)
  | .ref _ _, .pt _ => true
  | _, _ => false
def adrS : MO → X
  | .store _ a _ => a
  | _ => .t 0
/-- an append to a row in a box, or to one that is empty -/
def pappB (n : Nat) (x y : X) (d : Option Nat) (c : List X) (K : St → Prop) (s : St) : Prop :=
  ∃ p len cap z tk2 ds, ((ev s.tm x = .d (.row p len cap) ∧ s.bx[p]? = some z ∧ z.length = n * cap) ∨ (∃ t0, ev s.tm x = .d (.sl t0 []) ∧ (t0 = 1 ∨ t0 ∈ s.live) ∧ len = 0 ∧ cap = 0 ∧ z = [] ∧ p = s.bx.length)) ∧
    ev s.tm y = .d (.sl tk2 ds) ∧ ds ≠ [] ∧ len + ds.length ≤ 4294967296 ∧ (∀ e ∈ ds, e.length = n) ∧
    ∀ p' cap' bx', AppB n len cap z ds p s.bx p' cap' bx' → (∀ y ∈ c, keepX (ev s.tm) s.bx bx' y) ∧ K (St.put ⟨s.tm, bx', s.nt, s.live⟩ d (.d (.row p' (len + ds.length) cap')))
def pstep (E : Env) (o : MOpr) (K : St → Prop) (s : St) : Prop :=
  match o.o with
  | .call f xs => pcall E f (xs.map (ev s.tm)) o.d K s ∨ (o.shm = true ∧ pcallG E f (xs.map (ev s.tm)) o.d o.c K s)
  | .callv x xs => ∃ f cap, ev s.tm x = .fn f cap ∧ okFn E.P f = true ∧ (pcall E f (xs.map (ev s.tm) ++ cap) o.d K s ∨ (o.shm = true ∧ pcallG E f (xs.map (ev s.tm) ++ cap) o.d o.c K s))
  | .app n x y => (∃ v s', lf (ev s.tm) s (.app n x y) = some (v, s') ∧ K (s'.put o.d v)) ∨ (o.shm = true ∧ pappB n x y o.d o.c K s)
  | m => (∃ v, qf (ev s.tm) s.bx m = some v ∧ K (s.put o.d v)) ∨ (∃ v s', lf (ev s.tm) s m = some (v, s') ∧ o.c.all (apartX (ev s.tm) (adrS m)) = true ∧ K (s'.put o.d v))
def po (E : Env) : List MOpr → (St → Prop) → St → Prop
  | [], K, s => K s
  | o :: r, K, s => ∃ g, gd o.g s.tm = some g ∧ ((g = true ∧ pstep E o (po E r K) s) ∨ (g = false ∧ po E r K (s.put o.d (.tup []))))

def okCall (P : Program) : MO → Bool
  | .call f _ => okFn P f
  | _ => true
def trG (ops : Array Oper) : Option (Nat × Bool) → Option (Option (Nat × Bool))
  | none => some none
  | some (j, want) => ((ops[j]?).bind (·.dst)).map fun t => some (t, want)
def trOpr (P : Program) (n : Nat) (ops : Array Oper) (o : Oper) : Option MOpr :=
  match trOp P o.op, trG ops o.guard with
  | some m, some g => if okCall P m && (o.dst.all fun d => decide (d < n)) then some { d := o.dst, o := m, g := g } else none
  | _, _ => none
/-- the small operation says what the program's does -/
def TrO (P : Program) (n : Nat) (ops : Array Oper) (o : Oper) (mo : MOpr) : Prop :=
  (trOp P o.op = some mo.o ∨ ∃ k xs, trOp P o.op = some (.lit k xs) ∧ mo.o = .litq k xs) ∧ trG ops o.guard = some mo.g ∧ mo.d = o.dst ∧ okCall P mo.o = true ∧ ∀ t, o.dst = some t → t < n
theorem trOpr_some {P : Program} {n : Nat} {ops : Array Oper} {o : Oper} {mo : MOpr} (h : trOpr P n ops o = some mo) : TrO P n ops o mo := by
  unfold trOpr at h
  split at h
  · rename_i m g h1 h2
    split at h
    · rename_i hc
      simp only [Bool.and_eq_true] at hc
      simp only [Option.some.injEq] at h; subst h
      refine ⟨.inl h1, h2, rfl, hc.1, fun t ht => ?_⟩
      have := hc.2; rw [ht] at this; simpa using this
    · cases h
  · cases h

section
variable {E : Env} {B : Base} {C : Cx} {s : St} {a : Act} {w : World}

theorem gd_wanted (h : Rep E B C s a w) {ops : Array Oper} {o : Oper} {g : Option (Nat × Bool)} (hg : trG ops o.guard = some g) {b : Bool} (hb : gd g s.tm = some b) : Region.wanted o (yielded ops a.tmps) = b := by
  unfold Region.wanted
  cases ho : o.guard with
  | none =>
    rw [ho] at hg; simp only [trG, Option.some.injEq] at hg; subst hg
    simp only [gd, Option.some.injEq] at hb; subst hb; rfl
  | some jw =>
    obtain ⟨j, want⟩ := jw
    rw [ho] at hg; simp only [trG] at hg
    cases ht : (ops[j]?).bind (·.dst) with
    | none => rw [ht] at hg; cases hg
    | some t =>
      rw [ht] at hg; simp only [Option.map_some, Option.some.injEq] at hg; subst hg
      have hr := h.tm t
      simp only [gd] at hb
      have hy : yielded ops a.tmps j = match a.tmps.getD t undef with | .bool b => some b | _ => none := by
        unfold yielded
        rw [ht, Option.bind_some, Array.getD_eq_getD_getElem?]
        cases a.tmps[t]? with
        | none => rfl
        | some v => cases v <;> rfl
      split at hb
      · rename_i b' hv
        simp only [Option.some.injEq] at hb; subst hb
        rw [hv] at hr
        generalize a.tmps.getD t undef = z at hr hy
        cases hr with
        | d _ _ hv => cases hv with
          | v _ _ => simp only [hy]; cases b' <;> cases want <;> rfl
      · rename_i hv
        simp only [Option.some.injEq] at hb; subst hb
        rw [hv] at hr
        generalize a.tmps.getD t undef = z at hr hy
        cases hr with
        | tup _ vs hl _ => simp only [hy]; rfl
      · cases hb

theorem run_callFunc {P : Program} {f : Nat} (h : okFn P f = true) (args : Array Value) (w : World) : (callFunc f args).run P w = .ok (.enter f args) w := by
  unfold okFn at h
  split at h
  · rename_i fn hf
    simp only [Bool.and_eq_true, Bool.not_eq_true', beq_eq_false_iff_ne, ne_eq] at h
    have h2 : fn.body ≠ none := by intro e; rw [e] at h; simp at h
    simp [callFunc, hf, h.1, h2]
  · cases h

theorem pcall_sound (h : Rep E B C s a w) {f : Nat} {xs : List PV} {vs : List Value} {d : Option Nat} (hd : ∀ t, d = some t → t < B.n) (hl : vs.length = xs.length) (hx : ∀ (j : Nat) (x : PV) (y : Value), xs[j]? = some x → vs[j]? = some y → RpV C w x y) {K : St → Prop} (hp : pcall E f xs d K s)
    {KC : Act → World → Prop} (hK : ∀ C' s' a' w', Rep E B C' s' a' w' → K s' → KC a' w') (Q : Exit → Act → World → Prop) :
    Calls E.P f vs.toArray w fun
      | .returned v, w'' => KC (a.put d v) w''
      | .panicked chain, w'' => Q (.panic chain) a w''
      | .outgrown, _ => LetsOut Q := by
  obtain ⟨args, R, h1, h2, h3⟩ := hp
  rcases h3 with h3 | h3
  · refine (call_er h hl hx h1 h2).mono ?_
    rintro e w' ⟨u, x, lv, rfl, hR, hy⟩
    obtain ⟨y, hy1, hy2⟩ := h3 x lv hR
    obtain ⟨C', hr, hv⟩ := hy y hy1
    exact hK C' _ _ w' (hr.put hd hv) hy2
  · refine (call_own h hl hx h1 h2).mono ?_
    rintro e w' ⟨u, x, lv, k, rfl, hR, hk, hlt, hy⟩
    obtain ⟨y, hy1, hy2, hy3⟩ := h3 x lv k hR hk hlt
    obtain ⟨C', hr, hv⟩ := hy y hy1 hy2
    exact hK C' _ _ w' (hr.put hd hv) hy3

theorem pcallG_sound (h : Rep E B C s a w) {f : Nat} {xs : List PV} {vs : List Value} {d : Option Nat} {c : List X} (hd : ∀ t, d = some t → t < B.n) (hl : vs.length = xs.length) (hx : ∀ (j : Nat) (x : PV) (y : Value), xs[j]? = some x → vs[j]? = some y → RpV C w x y) {K : St → Prop} (hp : pcallG E f xs d c K s)
    {KC : Act → World → Prop} (hK : ∀ C' s' a' w', Rep E B C' s' a' w' → K s' → KC a' w') (Q : Exit → Act → World → Prop) :
    Calls E.P f vs.toArray w fun
      | .returned v, w'' => KC (a.put d v) w''
      | .panicked chain, w'' => Q (.panic chain) a w''
      | .outgrown, _ => LetsOut Q := by
  obtain ⟨R, h1, h2⟩ := hp
  refine (call_g h hl hx h1).mono ?_
  rintro e w' ⟨u, x, bx', nt', live', C', rfl, hR, hr, hv⟩
  exact hK C' _ _ w' (hr.put hd hv) (h2 x bx' nt' live' hR).2
theorem pcall2_sound (h : Rep E B C s a w) {f : Nat} {xs : List PV} {vs : List Value} {d : Option Nat} {c : List X} {b : Bool} (hd : ∀ t, d = some t → t < B.n) (hl : vs.length = xs.length) (hx : ∀ (j : Nat) (x : PV) (y : Value), xs[j]? = some x → vs[j]? = some y → RpV C w x y) {K : St → Prop} (hp : pcall E f xs d K s ∨ (b = true ∧ pcallG E f xs d c K s))
    {KC : Act → World → Prop} (hK : ∀ C' s' a' w', Rep E B C' s' a' w' → K s' → KC a' w') (Q : Exit → Act → World → Prop) :
    Calls E.P f vs.toArray w fun
      | .returned v, w'' => KC (a.put d v) w''
      | .panicked chain, w'' => Q (.panic chain) a w''
      | .outgrown, _ => LetsOut Q := hp.elim (fun hp => pcall_sound h hd hl hx hp hK Q) fun hp => pcallG_sound h hd hl hx hp.2 hK Q

theorem args_rp (h : Rep E B C s a w) {l : List Operand} {xs : List X} (hx : trXs l = some xs) : (l.map a.eval).length = (xs.map (ev s.tm)).length ∧ ∀ (j : Nat) (x : PV) (y : Value), (xs.map (ev s.tm))[j]? = some x → (l.map a.eval)[j]? = some y → RpV C w x y := by
  obtain ⟨k1, k2⟩ := trXs_some hx
  refine ⟨by simp [k1], fun j x y h1 h2 => ?_⟩
  rw [List.getElem?_map] at h1 h2
  cases hl : l[j]? with
  | none => rw [hl] at h2; cases h2
  | some o =>
    obtain ⟨z, hz1, hz2⟩ := k2 j o hl
    rw [hl] at h2; rw [hz1] at h1
    simp only [Option.map_some, Option.some.injEq] at h1 h2; subst h1; subst h2
    exact h.ro o z hz2

theorem lit_run {P : Program} {C : Cx} {w : World} {ρ : Operand → Value} {e : X → PV} (hρ : Ro C w ρ e) {o : Oper} {n : Nat} {xs : List X} (ht : trOp P o.op = some (.lit n xs)) {es : List (List PC)} (hl : litP e n xs = some es) :
    ∃ (fl : List Value) (e' : TypeId), fl.length = es.length * n ∧ RpL C w es.flatten fl ∧ (∀ d ∈ es, d.length = n) ∧ 0 < n ∧ es.length ≤ maxLen ∧
      (execOp ρ o).run P w = .ok (.value (.slice (some ⟨w.heap.size, 0, none⟩) es.length es.length)) (w.alloc (.cells fl.toArray e')) := by
  obtain ⟨dst, op, ty, pos, after, guard⟩ := o
  simp only at ht
  cases op <;> simp only [trOp] at ht <;> (try (cases ht; done))
  case buildSlice t len ps =>
    split at ht
    · rename_i e' he
      split at ht
      · rename_i n' xs' hn hxs
        split at ht
        · rename_i hok
          simp only [Bool.and_eq_true, decide_eq_true_eq] at hok
          obtain ⟨⟨hok1, hok2⟩, hok3⟩ := hok
          simp only [Option.some.injEq, MO.lit.injEq] at ht
          obtain ⟨rfl, rfl⟩ := ht
          obtain ⟨hu, _⟩ := elemT_some he
          obtain ⟨i, z, hi, hz, hsi, hby, hzs, hnp⟩ := okElem_some hok1
          subst hsi
          obtain ⟨z0, hz0⟩ : ∃ z0 : List Value, z0 = (List.range (len * i.size)).map (fun q => z.cells[q % z.cells.size]!) := ⟨_, rfl⟩
          obtain ⟨q1, q2, fl, q3, q4⟩ := fill_lit hρ (n := i.size) (k := 0) (vs := z0) hxs hl (by rw [hz0]; simp [hok2])
          rw [Nat.zero_mul, List.take_zero, List.nil_append] at q3
          have hps : (ps.map fun (i, x) => (i, ρ x)).toList = ps.toList.map fun p => (p.1, ρ p.2) := by simp
          have hel : es.length = len := by rw [q2, hok2]
          have hrun := run_buildSlice1 (P := P) (w := w) (parts := ps.map fun (i, x) => (i, ρ x)) (cells := fl.toArray) hu hi hz hok3 (by rw [hps, ← hz0]; exact q3)
          refine ⟨fl, e', by rw [q4.1, flat_len q1, Nat.mul_comm], q4, q1, hnp, ?_, ?_⟩
          · have : len ≤ len * i.size := Nat.le_mul_of_pos_right _ hnp
            rw [hel]; unfold maxLen; omega
          · rw [hel]; simp [execOp, hrun]
        · cases ht
      · cases ht
    · cases ht
  all_goals exfalso
  all_goals ((repeat' split at ht) <;> first | contradiction | (cases ht; done) | (simp at ht; done))
/-- a row that is made, and has no name -/
theorem litq_sound (h : Rep E B C s a w) {o : Oper} {n : Nat} {xs : List X} (ht : trOp E.P o.op = some (.lit n xs)) {es : List (List PC)} (hl : litP (ev s.tm) n xs = some es) :
    ∃ u C' w', (execOp a.eval o).run E.P w = .ok (.value u) w' ∧ Rep E B C' s a w' ∧ RpV C' w' (.d (.sl 0 es)) u := by
  obtain ⟨fl, e', f0, f1, f2, f3, f4, hrun⟩ := lit_run h.ro ht hl
  obtain ⟨w', hw'⟩ : ∃ w', w' = w.alloc (.cells fl.toArray e') := ⟨_, rfl⟩
  rw [← hw'] at hrun
  have hnew : w'.heap[w.heap.size]? = some (.cells fl.toArray e' (0, 0)) := by rw [hw']; exact heap_alloc_new w _
  have hold : ∀ k, k < w.heap.size → w'.heap[k]? = w.heap[k]? := fun k hk => by rw [hw']; exact heap_alloc_old w _ hk
  have hsz : w'.heap.size = w.heap.size + 1 := by rw [hw']; simp
  have hFix : Fix C w w' := by rw [hw']; exact fix_alloc h.inv.fin _
  obtain ⟨C2, hC2⟩ : ∃ C2 : Cx, C2 = { C with F := fun b o => C.F b o ∨ (b = w.heap.size ∧ o < n * es.length) } := ⟨_, rfl⟩
  have hle : CxLe C C2 := by rw [hC2]; exact ⟨fun _ _ h => .inl h, Nat.le_refl _, fun _ _ => rfl, Nat.le_refl _, fun _ _ => ⟨rfl, rfl, rfl, rfl⟩⟩
  have hFo : ∀ b o, b < w.heap.size → C2.F b o → C.F b o := fun b o hb hF => by
    rw [hC2] at hF; rcases hF with hF | ⟨rfl, _⟩
    · exact hF
    · omega
  have hi2 : Inv E.NG E.T C2 s.bx (· ∈ s.live) w' := by
    refine ⟨by rw [hC2]; exact h.inv.nb, fun p cs hp => ?_, fun p hp o hF => ?_, by rw [hC2]; exact h.inv.boxG, by rw [hC2]; exact h.inv.inj, fun t ht => ?_, by rw [hC2]; exact h.inv.tinj, fun b o hF => ?_, by have := h.inv.ng; omega, E.low w w' h.inv.t (by omega) (fun k hk => hold k (by have := h.inv.ng; omega))⟩
    · obtain ⟨us, e0, hh, hl0⟩ := h.inv.box p cs hp
      exact ⟨us, e0, by rw [show C2.bx p = C.bx p by rw [hC2], hold _ (heap_lt hh)]; exact hh, hl0.frame hle hFix⟩
    · rw [show C2.bx p = C.bx p by rw [hC2]] at hF
      exact h.inv.boxF p hp o (hFo _ _ (h.inv.lt hp) hF)
    · obtain ⟨a1, a2, a3⟩ := h.inv.tok t ht
      refine ⟨a1, by rw [hC2]; exact a2, ?_⟩
      rcases a3 with a3 | ⟨b, cur, e, c1, c2, c3, c4, c5, c6, c7, cz, c8, c9⟩
      · exact .inl (by rw [hC2]; exact a3)
      · exact .inr ⟨b, cur, e, by rw [hC2]; exact c1, c2, by rw [hold b (heap_lt c3)]; exact c3, by rw [hC2]; exact c4, by rw [hC2]; exact c5, by rw [hC2]; exact c6, by rw [hC2]; exact c7, by rw [hC2]; exact cz, fun o hF => by
          have := c8 o (hFo b o (heap_lt c3) hF); rw [hC2]; exact this, by rw [hC2]; exact c9⟩
    · rw [hC2] at hF; rcases hF with hF | ⟨rfl, _⟩
      · have := h.inv.fin b o hF; omega
      · omega
  have he2 : Ext B.C B.w C2 s.bx.length (· ∈ s.live) w' := by
    refine h.ext.step hle hFix (by rw [hw']; rfl) (by rw [hw']; rfl) (by rw [hw']; rfl) (by omega) (fun k hk _ _ => hold k (by have := h.ext.size; omega)) (fun b o hF => ?_) (fun t b ht hb => by rw [hC2] at hb; exact h.ext.newT t b ht hb) (fun p hp hp2 => by rw [hC2]; exact h.ext.newB p hp hp2)
    rw [hC2] at hF; rcases hF with hF | ⟨rfl, _⟩
    · exact .inl hF
    · exact .inr (.inl h.ext.size)
  refine ⟨_, C2, w', hrun, h.frame hi2 (by rw [hC2]; exact h.nt) h.n2 rfl hle hFix he2, .d _ _ ?_⟩
  obtain ⟨g1, g2⟩ := RowAt.of (C := C) (C' := C2) (w := w) (w' := w') (b := w.heap.size) (o := 0) f3 f2 f1 (fun q y hq => by rw [Nat.zero_add, cell_of_block hnew, ← Array.getElem?_toList]; simpa using hq) (fun q hq => by rw [hC2]; exact .inr ⟨rfl, by omega⟩)
  exact .rd es w.heap.size 0 n es.length _ (Nat.le_refl _) f4 g1 (fun i j e y he hy => (g2 i j e y he hy).frame hle hFix)
/-- **one operation** -/
theorem pstep_sound {ops : Array Oper} {o : Oper} {mo : MOpr} (ht : TrO E.P B.n ops o mo) (h : Rep E B C s a w) {K : St → Prop} (hp : pstep E mo K s)
    {KC : Act → World → Prop} (hK : ∀ C' s' a' w', Rep E B C' s' a' w' → K s' → KC a' w') (Q : Exit → Act → World → Prop) : o.wp E.P a w KC Q := by
  obtain ⟨t1, t2, t3, t4, t5⟩ := ht
  obtain ⟨d, m, g, cc⟩ := mo
  simp only at t1 t2 t3 t4 hp
  subst t3
  rcases t1 with t1 | ⟨k, xs, t1, rfl⟩
  case inr =>
    simp only [pstep] at hp
    rcases hp with ⟨v, hv, hk⟩ | ⟨v, s', hv, _, _⟩
    · simp only [qf] at hv
      cases hl : litP (ev s.tm) k xs with
      | none => rw [hl] at hv; cases hv
      | some es =>
        rw [hl] at hv; simp only [Option.map_some, Option.some.injEq] at hv; subst hv
        obtain ⟨u, C', w', k1, k2, k3⟩ := litq_sound h t1 hl
        unfold Oper.wp; rw [k1]
        exact hK C' _ _ w' (k2.put t5 k3) hk
    · simp [lf] at hv
  have hq : ∀ v, qf (ev s.tm) s.bx m = some v → K (s.put o.dst v) → o.wp E.P a w KC Q := by
    intro v hv hk
    obtain ⟨u, k1, k2⟩ := qf_run t1 h.ro h.inv.bo hv
    unfold Oper.wp; rw [k1]
    exact hK C _ _ w (h.put t5 k2) hk
  have hlf : ∀ v s', lf (ev s.tm) s m = some (v, s') → K (s'.put o.dst v) → o.wp E.P a w KC Q := by
    intro v s' hv hk
    obtain ⟨u, C', w', k1, k2, k3, k4, k5, k6, k7, k8, k9⟩ := lf_run E.low h.inv h.nt h.n2 h.ext t1 h.ro hv
    have hr : Rep E B C' s' a w' := h.frame k2 k3 k4 k5 k6 k7 k8
    unfold Oper.wp
    rcases k1 with k1 | ⟨k1, rfl⟩
    · rw [k1]; exact hK C' _ _ w' (hr.put t5 k9) hk
    · rw [k1]; exact hK C' _ _ w' (hr.put t5 k9) hk
  have hrest : ((∃ v, qf (ev s.tm) s.bx m = some v ∧ K (s.put o.dst v)) ∨ (∃ v s', lf (ev s.tm) s m = some (v, s') ∧ cc.all (apartX (ev s.tm) (adrS m)) = true ∧ K (s'.put o.dst v))) → o.wp E.P a w KC Q := by
    rintro (⟨v, hv, hk⟩ | ⟨v, s', hv, _, hk⟩)
    · exact hq v hv hk
    · exact hlf v s' hv hk
  obtain ⟨dst, op, ty, pos, after, guard⟩ := o
  simp only at t1 t5
  cases m with
  | call f xs =>
    simp only [pstep] at hp
    have hop : ∃ c, op = .call c ∧ c.callee = .value (.func f) ∧ trXs c.args.toList = some xs := by
      cases op <;> simp only [trOp] at t1 <;> (try (cases t1; done))
      case call c =>
        refine ⟨c, rfl, ?_⟩
        split at t1
        · rename_i f' hc
          cases hx : trXs c.args.toList with
          | none => rw [hx] at t1; cases t1
          | some ys => rw [hx] at t1; simp only [Option.map_some, Option.some.injEq, MO.call.injEq] at t1; obtain ⟨rfl, rfl⟩ := t1; exact ⟨hc, rfl⟩
        all_goals exfalso
        all_goals ((repeat' split at t1) <;> first | contradiction | (cases t1; done) | (simp at t1; done))
      all_goals exfalso
      all_goals ((repeat' split at t1) <;> first | contradiction | (cases t1; done) | (simp at t1; done))
    obtain ⟨c, rfl, hc, hxs⟩ := hop
    obtain ⟨k1, k2⟩ := args_rp h hxs
    have := pcall2_sound h t5 k1 k2 hp hK Q
    unfold Oper.wp
    have hrun : (execOp a.eval { dst := dst, op := .call c, type := ty, pos := pos, after := after, guard := guard }).run E.P w = .ok (.enter f (c.args.toList.map a.eval).toArray) w := by
      simp [execOp, resolve, hc, Act.eval, Deferred.ofValue, invoke]
      rw [run_callFunc t4, ← Array.toList_map, Array.toArray_toList]
    rw [hrun]
    exact this
  | callv x xs =>
    simp only [pstep] at hp
    obtain ⟨f, cap, hv, hok, hp⟩ := hp
    have hop : ∃ c t, op = .call c ∧ c.callee = .value (.tmp t) ∧ x = .t t ∧ trXs c.args.toList = some xs := by
      cases op <;> simp only [trOp] at t1 <;> (try (cases t1; done))
      case call c =>
        split at t1
        · cases hx : trXs c.args.toList with
          | none => rw [hx] at t1; cases t1
          | some ys => rw [hx] at t1; simp at t1
        · rename_i t hc
          cases hx : trXs c.args.toList with
          | none => rw [hx] at t1; cases t1
          | some ys => rw [hx] at t1; simp only [Option.map_some, Option.some.injEq, MO.callv.injEq] at t1; obtain ⟨rfl, rfl⟩ := t1; exact ⟨c, t, rfl, hc, rfl, hx⟩
        all_goals exfalso
        all_goals ((repeat' split at t1) <;> first | contradiction | (cases t1; done) | (simp at t1; done))
      all_goals exfalso
      all_goals ((repeat' split at t1) <;> first | contradiction | (cases t1; done) | (simp at t1; done))
    obtain ⟨c, t, rfl, hc, rfl, hxs⟩ := hop
    obtain ⟨k1, k2⟩ := args_rp h hxs
    have hr := h.tm t
    rw [show s.tm t = .fn f cap from hv] at hr
    generalize hg : a.tmps.getD t undef = z at hr
    cases hr with
    | fn _ _ us hl hu =>
      have := pcall2_sound h (vs := c.args.toList.map a.eval ++ us) t5 (by simp only [List.length_append, k1, hl]) (fun j x y h1 h2 => by
        by_cases hj : j < (xs.map (ev s.tm)).length
        · rw [List.getElem?_append_left hj] at h1; rw [List.getElem?_append_left (by rw [k1]; exact hj)] at h2; exact k2 j x y h1 h2
        · rw [List.getElem?_append_right (by omega)] at h1; rw [List.getElem?_append_right (by rw [k1]; omega), k1] at h2; exact hu _ x y h1 h2) hp hK Q
      unfold Oper.wp
      have hrun : (execOp a.eval { dst := dst, op := .call c, type := ty, pos := pos, after := after, guard := guard }).run E.P w = .ok (.enter f (c.args.toList.map a.eval ++ us).toArray) w := by
        simp only [execOp, resolve, hc, Act.eval, hg]
        simp [Deferred.ofValue, invoke]
        have := run_callFunc hok (c.args.map a.eval ++ us.toArray) w
        rw [this]
        simp
      rw [hrun]
      exact this
  | app n x y =>
    simp only [pstep] at hp
    rcases hp with ⟨v, s', hv, hk⟩ | ⟨_, p, len, cap, z, tk2, ds, a1, a2, a3, a4, a5, a6⟩
    · exact hlf v s' hv hk
    · obtain ⟨t, e, x1, y1, k1, k2, k3, k4, k5⟩ := app_tr t1
      have r1 := h.ro _ _ k3
      have r2 := h.ro _ _ k4
      rw [a2] at r2
      have fin : ∀ u C' w' p' cap' bx', (Builtin.append_ #[t, t] ty #[a.eval x1, a.eval y1]).run E.P w = .ok u w' → AppB n len cap z ds p s.bx p' cap' bx' → Inv E.NG E.T C' bx' (· ∈ s.live) w' → C'.nt = C.nt → CxLe C C' → Fix C w w' → Ext B.C B.w C' bx'.length (· ∈ s.live) w' → RpC C' w' (.row p' (len + ds.length) cap') u →
          Oper.wp E.P { dst := dst, op := op, type := ty, pos := pos, after := after, guard := guard } a w KC Q := by
        intro u C' w' p' cap' bx' q1 q2 q3 q4 q5 q6 q7 q8
        unfold Oper.wp
        rw [k5 a.eval dst ty pos after guard u w w' q1]
        have hr' : Rep E B C' ⟨s.tm, bx', s.nt, s.live⟩ a w' := h.frame q3 (by rw [q4]; exact h.nt) h.n2 rfl q5 q6 q7
        exact hK C' _ _ w' (hr'.put t5 (.d _ _ q8)) (a6 p' cap' bx' q2).2
      generalize hg1 : a.eval x1 = g1 at r1 fin
      generalize hg2 : a.eval y1 = g2 at r2 fin
      cases r2 with
      | d _ _ hv2 =>
        rcases a1 with ⟨b1, b2, b3⟩ | ⟨t0, b1, b2, rfl, rfl, rfl, rfl⟩
        · rw [b1] at r1
          cases r1 with
          | d _ _ hv1 => cases hv1 with
            | row _ _ _ q1 q2 q3 =>
              obtain ⟨u, C', w', p', cap', bx', r1, r2, r3, r4, r5, r6, r7, r8⟩ := appR_run (P := E.P) E.low h.inv h.ext k1 k2 b2 b3 q2 q3 hv2 a3 a4 a5 ty
              exact fin u C' w' p' cap' bx' r1 r2 r3 r4 r5 r6 r7 r8
        · rw [b1] at r1
          cases r1 with
          | d _ _ hv1 =>
            obtain ⟨u, C', w', cap', bx', r1, r2, r3, r4, r5, r6, r7, r8⟩ := appN_run (P := E.P) E.low h.inv h.ext k1 k2 hv1 b2 hv2 a3 (by omega) a5 ty
            exact fin u C' w' _ cap' bx' r1 r2 r3 r4 r5 r6 r7 (by rw [Nat.zero_add]; exact r8)
  | _ => exact hrest hp

/-- **a list of operations, in its order** -/
theorem po_sound {ops : Array Oper} {Q : Exit → Act → World → Prop} {K : St → Prop} : ∀ (l : List Nat) (ml : List MOpr) {C : Cx} {s : St} {a : Act} {w : World}, ml.length = l.length → (∀ (k : Nat) (i : Nat) (mo : MOpr), l[k]? = some i → ml[k]? = some mo → ∃ o, ops[i]? = some o ∧ TrO E.P B.n ops o mo) →
    Rep E B C s a w → po E ml K s → (∀ C' s' a' w', Rep E B C' s' a' w' → K s' → Q .normal a' w') → wpOps E.P ops Q l a w
  | [], [], C, s, a, w, _, _, h, hp, hK => hK C s a w h hp
  | i :: l, mo :: ml, C, s, a, w, hl, ht, h, hp, hK => by
    obtain ⟨o, ho, htr⟩ := ht 0 i mo rfl rfl
    obtain ⟨t1, t2, t3, t4, t5⟩ := id htr
    obtain ⟨g, hg, hp⟩ := hp
    have hw := gd_wanted h t2 hg
    have hrec := fun C' s' a' w' (hr : Rep E B C' s' a' w') (hp' : po E ml K s') => po_sound l ml (by simpa using hl) (fun k i mo h1 h2 => ht (k + 1) i mo (by simpa using h1) (by simpa using h2)) hr hp' hK
    simp only [wpOps, ho, hw]
    rcases hp with ⟨rfl, hp⟩ | ⟨rfl, hp⟩
    · rw [if_pos rfl]
      exact .inl (pstep_sound htr h hp hrec Q)
    · rw [if_neg (by decide)]
      refine hrec C _ _ w (h.put t5 (.tup [] [] rfl (fun j x y h => by simp at h))) ?_
      rw [← t3]; exact hp
  | [], _ :: _, _, _, _, _, hl, _, _, _, _ => by simp at hl
  | _ :: _, [], _, _, _, _, hl, _, _, _, _ => by simp at hl
end
end Go.Proofs.YthngfihpnfoppaaDoor

namespace Go.Proofs.YthngfihpnfoppaaDoor
open Go.RowKit

def X.tmps : X → List Nat
  | .t n => [n]
  | _ => []
def xsT (xs : List X) : List Nat := xs.flatMap X.tmps
def xoT : Option X → List Nat
  | some x => x.tmps
  | none => []
def MO.tmps : MO → List Nat
  | .mv x | .box x | .load _ _ x | .fld _ x | .field _ _ _ x | .not x | .neg x | .conv _ x | .b2s x | .len x | .lens x | .ext x _ | .nilc x => x.tmps
  | .pick c a b => c.tmps ++ (a.tmps ++ b.tmps)
  | .zero _ | .zbld .. => []
  | .build _ ps => ps.flatMap fun p => p.2.2.tmps
  | .lit _ xs | .litq _ xs | .call _ xs | .mkfn _ xs => xsT xs
  | .callv x xs => x.tmps ++ xsT xs
  | .store _ a x | .ix _ a x | .ixs a x | .bin _ _ a x | .minmax _ a x | .app _ a x => a.tmps ++ x.tmps
  | .slc _ x lo hi | .slcs x lo hi => x.tmps ++ (xoT lo ++ xoT hi)
def MO.loud : MO → Bool
  | .box _ | .zero _ | .zbld .. | .lit .. | .app .. | .store .. | .call .. | .callv .. => true
  | _ => false
def MO.isStore : MO → Bool
  | .store .. => true
  | _ => false
def MO.isLoad : MO → Bool
  | .load .. => true
  | _ => false
def MO.isCall : MO → Bool
  | .call .. | .callv .. => true
  | _ => false
def MO.isApp : MO → Bool
  | .app .. => true
  | _ => false
/-- it may change boxes that are there -/
def MOpr.wr (m : MOpr) : Bool := m.o.isStore || ((m.o.isCall || m.o.isApp) && m.shm)
/-- the marks of calls are kept -/
def keepC : List X → List X
  | .f k :: _ => [.f k]
  | _ => []
def MOpr.keep (m : MOpr) : List X := if m.o.isCall || m.o.isApp then keepC m.c else []
theorem shm_keepC {d : Option Nat} {m : MO} {g : Option (Nat × Bool)} {c : List X} (h : MOpr.shm ⟨d, m, g, c⟩ = true) : MOpr.shm ⟨d, m, g, keepC c⟩ = true := by
  unfold MOpr.shm at h
  split at h
  · rename_i k r hk; simp only at hk; subst hk; rfl
  · cases h
theorem keepC_x {c : List X} {tm : Nat → PV} {bx bx' : List (List PC)} : ∀ y ∈ keepC c, keepX (ev tm) bx bx' y := by
  intro y hy
  unfold keepC at hy
  split at hy
  · rw [List.mem_singleton] at hy; subst hy; exact keepX_f _ _ _ _
  · cases hy
def MOpr.tmps (m : MOpr) : List Nat := m.o.tmps ++ (match m.g with | some (t, _) => [t] | none => [])

theorem ev_congr {tm tm' : Nat → PV} {x : X} (h : ∀ t ∈ x.tmps, tm t = tm' t) : ev tm x = ev tm' x := by
  cases x with
  | t n => exact h n (by simp [X.tmps])
  | c v => rfl
  | f n => rfl
theorem evs_congr {tm tm' : Nat → PV} : ∀ {xs : List X}, (∀ t ∈ xsT xs, tm t = tm' t) → xs.map (ev tm) = xs.map (ev tm')
  | [], _ => rfl
  | x :: xs, h => by
    simp only [List.map_cons]
    rw [ev_congr (x := x) (fun t ht => h t (by simp [xsT]; exact .inl ht)), evs_congr (xs := xs) (fun t ht => h t (by simp only [xsT, List.flatMap_cons, List.mem_append]; exact .inr ht))]
theorem fillP_congr {tm tm' : Nat → PV} : ∀ {ps : List (Nat × Nat × X)} {z : List PC}, (∀ t ∈ ps.flatMap (fun p => p.2.2.tmps), tm t = tm' t) → fillP (ev tm) z ps = fillP (ev tm') z ps
  | [], _, _ => rfl
  | (o, n, x) :: ps, z, h => by
    simp only [fillP]
    rw [ev_congr (x := x) (fun t ht => h t (by simp only [List.flatMap_cons, List.mem_append]; exact .inl ht))]
    have hr := fun z => fillP_congr (ps := ps) (z := z) (fun t ht => h t (by simp only [List.flatMap_cons, List.mem_append]; exact .inr ht))
    split
    · split
      · exact hr _
      · rfl
    · rfl
theorem litP_congr {tm tm' : Nat → PV} {n : Nat} : ∀ {xs : List X}, (∀ t ∈ xsT xs, tm t = tm' t) → litP (ev tm) n xs = litP (ev tm') n xs
  | [], _ => rfl
  | x :: xs, h => by
    simp only [litP]
    rw [ev_congr (x := x) (fun t ht => h t (by simp [xsT]; exact .inl ht)), litP_congr (xs := xs) (fun t ht => h t (by simp only [xsT, List.flatMap_cons, List.mem_append]; exact .inr ht))]
theorem bound_congr {tm tm' : Nat → PV} {d : Nat} {x : Option X} (h : ∀ t ∈ xoT x, tm t = tm' t) : bound (ev tm) d x = bound (ev tm') d x := by
  cases x with
  | none => rfl
  | some x => simp only [bound]; rw [ev_congr h]
theorem qf_congr {tm tm' : Nat → PV} {bx : List (List PC)} {m : MO} (h : ∀ t ∈ m.tmps, tm t = tm' t) : qf (ev tm) bx m = qf (ev tm') bx m := by
  cases m <;> simp only [MO.tmps, List.mem_append, or_imp, forall_and] at h <;> simp only [qf] <;>
    first
      | rfl
      | (rw [ev_congr h]; done)
      | (rw [ev_congr h.1, ev_congr h.2]; done)
      | (rw [ev_congr h.1, ev_congr h.2.1, ev_congr h.2.2]; done)
      | (rw [fillP_congr (by intro t ht; exact h t ht)]; done)
      | (rw [evs_congr h]; done)
      | (rw [litP_congr h]; done)
      | (rw [ev_congr h.1, bound_congr h.2.1]; simp only [bound_congr h.2.2]; done)
      | (rw [ev_congr h.1]; simp only [bound_congr h.2.1, bound_congr h.2.2]; done)
theorem lf_congr {tm tm' : Nat → PV} {bx : List (List PC)} {nt : Nat} {live : List Nat} {m : MO} (h : ∀ t ∈ m.tmps, tm t = tm' t) {v : PV} {s' : St} (hl : lf (ev tm) ⟨tm, bx, nt, live⟩ m = some (v, s')) :
    lf (ev tm') ⟨tm', bx, nt, live⟩ m = some (v, { s' with tm := tm' }) ∧ s'.tm = tm := by
  rcases lf_some hl with ⟨x, rfl⟩ | ⟨z, rfl⟩ | ⟨n, xs, rfl⟩ | ⟨n, a, x, rfl⟩ | ⟨n, a, x, rfl⟩ | ⟨bT, bU, rfl⟩
  · simp only [MO.tmps] at h
    simp only [lf] at hl ⊢
    rw [← ev_congr h]
    cases hc : pcells (ev tm x) with
    | none => rw [hc] at hl; cases hl
    | some cs => rw [hc] at hl; simp only [Option.map_some, Option.some.injEq, Prod.mk.injEq] at hl ⊢; obtain ⟨rfl, rfl⟩ := hl; exact ⟨⟨rfl, rfl⟩, rfl⟩
  · simp only [lf, Option.some.injEq, Prod.mk.injEq] at hl ⊢; obtain ⟨rfl, rfl⟩ := hl; exact ⟨⟨rfl, rfl⟩, rfl⟩
  · simp only [MO.tmps] at h
    simp only [lf] at hl ⊢
    rw [← litP_congr h]
    cases hc : litP (ev tm) n xs with
    | none => rw [hc] at hl; cases hl
    | some cs => rw [hc] at hl; simp only [Option.map_some, Option.some.injEq, Prod.mk.injEq] at hl ⊢; obtain ⟨rfl, rfl⟩ := hl; exact ⟨⟨rfl, rfl⟩, rfl⟩
  · simp only [MO.tmps, List.mem_append, or_imp, forall_and] at h
    simp only [lf] at hl ⊢
    rw [← ev_congr h.1, ← ev_congr h.2]
    split at hl
    · split at hl
      · rename_i hc
        rw [if_pos hc]
        simp only [Option.some.injEq, Prod.mk.injEq] at hl ⊢; obtain ⟨rfl, rfl⟩ := hl; exact ⟨⟨rfl, rfl⟩, rfl⟩
      · cases hl
    · cases hl
  · simp only [MO.tmps, List.mem_append, or_imp, forall_and] at h
    simp only [lf] at hl ⊢
    rw [← ev_congr h.1, ← ev_congr h.2]
    split at hl
    · split at hl
      · split at hl
        · rename_i hc
          rw [if_pos hc]
          simp only [Option.some.injEq, Prod.mk.injEq] at hl ⊢; obtain ⟨rfl, rfl⟩ := hl; exact ⟨⟨rfl, rfl⟩, rfl⟩
        · cases hl
      · cases hl
    · cases hl
  · simp only [lf, Option.some.injEq, Prod.mk.injEq] at hl ⊢; obtain ⟨rfl, rfl⟩ := hl; exact ⟨⟨rfl, rfl⟩, rfl⟩
theorem gd_congr {tm tm' : Nat → PV} {g : Option (Nat × Bool)} (h : ∀ t, (match g with | some (t, _) => [t] | none => []).contains t = true → tm t = tm' t) : gd g tm = gd g tm' := by
  cases g with
  | none => rfl
  | some p => obtain ⟨t, b⟩ := p; simp only [gd]; rw [h t (by simp)]
/-- what a store has written, and what it has not touched -/
def Wrote (e : X → PV) (mo : MOpr) (bx bx' : List (List PC)) : Prop := (mo.shm = true ∧ ∀ y ∈ mo.c, keepX e bx bx' y) ∨ ∃ p o z, e (adrS mo.o) = .ref p o ∧ bx' = bx.set p z ∧ ∀ y ∈ mo.c, apartX e (adrS mo.o) y = true
/-- a step looks at what its operation mentions, and at the heap -/
theorem MOpr.shm_of {mo : MOpr} (h : (mo.o.isCall || mo.o.isApp) = true) (hw : mo.wr = true) : mo.shm = true := by
  unfold MOpr.wr at hw
  have : mo.o.isStore = false := by cases ho : mo.o <;> rw [ho] at h <;> first | rfl | cases h
  rw [this, h] at hw; simpa using hw
theorem MOpr.wr_of {mo : MOpr} (h : (mo.o.isCall || mo.o.isApp) = true) (hs : mo.shm = true) : mo.wr = true := by
  unfold MOpr.wr; rw [h, hs]; simp
theorem pstep_congr {E : Env} {mo : MOpr} {tm tm' : Nat → PV} {bx : List (List PC)} {nt : Nat} {live : List Nat} (h : ∀ t ∈ mo.o.tmps, tm t = tm' t) {K : St → Prop} (hp : pstep E mo K ⟨tm, bx, nt, live⟩) :
    pstep E { mo with c := mo.keep } (fun s => ∃ v bx' nt' live', s = St.put ⟨tm', bx', nt', live'⟩ mo.d v ∧ K (St.put ⟨tm, bx', nt', live'⟩ mo.d v) ∧
      ((mo.o.loud = false ∧ bx' = bx ∧ nt' = nt ∧ live' = live ∧ qf (ev tm) bx mo.o = some v) ∨ (mo.o.loud = true ∧ (mo.wr = false → bx' = bx ∨ ∃ c, bx' = bx ++ [c]) ∧ (mo.wr = true → Wrote (ev tm) mo bx bx')))) ⟨tm', bx, nt, live⟩ := by
  have hcall : ∀ f xs, pcall E f xs mo.d K ⟨tm, bx, nt, live⟩ → mo.o.loud = true → (mo.o.isCall || mo.o.isApp) = true → pcall E f xs mo.d (fun s => ∃ v bx' nt' live', s = St.put ⟨tm', bx', nt', live'⟩ mo.d v ∧ K (St.put ⟨tm, bx', nt', live'⟩ mo.d v) ∧
      ((mo.o.loud = false ∧ bx' = bx ∧ nt' = nt ∧ live' = live ∧ qf (ev tm) bx mo.o = some v) ∨ (mo.o.loud = true ∧ (mo.wr = false → bx' = bx ∨ ∃ c, bx' = bx ++ [c]) ∧ (mo.wr = true → Wrote (ev tm) mo bx bx')))) ⟨tm', bx, nt, live⟩ := by
    rintro f xs ⟨args, R, h1, h2, h3⟩ hl hns
    refine ⟨args, R, h1, h2, ?_⟩
    rcases h3 with h3 | h3
    · left
      intro x lv hR
      obtain ⟨y, k1, k2⟩ := h3 x lv hR
      exact ⟨y, k1, y, bx, nt, live, rfl, k2, .inr ⟨hl, fun _ => .inl rfl, fun h => .inl ⟨MOpr.shm_of hns h, fun y _ => keepX_refl _ _ y⟩⟩⟩
    · right
      intro x lv k hR hk hlt
      obtain ⟨y, k1, k2, k3⟩ := h3 x lv k hR hk hlt
      exact ⟨y, k1, k2, y, bx, nt + k, x.toks.map (· + nt) ++ live, rfl, k3, .inr ⟨hl, fun _ => .inl rfl, fun h => .inl ⟨MOpr.shm_of hns h, fun y _ => keepX_refl _ _ y⟩⟩⟩
  have hcallG : ∀ f xs, mo.shm = true → pcallG E f xs mo.d mo.c K ⟨tm, bx, nt, live⟩ → mo.o.loud = true → (mo.o.isCall || mo.o.isApp) = true → pcallG E f xs mo.d (keepC mo.c) (fun s => ∃ v bx' nt' live', s = St.put ⟨tm', bx', nt', live'⟩ mo.d v ∧ K (St.put ⟨tm, bx', nt', live'⟩ mo.d v) ∧
      ((mo.o.loud = false ∧ bx' = bx ∧ nt' = nt ∧ live' = live ∧ qf (ev tm) bx mo.o = some v) ∨ (mo.o.loud = true ∧ (mo.wr = false → bx' = bx ∨ ∃ c, bx' = bx ++ [c]) ∧ (mo.wr = true → Wrote (ev tm) mo bx bx')))) ⟨tm', bx, nt, live⟩ := by
    rintro f xs hs ⟨R, h1, h2⟩ hl hns
    exact ⟨R, h1, fun x b n l hR => ⟨keepC_x, x, b, n, l, rfl, (h2 x b n l hR).2, .inr ⟨hl, (fun hw => by rw [MOpr.wr_of hns hs] at hw; cases hw), fun _ => .inl ⟨hs, (h2 x b n l hR).1⟩⟩⟩⟩
  obtain ⟨d, m, g, cc⟩ := mo
  simp only at h hcall hcallG
  have hrest : m.isApp = false → ((∃ v, qf (ev tm) bx m = some v ∧ K (St.put ⟨tm, bx, nt, live⟩ d v)) ∨ (∃ v s', lf (ev tm) ⟨tm, bx, nt, live⟩ m = some (v, s') ∧ cc.all (apartX (ev tm) (adrS m)) = true ∧ K (s'.put d v))) →
      ((∃ v, qf (ev tm') bx m = some v ∧ (∃ u bx' nt' live', St.put ⟨tm', bx, nt, live⟩ d v = St.put ⟨tm', bx', nt', live'⟩ d u ∧ K (St.put ⟨tm, bx', nt', live'⟩ d u) ∧
        ((m.loud = false ∧ bx' = bx ∧ nt' = nt ∧ live' = live ∧ qf (ev tm) bx m = some u) ∨ (m.loud = true ∧ (MOpr.wr ⟨d, m, g, cc⟩ = false → bx' = bx ∨ ∃ c, bx' = bx ++ [c]) ∧ (MOpr.wr ⟨d, m, g, cc⟩ = true → Wrote (ev tm) ⟨d, m, g, cc⟩ bx bx'))))) ∨
       (∃ v s', lf (ev tm') ⟨tm', bx, nt, live⟩ m = some (v, s') ∧ (MOpr.keep ⟨d, m, g, cc⟩).all (apartX (ev tm') (adrS m)) = true ∧ (∃ u bx' nt' live', s'.put d v = St.put ⟨tm', bx', nt', live'⟩ d u ∧ K (St.put ⟨tm, bx', nt', live'⟩ d u) ∧
        ((m.loud = false ∧ bx' = bx ∧ nt' = nt ∧ live' = live ∧ qf (ev tm) bx m = some u) ∨ (m.loud = true ∧ (MOpr.wr ⟨d, m, g, cc⟩ = false → bx' = bx ∨ ∃ c, bx' = bx ++ [c]) ∧ (MOpr.wr ⟨d, m, g, cc⟩ = true → Wrote (ev tm) ⟨d, m, g, cc⟩ bx bx')))))) := by
    rintro hna (⟨v, hv, hk⟩ | ⟨v, s', hv, hap, hk⟩)
    · left
      refine ⟨v, by rw [← qf_congr h]; exact hv, v, bx, nt, live, rfl, hk, .inl ⟨?_, rfl, rfl, rfl, hv⟩⟩
      cases m <;> first | rfl | (simp [qf] at hv)
    · right
      obtain ⟨k1, k2⟩ := lf_congr h hv
      refine ⟨v, _, k1, ?_, v, s'.bx, s'.nt, s'.live, rfl, ?_, .inr ⟨?_, fun hst => ?_, fun hst => ?_⟩⟩
      · rcases lf_some hv with ⟨x, rfl⟩ | ⟨z, rfl⟩ | ⟨n, xs, rfl⟩ | ⟨n, a, x, rfl⟩ | ⟨n, a, x, rfl⟩ | ⟨bT, bU, rfl⟩ <;> first | rfl | cases hna
      · have : (⟨tm, s'.bx, s'.nt, s'.live⟩ : St) = s' := by rw [← k2]
        rw [this]; exact hk
      · rcases lf_some hv with ⟨x, rfl⟩ | ⟨z, rfl⟩ | ⟨n, xs, rfl⟩ | ⟨n, a, x, rfl⟩ | ⟨n, a, x, rfl⟩ | ⟨bT, bU, rfl⟩ <;> rfl
      · rcases lf_some hv with ⟨x, rfl⟩ | ⟨z, rfl⟩ | ⟨n, xs, rfl⟩ | ⟨n, a, x, rfl⟩ | ⟨n, a, x, rfl⟩ | ⟨bT, bU, rfl⟩
        · simp only [lf] at hv
          cases hc : pcells (ev tm x) with
          | none => rw [hc] at hv; cases hv
          | some cs => rw [hc] at hv; simp only [Option.map_some, Option.some.injEq, Prod.mk.injEq] at hv; obtain ⟨_, rfl⟩ := hv; exact .inr ⟨cs, rfl⟩
        · simp only [lf, Option.some.injEq, Prod.mk.injEq] at hv; obtain ⟨_, rfl⟩ := hv; exact .inr ⟨_, rfl⟩
        · simp only [lf] at hv
          cases hc : litP (ev tm) n xs with
          | none => rw [hc] at hv; cases hv
          | some cs => rw [hc] at hv; simp only [Option.map_some, Option.some.injEq, Prod.mk.injEq] at hv; obtain ⟨_, rfl⟩ := hv; exact .inl rfl
        · simp only [lf] at hv
          split at hv
          · split at hv
            · simp only [Option.some.injEq, Prod.mk.injEq] at hv; obtain ⟨_, rfl⟩ := hv; exact .inl rfl
            · cases hv
          · cases hv
        · exact absurd hst (by simp [MOpr.wr, MO.isStore])
        · simp only [lf, Option.some.injEq, Prod.mk.injEq] at hv; obtain ⟨_, rfl⟩ := hv; exact .inr ⟨_, rfl⟩
      · rcases lf_some hv with ⟨x, rfl⟩ | ⟨z, rfl⟩ | ⟨n, xs, rfl⟩ | ⟨n, a, x, rfl⟩ | ⟨n, a, x, rfl⟩ | ⟨bT, bU, rfl⟩ <;> try (exfalso; first | (cases hna; done) | (simp [MOpr.wr, MO.isStore, MO.isCall, MO.isApp] at hst; done))
        simp only [lf] at hv
        split at hv
        · rename_i p o cs hp hcs
          split at hv
          · split at hv
            · simp only [Option.some.injEq, Prod.mk.injEq] at hv; obtain ⟨_, rfl⟩ := hv
              exact .inr ⟨p, o, _, hp, rfl, List.all_eq_true.1 hap⟩
            · cases hv
          · cases hv
        · cases hv
  cases m with
  | call f xs =>
    simp only [pstep, MO.tmps] at hp h ⊢
    rw [← evs_congr h]
    exact hp.imp (fun hp => hcall f _ hp rfl rfl) fun hp => ⟨shm_keepC hp.1, hcallG f _ hp.1 hp.2 rfl rfl⟩
  | callv x xs =>
    simp only [MO.tmps, List.mem_append, or_imp, forall_and] at h
    simp only [pstep] at hp ⊢
    obtain ⟨f, cap, h1, h2, h3⟩ := hp
    rw [← evs_congr h.2, ← ev_congr h.1]
    exact ⟨f, cap, h1, h2, h3.imp (fun hp => hcall f _ hp rfl rfl) fun hp => ⟨shm_keepC hp.1, hcallG f _ hp.1 hp.2 rfl rfl⟩⟩
  | app n x y =>
    have h' := h
    simp only [MO.tmps, List.mem_append, or_imp, forall_and] at h'
    simp only [pstep] at hp ⊢
    rcases hp with ⟨v, s', hv, hk⟩ | ⟨hs, p, len, cap, z, tk2, ds, a1, a2, a3, a4, a5, a6⟩
    · obtain ⟨k1, k2⟩ := lf_congr h hv
      have hb : s'.bx = bx := by
        simp only [lf] at hv
        split at hv
        · split at hv
          · simp only [Option.some.injEq, Prod.mk.injEq] at hv; obtain ⟨_, rfl⟩ := hv; rfl
          · cases hv
        · cases hv
      refine .inl ⟨v, _, k1, v, s'.bx, s'.nt, s'.live, rfl, ?_, .inr ⟨rfl, fun _ => .inl hb, fun hst => .inl ⟨MOpr.shm_of rfl hst, fun y _ => by rw [hb]; exact keepX_refl _ _ y⟩⟩⟩
      have : (⟨tm, s'.bx, s'.nt, s'.live⟩ : St) = s' := by rw [← k2]
      rw [this]; exact hk
    · refine .inr ⟨shm_keepC hs, p, len, cap, z, tk2, ds, ?_, ?_, a3, a4, a5, fun p' cap' bx' hA => ⟨keepC_x, _, bx', nt, live, rfl, (a6 p' cap' bx' hA).2, .inr ⟨rfl, (fun hw => by rw [MOpr.wr_of (mo := ⟨d, .app n x y, g, cc⟩) rfl hs] at hw; cases hw), fun _ => .inl ⟨hs, (a6 p' cap' bx' hA).1⟩⟩⟩⟩
      · rw [← ev_congr h'.1]; exact a1
      · rw [← ev_congr h'.2]; exact a2
  | _ => exact hrest rfl hp
/-- the address of a load -/
def adrL : MO → Option X
  | .load _ _ x => some x
  | _ => none
/-- a load beside a store into another box -/
theorem qf_apart {e : X → PV} {mo : MOpr} {bx bx' : List (List PC)} {m : MO} {x : X} {v : PV} (hx : adrL m = some x) {e' : X → PV} (he : e x = e' x) (hw : Wrote e' mo bx bx') (_hf : ∀ k, ∃ g, e (.f k) = .fn g []) (hm : x ∈ mo.c) (h : qf e bx m = some v) : qf e bx' m = some v := by
  cases m <;> simp only [adrL, reduceCtorEq] at hx
  case load ag n y =>
    simp only [Option.some.injEq] at hx; subst hx
    rcases hw with hw | hw
    · have hk := hw.2 y hm
      unfold keepX at hk
      rw [← he] at hk
      simp only [qf] at h ⊢
      split at h
      · rename_i q o' hq
        rw [hq] at hk
        simp only at hk
        rw [hk]; exact h
      · exact h
      · cases h
    obtain ⟨p, o, z, h1, rfl, h3⟩ := hw
    have h4 := h3 y hm
    simp only [apartX, h1] at h4
    simp only [qf] at h ⊢
    rw [he] at h ⊢
    split at h
    · rename_i q o' hq
      rw [hq] at h4
      have : q ≠ p := by simpa using h4
      rw [List.getElem?_set_ne (Ne.symm this)]; exact h
    · exact h
    · cases h
/-- what is no load does not look at the boxes -/
theorem qf_nobx {e : X → PV} {bx bx' : List (List PC)} {m : MO} (h : m.isLoad = false) : qf e bx m = qf e bx' m := by
  cases m <;> first | rfl | (cases h)
theorem qf_ext {e : X → PV} {bx bx' : List (List PC)} {m : MO} {v : PV} (h : qf e bx m = some v) (hb : bx' = bx ∨ ∃ c, bx' = bx ++ [c]) : qf e bx' m = some v := by
  rcases hb with rfl | ⟨c, rfl⟩
  · exact h
  · cases m with
    | load ag n x =>
      simp only [qf] at h ⊢
      split at h
      · rename_i p o hx
        split at h
        · rename_i cs hcs
          have hlt : p < bx.length := by
            rcases Nat.lt_or_ge p bx.length with h' | h'
            · exact h'
            · simp [List.getElem?_eq_none h'] at hcs
          rw [List.getElem?_append_left hlt, hcs]; exact h
        · cases h
      · exact h
      · cases h
    | _ => exact h
end Go.Proofs.YthngfihpnfoppaaDoor

namespace Go.Proofs.YthngfihpnfoppaaDoor
open Go.RowKit

/-- the edges of an operation that bind in every order -/
def edgesOf (o : Oper) : List Nat := (o.after.toList.filter (Region.binds .any)).map (·.on)
/-- what comes before what, whatever the order -/
def befs (es : List (List Nat)) : List (List Nat) := es.foldl (fun acc e => acc ++ [(e ++ e.flatMap fun j => acc.getD j []).eraseDups]) []
def befOf (bs : List (List Nat)) (i : Nat) : List Nat := bs.getD i []
/-- where i and j touch one temporary, one of the two comes first -/
def clash (ml : List MOpr) (i j : Nat) : Bool :=
  match ml[i]?, ml[j]? with
  | some a, some b =>
    (match a.d with
     | some d => b.tmps.contains d
     | none => false)
  | _, _ => false
structure Canon (ml : List MOpr) (es bs : List (List Nat)) (ord : List Nat) : Prop where
  len : es.length = ml.length
  blen : bs.length = ml.length
  nodup : ord.Nodup
  mem : ∀ i, i ∈ ord ↔ i < ml.length
  acyc : ∀ i e, i < ml.length → e ∈ es.getD i [] → e < i
  bef : ∀ i j, i < ml.length → j ∈ befOf bs i → j ∈ es.getD i [] ∨ ∃ e ∈ es.getD i [], j ∈ befOf bs e
  dst : ∀ (i j : Nat) (a b : MOpr) (t : Nat), ml[i]? = some a → ml[j]? = some b → a.d = some t → b.d = some t → i = j
  touch : ∀ (i j : Nat) (a b : MOpr) (t : Nat), ml[i]? = some a → ml[j]? = some b → a.d = some t → t ∈ b.tmps → i ∈ befOf bs j ∨ j ∈ befOf bs i
  ord' : ∀ pre i post, ord = pre ++ i :: post → ∀ j ∈ befOf bs i, j ∈ pre
  loud : ∀ (i j : Nat) (a b : MOpr), ml[i]? = some a → ml[j]? = some b → a.o.loud = true → b.o.loud = true → i ≠ j → i ∈ befOf bs j ∨ j ∈ befOf bs i
  asap : ∀ (pre : List Nat) (i : Nat) (post : List Nat) (a : MOpr), ord = pre ++ i :: post → ml[i]? = some a → a.o.loud = false → ∀ (j : Nat) (b : MOpr), j ∈ pre → ml[j]? = some b → b.o.loud = true → j ∈ befOf bs i
  store : ∀ (i j : Nat) (a b : MOpr), ml[i]? = some a → ml[j]? = some b → a.o.isLoad = true → b.wr = true → (i ∈ befOf bs j ∨ j ∈ befOf bs i) ∨ ∃ x, adrL a.o = some x ∧ x ∈ b.c ∧ ∀ t ∈ x.tmps, ∀ (k : Nat) (mk : MOpr), ml[k]? = some mk → mk.d = some t → k ∈ befOf bs i
  self : ∀ i, i < ml.length → i ∉ befOf bs i

section
variable {ml : List MOpr} {es bs : List (List Nat)} {ord : List Nat} (hc : Canon ml es bs ord)
include hc
/-- what comes before is listed, if what is listed is closed -/
theorem Canon.closed (L : Nat → Prop) (hL : ∀ i, i < ml.length → L i → ∀ e ∈ es.getD i [], L e) : ∀ (i : Nat), i < ml.length → (∀ e ∈ es.getD i [], L e) → ∀ j ∈ befOf bs i, L j := by
  intro i
  induction i using Nat.strongRecOn with
  | _ i ih =>
    intro hi he j hj
    rcases hc.bef i j hi hj with h | ⟨e, he', h⟩
    · exact he j h
    · have hlt := hc.acyc i e hi he'
      exact ih e hlt (by omega) (hL e (by omega) (he e he')) j h
end

/-- the writer of a temporary is among those that meet L -/
def wr (ml : List MOpr) (L : Nat → Prop) (t : Nat) : Prop := ∃ (i : Nat) (m : MOpr), ml[i]? = some m ∧ m.d = some t ∧ L i
open Classical in
noncomputable def mix (ml : List MOpr) (L : Nat → Prop) (f g : Nat → PV) : Nat → PV := fun t => if wr ml L t then f t else g t

/-- what is known of a quiet operation that the canonical order has carried out -/
def Done (ml : List MOpr) (bs : List (List Nat)) (tm0 tm : Nat → PV) (bx : List (List PC)) (j : Nat) : Prop :=
  ∀ (m : MOpr), ml[j]? = some m → m.o.loud = false → ∃ v, (∀ t, m.d = some t → tm t = v) ∧
    ((gd m.g (mix ml (· ∈ befOf bs j) tm tm0) = some true ∧ qf (ev (mix ml (· ∈ befOf bs j) tm tm0)) bx m.o = some v) ∨ (gd m.g (mix ml (· ∈ befOf bs j) tm tm0) = some false ∧ v = .tup []))
structure Sim (E : Env) (B : Base) (ml : List MOpr) (es bs : List (List Nat)) (ord : List Nat) (K : St → Prop) (tm0 : Nat → PV) (L : Nat → Prop) (pre rest : List Nat) (s : St) : Prop where
  split : ord = pre ++ rest
  head : ∀ (i : Nat) (r : List Nat) (m : MOpr), rest = i :: r → ml[i]? = some m → m.o.loud = true
  run : po E (rest.filterMap (ml[·]?)) K s
  lt : ∀ i, L i → i < ml.length
  closed : ∀ i, i < ml.length → L i → ∀ e ∈ es.getD i [], L e
  sub : ∀ i, L i → i ∈ pre
  loud : ∀ (i : Nat) (m : MOpr), ml[i]? = some m → m.o.loud = true → i ∈ pre → L i
  fresh : ∀ t, ¬ wr ml (· ∈ pre) t → s.tm t = tm0 t
  done : ∀ j ∈ pre, ¬ L j → Done ml bs tm0 s.tm s.bx j

section
variable {E : Env} {B : Base} {ml : List MOpr} {es bs : List (List Nat)} {ord : List Nat} {K : St → Prop} {tm0 : Nat → PV}

/-- on what j mentions, the canonical values at j's turn are those that any order shows -/
theorem mix_eq (hc : Canon ml es bs ord) {L : Nat → Prop} (hLlt : ∀ i, L i → i < ml.length) (hLcl : ∀ i, i < ml.length → L i → ∀ e ∈ es.getD i [], L e) {j : Nat} {m : MOpr} (hj : ml[j]? = some m) (hnot : ¬ L j) (hready : ∀ e ∈ es.getD j [], L e) (f g : Nat → PV) :
    ∀ t ∈ m.tmps, mix ml (· ∈ befOf bs j) f g t = mix ml L f g t := by
  intro t ht
  have hjl : j < ml.length := by
    rcases Nat.lt_or_ge j ml.length with h | h
    · exact h
    · simp [List.getElem?_eq_none h] at hj
  have hcl := hc.closed L hLcl
  by_cases h1 : wr ml (· ∈ befOf bs j) t
  · have h2 : wr ml L t := by
      obtain ⟨i, mi, a1, a2, a3⟩ := h1
      exact ⟨i, mi, a1, a2, hcl j hjl hready i a3⟩
    simp [mix, h1, h2]
  · have h2 : ¬ wr ml L t := by
      rintro ⟨i, mi, a1, a2, a3⟩
      rcases hc.touch i j mi m t a1 hj a2 ht with h | h
      · exact h1 ⟨i, mi, a1, a2, h⟩
      · exact hnot (hcl i (hLlt i a3) (hLcl i (hLlt i a3) a3) j h)
    simp [mix, h1, h2]

/-- the canonical order carries out quiet operations as soon as it may -/
theorem quiets (hc : Canon ml es bs ord) {L : Nat → Prop} : ∀ (rest pre : List Nat) (s : St), ord = pre ++ rest → po E (rest.filterMap (ml[·]?)) K s → (∀ i, L i → i < ml.length) → (∀ i, i < ml.length → L i → ∀ e ∈ es.getD i [], L e) → (∀ i, L i → i ∈ pre) →
    (∀ (i : Nat) (m : MOpr), ml[i]? = some m → m.o.loud = true → i ∈ pre → L i) → (∀ t, ¬ wr ml (· ∈ pre) t → s.tm t = tm0 t) → (∀ j ∈ pre, ¬ L j → Done ml bs tm0 s.tm s.bx j) →
    ∃ pre' rest' s', Sim E B ml es bs ord K tm0 L pre' rest' s' ∧ s'.bx = s.bx ∧ s'.nt = s.nt ∧ s'.live = s.live ∧ (∀ t, wr ml (· ∈ pre) t → s'.tm t = s.tm t) := by
  intro rest
  induction rest with
  | nil =>
    intro pre s h1 h2 h3 h4 h5 h6 h7 h8
    exact ⟨pre, [], s, ⟨h1, (fun i r m h => by cases h), h2, h3, h4, h5, h6, h7, h8⟩, rfl, rfl, rfl, fun _ _ => rfl⟩
  | cons i rest ih =>
    intro pre s h1 h2 h3 h4 h5 h6 h7 h8
    have him : i ∈ ord := by rw [h1]; simp
    have hil : i < ml.length := (hc.mem i).1 him
    have hmi : ml[i]? = some ml[i] := List.getElem?_eq_getElem hil
    by_cases hloud : ml[i].o.loud = true
    · exact ⟨pre, i :: rest, s, ⟨h1, fun i' r m h hm => by simp only [List.cons.injEq] at h; obtain ⟨rfl, rfl⟩ := h; rw [hmi] at hm; simp only [Option.some.injEq] at hm; subst hm; exact hloud, h2, h3, h4, h5, h6, h7, h8⟩, rfl, rfl, rfl, fun _ _ => rfl⟩
    · have hq : ml[i].o.loud = false := by simpa using hloud
      have hnd := hc.nodup
      rw [h1] at hnd
      have hipre : i ∉ pre := fun h => by
        have := (List.nodup_append.1 hnd).2.2 i h i (by simp)
        exact this rfl
      have hiL : ¬ L i := fun h => hipre (h5 i h)
      simp only [List.filterMap_cons, hmi] at h2
      obtain ⟨g, hg, hrun⟩ := h2
      -- what i mentions is as the canonical order has it
      have hmix : ∀ t ∈ ml[i].tmps, s.tm t = mix ml (· ∈ befOf bs i) s.tm tm0 t := by
        intro t ht
        by_cases hw : wr ml (· ∈ befOf bs i) t
        · simp [mix, hw]
        · simp only [mix, hw, if_false]
          refine h7 t ?_
          rintro ⟨k, mk, a1, a2, a3⟩
          rcases hc.touch k i mk ml[i] t a1 hmi a2 ht with h | h
          · exact hw ⟨k, mk, a1, a2, h⟩
          · obtain ⟨p1, p2, hp⟩ := List.append_of_mem a3
            have := hc.ord' p1 k (p2 ++ i :: rest) (by rw [h1, hp]; simp) i h
            exact hipre (by rw [hp]; simp [this])
      have hdi : ∀ t, ml[i].d = some t → ¬ wr ml (· ∈ pre) t := by
        rintro t ht ⟨k, mk, a1, a2, a3⟩
        have := hc.dst k i mk ml[i] t a1 hmi a2 ht
        subst this; exact hipre a3
      -- the step
      have step : ∃ v, po E (rest.filterMap (ml[·]?)) K (s.put ml[i].d v) ∧ ((gd ml[i].g s.tm = some true ∧ qf (ev s.tm) s.bx ml[i].o = some v) ∨ (gd ml[i].g s.tm = some false ∧ v = .tup [])) := by
        rcases hrun with ⟨rfl, hrun⟩ | ⟨rfl, hrun⟩
        · generalize hm : ml[i] = m at *
          have hno : ∀ x, lf (ev s.tm) s m.o ≠ some x := by
            intro x hx
            rcases lf_some hx with ⟨x, e⟩ | ⟨z, e⟩ | ⟨n, xs, e⟩ | ⟨n, a, x, e⟩ | ⟨n, a, x, e⟩ | ⟨bT, bU, e⟩ <;> rw [e] at hq <;> cases hq
          have : ∃ v, qf (ev s.tm) s.bx m.o = some v ∧ po E (rest.filterMap (ml[·]?)) K (s.put m.d v) := by
            unfold pstep at hrun
            split at hrun
            · rename_i e; rw [e] at hq; cases hq
            · rename_i e; rw [e] at hq; cases hq
            · rename_i e; rw [e] at hq; cases hq
            · rcases hrun with h | ⟨v, s', hv, _, _⟩
              · exact h
              · exact absurd hv (hno _)
          obtain ⟨v, hv, hk⟩ := this
          exact ⟨v, hk, .inl ⟨hg, hv⟩⟩
        · exact ⟨.tup [], hrun, .inr ⟨hg, rfl⟩⟩
      obtain ⟨v, hk, hv⟩ := step
      have hput : ∀ t, wr ml (· ∈ pre) t → (s.put ml[i].d v).tm t = s.tm t := by
        intro t ht
        cases hd : ml[i].d with
        | none => rfl
        | some d =>
          simp only [St.put]
          rw [if_neg (fun h => by subst h; exact hdi _ hd ht)]
      have hbx : (s.put ml[i].d v).bx = s.bx ∧ (s.put ml[i].d v).nt = s.nt ∧ (s.put ml[i].d v).live = s.live := by cases ml[i].d <;> exact ⟨rfl, rfl, rfl⟩
      have hmono : ∀ j, (∀ k ∈ befOf bs j, k ∈ pre) → ∀ t, mix ml (· ∈ befOf bs j) (s.put ml[i].d v).tm tm0 t = mix ml (· ∈ befOf bs j) s.tm tm0 t := by
        intro j hj t
        by_cases hw : wr ml (· ∈ befOf bs j) t
        · simp only [mix, hw, if_true]
          refine hput t ?_
          obtain ⟨k, mk, a1, a2, a3⟩ := hw
          exact ⟨k, mk, a1, a2, hj k a3⟩
        · simp only [mix, hw, if_false]
      have hbi : ∀ k ∈ befOf bs i, k ∈ pre := hc.ord' pre i rest h1
      obtain ⟨pre', rest', s', hS, e1, e2, e3, e4⟩ := ih (pre ++ [i]) (s.put ml[i].d v) (by rw [h1]; simp) hk h3 h4 (fun k hk => by simp [h5 k hk]) (fun k m hm hl hk => by
          rcases List.mem_append.1 hk with hk | hk
          · exact h6 k m hm hl hk
          · rw [List.mem_singleton] at hk; subst hk; rw [hmi] at hm; simp only [Option.some.injEq] at hm; subst hm; rw [hq] at hl; cases hl)
        (fun t ht => by
          have hnp : ¬ wr ml (· ∈ pre) t := fun ⟨k, mk, a1, a2, a3⟩ => ht ⟨k, mk, a1, a2, by simp [a3]⟩
          cases hd : ml[i].d with
          | none => exact h7 t hnp
          | some d =>
            simp only [St.put]
            rw [if_neg (fun h => ht ⟨i, ml[i], hmi, by rw [hd, h], by simp⟩)]
            exact h7 t hnp)
        (fun j hj hjL => by
          rcases List.mem_append.1 hj with hj | hj
          · -- an earlier one
            obtain ⟨p1, p2, hp⟩ := List.append_of_mem hj
            have hbj : ∀ k ∈ befOf bs j, k ∈ pre := fun k hk => by
              have := hc.ord' p1 j (p2 ++ i :: rest) (by rw [h1, hp]; simp) k hk
              rw [hp]; simp [this]
            intro m hm hl
            obtain ⟨u, hu1, hu2⟩ := h8 j hj hjL m hm hl
            have hmm := funext (hmono j hbj)
            refine ⟨u, fun t ht => ?_, ?_⟩
            · rw [hput t ⟨j, m, hm, ht, hj⟩]; exact hu1 t ht
            · rw [hmm, hbx.1]; exact hu2
          · rw [List.mem_singleton] at hj; subst hj
            intro m hm hl
            rw [hmi] at hm; simp only [Option.some.injEq] at hm; subst hm
            have hmm := funext (hmono j hbi)
            refine ⟨v, fun t ht => ?_, ?_⟩
            · rw [ht]; simp [St.put]
            · rw [hmm, hbx.1]
              have hgc : gd ml[j].g s.tm = gd ml[j].g (mix ml (· ∈ befOf bs j) s.tm tm0) := gd_congr fun t ht => hmix t (by
                unfold MOpr.tmps; exact List.mem_append.2 (.inr (by simpa using ht)))
              have hqc : qf (ev s.tm) s.bx ml[j].o = qf (ev (mix ml (· ∈ befOf bs j) s.tm tm0)) s.bx ml[j].o := qf_congr fun t ht => hmix t (by unfold MOpr.tmps; exact List.mem_append.2 (.inl ht))
              rw [← hgc, ← hqc]; exact hv)
      exact ⟨pre', rest', s', hS, e1.trans hbx.1, e2.trans hbx.2.1, e3.trans hbx.2.2, fun t ht => by
        rw [e4 t (by obtain ⟨k, mk, a1, a2, a3⟩ := ht; exact ⟨k, mk, a1, a2, by simp [a3]⟩)]; exact hput t ht⟩
end
end Go.Proofs.YthngfihpnfoppaaDoor

namespace Go.Proofs.YthngfihpnfoppaaDoor
open Go.RowKit

theorem filter_lt {p q : Nat → Bool} {i : Nat} : ∀ {l : List Nat}, (∀ j, q j = true → p j = true) → i ∈ l → p i = true → q i = false → (l.filter q).length < (l.filter p).length
  | [], _, hi, _, _ => by simp at hi
  | x :: l, hpq, hi, hp, hq => by
    have hle : ∀ l : List Nat, (l.filter q).length ≤ (l.filter p).length := by
      intro l
      induction l with
      | nil => simp
      | cons y l ih =>
        by_cases hy : q y = true
        · rw [List.filter_cons_of_pos hy, List.filter_cons_of_pos (hpq y hy)]; simp; exact ih
        · rw [List.filter_cons_of_neg hy]
          by_cases hy2 : p y = true
          · rw [List.filter_cons_of_pos hy2]; simp; omega
          · rw [List.filter_cons_of_neg hy2]; exact ih
    rcases List.mem_cons.1 hi with rfl | hi
    · rw [List.filter_cons_of_neg (by rw [hq]; decide), List.filter_cons_of_pos hp]
      have := hle l; simp; omega
    · have ih := filter_lt hpq hi hp hq
      by_cases hy : q x = true
      · rw [List.filter_cons_of_pos hy, List.filter_cons_of_pos (hpq x hy)]; simp; exact ih
      · rw [List.filter_cons_of_neg hy]
        by_cases hy2 : p x = true
        · rw [List.filter_cons_of_pos hy2]; simp; omega
        · rw [List.filter_cons_of_neg hy2]; exact ih

section
variable {E : Env} {B : Base} {ml : List MOpr} {es bs : List (List Nat)} {ord : List Nat} {K : St → Prop} {tm0 : Nat → PV} {ops : Array Oper} {Q : Exit → Act → World → Prop}

def LL (listed : Array Bool) (i : Nat) : Prop := listed.getD i false = true
theorem LL_set {listed : Array Bool} {i : Nat} (hi : i < listed.size) (j : Nat) : LL (listed.setIfInBounds i true) j ↔ j = i ∨ LL listed j := by
  unfold LL
  by_cases h : j = i
  · subst h; simp [hi]
  · simp only [Array.getD_eq_getD_getElem?, Array.getElem?_setIfInBounds_ne (show i ≠ j by omega)]; simp [h]
theorem put_tm {tm : Nat → PV} {bx : List (List PC)} {nt : Nat} {live : List Nat} {d : Option Nat} {v : PV} : St.put ⟨tm, bx, nt, live⟩ d v = ⟨fun t => if d = some t then v else tm t, bx, nt, live⟩ := by
  cases d with
  | none => simp [St.put]
  | some d =>
    simp only [St.put, Option.some.injEq, St.mk.injEq, and_true]
    funext t
    by_cases h : t = d
    · subst h; simp
    · rw [if_neg h, if_neg (fun e => h e.symm)]

theorem sim_any (hc : Canon ml es bs ord) (hsz : ops.size = ml.length) (htr : ∀ (i : Nat) (o : Oper) (m : MOpr), ops[i]? = some o → ml[i]? = some m → TrO E.P B.n ops o m) (hes : ∀ (i : Nat) (o : Oper), ops[i]? = some o → es.getD i [] = edgesOf o)
    (hK : ∀ C' s' a' w', Rep E B C' s' a' w' → K s' → Q .normal a' w') :
    ∀ (fuel : Nat) (listed : Array Bool) (C : Cx) (s : St) (a : Act) (w : World) (pre rest : List Nat), Sim E B ml es bs ord K tm0 (LL listed) pre rest s → listed.size = ops.size → Rep E B C { s with tm := mix ml (LL listed) s.tm tm0 } a w →
      ((List.range ml.length).filter (fun i => !(listed.getD i false))).length ≤ fuel → wpAny E.P .any ops Q fuel listed a w := by
  -- all is listed
  have hdone : ∀ (listed : Array Bool) (C : Cx) (s : St) (a : Act) (w : World) (pre rest : List Nat), Sim E B ml es bs ord K tm0 (LL listed) pre rest s → Rep E B C { s with tm := mix ml (LL listed) s.tm tm0 } a w → (∀ i, i < ml.length → LL listed i) → Q .normal a w := by
    intro listed C s a w pre rest hS hr hall
    have hrest : rest = [] := by
      cases hrr : rest with
      | nil => rfl
      | cons i r =>
        exfalso
        have hio : i ∈ ord := by rw [hS.split, hrr]; simp
        have hip := hS.sub i (hall i ((hc.mem i).1 hio))
        have hnd := hc.nodup
        rw [hS.split, hrr] at hnd
        exact (List.nodup_append.1 hnd).2.2 i hip i (by simp) rfl
    have hrun := hS.run
    rw [hrest] at hrun
    refine hK C s a w ?_ hrun
    have htm : mix ml (LL listed) s.tm tm0 = s.tm := by
      funext t
      by_cases hw : wr ml (LL listed) t
      · simp [mix, hw]
      · simp only [mix, hw, if_false]
        refine (hS.fresh t ?_).symm
        rintro ⟨i, m, a1, a2, a3⟩
        refine hw ⟨i, m, a1, a2, hall i ?_⟩
        rcases Nat.lt_or_ge i ml.length with h | h
        · exact h
        · simp [List.getElem?_eq_none h] at a1
    rw [htm] at hr; exact hr
  -- nothing is ready: all is listed
  have hready : ∀ (listed : Array Bool), listed.size = ops.size → Region.ready .any ops listed = [] → ∀ i, i < ml.length → LL listed i := by
    intro listed hls hr i
    induction i using Nat.strongRecOn with
    | _ i ih =>
      intro hi
      apply Classical.byContradiction
      intro hn
      have hio : i < ops.size := by omega
      have : i ∈ Region.ready .any ops listed := by
        rw [mem_ready]
        refine ⟨?_, ops[i], Array.getElem?_eq_getElem hio, fun e he hb => ?_⟩
        · unfold LL at hn
          have hil : i < listed.size := by omega
          simp only [Array.getD_eq_getD_getElem?, Array.getElem?_eq_getElem hil, Option.getD_some] at hn ⊢
          simpa using hn
        · have hm : e.on ∈ es.getD i [] := by
            rw [hes i ops[i] (Array.getElem?_eq_getElem hio)]
            unfold edgesOf
            exact List.mem_map.2 ⟨e, List.mem_filter.2 ⟨by simpa using he, hb⟩, rfl⟩
          have := hc.acyc i e.on hi hm
          exact ih e.on this (by omega)
      rw [hr] at this; cases this
  intro fuel
  induction fuel with
  | zero =>
    intro listed C s a w pre rest hS hls hr hcount
    have hall : ∀ i, i < ml.length → LL listed i := by
      intro i hi
      apply Classical.byContradiction
      intro hn
      have : i ∈ (List.range ml.length).filter (fun i => !(listed.getD i false)) := List.mem_filter.2 ⟨List.mem_range.2 hi, by unfold LL at hn; simpa using hn⟩
      have h0 : (List.range ml.length).filter (fun i => !(listed.getD i false)) = [] := List.eq_nil_of_length_eq_zero (by omega)
      rw [h0] at this; cases this
    refine ⟨?_, hdone listed C s a w pre rest hS hr hall⟩
    cases hrd : Region.ready .any ops listed with
    | nil => rfl
    | cons i r =>
      exfalso
      have hm : i ∈ Region.ready .any ops listed := by rw [hrd]; simp
      obtain ⟨h1, o, ho, _⟩ := mem_ready.1 hm
      have hi : i < ops.size := (Array.getElem?_eq_some_iff.1 ho).1
      have := hall i (by omega)
      unfold LL at this
      have hil : i < listed.size := by omega
      simp only [Array.getD_eq_getD_getElem?, Array.getElem?_eq_getElem hil, Option.getD_some] at this h1
      rw [this] at h1; cases h1
  | succ fuel ih =>
    intro listed C s a w pre rest hS hls hr hcount
    refine ⟨fun h => hdone listed C s a w pre rest hS hr (hready listed hls h), fun i hi => ?_⟩
    obtain ⟨h1, o, ho, hall⟩ := mem_ready.1 hi
    have hio : i < ops.size := (Array.getElem?_eq_some_iff.1 ho).1
    have hil : i < ml.length := by omega
    have hils : i < listed.size := by omega
    have hmi : ml[i]? = some ml[i] := List.getElem?_eq_getElem hil
    have htro := htr i o ml[i] ho hmi
    obtain ⟨t1, t2, t3, t4, t5⟩ := id htro
    have htro0 : TrO E.P B.n ops o { ml[i] with c := ml[i].keep } := htro
    have hnL : ¬ LL listed i := by
      unfold LL
      simp only [Array.getD_eq_getD_getElem?, Array.getElem?_eq_getElem hils, Option.getD_some] at h1 ⊢
      rw [h1]; decide
    have hrdy : ∀ e ∈ es.getD i [], LL listed e := by
      intro e he
      rw [hes i o ho] at he
      unfold edgesOf at he
      obtain ⟨ed, hed, rfl⟩ := List.mem_map.1 he
      obtain ⟨g1, g2⟩ := List.mem_filter.1 hed
      exact hall ed (by simpa using g1) g2
    have hcl : ∀ j ∈ befOf bs i, LL listed j := hc.closed (LL listed) hS.closed i hil hrdy
    have hset := fun j => LL_set (listed := listed) hils j
    have hcount' : ((List.range ml.length).filter (fun j => !((listed.setIfInBounds i true).getD j false))).length ≤ fuel := by
      have hlt := filter_lt (p := fun j => !(listed.getD j false)) (q := fun j => !((listed.setIfInBounds i true).getD j false)) (i := i) (l := List.range ml.length)
        (fun j hj => by
          simp only [Bool.not_eq_true'] at hj ⊢
          cases h0 : listed.getD j false with
          | false => rfl
          | true => have := (hset j).2 (.inr h0); unfold LL at this; rw [this] at hj; cases hj)
        (List.mem_range.2 hil) (by simp only [Bool.not_eq_true']; unfold LL at hnL; simpa using hnL) (by
          have := (hset i).2 (.inl rfl); unfold LL at this; simp only [this]; rfl)
      omega
    have hls' : (listed.setIfInBounds i true).size = ops.size := by rw [Array.size_setIfInBounds]; exact hls
    have hdst : ∀ (k : Nat) (mk : MOpr) (t : Nat), ml[k]? = some mk → mk.d = some t → ml[i].d = some t → k = i := fun k mk t a1 a2 a3 => hc.dst k i mk ml[i] t a1 hmi a2 a3
    have hwset : ∀ t, wr ml (LL (listed.setIfInBounds i true)) t ↔ (ml[i].d = some t ∨ wr ml (LL listed) t) := by
      intro t
      constructor
      · rintro ⟨k, mk, a1, a2, a3⟩
        rcases (hset k).1 a3 with rfl | a3
        · rw [hmi] at a1; simp only [Option.some.injEq] at a1; subst a1; exact .inl a2
        · exact .inr ⟨k, mk, a1, a2, a3⟩
      · rintro (h | ⟨k, mk, a1, a2, a3⟩)
        · exact ⟨i, ml[i], hmi, h, (hset i).2 (.inl rfl)⟩
        · exact ⟨k, mk, a1, a2, (hset k).2 (.inr a3)⟩
    have hgdm : ∀ (f g : Nat → PV), (∀ t ∈ ml[i].tmps, f t = g t) → gd ml[i].g f = gd ml[i].g g := fun f g h => gd_congr fun t ht => h t (by unfold MOpr.tmps; exact List.mem_append.2 (.inr (by simpa using ht)))
    have hopm : ∀ (f g : Nat → PV), (∀ t ∈ ml[i].tmps, f t = g t) → ∀ t ∈ ml[i].o.tmps, f t = g t := fun f g h t ht => h t (by unfold MOpr.tmps; exact List.mem_append.2 (.inl ht))
    -- the machine's step, for either kind
    have machine : ∀ (b : Bool) (K' : St → Prop), gd ml[i].g (mix ml (LL listed) s.tm tm0) = some b → (b = true → pstep E { ml[i] with c := ml[i].keep } K' { s with tm := mix ml (LL listed) s.tm tm0 }) → (b = false → K' (St.put { s with tm := mix ml (LL listed) s.tm tm0 } ml[i].d (.tup []))) →
        (∀ C' s' a' w', Rep E B C' s' a' w' → K' s' → wpAny E.P .any ops Q fuel (listed.setIfInBounds i true) a' w') → wpOp E.P ops Q i (wpAny E.P .any ops Q fuel (listed.setIfInBounds i true)) a w := by
      intro b K' hg hp1 hp2 hk
      have hw := gd_wanted hr t2 hg
      unfold wpOp
      simp only [ho, hw]
      cases b with
      | true => rw [if_pos rfl]; exact .inl (pstep_sound htro0 hr (hp1 rfl) hk Q)
      | false =>
        rw [if_neg (by decide)]
        refine hk C _ _ w (hr.put t5 (.tup [] [] rfl (fun j x y h => by simp at h))) ?_
        rw [← t3]; exact hp2 rfl
    by_cases hloud : ml[i].o.loud = true
    · -- a loud one: the canonical order's next
      have hipre : i ∉ pre := fun h => hnL (hS.loud i ml[i] hmi hloud h)
      have hior : i ∈ ord := (hc.mem i).2 hil
      have hnd := hc.nodup
      obtain ⟨r, hrest⟩ : ∃ r, rest = i :: r := by
        rw [hS.split] at hior hnd
        have hirest : i ∈ rest := (List.mem_append.1 hior).resolve_left hipre
        cases hrr : rest with
        | nil => rw [hrr] at hirest; cases hirest
        | cons l r =>
          by_cases hli : l = i
          · exact ⟨r, by rw [hli]⟩
          · exfalso
            have hlo : l ∈ ord := by rw [hS.split, hrr]; simp
            have hll : l < ml.length := (hc.mem l).1 hlo
            have hml : ml[l]? = some ml[l] := List.getElem?_eq_getElem hll
            have hld := hS.head l r ml[l] hrr hml
            rw [hrr] at hnd
            rcases hc.loud l i ml[l] ml[i] hml hmi hld hloud hli with h | h
            · exact (List.nodup_append.1 hnd).2.2 l (hS.sub l (hcl l h)) l (by simp) rfl
            · exact hipre (hc.ord' pre l r (by rw [hS.split, hrr]) i h)
      have hsplit : ord = pre ++ i :: r := by rw [hS.split, hrest]
      have hment : ∀ t ∈ ml[i].tmps, s.tm t = mix ml (LL listed) s.tm tm0 t := by
        intro t ht
        by_cases hw : wr ml (LL listed) t
        · simp [mix, hw]
        · simp only [mix, hw, if_false]
          refine hS.fresh t ?_
          rintro ⟨k, mk, a1, a2, a3⟩
          rcases hc.touch k i mk ml[i] t a1 hmi a2 ht with h | h
          · exact hw ⟨k, mk, a1, a2, hcl k h⟩
          · obtain ⟨p1, p2, hp⟩ := List.append_of_mem a3
            have := hc.ord' p1 k (p2 ++ i :: r) (by rw [hsplit, hp]; simp) i h
            exact hipre (by rw [hp]; simp [this])
      have hrun := hS.run
      rw [hrest] at hrun
      simp only [List.filterMap_cons, hmi] at hrun
      obtain ⟨g, hg, hrun⟩ := hrun
      have hg' : gd ml[i].g (mix ml (LL listed) s.tm tm0) = some g := by rw [← hgdm _ _ hment]; exact hg
      -- behind it
      have after : ∀ (v : PV) (bx' : List (List PC)) (nt' : Nat) (live' : List Nat), po E (r.filterMap (ml[·]?)) K (St.put ⟨s.tm, bx', nt', live'⟩ ml[i].d v) → (ml[i].wr = false → bx' = s.bx ∨ ∃ c, bx' = s.bx ++ [c]) → (ml[i].wr = true → Wrote (ev s.tm) ml[i] s.bx bx' ∨ bx' = s.bx) →
          ∀ C' a' w', Rep E B C' (St.put ⟨mix ml (LL listed) s.tm tm0, bx', nt', live'⟩ ml[i].d v) a' w' → wpAny E.P .any ops Q fuel (listed.setIfInBounds i true) a' w' := by
        intro v bx' nt' live' hpo hbx hst C' a' w' hr'
        have hs1 : ∀ t, ¬ ml[i].d = some t → (St.put ⟨s.tm, bx', nt', live'⟩ ml[i].d v).tm t = s.tm t := fun t ht => by rw [put_tm]; simp [ht]
        have hb1 : (St.put ⟨s.tm, bx', nt', live'⟩ ml[i].d v).bx = bx' := by rw [put_tm]
        obtain ⟨pre', rest', s2, hS2, e1, e2, e3, e4⟩ := quiets (E := E) (B := B) (K := K) (tm0 := tm0) hc (L := LL (listed.setIfInBounds i true)) r (pre ++ [i]) (St.put ⟨s.tm, bx', nt', live'⟩ ml[i].d v) (by rw [hsplit]; simp) hpo
          (fun k hk => by rcases (hset k).1 hk with rfl | hk; exact hil; exact hS.lt k hk)
          (fun k hk hL e he => by
            rcases (hset k).1 hL with rfl | hL
            · exact (hset e).2 (.inr (hrdy e he))
            · exact (hset e).2 (.inr (hS.closed k hk hL e he)))
          (fun k hk => by rcases (hset k).1 hk with rfl | hk; simp; simp [hS.sub k hk])
          (fun k mk hk hl hkp => by
            rcases List.mem_append.1 hkp with h | h
            · exact (hset k).2 (.inr (hS.loud k mk hk hl h))
            · rw [List.mem_singleton] at h; exact (hset k).2 (.inl h))
          (fun t ht => by
            rw [hs1 t (fun h => ht ⟨i, ml[i], hmi, h, by simp⟩)]
            exact hS.fresh t fun ⟨k, mk, a1, a2, a3⟩ => ht ⟨k, mk, a1, a2, by simp [a3]⟩)
          (fun j hj hjL => by
            have hji : j ≠ i := fun h => hjL ((hset j).2 (.inl h))
            have hjp : j ∈ pre := (List.mem_append.1 hj).resolve_right (by simpa using hji)
            have hjL' : ¬ LL listed j := fun h => hjL ((hset j).2 (.inr h))
            obtain ⟨p1, p2, hp⟩ := List.append_of_mem hjp
            have hbj : ∀ k ∈ befOf bs j, k ∈ pre := fun k hk => by
              have := hc.ord' p1 j (p2 ++ i :: r) (by rw [hsplit, hp]; simp) k hk
              rw [hp]; simp [this]
            have hmm : mix ml (· ∈ befOf bs j) (St.put ⟨s.tm, bx', nt', live'⟩ ml[i].d v).tm tm0 = mix ml (· ∈ befOf bs j) s.tm tm0 := by
              funext t
              by_cases hw : wr ml (· ∈ befOf bs j) t
              · simp only [mix, hw, if_true]
                refine hs1 t fun hd => ?_
                obtain ⟨k, mk, a1, a2, a3⟩ := hw
                have := hdst k mk t a1 a2 hd
                subst this; exact hipre (hbj k a3)
              · simp only [mix, hw, if_false]
            intro m hm hl
            obtain ⟨u, hu1, hu2⟩ := hS.done j hjp hjL' m hm hl
            refine ⟨u, fun t ht => ?_, ?_⟩
            · rw [hs1 t fun hd => hji (hdst j m t hm ht hd)]; exact hu1 t ht
            · rw [hmm, hb1]
              refine hu2.imp (fun ⟨q1, q2⟩ => ⟨q1, ?_⟩) id
              cases his : ml[i].wr with
              | false => exact qf_ext q2 (hbx his)
              | true =>
                rcases hst his with hwr | hsame
                · cases hld : m.o.isLoad with
                  | false => rw [qf_nobx hld (bx' := s.bx)]; exact q2
                  | true =>
                    rcases hc.store j i m ml[i] hm hmi hld his with (h | h) | ⟨x, x1, x2, x3⟩
                    · exact absurd (hcl j h) hjL'
                    · exact absurd (hbj i h) hipre
                    · refine qf_apart x1 (ev_congr fun t ht => ?_) hwr (fun k => ⟨k, rfl⟩) x2 q2
                      by_cases hw : wr ml (· ∈ befOf bs j) t
                      · simp [mix, hw]
                      · simp only [mix, hw, if_false]
                        refine (hS.fresh t ?_).symm
                        rintro ⟨k, mk, a1, a2, _⟩
                        exact hw ⟨k, mk, a1, a2, x3 t ht k mk a1 a2⟩
                · rw [hsame]; exact q2)
        refine ih _ C' s2 a' w' pre' rest' hS2 hls' ?_ hcount'
        have heq : ({ s2 with tm := mix ml (LL (listed.setIfInBounds i true)) s2.tm tm0 } : St) = St.put ⟨mix ml (LL listed) s.tm tm0, bx', nt', live'⟩ ml[i].d v := by
          rw [put_tm] at e1 e2 e3 ⊢
          simp only [St.mk.injEq]
          refine ⟨?_, e1, e2, e3⟩
          funext t
          have hsub : wr ml (LL (listed.setIfInBounds i true)) t → wr ml (· ∈ pre ++ [i]) t := fun ⟨k, mk, a1, a2, a3⟩ => ⟨k, mk, a1, a2, by
            rcases (hset k).1 a3 with rfl | a3
            · simp
            · simp [hS.sub k a3]⟩
          by_cases hd : ml[i].d = some t
          · have hw : wr ml (LL (listed.setIfInBounds i true)) t := (hwset t).2 (.inl hd)
            simp only [mix, hw, if_true, hd]
            rw [e4 t (hsub hw), put_tm]; simp [hd]
          · by_cases hw0 : wr ml (LL listed) t
            · have hw : wr ml (LL (listed.setIfInBounds i true)) t := (hwset t).2 (.inr hw0)
              simp only [mix, hw, hw0, if_true, hd, if_false]
              rw [e4 t (hsub hw), hs1 t hd]
            · have hw : ¬ wr ml (LL (listed.setIfInBounds i true)) t := fun h => by rcases (hwset t).1 h with h | h; exact hd h; exact hw0 h
              simp only [mix, hw, hw0, if_false, hd]
        rw [heq]; exact hr'
      rcases hrun with ⟨rfl, hrun⟩ | ⟨rfl, hrun⟩
      · refine machine true _ hg' (fun _ => pstep_congr (tm' := mix ml (LL listed) s.tm tm0) (hopm _ _ hment) hrun) (fun h => by cases h) ?_
        rintro C' s' a' w' hr' ⟨v, bx', nt', live', rfl, hk, hkind⟩
        rcases hkind with ⟨h, _⟩ | ⟨_, h, h'⟩
        · rw [hloud] at h; cases h
        · exact after v bx' nt' live' hk h (fun hs => .inl (h' hs)) C' a' w' hr'
      · refine machine false (fun s' => s' = St.put { s with tm := mix ml (LL listed) s.tm tm0 } ml[i].d (.tup [])) hg' (fun h => by cases h) (fun _ => rfl) ?_
        rintro C' s' a' w' hr' rfl
        exact after (.tup []) s.bx s.nt s.live hrun (fun _ => .inl rfl) (fun _ => .inr rfl) C' a' w' hr'
    · -- a quiet one: the canonical order has carried it out
      have hq : ml[i].o.loud = false := by simpa using hloud
      have hior : i ∈ ord := (hc.mem i).2 hil
      have hnd := hc.nodup
      have hipre : i ∈ pre := by
        rw [hS.split] at hior hnd
        rcases List.mem_append.1 hior with h | h
        · exact h
        · exfalso
          cases hrr : rest with
          | nil => rw [hrr] at h; cases h
          | cons l r =>
            rw [hrr] at h hnd
            have hlo : l ∈ ord := by rw [hS.split, hrr]; simp
            have hll : l < ml.length := (hc.mem l).1 hlo
            have hml : ml[l]? = some ml[l] := List.getElem?_eq_getElem hll
            have hld := hS.head l r ml[l] hrr hml
            have hne : i ≠ l := fun h => by subst h; rw [hmi] at hml; rw [hq] at hld; cases hld
            have hir : i ∈ r := (List.mem_cons.1 h).resolve_left hne
            obtain ⟨p1, p2, hp⟩ := List.append_of_mem hir
            have := hc.asap (pre ++ l :: p1) i p2 ml[i] (by rw [hS.split, hrr, hp]; simp) hmi hq l ml[l] (by simp) hml hld
            exact (List.nodup_append.1 hnd).2.2 l (hS.sub l (hcl l this)) l (by simp) rfl
      obtain ⟨v, hv1, hv2⟩ := hS.done i hipre hnL ml[i] hmi hq
      have hmix := mix_eq hc (L := LL listed) hS.lt hS.closed hmi hnL hrdy s.tm tm0
      have hgc := hgdm _ _ hmix
      have hqc := qf_congr (bx := s.bx) (hopm _ _ hmix)
      rw [hgc, hqc] at hv2
      have hfin : ∀ C' a' w', Rep E B C' (St.put { s with tm := mix ml (LL listed) s.tm tm0 } ml[i].d v) a' w' → wpAny E.P .any ops Q fuel (listed.setIfInBounds i true) a' w' := by
        intro C' a' w' hr'
        refine ih _ C' s a' w' pre rest ⟨hS.split, hS.head, hS.run, fun k hk => by rcases (hset k).1 hk with rfl | hk; exact hil; exact hS.lt k hk, fun k hk hL e he => ?_, fun k hk => by rcases (hset k).1 hk with rfl | hk; exact hipre; exact hS.sub k hk, fun k mk hk hl hkp => (hset k).2 (.inr (hS.loud k mk hk hl hkp)), hS.fresh, fun j hj hjL => hS.done j hj fun h => hjL ((hset j).2 (.inr h))⟩ hls' ?_ hcount'
        · rcases (hset k).1 hL with rfl | hL
          · exact (hset e).2 (.inr (hrdy e he))
          · exact (hset e).2 (.inr (hS.closed k hk hL e he))
        · have heq : ({ s with tm := mix ml (LL (listed.setIfInBounds i true)) s.tm tm0 } : St) = St.put { s with tm := mix ml (LL listed) s.tm tm0 } ml[i].d v := by
            rw [put_tm]
            simp only [St.mk.injEq, and_true]
            funext t
            by_cases hd : ml[i].d = some t
            · have hw : wr ml (LL (listed.setIfInBounds i true)) t := (hwset t).2 (.inl hd)
              simp only [mix, hw, if_true, hd]; exact hv1 t hd
            · by_cases hw0 : wr ml (LL listed) t
              · have hw : wr ml (LL (listed.setIfInBounds i true)) t := (hwset t).2 (.inr hw0)
                simp only [mix, hw, hw0, if_true, hd, if_false]
              · have hw : ¬ wr ml (LL (listed.setIfInBounds i true)) t := fun h => by rcases (hwset t).1 h with h | h; exact hd h; exact hw0 h
                simp only [mix, hw, hw0, if_false, hd]
          rw [heq]; exact hr'
      rcases hv2 with ⟨hg, hv⟩ | ⟨hg, rfl⟩
      · refine machine true (fun s' => s' = St.put { s with tm := mix ml (LL listed) s.tm tm0 } ml[i].d v) hg (fun _ => ?_) (fun h => by cases h) (fun C' s' a' w' hr' he => by subst he; exact hfin C' a' w' hr')
        unfold pstep
        split
        · rename_i e; simp only at e; rw [e] at hq; cases hq
        · rename_i e; simp only at e; rw [e] at hq; cases hq
        · rename_i e; simp only at e; rw [e] at hq; cases hq
        · exact .inl ⟨v, hv, rfl⟩
      · exact machine false (fun s' => s' = St.put { s with tm := mix ml (LL listed) s.tm tm0 } ml[i].d (.tup [])) hg (fun h => by cases h) (fun _ => rfl) (fun C' s' a' w' hr' he => by subst he; exact hfin C' a' w' hr')
end
end Go.Proofs.YthngfihpnfoppaaDoor

namespace Go.Proofs.YthngfihpnfoppaaDoor
open Go.RowKit

structure CanonT (ml : List MOpr) (es bs : List (List Nat)) : Prop where
  len : es.length = ml.length
  blen : bs.length = ml.length
  acyc : ∀ i e, i < ml.length → e ∈ es.getD i [] → e < i
  bef : ∀ i j, i < ml.length → j ∈ befOf bs i → j ∈ es.getD i [] ∨ ∃ e ∈ es.getD i [], j ∈ befOf bs e
  dst : ∀ (i j : Nat) (a b : MOpr) (t : Nat), ml[i]? = some a → ml[j]? = some b → a.d = some t → b.d = some t → i = j
  touch : ∀ (i j : Nat) (a b : MOpr) (t : Nat), ml[i]? = some a → ml[j]? = some b → a.d = some t → t ∈ b.tmps → i ∈ befOf bs j ∨ j ∈ befOf bs i
  store : ∀ (i j : Nat) (a b : MOpr), ml[i]? = some a → ml[j]? = some b → a.o.isLoad = true → b.wr = true → (i ∈ befOf bs j ∨ j ∈ befOf bs i) ∨ ∃ x, adrL a.o = some x ∧ x ∈ b.c ∧ ∀ t ∈ x.tmps, ∀ (k : Nat) (mk : MOpr), ml[k]? = some mk → mk.d = some t → k ∈ befOf bs i
  self : ∀ i, i < ml.length → i ∉ befOf bs i
/-- what has to come before i has come -/
def Rdy (bs : List (List Nat)) (pre : List Nat) (i : Nat) : Prop := ∀ j ∈ befOf bs i, j ∈ pre
/-- no quiet one is left that could be carried out -/
def Clos (ml : List MOpr) (bs : List (List Nat)) (pre : List Nat) : Prop := ∀ (i : Nat) (m : MOpr), ml[i]? = some m → m.o.loud = false → Rdy bs pre i → i ∈ pre
/-- quiet ones, each in its time -/
def Qs (ml : List MOpr) (bs : List (List Nat)) : List Nat → List Nat → Prop
  | _, [] => True
  | pre, i :: r => (∃ m, ml[i]? = some m ∧ m.o.loud = false) ∧ i ∉ pre ∧ Rdy bs pre i ∧ Qs ml bs (pre ++ [i]) r
/-- all orders, from here on -/
def runT (E : Env) (ml : List MOpr) (bs : List (List Nat)) (K : St → Prop) : Nat → List Nat → St → Prop
  | 0, _, _ => False
  | f + 1, pre, s => ∃ qs, Qs ml bs pre qs ∧ Clos ml bs (pre ++ qs) ∧ po E (qs.filterMap (ml[·]?)) (fun s => ((∀ i, i < ml.length → i ∈ pre ++ qs) → K s) ∧
      ∀ (i : Nat) (m : MOpr), ml[i]? = some m → m.o.loud = true → i ∉ pre ++ qs → Rdy bs (pre ++ qs) i → po E [m] (runT E ml bs K f (pre ++ qs ++ [i])) s) s
structure SimT (E : Env) (ml : List MOpr) (es bs : List (List Nat)) (K : St → Prop) (tm0 : Nat → PV) (L : Nat → Prop) (pre : List Nat) (s : St) : Prop where
  run : ∃ f, ((∀ i, i < ml.length → i ∈ pre) → K s) ∧ ∀ (i : Nat) (m : MOpr), ml[i]? = some m → m.o.loud = true → i ∉ pre → Rdy bs pre i → po E [m] (runT E ml bs K f (pre ++ [i])) s
  clos : Clos ml bs pre
  down : ∀ i ∈ pre, Rdy bs pre i
  lt : ∀ i, L i → i < ml.length
  closed : ∀ i, i < ml.length → L i → ∀ e ∈ es.getD i [], L e
  sub : ∀ i, L i → i ∈ pre
  loud : ∀ (i : Nat) (m : MOpr), ml[i]? = some m → m.o.loud = true → i ∈ pre → L i
  fresh : ∀ t, ¬ wr ml (· ∈ pre) t → s.tm t = tm0 t
  done : ∀ j ∈ pre, ¬ L j → Done ml bs tm0 s.tm s.bx j
section
variable {E : Env} {B : Base} {ml : List MOpr} {es bs : List (List Nat)} {K : St → Prop} {tm0 : Nat → PV}

/-- the canonical order carries out quiet operations as soon as it may -/
theorem quietsT (hc : CanonT ml es bs) {L : Nat → Prop} {K2 : St → Prop} : ∀ (rest pre : List Nat) (s : St), Qs ml bs pre rest → (∀ i ∈ pre, Rdy bs pre i) → po E (rest.filterMap (ml[·]?)) K2 s → (∀ i, L i → i < ml.length) → (∀ i, i < ml.length → L i → ∀ e ∈ es.getD i [], L e) → (∀ i, L i → i ∈ pre) →
    (∀ (i : Nat) (m : MOpr), ml[i]? = some m → m.o.loud = true → i ∈ pre → L i) → (∀ t, ¬ wr ml (· ∈ pre) t → s.tm t = tm0 t) → (∀ j ∈ pre, ¬ L j → Done ml bs tm0 s.tm s.bx j) →
    ∃ s', K2 s' ∧ (∀ i ∈ pre ++ rest, Rdy bs (pre ++ rest) i) ∧ (∀ i, L i → i ∈ pre ++ rest) ∧ (∀ (i : Nat) (m : MOpr), ml[i]? = some m → m.o.loud = true → i ∈ pre ++ rest → L i) ∧ (∀ t, ¬ wr ml (· ∈ pre ++ rest) t → s'.tm t = tm0 t) ∧ (∀ j ∈ pre ++ rest, ¬ L j → Done ml bs tm0 s'.tm s'.bx j) ∧ s'.bx = s.bx ∧ s'.nt = s.nt ∧ s'.live = s.live ∧ (∀ t, wr ml (· ∈ pre) t → s'.tm t = s.tm t) := by
  intro rest
  induction rest with
  | nil =>
    intro pre s h1 hdn h2 h3 h4 h5 h6 h7 h8
    exact ⟨s, h2, by simpa using hdn, by simpa using h5, by simpa using h6, by simpa using h7, by simpa using h8, rfl, rfl, rfl, fun _ _ => rfl⟩
  | cons i rest ih =>
    intro pre s h1 hdn h2 h3 h4 h5 h6 h7 h8
    obtain ⟨⟨mi, hmi0, hq0⟩, hipre, hbi, hQr⟩ := h1
    have hil : i < ml.length := by
      rcases Nat.lt_or_ge i ml.length with h | h
      · exact h
      · simp [List.getElem?_eq_none h] at hmi0
    have hmi : ml[i]? = some ml[i] := List.getElem?_eq_getElem hil
    have hq : ml[i].o.loud = false := by rw [hmi] at hmi0; simp only [Option.some.injEq] at hmi0; rw [hmi0]; exact hq0
    · have hnd := hq
      have hiL : ¬ L i := fun h => hipre (h5 i h)
      simp only [List.filterMap_cons, hmi] at h2
      obtain ⟨g, hg, hrun⟩ := h2
      -- what i mentions is as the canonical order has it
      have hmix : ∀ t ∈ ml[i].tmps, s.tm t = mix ml (· ∈ befOf bs i) s.tm tm0 t := by
        intro t ht
        by_cases hw : wr ml (· ∈ befOf bs i) t
        · simp [mix, hw]
        · simp only [mix, hw, if_false]
          refine h7 t ?_
          rintro ⟨k, mk, a1, a2, a3⟩
          rcases hc.touch k i mk ml[i] t a1 hmi a2 ht with h | h
          · exact hw ⟨k, mk, a1, a2, h⟩
          · exact hipre (hdn k a3 i h)
      have hdi : ∀ t, ml[i].d = some t → ¬ wr ml (· ∈ pre) t := by
        rintro t ht ⟨k, mk, a1, a2, a3⟩
        have := hc.dst k i mk ml[i] t a1 hmi a2 ht
        subst this; exact hipre a3
      -- the step
      have step : ∃ v, po E (rest.filterMap (ml[·]?)) K2 (s.put ml[i].d v) ∧ ((gd ml[i].g s.tm = some true ∧ qf (ev s.tm) s.bx ml[i].o = some v) ∨ (gd ml[i].g s.tm = some false ∧ v = .tup [])) := by
        rcases hrun with ⟨rfl, hrun⟩ | ⟨rfl, hrun⟩
        · generalize hm : ml[i] = m at *
          have hno : ∀ x, lf (ev s.tm) s m.o ≠ some x := by
            intro x hx
            rcases lf_some hx with ⟨x, e⟩ | ⟨z, e⟩ | ⟨n, xs, e⟩ | ⟨n, a, x, e⟩ | ⟨n, a, x, e⟩ | ⟨bT, bU, e⟩ <;> rw [e] at hq <;> cases hq
          have : ∃ v, qf (ev s.tm) s.bx m.o = some v ∧ po E (rest.filterMap (ml[·]?)) K2 (s.put m.d v) := by
            unfold pstep at hrun
            split at hrun
            · rename_i e; rw [e] at hq; cases hq
            · rename_i e; rw [e] at hq; cases hq
            · rename_i e; rw [e] at hq; cases hq
            · rcases hrun with h | ⟨v, s', hv, _, _⟩
              · exact h
              · exact absurd hv (hno _)
          obtain ⟨v, hv, hk⟩ := this
          exact ⟨v, hk, .inl ⟨hg, hv⟩⟩
        · exact ⟨.tup [], hrun, .inr ⟨hg, rfl⟩⟩
      obtain ⟨v, hk, hv⟩ := step
      have hput : ∀ t, wr ml (· ∈ pre) t → (s.put ml[i].d v).tm t = s.tm t := by
        intro t ht
        cases hd : ml[i].d with
        | none => rfl
        | some d =>
          simp only [St.put]
          rw [if_neg (fun h => by subst h; exact hdi _ hd ht)]
      have hbx : (s.put ml[i].d v).bx = s.bx ∧ (s.put ml[i].d v).nt = s.nt ∧ (s.put ml[i].d v).live = s.live := by cases ml[i].d <;> exact ⟨rfl, rfl, rfl⟩
      have hmono : ∀ j, (∀ k ∈ befOf bs j, k ∈ pre) → ∀ t, mix ml (· ∈ befOf bs j) (s.put ml[i].d v).tm tm0 t = mix ml (· ∈ befOf bs j) s.tm tm0 t := by
        intro j hj t
        by_cases hw : wr ml (· ∈ befOf bs j) t
        · simp only [mix, hw, if_true]
          refine hput t ?_
          obtain ⟨k, mk, a1, a2, a3⟩ := hw
          exact ⟨k, mk, a1, a2, hj k a3⟩
        · simp only [mix, hw, if_false]
      obtain ⟨s', g1, g2, g3, g4, g5, g6, e1, e2, e3, e4⟩ := ih (pre ++ [i]) (s.put ml[i].d v) hQr (fun k hk j hj => by
          rcases List.mem_append.1 hk with hk | hk
          · exact List.mem_append.2 (.inl (hdn k hk j hj))
          · rw [List.mem_singleton] at hk; subst hk; exact List.mem_append.2 (.inl (hbi j hj))) hk h3 h4 (fun k hk => by simp [h5 k hk]) (fun k m hm hl hk => by
          rcases List.mem_append.1 hk with hk | hk
          · exact h6 k m hm hl hk
          · rw [List.mem_singleton] at hk; subst hk; rw [hmi] at hm; simp only [Option.some.injEq] at hm; subst hm; rw [hq] at hl; cases hl)
        (fun t ht => by
          have hnp : ¬ wr ml (· ∈ pre) t := fun ⟨k, mk, a1, a2, a3⟩ => ht ⟨k, mk, a1, a2, by simp [a3]⟩
          cases hd : ml[i].d with
          | none => exact h7 t hnp
          | some d =>
            simp only [St.put]
            rw [if_neg (fun h => ht ⟨i, ml[i], hmi, by rw [hd, h], by simp⟩)]
            exact h7 t hnp)
        (fun j hj hjL => by
          rcases List.mem_append.1 hj with hj | hj
          · -- an earlier one
            have hbj : ∀ k ∈ befOf bs j, k ∈ pre := hdn j hj
            intro m hm hl
            obtain ⟨u, hu1, hu2⟩ := h8 j hj hjL m hm hl
            have hmm := funext (hmono j hbj)
            refine ⟨u, fun t ht => ?_, ?_⟩
            · rw [hput t ⟨j, m, hm, ht, hj⟩]; exact hu1 t ht
            · rw [hmm, hbx.1]; exact hu2
          · rw [List.mem_singleton] at hj; subst hj
            intro m hm hl
            rw [hmi] at hm; simp only [Option.some.injEq] at hm; subst hm
            have hmm := funext (hmono j hbi)
            refine ⟨v, fun t ht => ?_, ?_⟩
            · rw [ht]; simp [St.put]
            · rw [hmm, hbx.1]
              have hgc : gd ml[j].g s.tm = gd ml[j].g (mix ml (· ∈ befOf bs j) s.tm tm0) := gd_congr fun t ht => hmix t (by
                unfold MOpr.tmps; exact List.mem_append.2 (.inr (by simpa using ht)))
              have hqc : qf (ev s.tm) s.bx ml[j].o = qf (ev (mix ml (· ∈ befOf bs j) s.tm tm0)) s.bx ml[j].o := qf_congr fun t ht => hmix t (by unfold MOpr.tmps; exact List.mem_append.2 (.inl ht))
              rw [← hgc, ← hqc]; exact hv)
      have hass : pre ++ [i] ++ rest = pre ++ i :: rest := by simp
      rw [hass] at g2 g3 g4 g5 g6
      exact ⟨s', g1, g2, g3, g4, g5, g6, e1.trans hbx.1, e2.trans hbx.2.1, e3.trans hbx.2.2, fun t ht => by
        rw [e4 t (by obtain ⟨k, mk, a1, a2, a3⟩ := ht; exact ⟨k, mk, a1, a2, by simp [a3]⟩)]; exact hput t ht⟩
end
end Go.Proofs.YthngfihpnfoppaaDoor

namespace Go.Proofs.YthngfihpnfoppaaDoor
open Go.RowKit

section
variable {ml : List MOpr} {es bs : List (List Nat)} (hc : CanonT ml es bs)
include hc
/-- what comes before is listed, if what is listed is closed -/
theorem CanonT.closed (L : Nat → Prop) (hL : ∀ i, i < ml.length → L i → ∀ e ∈ es.getD i [], L e) : ∀ (i : Nat), i < ml.length → (∀ e ∈ es.getD i [], L e) → ∀ j ∈ befOf bs i, L j := by
  intro i
  induction i using Nat.strongRecOn with
  | _ i ih =>
    intro hi he j hj
    rcases hc.bef i j hi hj with h | ⟨e, he', h⟩
    · exact he j h
    · have hlt := hc.acyc i e hi he'
      exact ih e hlt (by omega) (hL e (by omega) (he e he')) j h
end
section
variable {E : Env} {B : Base} {ml : List MOpr} {es bs : List (List Nat)} {K : St → Prop} {tm0 : Nat → PV} {ops : Array Oper} {Q : Exit → Act → World → Prop}

/-- on what j mentions, the canonical values at j's turn are those that any order shows -/
theorem mix_eqT (hc : CanonT ml es bs) {L : Nat → Prop} (hLlt : ∀ i, L i → i < ml.length) (hLcl : ∀ i, i < ml.length → L i → ∀ e ∈ es.getD i [], L e) {j : Nat} {m : MOpr} (hj : ml[j]? = some m) (hnot : ¬ L j) (hready : ∀ e ∈ es.getD j [], L e) (f g : Nat → PV) :
    ∀ t ∈ m.tmps, mix ml (· ∈ befOf bs j) f g t = mix ml L f g t := by
  intro t ht
  have hjl : j < ml.length := by
    rcases Nat.lt_or_ge j ml.length with h | h
    · exact h
    · simp [List.getElem?_eq_none h] at hj
  have hcl := hc.closed L hLcl
  by_cases h1 : wr ml (· ∈ befOf bs j) t
  · have h2 : wr ml L t := by
      obtain ⟨i, mi, a1, a2, a3⟩ := h1
      exact ⟨i, mi, a1, a2, hcl j hjl hready i a3⟩
    simp [mix, h1, h2]
  · have h2 : ¬ wr ml L t := by
      rintro ⟨i, mi, a1, a2, a3⟩
      rcases hc.touch i j mi m t a1 hj a2 ht with h | h
      · exact h1 ⟨i, mi, a1, a2, h⟩
      · exact hnot (hcl i (hLlt i a3) (hLcl i (hLlt i a3) a3) j h)
    simp [mix, h1, h2]

theorem sim_anyT (hc : CanonT ml es bs) (hsz : ops.size = ml.length) (htr : ∀ (i : Nat) (o : Oper) (m : MOpr), ops[i]? = some o → ml[i]? = some m → TrO E.P B.n ops o m) (hes : ∀ (i : Nat) (o : Oper), ops[i]? = some o → es.getD i [] = edgesOf o)
    (hK : ∀ C' s' a' w', Rep E B C' s' a' w' → K s' → Q .normal a' w') :
    ∀ (fuel : Nat) (listed : Array Bool) (C : Cx) (s : St) (a : Act) (w : World) (pre : List Nat), SimT E ml es bs K tm0 (LL listed) pre s → listed.size = ops.size → Rep E B C { s with tm := mix ml (LL listed) s.tm tm0 } a w →
      ((List.range ml.length).filter (fun i => !(listed.getD i false))).length ≤ fuel → wpAny E.P .any ops Q fuel listed a w := by
  -- all is listed
  have hdone : ∀ (listed : Array Bool) (C : Cx) (s : St) (a : Act) (w : World) (pre : List Nat), SimT E ml es bs K tm0 (LL listed) pre s → Rep E B C { s with tm := mix ml (LL listed) s.tm tm0 } a w → (∀ i, i < ml.length → LL listed i) → Q .normal a w := by
    intro listed C s a w pre hS hr hall
    obtain ⟨f0, hK0, _⟩ := hS.run
    have hrun := hK0 (fun i hi => hS.sub i (hall i hi))
    refine hK C s a w ?_ hrun
    have htm : mix ml (LL listed) s.tm tm0 = s.tm := by
      funext t
      by_cases hw : wr ml (LL listed) t
      · simp [mix, hw]
      · simp only [mix, hw, if_false]
        refine (hS.fresh t ?_).symm
        rintro ⟨i, m, a1, a2, a3⟩
        refine hw ⟨i, m, a1, a2, hall i ?_⟩
        rcases Nat.lt_or_ge i ml.length with h | h
        · exact h
        · simp [List.getElem?_eq_none h] at a1
    rw [htm] at hr; exact hr
  -- nothing is ready: all is listed
  have hready : ∀ (listed : Array Bool), listed.size = ops.size → Region.ready .any ops listed = [] → ∀ i, i < ml.length → LL listed i := by
    intro listed hls hr i
    induction i using Nat.strongRecOn with
    | _ i ih =>
      intro hi
      apply Classical.byContradiction
      intro hn
      have hio : i < ops.size := by omega
      have : i ∈ Region.ready .any ops listed := by
        rw [mem_ready]
        refine ⟨?_, ops[i], Array.getElem?_eq_getElem hio, fun e he hb => ?_⟩
        · unfold LL at hn
          have hil : i < listed.size := by omega
          simp only [Array.getD_eq_getD_getElem?, Array.getElem?_eq_getElem hil, Option.getD_some] at hn ⊢
          simpa using hn
        · have hm : e.on ∈ es.getD i [] := by
            rw [hes i ops[i] (Array.getElem?_eq_getElem hio)]
            unfold edgesOf
            exact List.mem_map.2 ⟨e, List.mem_filter.2 ⟨by simpa using he, hb⟩, rfl⟩
          have := hc.acyc i e.on hi hm
          exact ih e.on this (by omega)
      rw [hr] at this; cases this
  intro fuel
  induction fuel with
  | zero =>
    intro listed C s a w pre hS hls hr hcount
    have hall : ∀ i, i < ml.length → LL listed i := by
      intro i hi
      apply Classical.byContradiction
      intro hn
      have : i ∈ (List.range ml.length).filter (fun i => !(listed.getD i false)) := List.mem_filter.2 ⟨List.mem_range.2 hi, by unfold LL at hn; simpa using hn⟩
      have h0 : (List.range ml.length).filter (fun i => !(listed.getD i false)) = [] := List.eq_nil_of_length_eq_zero (by omega)
      rw [h0] at this; cases this
    refine ⟨?_, hdone listed C s a w pre hS hr hall⟩
    cases hrd : Region.ready .any ops listed with
    | nil => rfl
    | cons i r =>
      exfalso
      have hm : i ∈ Region.ready .any ops listed := by rw [hrd]; simp
      obtain ⟨h1, o, ho, _⟩ := mem_ready.1 hm
      have hi : i < ops.size := (Array.getElem?_eq_some_iff.1 ho).1
      have := hall i (by omega)
      unfold LL at this
      have hil : i < listed.size := by omega
      simp only [Array.getD_eq_getD_getElem?, Array.getElem?_eq_getElem hil, Option.getD_some] at this h1
      rw [this] at h1; cases h1
  | succ fuel ih =>
    intro listed C s a w pre hS hls hr hcount
    refine ⟨fun h => hdone listed C s a w pre hS hr (hready listed hls h), fun i hi => ?_⟩
    obtain ⟨h1, o, ho, hall⟩ := mem_ready.1 hi
    have hio : i < ops.size := (Array.getElem?_eq_some_iff.1 ho).1
    have hil : i < ml.length := by omega
    have hils : i < listed.size := by omega
    have hmi : ml[i]? = some ml[i] := List.getElem?_eq_getElem hil
    have htro := htr i o ml[i] ho hmi
    obtain ⟨t1, t2, t3, t4, t5⟩ := id htro
    have htro0 : TrO E.P B.n ops o { ml[i] with c := ml[i].keep } := htro
    have hnL : ¬ LL listed i := by
      unfold LL
      simp only [Array.getD_eq_getD_getElem?, Array.getElem?_eq_getElem hils, Option.getD_some] at h1 ⊢
      rw [h1]; decide
    have hrdy : ∀ e ∈ es.getD i [], LL listed e := by
      intro e he
      rw [hes i o ho] at he
      unfold edgesOf at he
      obtain ⟨ed, hed, rfl⟩ := List.mem_map.1 he
      obtain ⟨g1, g2⟩ := List.mem_filter.1 hed
      exact hall ed (by simpa using g1) g2
    have hcl : ∀ j ∈ befOf bs i, LL listed j := hc.closed (LL listed) hS.closed i hil hrdy
    have hset := fun j => LL_set (listed := listed) hils j
    have hcount' : ((List.range ml.length).filter (fun j => !((listed.setIfInBounds i true).getD j false))).length ≤ fuel := by
      have hlt := filter_lt (p := fun j => !(listed.getD j false)) (q := fun j => !((listed.setIfInBounds i true).getD j false)) (i := i) (l := List.range ml.length)
        (fun j hj => by
          simp only [Bool.not_eq_true'] at hj ⊢
          cases h0 : listed.getD j false with
          | false => rfl
          | true => have := (hset j).2 (.inr h0); unfold LL at this; rw [this] at hj; cases hj)
        (List.mem_range.2 hil) (by simp only [Bool.not_eq_true']; unfold LL at hnL; simpa using hnL) (by
          have := (hset i).2 (.inl rfl); unfold LL at this; simp only [this]; rfl)
      omega
    have hls' : (listed.setIfInBounds i true).size = ops.size := by rw [Array.size_setIfInBounds]; exact hls
    have hdst : ∀ (k : Nat) (mk : MOpr) (t : Nat), ml[k]? = some mk → mk.d = some t → ml[i].d = some t → k = i := fun k mk t a1 a2 a3 => hc.dst k i mk ml[i] t a1 hmi a2 a3
    have hwset : ∀ t, wr ml (LL (listed.setIfInBounds i true)) t ↔ (ml[i].d = some t ∨ wr ml (LL listed) t) := by
      intro t
      constructor
      · rintro ⟨k, mk, a1, a2, a3⟩
        rcases (hset k).1 a3 with rfl | a3
        · rw [hmi] at a1; simp only [Option.some.injEq] at a1; subst a1; exact .inl a2
        · exact .inr ⟨k, mk, a1, a2, a3⟩
      · rintro (h | ⟨k, mk, a1, a2, a3⟩)
        · exact ⟨i, ml[i], hmi, h, (hset i).2 (.inl rfl)⟩
        · exact ⟨k, mk, a1, a2, (hset k).2 (.inr a3)⟩
    have hgdm : ∀ (f g : Nat → PV), (∀ t ∈ ml[i].tmps, f t = g t) → gd ml[i].g f = gd ml[i].g g := fun f g h => gd_congr fun t ht => h t (by unfold MOpr.tmps; exact List.mem_append.2 (.inr (by simpa using ht)))
    have hopm : ∀ (f g : Nat → PV), (∀ t ∈ ml[i].tmps, f t = g t) → ∀ t ∈ ml[i].o.tmps, f t = g t := fun f g h t ht => h t (by unfold MOpr.tmps; exact List.mem_append.2 (.inl ht))
    -- the machine's step, for either kind
    have machine : ∀ (b : Bool) (K' : St → Prop), gd ml[i].g (mix ml (LL listed) s.tm tm0) = some b → (b = true → pstep E { ml[i] with c := ml[i].keep } K' { s with tm := mix ml (LL listed) s.tm tm0 }) → (b = false → K' (St.put { s with tm := mix ml (LL listed) s.tm tm0 } ml[i].d (.tup []))) →
        (∀ C' s' a' w', Rep E B C' s' a' w' → K' s' → wpAny E.P .any ops Q fuel (listed.setIfInBounds i true) a' w') → wpOp E.P ops Q i (wpAny E.P .any ops Q fuel (listed.setIfInBounds i true)) a w := by
      intro b K' hg hp1 hp2 hk
      have hw := gd_wanted hr t2 hg
      unfold wpOp
      simp only [ho, hw]
      cases b with
      | true => rw [if_pos rfl]; exact .inl (pstep_sound htro0 hr (hp1 rfl) hk Q)
      | false =>
        rw [if_neg (by decide)]
        refine hk C _ _ w (hr.put t5 (.tup [] [] rfl (fun j x y h => by simp at h))) ?_
        rw [← t3]; exact hp2 rfl
    by_cases hloud : ml[i].o.loud = true
    · -- a loud one: the canonical order's next
      have hipre : i ∉ pre := fun h => hnL (hS.loud i ml[i] hmi hloud h)
      have hment : ∀ t ∈ ml[i].tmps, s.tm t = mix ml (LL listed) s.tm tm0 t := by
        intro t ht
        by_cases hw : wr ml (LL listed) t
        · simp [mix, hw]
        · simp only [mix, hw, if_false]
          refine hS.fresh t ?_
          rintro ⟨k, mk, a1, a2, a3⟩
          rcases hc.touch k i mk ml[i] t a1 hmi a2 ht with h | h
          · exact hw ⟨k, mk, a1, a2, hcl k h⟩
          · exact hipre (hS.down k a3 i h)
      obtain ⟨f0, _, hnext⟩ := hS.run
      have hri : Rdy bs pre i := fun j hj => hS.sub j (hcl j hj)
      obtain ⟨g, hg, hrun⟩ := hnext i ml[i] hmi hloud hipre hri
      have hg' : gd ml[i].g (mix ml (LL listed) s.tm tm0) = some g := by rw [← hgdm _ _ hment]; exact hg
      -- behind it
      have after : ∀ (v : PV) (bx' : List (List PC)) (nt' : Nat) (live' : List Nat), runT E ml bs K f0 (pre ++ [i]) (St.put ⟨s.tm, bx', nt', live'⟩ ml[i].d v) → (ml[i].wr = false → bx' = s.bx ∨ ∃ c, bx' = s.bx ++ [c]) → (ml[i].wr = true → Wrote (ev s.tm) ml[i] s.bx bx' ∨ bx' = s.bx) →
          ∀ C' a' w', Rep E B C' (St.put ⟨mix ml (LL listed) s.tm tm0, bx', nt', live'⟩ ml[i].d v) a' w' → wpAny E.P .any ops Q fuel (listed.setIfInBounds i true) a' w' := by
        intro v bx' nt' live' hpo hbx hst C' a' w' hr'
        have hs1 : ∀ t, ¬ ml[i].d = some t → (St.put ⟨s.tm, bx', nt', live'⟩ ml[i].d v).tm t = s.tm t := fun t ht => by rw [put_tm]; simp [ht]
        have hb1 : (St.put ⟨s.tm, bx', nt', live'⟩ ml[i].d v).bx = bx' := by rw [put_tm]
        obtain ⟨f1, rfl⟩ : ∃ f1, f0 = f1 + 1 := by
          cases f0 with
          | zero => exact hpo.elim
          | succ f1 => exact ⟨f1, rfl⟩
        obtain ⟨qs, hQs, hClos, hpo⟩ := hpo
        have hlt2 : ∀ k, LL (listed.setIfInBounds i true) k → k < ml.length := fun k hk => by
          rcases (hset k).1 hk with rfl | hk
          · exact hil
          · exact hS.lt k hk
        have hcl2 : ∀ k, k < ml.length → LL (listed.setIfInBounds i true) k → ∀ e ∈ es.getD k [], LL (listed.setIfInBounds i true) e := fun k hk hL e he => by
          rcases (hset k).1 hL with rfl | hL
          · exact (hset e).2 (.inr (hrdy e he))
          · exact (hset e).2 (.inr (hS.closed k hk hL e he))
        obtain ⟨s2, G1, G2, G3, G4, G5, G6, e1, e2, e3, e4⟩ := quietsT (E := E) (tm0 := tm0) hc (L := LL (listed.setIfInBounds i true)) qs (pre ++ [i]) (St.put ⟨s.tm, bx', nt', live'⟩ ml[i].d v) hQs (fun k hk j hj => by
            rcases List.mem_append.1 hk with hk | hk
            · exact List.mem_append.2 (.inl (hS.down k hk j hj))
            · rw [List.mem_singleton] at hk; subst hk; exact List.mem_append.2 (.inl (hri j hj))) hpo
          (fun k hk => by rcases (hset k).1 hk with rfl | hk; exact hil; exact hS.lt k hk)
          (fun k hk hL e he => by
            rcases (hset k).1 hL with rfl | hL
            · exact (hset e).2 (.inr (hrdy e he))
            · exact (hset e).2 (.inr (hS.closed k hk hL e he)))
          (fun k hk => by rcases (hset k).1 hk with rfl | hk; simp; simp [hS.sub k hk])
          (fun k mk hk hl hkp => by
            rcases List.mem_append.1 hkp with h | h
            · exact (hset k).2 (.inr (hS.loud k mk hk hl h))
            · rw [List.mem_singleton] at h; exact (hset k).2 (.inl h))
          (fun t ht => by
            rw [hs1 t (fun h => ht ⟨i, ml[i], hmi, h, by simp⟩)]
            exact hS.fresh t fun ⟨k, mk, a1, a2, a3⟩ => ht ⟨k, mk, a1, a2, by simp [a3]⟩)
          (fun j hj hjL => by
            have hji : j ≠ i := fun h => hjL ((hset j).2 (.inl h))
            have hjp : j ∈ pre := (List.mem_append.1 hj).resolve_right (by simpa using hji)
            have hjL' : ¬ LL listed j := fun h => hjL ((hset j).2 (.inr h))
            have hbj : ∀ k ∈ befOf bs j, k ∈ pre := hS.down j hjp
            have hmm : mix ml (· ∈ befOf bs j) (St.put ⟨s.tm, bx', nt', live'⟩ ml[i].d v).tm tm0 = mix ml (· ∈ befOf bs j) s.tm tm0 := by
              funext t
              by_cases hw : wr ml (· ∈ befOf bs j) t
              · simp only [mix, hw, if_true]
                refine hs1 t fun hd => ?_
                obtain ⟨k, mk, a1, a2, a3⟩ := hw
                have := hdst k mk t a1 a2 hd
                subst this; exact hipre (hbj k a3)
              · simp only [mix, hw, if_false]
            intro m hm hl
            obtain ⟨u, hu1, hu2⟩ := hS.done j hjp hjL' m hm hl
            refine ⟨u, fun t ht => ?_, ?_⟩
            · rw [hs1 t fun hd => hji (hdst j m t hm ht hd)]; exact hu1 t ht
            · rw [hmm, hb1]
              refine hu2.imp (fun ⟨q1, q2⟩ => ⟨q1, ?_⟩) id
              cases his : ml[i].wr with
              | false => exact qf_ext q2 (hbx his)
              | true =>
                rcases hst his with hwr | hsame
                · cases hld : m.o.isLoad with
                  | false => rw [qf_nobx hld (bx' := s.bx)]; exact q2
                  | true =>
                    rcases hc.store j i m ml[i] hm hmi hld his with (h | h) | ⟨x, x1, x2, x3⟩
                    · exact absurd (hcl j h) hjL'
                    · exact absurd (hbj i h) hipre
                    · refine qf_apart x1 (ev_congr fun t ht => ?_) hwr (fun k => ⟨k, rfl⟩) x2 q2
                      by_cases hw : wr ml (· ∈ befOf bs j) t
                      · simp [mix, hw]
                      · simp only [mix, hw, if_false]
                        refine (hS.fresh t ?_).symm
                        rintro ⟨k, mk, a1, a2, _⟩
                        exact hw ⟨k, mk, a1, a2, x3 t ht k mk a1 a2⟩
                · rw [hsame]; exact q2)
        refine ih _ C' s2 a' w' _ (SimT.mk ⟨f1, G1.1, G1.2⟩ hClos G2 hlt2 hcl2 G3 G4 G5 G6) hls' ?_ hcount'
        have heq : ({ s2 with tm := mix ml (LL (listed.setIfInBounds i true)) s2.tm tm0 } : St) = St.put ⟨mix ml (LL listed) s.tm tm0, bx', nt', live'⟩ ml[i].d v := by
          rw [put_tm] at e1 e2 e3 ⊢
          simp only [St.mk.injEq]
          refine ⟨?_, e1, e2, e3⟩
          funext t
          have hsub : wr ml (LL (listed.setIfInBounds i true)) t → wr ml (· ∈ pre ++ [i]) t := fun ⟨k, mk, a1, a2, a3⟩ => ⟨k, mk, a1, a2, by
            rcases (hset k).1 a3 with rfl | a3
            · simp
            · simp [hS.sub k a3]⟩
          by_cases hd : ml[i].d = some t
          · have hw : wr ml (LL (listed.setIfInBounds i true)) t := (hwset t).2 (.inl hd)
            simp only [mix, hw, if_true, hd]
            rw [e4 t (hsub hw), put_tm]; simp [hd]
          · by_cases hw0 : wr ml (LL listed) t
            · have hw : wr ml (LL (listed.setIfInBounds i true)) t := (hwset t).2 (.inr hw0)
              simp only [mix, hw, hw0, if_true, hd, if_false]
              rw [e4 t (hsub hw), hs1 t hd]
            · have hw : ¬ wr ml (LL (listed.setIfInBounds i true)) t := fun h => by rcases (hwset t).1 h with h | h; exact hd h; exact hw0 h
              simp only [mix, hw, hw0, if_false, hd]
        rw [heq]; exact hr'
      rcases hrun with ⟨rfl, hrun⟩ | ⟨rfl, hrun⟩
      · refine machine true _ hg' (fun _ => pstep_congr (tm' := mix ml (LL listed) s.tm tm0) (hopm _ _ hment) hrun) (fun h => by cases h) ?_
        rintro C' s' a' w' hr' ⟨v, bx', nt', live', rfl, hk, hkind⟩
        rcases hkind with ⟨h, _⟩ | ⟨_, h, h'⟩
        · rw [hloud] at h; cases h
        · exact after v bx' nt' live' hk h (fun hs => .inl (h' hs)) C' a' w' hr'
      · refine machine false (fun s' => s' = St.put { s with tm := mix ml (LL listed) s.tm tm0 } ml[i].d (.tup [])) hg' (fun h => by cases h) (fun _ => rfl) ?_
        rintro C' s' a' w' hr' rfl
        exact after (.tup []) s.bx s.nt s.live hrun (fun _ => .inl rfl) (fun _ => .inr rfl) C' a' w' hr'
    · -- a quiet one: the canonical order has carried it out
      have hq : ml[i].o.loud = false := by simpa using hloud
      have hipre : i ∈ pre := hS.clos i ml[i] hmi hq fun j hj => hS.sub j (hcl j hj)
      obtain ⟨v, hv1, hv2⟩ := hS.done i hipre hnL ml[i] hmi hq
      have hmix := mix_eqT hc (L := LL listed) hS.lt hS.closed hmi hnL hrdy s.tm tm0
      have hgc := hgdm _ _ hmix
      have hqc := qf_congr (bx := s.bx) (hopm _ _ hmix)
      rw [hgc, hqc] at hv2
      have hfin : ∀ C' a' w', Rep E B C' (St.put { s with tm := mix ml (LL listed) s.tm tm0 } ml[i].d v) a' w' → wpAny E.P .any ops Q fuel (listed.setIfInBounds i true) a' w' := by
        intro C' a' w' hr'
        refine ih _ C' s a' w' pre ⟨hS.run, hS.clos, hS.down, fun k hk => by rcases (hset k).1 hk with rfl | hk; exact hil; exact hS.lt k hk, fun k hk hL e he => ?_, fun k hk => by rcases (hset k).1 hk with rfl | hk; exact hipre; exact hS.sub k hk, fun k mk hk hl hkp => (hset k).2 (.inr (hS.loud k mk hk hl hkp)), hS.fresh, fun j hj hjL => hS.done j hj fun h => hjL ((hset j).2 (.inr h))⟩ hls' ?_ hcount'
        · rcases (hset k).1 hL with rfl | hL
          · exact (hset e).2 (.inr (hrdy e he))
          · exact (hset e).2 (.inr (hS.closed k hk hL e he))
        · have heq : ({ s with tm := mix ml (LL (listed.setIfInBounds i true)) s.tm tm0 } : St) = St.put { s with tm := mix ml (LL listed) s.tm tm0 } ml[i].d v := by
            rw [put_tm]
            simp only [St.mk.injEq, and_true]
            funext t
            by_cases hd : ml[i].d = some t
            · have hw : wr ml (LL (listed.setIfInBounds i true)) t := (hwset t).2 (.inl hd)
              simp only [mix, hw, if_true, hd]; exact hv1 t hd
            · by_cases hw0 : wr ml (LL listed) t
              · have hw : wr ml (LL (listed.setIfInBounds i true)) t := (hwset t).2 (.inr hw0)
                simp only [mix, hw, hw0, if_true, hd, if_false]
              · have hw : ¬ wr ml (LL (listed.setIfInBounds i true)) t := fun h => by rcases (hwset t).1 h with h | h; exact hd h; exact hw0 h
                simp only [mix, hw, hw0, if_false, hd]
          rw [heq]; exact hr'
      rcases hv2 with ⟨hg, hv⟩ | ⟨hg, rfl⟩
      · refine machine true (fun s' => s' = St.put { s with tm := mix ml (LL listed) s.tm tm0 } ml[i].d v) hg (fun _ => ?_) (fun h => by cases h) (fun C' s' a' w' hr' he => by subst he; exact hfin C' a' w' hr')
        unfold pstep
        split
        · rename_i e; simp only at e; rw [e] at hq; cases hq
        · rename_i e; simp only at e; rw [e] at hq; cases hq
        · rename_i e; simp only at e; rw [e] at hq; cases hq
        · exact .inl ⟨v, hv, rfl⟩
      · exact machine false (fun s' => s' = St.put { s with tm := mix ml (LL listed) s.tm tm0 } ml[i].d (.tup [])) hg (fun h => by cases h) (fun _ => rfl) (fun C' s' a' w' hr' he => by subst he; exact hfin C' a' w' hr')
end
end Go.Proofs.YthngfihpnfoppaaDoor

namespace Go.Proofs.YthngfihpnfoppaaDoor
open Go.RowKit

def isLoudAt (ml : List MOpr) (i : Nat) : Bool :=
  match ml[i]? with
  | some m => m.o.loud
  | none => false
/-- quiet ones as soon as they may, else the first loud one -/
def pickNext (ml : List MOpr) (es : List (List Nat)) (done : List Nat) : Option Nat :=
  let rs := (List.range ml.length).filter fun i => !done.contains i && (es.getD i []).all done.contains
  match rs.find? fun i => !isLoudAt ml i with
  | some i => some i
  | none => rs.head?
def canonOrd (ml : List MOpr) (es : List (List Nat)) : Nat → List Nat → List Nat
  | 0, done => done
  | k + 1, done =>
    match pickNext ml es done with
    | some i => canonOrd ml es k (done ++ [i])
    | none => done
def ordOk (ml : List MOpr) (bs : List (List Nat)) : List Nat → List Nat → Bool
  | _, [] => true
  | pre, i :: r => (befOf bs i).all pre.contains && (isLoudAt ml i || pre.all fun j => !isLoudAt ml j || (befOf bs i).contains j) && ordOk ml bs (pre ++ [i]) r
def X.beq : X → X → Bool
  | .t a, .t b => a == b
  | _, _ => false
/-- a load beside a store that knows of it -/
def besideOk (ml : List MOpr) (bs : List (List Nat)) (i : Nat) (a b : MOpr) : Bool :=
  match adrL a.o with
  | some (.t t) => (b.c.any fun y => X.beq y (.t t)) && (List.range ml.length).all fun k => match ml[k]? with
    | some mk => !(mk.d == some t) || (befOf bs i).contains k
    | none => true
  | _ => false
def pairOk (ml : List MOpr) (bs : List (List Nat)) (i j : Nat) : Bool :=
  match ml[i]?, ml[j]? with
  | some a, some b =>
    let o := (befOf bs j).contains i || (befOf bs i).contains j
    (match a.d with
     | some t => (decide (i = j) || !(b.d == some t)) && (!b.tmps.contains t || o)
     | none => true) &&
    (decide (i = j) || !(a.o.loud && b.o.loud) || o) && (!(a.o.isLoad && b.wr) || o || besideOk ml bs i a b)
  | _, _ => true
def canonOk (ml : List MOpr) (es bs : List (List Nat)) (ord : List Nat) : Bool :=
  decide (es.length = ml.length) && decide (bs.length = ml.length) && decide ord.Nodup && ord.all (fun i => decide (i < ml.length)) && (List.range ml.length).all ord.contains &&
  (List.range ml.length).all (fun i => (es.getD i []).all fun e => decide (e < i)) &&
  (List.range ml.length).all (fun i => (befOf bs i).all fun j => (es.getD i []).contains j || (es.getD i []).any fun e => (befOf bs e).contains j) &&
  (List.range ml.length).all (fun i => (List.range ml.length).all fun j => pairOk ml bs i j) && ordOk ml bs [] ord

theorem ordOk_spec {ml : List MOpr} {bs : List (List Nat)} : ∀ {ord pre0 : List Nat}, ordOk ml bs pre0 ord = true → ∀ pre i post, ord = pre ++ i :: post → (∀ j ∈ befOf bs i, j ∈ pre0 ++ pre) ∧ (isLoudAt ml i = false → ∀ j ∈ pre0 ++ pre, isLoudAt ml j = true → j ∈ befOf bs i)
  | [], pre0, _, pre, i, post, h => by simp at h
  | x :: ord, pre0, hk, pre, i, post, h => by
    simp only [ordOk, Bool.and_eq_true, Bool.or_eq_true, List.all_eq_true, Bool.not_eq_true', List.contains_iff_mem] at hk
    obtain ⟨⟨h1, h2⟩, h3⟩ := hk
    cases pre with
    | nil =>
      simp only [List.nil_append, List.cons.injEq] at h
      obtain ⟨rfl, rfl⟩ := h
      simp only [List.append_nil]
      refine ⟨h1, fun hq j hj hl => ?_⟩
      rcases h2 with h2 | h2
      · rw [hq] at h2; cases h2
      · rcases h2 j hj with h | h
        · rw [hl] at h; cases h
        · exact h
    | cons y pre =>
      simp only [List.cons_append, List.cons.injEq] at h
      obtain ⟨rfl, h⟩ := h
      have := ordOk_spec h3 pre i post h
      simpa only [List.append_assoc, List.singleton_append] using this
theorem canonOk_spec {ml : List MOpr} {es bs : List (List Nat)} {ord : List Nat} (h : canonOk ml es bs ord = true) : Canon ml es bs ord := by
  simp only [canonOk, Bool.and_eq_true, decide_eq_true_eq, List.all_eq_true, List.mem_range, List.contains_iff_mem] at h
  obtain ⟨⟨⟨⟨⟨⟨⟨⟨h1, h2⟩, h3⟩, h4⟩, h5⟩, h6⟩, h7⟩, h8⟩, h9⟩ := h
  have hlt : ∀ {i : Nat} {m : MOpr}, ml[i]? = some m → i < ml.length := fun {i m} hi => by
    rcases Nat.lt_or_ge i ml.length with h | h
    · exact h
    · simp [List.getElem?_eq_none h] at hi
  have hpair : ∀ {i j : Nat} {a b : MOpr}, ml[i]? = some a → ml[j]? = some b → (∀ t, a.d = some t → (i = j ∨ ¬ b.d = some t) ∧ (t ∈ b.tmps → i ∈ befOf bs j ∨ j ∈ befOf bs i)) ∧ (a.o.loud = true → b.o.loud = true → i ≠ j → i ∈ befOf bs j ∨ j ∈ befOf bs i) ∧ (a.o.isLoad = true → b.wr = true → (i ∈ befOf bs j ∨ j ∈ befOf bs i) ∨ besideOk ml bs i a b = true) := by
    intro i j a b hi hj
    have := h8 i (hlt hi) j (hlt hj)
    simp only [pairOk, hi, hj, Bool.and_eq_true, Bool.or_eq_true, decide_eq_true_eq, Bool.not_eq_true', List.contains_iff_mem] at this
    obtain ⟨⟨p1, p2⟩, p3⟩ := this
    refine ⟨fun t ht => ?_, fun hl hl2 hne => ?_, fun hl hs => ?_⟩
    · rw [ht] at p1
      simp only [Bool.and_eq_true, Bool.or_eq_true, decide_eq_true_eq, Bool.not_eq_true', beq_eq_false_iff_ne, ne_eq, List.contains_iff_mem] at p1
      refine ⟨p1.1, fun hm => p1.2.resolve_left fun hh => ?_⟩
      have : b.tmps.contains t = true := List.contains_iff_mem.2 hm
      rw [hh] at this; cases this
    · rcases p2 with (p2 | p2) | p2
      · exact absurd p2 hne
      · rw [hl, hl2] at p2; cases p2
      · exact p2
    · rcases p3 with (p3 | p3) | p3
      · rw [hl, hs] at p3; cases p3
      · exact .inl p3
      · exact .inr p3
  refine ⟨h1, h2, h3, fun i => ⟨fun hi => h4 i hi, fun hi => h5 i hi⟩, fun i e hi he => h6 i hi e he, fun i j hi hj => ?_, fun i j a b t hi hj ha hb => ?_, fun i j a b t hi hj ha ht => ((hpair hi hj).1 t ha).2 ht, fun pre i post ho j hj => ?_, fun i j a b hi hj ha hb hne => (hpair hi hj).2.1 ha hb hne,
    fun pre i post a ho hi hq j b hj hb hl => ?_, fun i j a b hi hj ha hb => ((hpair hi hj).2.2 ha hb).imp id fun hb => ?_, fun i hi hm => ?_⟩
  · have := h7 i hi j hj
    simp only [Bool.or_eq_true, List.contains_iff_mem, List.any_eq_true] at this
    exact this
  · exact ((hpair hi hj).1 t ha).1.resolve_right fun h => h hb
  · have := (ordOk_spec h9 pre i post ho).1 j hj; simpa using this
  · have := (ordOk_spec h9 pre i post ho).2 (by simp [isLoudAt, hi, hq]) j (by simpa using hj) (by simp [isLoudAt, hb, hl])
    exact this
  · unfold besideOk at hb
    split at hb
    · rename_i t ht
      simp only [Bool.and_eq_true, List.any_eq_true, List.all_eq_true, List.mem_range] at hb
      obtain ⟨⟨y, hy1, hy2⟩, hall⟩ := hb
      have hyt : y = .t t := by
        cases y <;> simp only [X.beq, Bool.false_eq_true] at hy2
        simp only [beq_iff_eq] at hy2; rw [hy2]
      subst hyt
      refine ⟨.t t, ht, hy1, fun t' ht' k mk hk hd => ?_⟩
      simp only [X.tmps, List.mem_singleton] at ht'; subst ht'
      have := hall k (hlt hk)
      simp only [hk, hd, beq_self_eq_true, Bool.not_true, Bool.false_or, List.contains_iff_mem] at this
      exact this
    · cases hb
  · -- nothing comes before itself
    have hio : i ∈ ord := h5 i hi
    obtain ⟨p1, p2, hp⟩ := List.append_of_mem hio
    have := (ordOk_spec h9 p1 i p2 hp).1 i hm
    rw [hp] at h3
    exact (List.nodup_append.1 h3).2.2 i (by simpa using this) i (by simp) rfl
end Go.Proofs.YthngfihpnfoppaaDoor

namespace Go.Proofs.YthngfihpnfoppaaDoor
open Go.RowKit

def trOprs (P : Program) (n : Nat) (ops : Array Oper) : List Oper → Option (List MOpr)
  | [] => some []
  | o :: r =>
    match trOpr P n ops o, trOprs P n ops r with
    | some m, some l => some (m :: l)
    | _, _ => none
/-- the temporary is named as an append's source alone -/
def onlySrc (ml : List MOpr) (t : Nat) : Bool := ml.all fun m => match m.o with
  | .app _ s _x => !s.tmps.contains t && (match m.g with | some (u, _) => !(u == t) | none => true) || !m.tmps.contains t
  | _ => !m.tmps.contains t
def toQuiet (ml : List MOpr) (m : MOpr) : MOpr :=
  match m.o, m.d with
  | .lit n xs, some d => if onlySrc ml d then { m with o := .litq n xs } else m
  | _, _ => m
/-- the addresses of loads that no order holds apart from a store; a mark on a call that no load lies beside -/
def beside (ml : List MOpr) (bs : List (List Nat)) (j : Nat) (m : MOpr) : MOpr :=
  if m.o.isStore then
    { m with c := (List.range ml.length).filterMap fun i => match ml[i]? with
      | some a => if a.o.isLoad && !((befOf bs j).contains i || (befOf bs i).contains j) then adrL a.o else none
      | none => none }
  else if m.o.isCall then
    { m with c := .f 0 :: (List.range ml.length).filterMap fun i => match ml[i]? with
      | some a => if a.o.isLoad && !((befOf bs j).contains i || (befOf bs i).contains j) then adrL a.o else none
      | none => none }
  else if m.o.isApp && (List.range ml.length).all (fun i => match ml[i]? with
      | some a => !a.o.isLoad || (befOf bs j).contains i || (befOf bs i).contains j
      | none => true) then { m with c := [.f 0] }
  else m
def markCall (m : MOpr) : MOpr := if m.o.isCall || m.o.isApp then { m with c := [.f 1] } else m

def besides (ml : List MOpr) (bs : List (List Nat)) : Nat → List MOpr → List MOpr
  | _, [] => []
  | j, m :: r => beside ml bs j m :: besides ml bs (j + 1) r
theorem trOprs_some {P : Program} {n : Nat} {ops : Array Oper} : ∀ {l : List Oper} {ml : List MOpr}, trOprs P n ops l = some ml → ml.length = l.length ∧ ∀ (i : Nat) (o : Oper) (m : MOpr), l[i]? = some o → ml[i]? = some m → trOpr P n ops o = some m
  | [], ml, h => by simp only [trOprs, Option.some.injEq] at h; subst h; simp
  | o :: l, ml, h => by
    simp only [trOprs] at h
    split at h
    · rename_i m r h1 h2
      simp only [Option.some.injEq] at h; subst h
      obtain ⟨k1, k2⟩ := trOprs_some h2
      refine ⟨by simp [k1], fun i o' m' ho hm => ?_⟩
      match i with
      | 0 => simp at ho hm; subst ho; subst hm; exact h1
      | i + 1 => exact k2 i o' m' (by simpa using ho) (by simpa using hm)
    · cases h

theorem besides_len {ml : List MOpr} {bs : List (List Nat)} : ∀ {l : List MOpr} {j : Nat}, (besides ml bs j l).length = l.length
  | [], _ => rfl
  | m :: r, j => by simp [besides, besides_len (l := r)]
theorem besides_get {ml : List MOpr} {bs : List (List Nat)} : ∀ {l : List MOpr} {j i : Nat} {m : MOpr}, (besides ml bs j l)[i]? = some m → ∃ m0, l[i]? = some m0 ∧ m.d = m0.d ∧ m.o = m0.o ∧ m.g = m0.g
  | [], _, i, m, h => by simp [besides] at h
  | x :: r, j, i, m, h => by
    simp only [besides] at h
    match i with
    | 0 =>
      simp only [List.getElem?_cons_zero, Option.some.injEq] at h; subst h
      refine ⟨x, rfl, ?_⟩
      unfold beside; split
      · exact ⟨rfl, rfl, rfl⟩
      · split
        · exact ⟨rfl, rfl, rfl⟩
        · split <;> exact ⟨rfl, rfl, rfl⟩
    | i + 1 =>
      simp only [List.getElem?_cons_succ] at h ⊢
      exact besides_get h
theorem toQuiet_tr {P : Program} {n : Nat} {ops : Array Oper} {o : Oper} {ml : List MOpr} {m : MOpr} (h : TrO P n ops o m) (hq : ∀ k xs, m.o = .lit k xs → trOp P o.op = some (.lit k xs)) : TrO P n ops o (toQuiet ml m) := by
  unfold toQuiet
  split
  · rename_i k xs d h1 h2
    split
    · obtain ⟨a1, a2, a3, a4, a5⟩ := h
      exact ⟨.inr ⟨k, xs, hq k xs h1, rfl⟩, a2, a3, rfl, a5⟩
    · exact h
  · exact h

end Go.Proofs.YthngfihpnfoppaaDoor

namespace Go.Proofs.YthngfihpnfoppaaDoor
open Go.RowKit

inductive RT where
  | leaf
  | node (qs : List MOpr) (alts : RT)
  | alt (m : MOpr) (t next : RT)
def RT.isLeaf : RT → Bool
  | .leaf => true
  | _ => false
/-- every order -/
def pt (E : Env) (K : St → Prop) : RT → St → Prop
  | .leaf, _ => True
  | .node qs a, s => po E qs (fun s => (a.isLeaf = true → K s) ∧ pt E K a s) s
  | .alt m t n, s => po E [m] (pt E K t) s ∧ pt E K n s

def asapQ (ml : List MOpr) (bs : List (List Nat)) : Nat → List Nat → List Nat
  | 0, _ => []
  | f + 1, pre =>
    match (List.range ml.length).find? (fun i => !isLoudAt ml i && !pre.contains i && (befOf bs i).all pre.contains) with
    | some i => i :: asapQ ml bs f (pre ++ [i])
    | none => []
def qsOk (ml : List MOpr) (bs : List (List Nat)) : List Nat → List Nat → Bool
  | _, [] => true
  | pre, i :: r => decide (i < ml.length) && !isLoudAt ml i && !pre.contains i && (befOf bs i).all pre.contains && qsOk ml bs (pre ++ [i]) r
def closOk (ml : List MOpr) (bs : List (List Nat)) (pre : List Nat) : Bool := (List.range ml.length).all fun i => isLoudAt ml i || !(befOf bs i).all pre.contains || pre.contains i
def nextOf (ml : List MOpr) (bs : List (List Nat)) (pre : List Nat) : List Nat := (List.range ml.length).filter fun i => isLoudAt ml i && !pre.contains i && (befOf bs i).all pre.contains
def altsOf (ml : List MOpr) (rec : Nat → Option RT) : List Nat → Option RT
  | [] => some .leaf
  | i :: r =>
    match ml[i]?, rec i, altsOf ml rec r with
    | some m, some t, some n => some (.alt m t n)
    | _, _, _ => none
def buildT (ml : List MOpr) (bs : List (List Nat)) : Nat → List Nat → Option RT
  | 0, _ => none
  | f + 1, pre =>
    let qs := asapQ ml bs ml.length pre
    if qsOk ml bs pre qs && closOk ml bs (pre ++ qs) then
      (altsOf ml (fun i => buildT ml bs f (pre ++ qs ++ [i])) (nextOf ml bs (pre ++ qs))).map (.node (qs.filterMap (ml[·]?)))
    else none

theorem pcall_mono {E : Env} {f : Nat} {xs : List PV} {d : Option Nat} {K K' : St → Prop} {s : St} (h : pcall E f xs d K s) (hk : ∀ s, K s → K' s) : pcall E f xs d K' s := by
  obtain ⟨args, R, h1, h2, h3⟩ := h
  refine ⟨args, R, h1, h2, h3.imp (fun h x lv hR => ?_) fun h x lv k hR a b => ?_⟩
  · obtain ⟨y, e1, e2⟩ := h x lv hR; exact ⟨y, e1, hk _ e2⟩
  · obtain ⟨y, e1, e2, e3⟩ := h x lv k hR a b; exact ⟨y, e1, e2, hk _ e3⟩
theorem pcallG_mono {E : Env} {f : Nat} {xs : List PV} {d : Option Nat} {c : List X} {K K' : St → Prop} {s : St} (h : pcallG E f xs d c K s) (hk : ∀ s, K s → K' s) : pcallG E f xs d c K' s := by
  obtain ⟨R, h1, h2⟩ := h
  exact ⟨R, h1, fun x b n l hR => ⟨(h2 x b n l hR).1, hk _ (h2 x b n l hR).2⟩⟩
theorem pstep_mono {E : Env} {o : MOpr} {K K' : St → Prop} {s : St} (h : pstep E o K s) (hk : ∀ s, K s → K' s) : pstep E o K' s := by
  obtain ⟨d, m, g, c⟩ := o
  cases m <;> simp only [pstep] at h ⊢ <;>
    first
      | (exact h.imp (fun h => pcall_mono h hk) fun h => ⟨h.1, pcallG_mono h.2 hk⟩)
      | (obtain ⟨f, cap, h1, h2, h3⟩ := h; exact ⟨f, cap, h1, h2, h3.imp (fun h => pcall_mono h hk) fun h => ⟨h.1, pcallG_mono h.2 hk⟩⟩)
      | (rcases h with ⟨v, s', h1, h2⟩ | ⟨h1, p, len, cap, z, tk2, ds, a1, a2, a3, a4, a5, a6⟩
         · exact .inl ⟨v, s', h1, hk _ h2⟩
         · exact .inr ⟨h1, p, len, cap, z, tk2, ds, a1, a2, a3, a4, a5, fun p' c' b' hA => ⟨(a6 p' c' b' hA).1, hk _ (a6 p' c' b' hA).2⟩⟩)
      | (rcases h with ⟨v, h1, h2⟩ | ⟨v, s', h1, h2, h3⟩
         · exact .inl ⟨v, h1, hk _ h2⟩
         · exact .inr ⟨v, s', h1, h2, hk _ h3⟩)
theorem po_mono {E : Env} : ∀ {l : List MOpr} {K K' : St → Prop} {s : St}, po E l K s → (∀ s, K s → K' s) → po E l K' s
  | [], _, _, _, h, hk => hk _ h
  | o :: r, K, K', s, h, hk => by
    obtain ⟨g, hg, h⟩ := h
    exact ⟨g, hg, h.imp (fun h => ⟨h.1, pstep_mono h.2 fun s h => po_mono h hk⟩) fun h => ⟨h.1, po_mono h.2 hk⟩⟩

theorem loudAt {ml : List MOpr} {i : Nat} {m : MOpr} (h : ml[i]? = some m) : isLoudAt ml i = m.o.loud := by unfold isLoudAt; rw [h]
theorem lt_of_get {ml : List MOpr} {i : Nat} {m : MOpr} (h : ml[i]? = some m) : i < ml.length := by
  rcases Nat.lt_or_ge i ml.length with h' | h'
  · exact h'
  · simp [List.getElem?_eq_none h'] at h
theorem rdy_of {bs : List (List Nat)} {pre : List Nat} {i : Nat} : (befOf bs i).all pre.contains = true ↔ Rdy bs pre i := by
  simp only [List.all_eq_true, List.contains_iff_mem]; exact Iff.rfl
theorem qsOk_spec {ml : List MOpr} {bs : List (List Nat)} : ∀ {qs pre : List Nat}, qsOk ml bs pre qs = true → Qs ml bs pre qs
  | [], _, _ => trivial
  | i :: r, pre, h => by
    simp only [qsOk, Bool.and_eq_true, decide_eq_true_eq, Bool.not_eq_true'] at h
    obtain ⟨⟨⟨⟨h1, h2⟩, h3⟩, h4⟩, h5⟩ := h
    have hm : ml[i]? = some ml[i] := List.getElem?_eq_getElem h1
    refine ⟨⟨ml[i], hm, by rw [← loudAt hm]; exact h2⟩, fun hi => ?_, rdy_of.1 h4, qsOk_spec h5⟩
    rw [← List.contains_iff_mem] at hi; rw [hi] at h3; cases h3
theorem closOk_spec {ml : List MOpr} {bs : List (List Nat)} {pre : List Nat} (h : closOk ml bs pre = true) : Clos ml bs pre := by
  intro i m hm hq hr
  unfold closOk at h
  rw [List.all_eq_true] at h
  have := h i (List.mem_range.2 (lt_of_get hm))
  rw [loudAt hm, hq, rdy_of.2 hr] at this
  simpa using this
theorem altsOf_get {E : Env} {ml : List MOpr} {K : St → Prop} {rec : Nat → Option RT} : ∀ {l : List Nat} {t : RT} {s : St}, altsOf ml rec l = some t → pt E K t s → ∀ i ∈ l, ∃ m u, ml[i]? = some m ∧ rec i = some u ∧ po E [m] (pt E K u) s
  | [], _, _, _, _, i, hi => by cases hi
  | x :: r, t, s, h, hp, i, hi => by
    simp only [altsOf] at h
    split at h
    · rename_i m u n h1 h2 h3
      simp only [Option.some.injEq] at h; subst h
      rcases List.mem_cons.1 hi with rfl | hi
      · exact ⟨m, u, h1, h2, hp.1⟩
      · exact altsOf_get h3 hp.2 i hi
    · cases h
theorem altsOf_leaf {ml : List MOpr} {rec : Nat → Option RT} {l : List Nat} {t : RT} (h : altsOf ml rec l = some t) (hl : l = []) : t.isLeaf = true := by
  subst hl; simp only [altsOf, Option.some.injEq] at h; subst h; rfl
theorem build_run {E : Env} {ml : List MOpr} {bs : List (List Nat)} {K : St → Prop} : ∀ {f : Nat} {pre : List Nat} {t : RT} {s : St}, buildT ml bs f pre = some t → pt E K t s → runT E ml bs K f pre s
  | 0, _, _, _, h, _ => by simp [buildT] at h
  | f + 1, pre, t, s, h, hp => by
    simp only [buildT] at h
    split at h
    · rename_i hok
      rw [Bool.and_eq_true] at hok
      obtain ⟨a, ha, rfl⟩ := Option.map_eq_some_iff.1 h
      refine ⟨_, qsOk_spec hok.1, closOk_spec hok.2, po_mono hp fun s hk => ⟨fun hall => ?_, fun i m hm hl hi hr => ?_⟩⟩
      · refine hk.1 (altsOf_leaf ha ?_)
        rw [nextOf, List.filter_eq_nil_iff]
        intro i hi
        have := hall i (List.mem_range.1 hi)
        rw [← List.contains_iff_mem] at this
        show ¬ ((isLoudAt ml i && !(pre ++ asapQ ml bs ml.length pre).contains i && (befOf bs i).all (pre ++ asapQ ml bs ml.length pre).contains) = true)
        rw [this]; simp
      · have hin : i ∈ nextOf ml bs (pre ++ asapQ ml bs ml.length pre) := by
          rw [nextOf, List.mem_filter]
          refine ⟨List.mem_range.2 (lt_of_get hm), ?_⟩
          rw [loudAt hm, hl, rdy_of.2 hr]
          have : (pre ++ asapQ ml bs ml.length pre).contains i = false := by
            cases hc : (pre ++ asapQ ml bs ml.length pre).contains i with
            | false => rfl
            | true => exact absurd (List.contains_iff_mem.1 hc) hi
          rw [this]; rfl
        obtain ⟨m', u, e1, e2, e3⟩ := altsOf_get ha hk.2 i hin
        rw [hm] at e1; simp only [Option.some.injEq] at e1; subst e1
        exact po_mono e3 fun s h => build_run e2 h
    · cases h

/-- the check, no order given -/
def pairOkT (ml : List MOpr) (bs : List (List Nat)) (i j : Nat) : Bool :=
  match ml[i]?, ml[j]? with
  | some a, some b =>
    let o := (befOf bs j).contains i || (befOf bs i).contains j
    (match a.d with
     | some t => (decide (i = j) || !(b.d == some t)) && (!b.tmps.contains t || o)
     | none => true) && (!(a.o.isLoad && b.wr) || o || besideOk ml bs i a b)
  | _, _ => true
def canonOkT (ml : List MOpr) (es bs : List (List Nat)) : Bool :=
  decide (es.length = ml.length) && decide (bs.length = ml.length) &&
  (List.range ml.length).all (fun i => (es.getD i []).all fun e => decide (e < i)) &&
  (List.range ml.length).all (fun i => (befOf bs i).all fun j => (es.getD i []).contains j || (es.getD i []).any fun e => (befOf bs e).contains j) &&
  (List.range ml.length).all (fun i => (List.range ml.length).all fun j => pairOkT ml bs i j) && (List.range ml.length).all fun i => !(befOf bs i).contains i
theorem canonOkT_spec {ml : List MOpr} {es bs : List (List Nat)} (h : canonOkT ml es bs = true) : CanonT ml es bs := by
  simp only [canonOkT, Bool.and_eq_true, decide_eq_true_eq, List.all_eq_true, List.mem_range] at h
  obtain ⟨⟨⟨⟨⟨h1, h2⟩, h6⟩, h7⟩, h8⟩, h9⟩ := h
  have hpair : ∀ {i j : Nat} {a b : MOpr}, ml[i]? = some a → ml[j]? = some b → (∀ t, a.d = some t → (i = j ∨ ¬ b.d = some t) ∧ (t ∈ b.tmps → i ∈ befOf bs j ∨ j ∈ befOf bs i)) ∧ (a.o.isLoad = true → b.wr = true → (i ∈ befOf bs j ∨ j ∈ befOf bs i) ∨ besideOk ml bs i a b = true) := by
    intro i j a b hi hj
    have := h8 i (lt_of_get hi) j (lt_of_get hj)
    simp only [pairOkT, hi, hj, Bool.and_eq_true, Bool.or_eq_true, Bool.not_eq_true', List.contains_iff_mem] at this
    obtain ⟨p1, p3⟩ := this
    refine ⟨fun t ht => ?_, fun hl hs => ?_⟩
    · rw [ht] at p1
      simp only [Bool.and_eq_true, Bool.or_eq_true, decide_eq_true_eq, Bool.not_eq_true', beq_eq_false_iff_ne, ne_eq, List.contains_iff_mem] at p1
      refine ⟨p1.1, fun hm => p1.2.resolve_left fun hh => ?_⟩
      have : b.tmps.contains t = true := List.contains_iff_mem.2 hm
      rw [hh] at this; cases this
    · rcases p3 with (p3 | p3) | p3
      · rw [hl, hs] at p3; cases p3
      · exact .inl p3
      · exact .inr p3
  refine ⟨h1, h2, fun i e hi he => h6 i hi e he, fun i j hi hj => ?_, fun i j a b t hi hj ha hb => ?_, fun i j a b t hi hj ha ht => ((hpair hi hj).1 t ha).2 ht, fun i j a b hi hj ha hb => ((hpair hi hj).2 ha hb).imp id fun hb => ?_, fun i hi hm => ?_⟩
  · have := h7 i hi j hj
    simp only [Bool.or_eq_true, List.contains_iff_mem, List.any_eq_true] at this
    exact this
  · exact ((hpair hi hj).1 t ha).1.resolve_right fun h => h hb
  · unfold besideOk at hb
    split at hb
    · rename_i t ht
      simp only [Bool.and_eq_true, List.any_eq_true, List.all_eq_true, List.mem_range] at hb
      obtain ⟨⟨y, hy1, hy2⟩, hall⟩ := hb
      have hyt : y = .t t := by
        cases y <;> simp only [X.beq, Bool.false_eq_true] at hy2
        simp only [beq_iff_eq] at hy2; rw [hy2]
      subst hyt
      refine ⟨.t t, ht, hy1, fun t' ht' k mk hk hd => ?_⟩
      simp only [X.tmps, List.mem_singleton] at ht'; subst ht'
      have := hall k (lt_of_get hk)
      simp only [hk, hd, beq_self_eq_true, Bool.not_true, Bool.false_or, List.contains_iff_mem] at this
      exact this
    · cases hb
  · have := h9 i hi
    rw [List.contains_iff_mem.2 hm] at this; cases this
end Go.Proofs.YthngfihpnfoppaaDoor

namespace Go.Proofs.YthngfihpnfoppaaDoor
open Go.RowKit

def trT (P : Program) (n : Nat) (ops : Array Oper) : Option RT :=
  match trOprs P n ops ops.toList with
  | some ml =>
    let es := ops.toList.map edgesOf
    let bs := befs es
    let ml := besides (ml.map (toQuiet ml)) bs 0 (ml.map (toQuiet ml))
    if canonOkT ml es bs then buildT ml bs (ml.length + 1) [] else none
  | none => none
/-- **a region that draws its order** -/
theorem region_tree {E : Env} {B : Base} {C : Cx} {s : St} {a : Act} {w : World} {id : Nat} {ops : Array Oper} {t : RT} {K : St → Prop} {Q : Exit → Act → World → Prop} (k : trT E.P B.n ops = some t) (hr : Rep E B C s a w) (hp : pt E K t s)
    (hQ : ∀ C' s' a' w', Rep E B C' s' a' w' → K s' → Q .normal a' w') : (Code.region id ops true).wp E.P Q a w := by
  unfold trT at k
  split at k
  · rename_i ml hml
    obtain ⟨m1, m2⟩ := trOprs_some hml
    have hsz : ops.size = ml.length := by rw [m1, Array.length_toList]
    simp only at k
    split at k
    · rename_i hcan
      have hC := canonOkT_spec hcan
      have h := build_run k hp
      refine wp_region_any E.mixed ?_
      have hr2 : Rep E B C s a { w with drawn := w.drawn + 1 } := by
        have hcell : ∀ p : Addr, ({ w with drawn := w.drawn + 1 } : World).cell? p = w.cell? p := fun _ => rfl
        have hF : Fix C w { w with drawn := w.drawn + 1 } := ⟨fun _ _ _ => rfl, fun _ _ cs fz h => ⟨cs, fz, h⟩⟩
        refine ⟨⟨hr.inv.nb, fun p cs hp => ?_, hr.inv.boxF, hr.inv.boxG, hr.inv.inj, hr.inv.tok, hr.inv.tinj, hr.inv.fin, hr.inv.ng, E.low w _ hr.inv.t (Nat.le_refl _) (fun _ _ => rfl)⟩, hr.nt, hr.n2, ⟨hr.ext.os, hr.ext.tape, hr.ext.output, hr.ext.size, hr.ext.F, hr.ext.fix, hr.ext.block, hr.ext.bx, hr.ext.newF, hr.ext.newT, hr.ext.newB, hr.ext.tk⟩, hr.size, hr.defers, fun t => (hr.tm t).frame (CxLe.refl C) hF⟩
        obtain ⟨vs, e, hh, hl⟩ := hr.inv.box p cs hp
        exact ⟨vs, e, hh, hl.frame (CxLe.refl C) hF⟩
      obtain ⟨ml2, hml2⟩ : ∃ ml2, ml2 = besides (ml.map (toQuiet ml)) (befs (ops.toList.map edgesOf)) 0 (ml.map (toQuiet ml)) := ⟨_, rfl⟩
      rw [← hml2] at hC h
      have hsz : ops.size = ml2.length := by rw [hml2, besides_len, List.length_map]; exact hsz
      have htr : ∀ (i : Nat) (o : Oper) (m : MOpr), ops[i]? = some o → ml2[i]? = some m → TrO E.P B.n ops o m := fun i o m ho hm => by
        rw [hml2] at hm
        obtain ⟨m0, h0, g1, g2, g3⟩ := besides_get hm
        rw [List.getElem?_map] at h0
        cases hmi : ml[i]? with
        | none => rw [hmi] at h0; cases h0
        | some m1 =>
          rw [hmi] at h0; simp only [Option.map_some, Option.some.injEq] at h0; subst h0
          have t0 := m2 i o m1 (by simpa using ho) hmi
          have t1 := trOpr_some t0
          have t2 : TrO E.P B.n ops o (toQuiet ml m1) := toQuiet_tr t1 fun k xs hk => by
            have := t1.1
            rw [hk] at this
            rcases this with h | ⟨_, _, _, h⟩
            · exact h
            · cases h
          unfold TrO at t2 ⊢
          rw [g1, g2, g3]; exact t2
      have hes : ∀ (i : Nat) (o : Oper), ops[i]? = some o → (ops.toList.map edgesOf).getD i [] = edgesOf o := fun i o ho => by
        rw [List.getD_eq_getElem?_getD, List.getElem?_map, Array.getElem?_toList, ho]; rfl
      have hnoL : ∀ i, ¬ LL (Array.replicate ops.size false) i := by
        intro i hi
        unfold LL at hi
        rcases Nat.lt_or_ge i ops.size with h | h
        · simp [h] at hi
        · simp [Array.getD_eq_getD_getElem?, Array.getElem?_eq_none (show (Array.replicate ops.size false).size ≤ i by simpa using h)] at hi
      obtain ⟨qs, hQs, hClos, hpo⟩ := h
      obtain ⟨s', G1, G2, G3, G4, G5, G6, e1, e2, e3, _⟩ := quietsT (E := E) (tm0 := s.tm) hC (L := LL (Array.replicate ops.size false)) qs [] s hQs (fun i hi => by cases hi) hpo (fun i hi => absurd hi (hnoL i)) (fun i _ hi => absurd hi (hnoL i)) (fun i hi => absurd hi (hnoL i)) (fun i m _ _ hi => by cases hi) (fun _ _ => rfl) (fun j hj => by cases hj)
      have hS : SimT E ml2 (ops.toList.map edgesOf) (befs (ops.toList.map edgesOf)) K s.tm (LL (Array.replicate ops.size false)) ([] ++ qs) s' := ⟨⟨_, G1.1, G1.2⟩, hClos, G2, fun i hi => absurd hi (hnoL i), fun i _ hi => absurd hi (hnoL i), G3, G4, G5, G6⟩
      refine sim_anyT (B := B) hC hsz htr hes (Q := Q) (K := K) (tm0 := s.tm) hQ ops.size (Array.replicate ops.size false) C s' a _ _ hS (by simp) ?_ ?_
      · have hmix : mix ml2 (LL (Array.replicate ops.size false)) s'.tm s.tm = s.tm := by
          funext t
          have : ¬ wr ml2 (LL (Array.replicate ops.size false)) t := fun ⟨i, _, _, _, hi⟩ => hnoL i hi
          simp [mix, this]
        have : ({ s' with tm := mix ml2 (LL (Array.replicate ops.size false)) s'.tm s.tm } : St) = s := by
          rw [hmix]
          obtain ⟨tm', bx', nt', live'⟩ := s'
          obtain ⟨tm, bx, nt, live⟩ := s
          simp only at e1 e2 e3
          subst e1; subst e2; subst e3; rfl
        rw [this]; exact hr2
      · refine Nat.le_trans (List.length_filter_le _ _) ?_
        rw [List.length_range, hsz]; exact Nat.le_refl _
    · cases k
  · cases k
end Go.Proofs.YthngfihpnfoppaaDoor

namespace Go.Proofs.YthngfihpnfoppaaDoor
open Go.RowKit

inductive M where
  | skip
  | ops (l : List MOpr)
  | tree (t : RT)
  | seq (a b : M)
  | cond (x : X) (a b : M)
  | block (id : Nat) (a : M)
  | loop (a : M)
  | exit (id : Nat)
  | ret
def trR (P : Program) (n : Nat) (ops : Array Oper) (draw : Bool) : Option (List MOpr) :=
  match trOprs P n ops ops.toList with
  | some ml =>
    if draw then
      let es := ops.toList.map edgesOf
      let bs := befs es
      let ml := besides (ml.map (toQuiet ml)) bs 0 (ml.map (toQuiet ml))
      let ord := canonOrd ml es ml.length []
      if canonOk ml es bs ord then some (ord.filterMap (ml[·]?)) else none
    else some (ml.map markCall)
  | none => none
def tr (P : Program) (n : Nat) : Code → Option M
  | .skip => some .skip
  | .region _ ops draw =>
    match trR P n ops draw with
    | some l => some (.ops l)
    | none => if draw then (trT P n ops).map .tree else none
  | .seq a b =>
    match tr P n a, tr P n b with
    | some a, some b => some (.seq a b)
    | _, _ => none
  | .cond x a b =>
    match trX x, tr P n a, tr P n b with
    | some x, some a, some b => some (.cond x a b)
    | _, _, _ => none
  | .block id a => (tr P n a).map (.block id)
  | .loop a => (tr P n a).map .loop
  | .exit id => some (.exit id)
  | .ret => some .ret
  | _ => none

def lift (E : Env) (B : Base) (Q : Exit → St → Prop) : Exit → Act → World → Prop := fun e a w => ∃ C s, Rep E B C s a w ∧ match e with
  | .normal => Q .normal s
  | .exit i => Q (.exit i) s
  | .ret => Q .ret s
  | _ => False
theorem lift_mono {E : Env} {B : Base} {Q Q' : Exit → St → Prop} (h : ∀ e s, Q e s → Q' e s) : ∀ e a w, lift E B Q e a w → lift E B Q' e a w := by
  rintro e a w ⟨C, s, hr, hq⟩
  exact ⟨C, s, hr, by cases e <;> first | exact h _ _ hq | exact hq⟩
/-- whatever code says m, from whatever stands for s -/
def mw (E : Env) (B : Base) (m : M) (Q : Exit → St → Prop) (s : St) : Prop := ∀ code, tr E.P B.n code = some m → ∀ C a w, Rep E B C s a w → code.wp E.P (lift E B Q) a w

section
variable {E : Env} {B : Base} {s : St} {Q : Exit → St → Prop}

theorem tr_inv {P : Program} {n : Nat} {c : Code} {m : M} (h : tr P n c = some m) :
    (m = .skip ∧ c = .skip) ∨ (∃ id ops d l, m = .ops l ∧ c = .region id ops d ∧ trR P n ops d = some l) ∨ (∃ a b a' b', m = .seq a' b' ∧ c = .seq a b ∧ tr P n a = some a' ∧ tr P n b = some b') ∨
    (∃ x a b x' a' b', m = .cond x' a' b' ∧ c = .cond x a b ∧ trX x = some x' ∧ tr P n a = some a' ∧ tr P n b = some b') ∨ (∃ id a a', m = .block id a' ∧ c = .block id a ∧ tr P n a = some a') ∨
    (∃ a a', m = .loop a' ∧ c = .loop a ∧ tr P n a = some a') ∨ (∃ id, m = .exit id ∧ c = .exit id) ∨ (m = .ret ∧ c = .ret) ∨ (∃ id ops t, m = .tree t ∧ c = .region id ops true ∧ trT P n ops = some t) := by
  cases c with
  | skip => simp only [tr, Option.some.injEq] at h; subst h; exact .inl ⟨rfl, rfl⟩
  | region id ops d =>
    simp only [tr] at h
    cases hr : trR P n ops d with
    | none =>
      rw [hr] at h
      cases d with
      | false => cases h
      | true =>
        cases ht : trT P n ops with
        | none => rw [ht] at h; cases h
        | some t => rw [ht] at h; simp only [if_true, Option.map_some, Option.some.injEq] at h; subst h; exact .inr (.inr (.inr (.inr (.inr (.inr (.inr (.inr ⟨id, ops, t, rfl, rfl, ht⟩)))))))
    | some l => rw [hr] at h; simp only [Option.some.injEq] at h; subst h; exact .inr (.inl ⟨id, ops, d, l, rfl, rfl, hr⟩)
  | seq a b =>
    simp only [tr] at h
    split at h
    · rename_i a' b' h1 h2
      simp only [Option.some.injEq] at h; subst h; exact .inr (.inr (.inl ⟨a, b, a', b', rfl, rfl, h1, h2⟩))
    · cases h
  | cond x a b =>
    simp only [tr] at h
    split at h
    · rename_i x' a' b' h0 h1 h2
      simp only [Option.some.injEq] at h; subst h; exact .inr (.inr (.inr (.inl ⟨x, a, b, x', a', b', rfl, rfl, h0, h1, h2⟩)))
    · cases h
  | block id a =>
    simp only [tr] at h
    cases hr : tr P n a with
    | none => rw [hr] at h; cases h
    | some l => rw [hr] at h; simp only [Option.map_some, Option.some.injEq] at h; subst h; exact .inr (.inr (.inr (.inr (.inl ⟨id, a, l, rfl, rfl, hr⟩))))
  | loop a =>
    simp only [tr] at h
    cases hr : tr P n a with
    | none => rw [hr] at h; cases h
    | some l => rw [hr] at h; simp only [Option.map_some, Option.some.injEq] at h; subst h; exact .inr (.inr (.inr (.inr (.inr (.inl ⟨a, l, rfl, rfl, hr⟩)))))
  | exit id => simp only [tr, Option.some.injEq] at h; subst h; exact .inr (.inr (.inr (.inr (.inr (.inr (.inl ⟨id, rfl, rfl⟩))))))
  | ret => simp only [tr, Option.some.injEq] at h; subst h; exact .inr (.inr (.inr (.inr (.inr (.inr (.inr (.inl ⟨rfl, rfl⟩)))))))
  | _ => simp [tr] at h

theorem mw_mono {m : M} {Q' : Exit → St → Prop} (h : mw E B m Q s) (hq : ∀ e s, Q e s → Q' e s) : mw E B m Q' s := fun c hc C a w hr => wp_mono (h c hc C a w hr) (lift_mono hq)
theorem mw_skip (h : Q .normal s) : mw E B .skip Q s := by
  intro c hc C a w hr
  obtain ⟨_, rfl⟩ | ⟨_, _, _, _, h', _⟩ | ⟨_, _, _, _, h', _⟩ | ⟨_, _, _, _, _, _, h', _⟩ | ⟨_, _, _, h', _⟩ | ⟨_, _, h', _⟩ | ⟨_, h', _⟩ | ⟨h', _⟩ | ⟨_, _, _, h', _⟩ := tr_inv hc <;> first | (cases h'; done) | exact wp_skip ⟨C, s, hr, h⟩
theorem mw_ret (h : Q .ret s) : mw E B .ret Q s := by
  intro c hc C a w hr
  obtain ⟨h', _⟩ | ⟨_, _, _, _, h', _⟩ | ⟨_, _, _, _, h', _⟩ | ⟨_, _, _, _, _, _, h', _⟩ | ⟨_, _, _, h', _⟩ | ⟨_, _, h', _⟩ | ⟨_, h', _⟩ | ⟨_, rfl⟩ | ⟨_, _, _, h', _⟩ := tr_inv hc <;> first | (cases h'; done) | exact wp_ret ⟨C, s, hr, h⟩
theorem mw_exit {id : Nat} (h : Q (.exit id) s) : mw E B (.exit id) Q s := by
  intro c hc C a w hr
  obtain ⟨h', _⟩ | ⟨_, _, _, _, h', _⟩ | ⟨_, _, _, _, h', _⟩ | ⟨_, _, _, _, _, _, h', _⟩ | ⟨_, _, _, h', _⟩ | ⟨_, _, h', _⟩ | ⟨i, h', rfl⟩ | ⟨h', _⟩ | ⟨_, _, _, h', _⟩ := tr_inv hc <;> first | (cases h'; done) | (cases h'; exact wp_exit ⟨C, s, hr, h⟩)
def seqK (E : Env) (B : Base) (b : M) (Q : Exit → St → Prop) : Exit → St → Prop
  | .normal, s => mw E B b Q s
  | e, s => Q e s
theorem mw_seq {a b : M} (h : mw E B a (seqK E B b Q) s) : mw E B (.seq a b) Q s := by
  intro c hc C ac w hr
  obtain ⟨h', _⟩ | ⟨_, _, _, _, h', _⟩ | ⟨x, y, _, _, h', rfl, h1, h2⟩ | ⟨_, _, _, _, _, _, h', _⟩ | ⟨_, _, _, h', _⟩ | ⟨_, _, h', _⟩ | ⟨_, h', _⟩ | ⟨h', _⟩ | ⟨_, _, _, h', _⟩ := tr_inv hc <;> try (cases h'; done)
  simp only [M.seq.injEq] at h'; obtain ⟨rfl, rfl⟩ := h'
  refine wp_seq (wp_mono (h x h1 C ac w hr) ?_)
  rintro e a' w' ⟨C', s', hr', hq⟩
  cases e with
  | normal => exact hq y h2 C' a' w' hr'
  | exit i => exact ⟨C', s', hr', hq⟩
  | ret => exact ⟨C', s', hr', hq⟩
  | _ => exact hq.elim
theorem mw_cond {x : X} {a b : M} {t : Bool} (hx : ev s.tm x = .d (.v (.bool t))) (h1 : t = true → mw E B a Q s) (h2 : t = false → mw E B b Q s) : mw E B (.cond x a b) Q s := by
  intro c hc C ac w hr
  obtain ⟨h', _⟩ | ⟨_, _, _, _, h', _⟩ | ⟨_, _, _, _, h', _⟩ | ⟨x0, a0, b0, _, _, _, h', rfl, k0, k1, k2⟩ | ⟨_, _, _, h', _⟩ | ⟨_, _, h', _⟩ | ⟨_, h', _⟩ | ⟨h', _⟩ | ⟨_, _, _, h', _⟩ := tr_inv hc <;> try (cases h'; done)
  simp only [M.cond.injEq] at h'; obtain ⟨rfl, rfl, rfl⟩ := h'
  have hv := hr.ro x0 x k0
  rw [hx] at hv
  have hb : ac.eval x0 = .bool t := by
    generalize ac.eval x0 = z at hv
    cases hv with
    | d _ _ hv => cases hv with
      | v _ _ => rfl
  exact wp_cond_split hb (fun e => h1 e a0 k1 C ac w hr) (fun e => h2 e b0 k2 C ac w hr)
def blockK (id : Nat) (Q : Exit → St → Prop) : Exit → St → Prop
  | .exit i, s => if i = id then Q .normal s else Q (.exit i) s
  | e, s => Q e s
theorem mw_block {id : Nat} {a : M} (h : mw E B a (blockK id Q) s) : mw E B (.block id a) Q s := by
  intro c hc C ac w hr
  obtain ⟨h', _⟩ | ⟨_, _, _, _, h', _⟩ | ⟨_, _, _, _, h', _⟩ | ⟨_, _, _, _, _, _, h', _⟩ | ⟨i, a0, _, h', rfl, k⟩ | ⟨_, _, h', _⟩ | ⟨_, h', _⟩ | ⟨h', _⟩ | ⟨_, _, _, h', _⟩ := tr_inv hc <;> try (cases h'; done)
  simp only [M.block.injEq] at h'; obtain ⟨rfl, rfl⟩ := h'
  refine wp_block (wp_mono (h a0 k C ac w hr) ?_)
  rintro e a' w' ⟨C', s', hr', hq⟩
  cases e with
  | normal => exact ⟨C', s', hr', hq⟩
  | exit i =>
    simp only [Exit.inBlock]
    simp only [blockK] at hq
    by_cases hi : i = id
    · rw [if_pos hi] at hq ⊢; exact ⟨C', s', hr', hq⟩
    · rw [if_neg hi] at hq ⊢; exact ⟨C', s', hr', hq⟩
  | ret => exact ⟨C', s', hr', hq⟩
  | _ => exact hq.elim
def loopK (I : Nat → St → Prop) (n : Nat) (Q : Exit → St → Prop) : Exit → St → Prop
  | .normal, s => ∃ k, k < n ∧ I k s
  | e, s => Q e s
theorem mw_loop {a : M} (I : Nat → St → Prop) (n : Nat) (h0 : I n s) (h : ∀ n s, I n s → mw E B a (loopK I n Q) s) : mw E B (.loop a) Q s := by
  intro c hc C ac w hr
  obtain ⟨h', _⟩ | ⟨_, _, _, _, h', _⟩ | ⟨_, _, _, _, h', _⟩ | ⟨_, _, _, _, _, _, h', _⟩ | ⟨_, _, _, h', _⟩ | ⟨a0, _, h', rfl, k⟩ | ⟨_, h', _⟩ | ⟨h', _⟩ | ⟨_, _, _, h', _⟩ := tr_inv hc <;> try (cases h'; done)
  simp only [M.loop.injEq] at h'; obtain rfl := h'
  refine wp_loop_ghost (fun n a w => ∃ C s, Rep E B C s a w ∧ I n s) n ⟨C, s, hr, h0⟩ ?_
  rintro n a1 w1 ⟨C1, s1, hr1, hi⟩
  refine wp_mono (h n s1 hi a0 k C1 a1 w1 hr1) ?_
  rintro e a' w' ⟨C', s', hr', hq⟩
  cases e with
  | normal => obtain ⟨k, hk, hi'⟩ := hq; exact ⟨k, hk, C', s', hr', hi'⟩
  | exit i => exact ⟨C', s', hr', hq⟩
  | ret => exact ⟨C', s', hr', hq⟩
  | _ => exact hq.elim
theorem mw_ops {l : List MOpr} (h : po E l (Q .normal) s) : mw E B (.ops l) Q s := by
  intro c hc C ac w hr
  obtain ⟨h', _⟩ | ⟨id, ops, d, _, h', rfl, k⟩ | ⟨_, _, _, _, h', _⟩ | ⟨_, _, _, _, _, _, h', _⟩ | ⟨_, _, _, h', _⟩ | ⟨_, _, h', _⟩ | ⟨_, h', _⟩ | ⟨h', _⟩ | ⟨_, _, _, h', _⟩ := tr_inv hc <;> try (cases h'; done)
  simp only [M.ops.injEq] at h'; obtain rfl := h'
  unfold trR at k
  split at k
  · rename_i ml hml
    obtain ⟨m1, m2⟩ := trOprs_some hml
    have hsz : ops.size = ml.length := by rw [m1, Array.length_toList]
    cases d with
    | false =>
      simp only [Bool.false_eq_true, if_false, Option.some.injEq] at k; subst k
      refine wp_region ?_
      refine po_sound (B := B) (List.range ops.size) (ml.map markCall) (by simp [hsz]) (fun k i mo h1 h2 => ?_) hr h (fun C' s' a' w' hr' hk => ⟨C', s', hr', hk⟩)
      rw [List.getElem?_map] at h2
      obtain ⟨mo0, h3, rfl⟩ := Option.map_eq_some_iff.1 h2
      have htr0 : ∀ (o : Oper) (m : MOpr), TrO E.P B.n ops o m → TrO E.P B.n ops o (markCall m) := by
        intro o m ht
        unfold markCall; split <;> exact ht
      have hk : k < ops.size := by
        rcases Nat.lt_or_ge k ops.size with h | h
        · exact h
        · rw [List.getElem?_eq_none (by simpa using h)] at h1; cases h1
      rw [List.getElem?_range hk] at h1; simp only [Option.some.injEq] at h1; subst h1
      exact ⟨ops[k], Array.getElem?_eq_getElem hk, htr0 _ _ (trOpr_some (m2 k ops[k] mo0 (by simp [hk]) h3))⟩
    | true =>
      simp only [if_true] at k
      split at k
      · rename_i hcan
        simp only [Option.some.injEq] at k; subst k
        have hC := canonOk_spec hcan
        refine wp_region_any E.mixed ?_
        have hr2 : Rep E B C s ac { w with drawn := w.drawn + 1 } := by
          have hcell : ∀ p : Addr, ({ w with drawn := w.drawn + 1 } : World).cell? p = w.cell? p := fun _ => rfl
          have hF : Fix C w { w with drawn := w.drawn + 1 } := ⟨fun _ _ _ => rfl, fun _ _ cs fz h => ⟨cs, fz, h⟩⟩
          refine ⟨⟨hr.inv.nb, fun p cs hp => ?_, hr.inv.boxF, hr.inv.boxG, hr.inv.inj, hr.inv.tok, hr.inv.tinj, hr.inv.fin, hr.inv.ng, E.low w _ hr.inv.t (Nat.le_refl _) (fun _ _ => rfl)⟩, hr.nt, hr.n2, ⟨hr.ext.os, hr.ext.tape, hr.ext.output, hr.ext.size, hr.ext.F, hr.ext.fix, hr.ext.block, hr.ext.bx, hr.ext.newF, hr.ext.newT, hr.ext.newB, hr.ext.tk⟩, hr.size, hr.defers, fun t => (hr.tm t).frame (CxLe.refl C) hF⟩
          obtain ⟨vs, e, hh, hl⟩ := hr.inv.box p cs hp
          exact ⟨vs, e, hh, hl.frame (CxLe.refl C) hF⟩
        obtain ⟨ml2, hml2⟩ : ∃ ml2, ml2 = besides (ml.map (toQuiet ml)) (befs (ops.toList.map edgesOf)) 0 (ml.map (toQuiet ml)) := ⟨_, rfl⟩
        rw [← hml2] at hC h
        have hsz : ops.size = ml2.length := by rw [hml2, besides_len, List.length_map]; exact hsz
        have htr : ∀ (i : Nat) (o : Oper) (m : MOpr), ops[i]? = some o → ml2[i]? = some m → TrO E.P B.n ops o m := fun i o m ho hm => by
          rw [hml2] at hm
          obtain ⟨m0, h0, g1, g2, g3⟩ := besides_get hm
          rw [List.getElem?_map] at h0
          cases hmi : ml[i]? with
          | none => rw [hmi] at h0; cases h0
          | some m1 =>
            rw [hmi] at h0; simp only [Option.map_some, Option.some.injEq] at h0; subst h0
            have t0 := m2 i o m1 (by simpa using ho) hmi
            have t1 := trOpr_some t0
            have t2 : TrO E.P B.n ops o (toQuiet ml m1) := toQuiet_tr t1 fun k xs hk => by
              have := t1.1
              rw [hk] at this
              rcases this with h | ⟨_, _, _, h⟩
              · exact h
              · cases h
            unfold TrO at t2 ⊢
            rw [g1, g2, g3]; exact t2
        have hes : ∀ (i : Nat) (o : Oper), ops[i]? = some o → (ops.toList.map edgesOf).getD i [] = edgesOf o := fun i o ho => by
          rw [List.getD_eq_getElem?_getD, List.getElem?_map, Array.getElem?_toList, ho]; rfl
        have hnoL : ∀ i, ¬ LL (Array.replicate ops.size false) i := by
          intro i hi
          unfold LL at hi
          rcases Nat.lt_or_ge i ops.size with h | h
          · simp [h] at hi
          · simp [Array.getD_eq_getD_getElem?, Array.getElem?_eq_none (show (Array.replicate ops.size false).size ≤ i by simpa using h)] at hi
        obtain ⟨pre', rest', s', hS, e1, e2, e3, _⟩ := quiets (E := E) (B := B) (K := Q .normal) (tm0 := s.tm) hC (L := LL (Array.replicate ops.size false)) _ [] s rfl h (fun i hi => absurd hi (hnoL i)) (fun i _ hi => absurd hi (hnoL i)) (fun i hi => absurd hi (hnoL i)) (fun i m _ _ hi => by cases hi) (fun _ _ => rfl) (fun j hj => by cases hj)
        refine sim_any hC hsz htr hes (Q := lift E B Q) (K := Q .normal) (tm0 := s.tm) (fun C' s' a' w' hr' hk => ⟨C', s', hr', hk⟩) ops.size (Array.replicate ops.size false) C s' ac _ pre' rest' hS (by simp) ?_ ?_
        · have hmix : mix ml2 (LL (Array.replicate ops.size false)) s'.tm s.tm = s.tm := by
            funext t
            have : ¬ wr ml2 (LL (Array.replicate ops.size false)) t := fun ⟨i, _, _, _, hi⟩ => hnoL i hi
            simp [mix, this]
          have : ({ s' with tm := mix ml2 (LL (Array.replicate ops.size false)) s'.tm s.tm } : St) = s := by
            rw [hmix]
            obtain ⟨tm', bx', nt', live'⟩ := s'
            obtain ⟨tm, bx, nt, live⟩ := s
            simp only at e1 e2 e3
            subst e1; subst e2; subst e3; rfl
          rw [this]; exact hr2
        · refine Nat.le_trans (List.length_filter_le _ _) ?_
          rw [List.length_range, hsz]; exact Nat.le_refl _
      · cases k
  · cases k

theorem mw_tree {t : RT} (h : pt E (Q .normal) t s) : mw E B (.tree t) Q s := by
  intro c hc C ac w hr
  obtain ⟨h', _⟩ | ⟨_, _, _, _, h', _⟩ | ⟨_, _, _, _, h', _⟩ | ⟨_, _, _, _, _, _, h', _⟩ | ⟨_, _, _, h', _⟩ | ⟨_, _, h', _⟩ | ⟨_, h', _⟩ | ⟨h', _⟩ | ⟨id, ops, t', h', rfl, k⟩ := tr_inv hc <;> try (cases h'; done)
  simp only [M.tree.injEq] at h'; obtain rfl := h'
  exact region_tree k hr h (fun C' s' a' w' hr' hk => ⟨C', s', hr', hk⟩)

/-! ### Functions -/
inductive MRes where
  | tm (t : Nat)
  | cell (ag : Bool) (n t : Nat)
def trRes (P : Program) : ResultVar → Option MRes
  | .tmp t => some (.tm t)
  | .cell t ty =>
    match isRowT P ty, sizeT P ty with
    | some ag, some n => if ag || decide (n = 1) then some (.cell ag n t) else none
    | _, _ => none
def trRess (P : Program) : List ResultVar → Option (List MRes)
  | [] => some []
  | r :: l =>
    match trRes P r, trRess P l with
    | some x, some y => some (x :: y)
    | _, _ => none
def resM (s : St) : MRes → Option PV
  | .tm t => some (s.tm t)
  | .cell ag n t =>
    match s.tm t with
    | .ref p o =>
      match s.bx[p]? with
      | some cs => if o + n ≤ cs.length then ldv ag ((cs.drop o).take n) else none
      | none => none
    | _ => none
def ressM (s : St) : List MRes → Option (List PV)
  | [] => some []
  | r :: l =>
    match resM s r, ressM s l with
    | some x, some y => some (x :: y)
    | _, _ => none
def one : List PV → PV
  | [v] => v
  | l => .tup l
/-- what the program has of a function, said in the small language -/
def look (P : Program) (f : Nat) : Option (Nat × M × List MRes) :=
  match P.funcs[f]? with
  | some fn =>
    match fn.body with
    | some c =>
      match tr P fn.ntmps c, trRess P fn.results.toList with
      | some m, some rs => some (fn.ntmps, m, rs)
      | _, _ => none
    | none => none
  | none => none
def initS (args : List PV) : St := ⟨fun t => args.getD t (.tup []), [], 2, []⟩
def retK (rs : List MRes) (R : PV → (Nat → Prop) → Prop) : Exit → St → Prop := fun e s => (e = .normal ∨ e = .ret) ∧ ∃ l, ressM s rs = some l ∧ R (one l) (· ∈ s.live)

def resSem (tmps : Array Value) : ResultVar → Sem Value
  | .tmp t => Pure.pure (tmps.getD t undef)
  | .cell a t => asAddr (tmps.getD a undef) >>= fun b => loadVar t b
theorem results_eq (fn : Func) (tmps : Array Value) : results fn tmps = (fn.results.mapM (resSem tmps) >>= fun vs => Pure.pure (if h : vs.size = 1 then vs[0] else Value.tuple vs)) := by
  unfold results
  congr 1
theorem ress_run {C : Cx} {a : Act} {w : World} (hr : Rep E B C s a w) : ∀ {rs : List ResultVar} {ms : List MRes} {l : List PV}, trRess E.P rs = some ms → ressM s ms = some l →
    ∃ vs : List Value, (rs.mapM (resSem a.tmps)).run E.P w = .ok vs w ∧ vs.length = l.length ∧ ∀ (j : Nat) (x : PV) (y : Value), l[j]? = some x → vs[j]? = some y → RpV C w x y
  | [], ms, l, h1, h2 => by
    simp only [trRess, Option.some.injEq] at h1; subst h1
    simp only [ressM, Option.some.injEq] at h2; subst h2
    exact ⟨[], by simp, rfl, fun j x y h => by simp at h⟩
  | r :: rs, ms, l, h1, h2 => by
    simp only [trRess] at h1
    split at h1
    · rename_i m ms' k1 k2
      simp only [Option.some.injEq] at h1; subst h1
      simp only [ressM] at h2
      split at h2
      · rename_i x l' k3 k4
        simp only [Option.some.injEq] at h2; subst h2
        obtain ⟨vs, q1, q2, q3⟩ := ress_run hr k2 k4
        have hone : ∃ v, (resSem a.tmps r).run E.P w = .ok v w ∧ RpV C w x v := by
          cases r with
          | tmp t =>
            simp only [trRes, Option.some.injEq] at k1; subst k1
            simp only [resM, Option.some.injEq] at k3; subst k3
            exact ⟨_, rfl, hr.tm t⟩
          | cell t ty =>
            simp only [trRes] at k1
            split at k1
            · rename_i ag n g1 g2
              split at k1
              · rename_i hag
                have hag' : ag = true ∨ n = 1 := by simpa using hag
                simp only [Option.some.injEq] at k1; subst k1
                simp only [resM] at k3
                split at k3
                · rename_i p o hp
                  have hv := hr.tm t
                  rw [hp] at hv
                  generalize hz : a.tmps.getD t undef = z at hv
                  cases hv
                  split at k3
                  · rename_i cs hcs
                    split at k3
                    · rename_i hle
                      obtain ⟨us, e1, e2, e3⟩ := box_range hr.inv.bo hcs hle
                      obtain ⟨u, f1, f2⟩ := run_load_any e2 e1 g1 g2 hag'
                      refine ⟨u, ?_, f2 _ _ e3 k3⟩
                      simp only [resSem, hz]
                      simpa [Instr.loadAt, Instr.sureAddr, asAddr] using f1
                    · cases k3
                  · cases k3
                · cases k3
              · cases k1
            · cases k1
        obtain ⟨v, g1, g2⟩ := hone
        refine ⟨v :: vs, ?_, by simp [q2], fun j x' y' hx hy => ?_⟩
        · rw [List.mapM_cons, Sem.run_bind, g1]
          simp only [Result.andThen_ok]
          rw [Sem.run_bind, q1]
          rfl
        · match j with
          | 0 => simp at hx hy; subst hx; subst hy; exact g2
          | j + 1 => exact q3 j x' y' (by simpa using hx) (by simpa using hy)
      · cases h2
    · cases h1

/-- **a function's contract, from a walk of its body on values without memory** -/
def retG (rs : List MRes) (R : PV → List (List PC) → Nat → List Nat → Prop) : Exit → St → Prop := fun e s => (e = .normal ∨ e = .ret) ∧ ∃ l, ressM s rs = some l ∧ R (one l) s.bx s.nt s.live
def argS (args : List PV) (bx : List (List PC)) (nt : Nat) (live : List Nat) : St := ⟨fun t => args.getD t (.tup []), bx, nt, live⟩
theorem fn_core {f n : Nat} {m : M} {rs : List MRes} (hl : look E.P f = some (n, m, rs)) {args : List PV} {bx : List (List PC)} {nt : Nat} {live : List Nat} {R : PV → List (List PC) → Nat → List Nat → Prop} (hn : args.length ≤ n)
    (C : Cx) (w : World) (h : mw E ⟨C, w, n⟩ m (retG rs R) (argS args bx nt live)) (vs : List Value) (hI : Inv E.NG E.T C bx (· ∈ live) w) (hnt : C.nt = nt) (hold : ∀ t, t ∈ live → C.old t) (hn2 : 2 ≤ nt) (hlen : vs.length = args.length) (hvs : ∀ (j : Nat) (x : PV) (y : Value), args[j]? = some x → vs[j]? = some y → RpV C w x y) :
    Calls E.P f vs.toArray w fun e w' => ∃ u x bx' nt' live' C', e = .returned u ∧ R x bx' nt' live' ∧ Inv E.NG E.T C' bx' (· ∈ live') w' ∧ C'.nt = nt' ∧ Ext C w C' bx'.length (· ∈ live') w' ∧ RpV C' w' x u := by
  unfold look at hl
  split at hl
  · rename_i fn hf
    split at hl
    · rename_i c hc
      split at hl
      · rename_i m' rs' h1 h2
        simp only [Option.some.injEq, Prod.mk.injEq] at hl
        obtain ⟨rfl, rfl, rfl⟩ := hl
        refine calls_of_wp hf hc ?_
        have hr : Rep E ⟨C, w, fn.ntmps⟩ C (argS args bx nt live) { tmps := vs.toArray ++ Array.replicate (fn.ntmps - vs.toArray.size) undef, defers := [] } w := by
          have hnb := hI.nb
          refine ⟨hI, hnt, hn2, ?_, by simp; omega, rfl, fun t => ?_⟩
          · exact ⟨rfl, rfl, rfl, Nat.le_refl _, fun _ _ h => h, Fix.refl C w, fun _ _ _ _ => rfl, ⟨Nat.le_refl _, fun _ _ => rfl⟩, fun _ _ h => .inl h, (fun t b ht hb => .inr ⟨t, hold t ht, hb⟩), (fun p hp hp2 => by have h1 : C.nb ≤ p := hp; have h2 : p < bx.length := hp2; omega), ⟨Nat.le_refl _, fun _ _ => ⟨rfl, rfl, rfl, rfl⟩⟩⟩
          · show RpV C w (args.getD t (.tup [])) _
            rw [List.getD_eq_getElem?_getD, Array.getD_eq_getD_getElem?]
            by_cases ht : t < args.length
            · have hx : args[t]? = some args[t] := List.getElem?_eq_getElem ht
              have hy : vs[t]? = some (vs[t]'(by omega)) := List.getElem?_eq_getElem (by omega)
              have := hvs t _ _ hx hy
              rw [hx, Array.getElem?_append_left (by simp; omega)]
              simp only [List.getElem?_toArray, hy, Option.getD_some]
              exact this
            · rw [List.getElem?_eq_none (by omega), Array.getElem?_append_right (by simp; omega)]
              have : (Array.replicate (fn.ntmps - vs.toArray.size) undef)[t - vs.toArray.size]?.getD undef = .tuple (List.toArray []) := by
                rw [Array.getElem?_replicate]; split <;> rfl
              rw [this]
              exact .tup [] [] rfl (fun j x y h => by simp at h)
        have hw := h c h1 C _ w hr
        refine wp_mono hw ?_
        rintro e a' w' ⟨C', s', hr', hq⟩
        have key : (∃ l, ressM s' rs' = some l ∧ R (one l) s'.bx s'.nt s'.live) → a'.defers = [] ∧ ∃ v, (results fn a'.tmps).run E.P w' = .ok v w' ∧ ∃ u x bx' nt' live' C', Ending.returned v = .returned u ∧ R x bx' nt' live' ∧ Inv E.NG E.T C' bx' (· ∈ live') w' ∧ C'.nt = nt' ∧ Ext C w C' bx'.length (· ∈ live') w' ∧ RpV C' w' x u := by
          rintro ⟨l, hl, hR⟩
          obtain ⟨us, k1, k2, k3⟩ := ress_run hr' h2 hl
          have hres : (results fn a'.tmps).run E.P w' = .ok (if h : us.toArray.size = 1 then us.toArray[0] else .tuple us.toArray) w' := by
            rw [results_eq, Sem.run_bind, Array.mapM_eq_mapM_toList, Sem.run_map, k1]
            rfl
          refine ⟨hr'.defers, _, hres, _, one l, s'.bx, s'.nt, s'.live, C', rfl, hR, hr'.inv, hr'.nt, hr'.ext, ?_⟩
          match l, us, k2, k3 with
          | [], [], _, _ => exact .tup [] [] rfl (fun j x y h => by simp at h)
          | [x], [u], _, k3 => exact k3 0 x u rfl rfl
          | x :: x2 :: l, u :: u2 :: us, hk, k3 => exact .tup (x :: x2 :: l) (u :: u2 :: us) (by simpa using hk) k3
        cases e with
        | normal => exact key hq.2
        | ret => exact key hq.2
        | exit i => exact absurd hq.1 (by rintro (h | h) <;> cases h)
        | _ => exact hq.elim
      · cases hl
    · cases hl
  · cases hl
theorem fn_of {f n : Nat} {m : M} {rs : List MRes} (hl : look E.P f = some (n, m, rs)) {args : List PV} {R : PV → (Nat → Prop) → Prop} (hn : args.length ≤ n)
    (h : ∀ B, B.n = n → mw E B m (retK rs R) (initS args)) : Fn E f args R := by
  intro C w vs hI hnt hold hlen hvs
  have hI' : Inv E.NG E.T C [] (· ∈ ([] : List Nat)) w := ⟨hI.nb, hI.box, hI.boxF, hI.boxG, hI.inj, (fun t ht => by cases ht), (fun t s b ht => by cases ht), hI.fin, hI.ng, hI.t⟩
  refine (fn_core (R := fun x _ _ live => R x (· ∈ live)) hl hn C w (h ⟨C, w, n⟩ rfl) vs hI' hnt (fun t ht => by cases ht) (Nat.le_refl _) hlen hvs).mono ?_
  rintro e w' ⟨u, x, bx', nt', live', C', e1, e2, e3, e4, e5, e6⟩
  exact ⟨u, x, bx', (· ∈ live'), C', e1, e2, e3, e5, e6⟩
/-- the same; what was there at the start is known -/
theorem fn_ofB {f n : Nat} {m : M} {rs : List MRes} (hl : look E.P f = some (n, m, rs)) {args : List PV} {R : PV → (Nat → Prop) → Prop} (hn : args.length ≤ n)
    (h : ∀ B, B.n = n → (∀ t, ¬ B.C.old t) → (∀ b o, B.C.F b o → b < B.w.heap.size) → mw E B m (retK rs R) (initS args)) : Fn E f args R := by
  intro C w vs hI hnt hold hlen hvs
  have hI' : Inv E.NG E.T C [] (· ∈ ([] : List Nat)) w := ⟨hI.nb, hI.box, hI.boxF, hI.boxG, hI.inj, (fun t ht => by cases ht), (fun t s b ht => by cases ht), hI.fin, hI.ng, hI.t⟩
  refine (fn_core (R := fun x _ _ live => R x (· ∈ live)) hl hn C w (h ⟨C, w, n⟩ rfl hold hI.fin) vs hI' hnt (fun t ht => by cases ht) (Nat.le_refl _) hlen hvs).mono ?_
  rintro e w' ⟨u, x, bx', nt', live', C', e1, e2, e3, e4, e5, e6⟩
  exact ⟨u, x, bx', (· ∈ live'), C', e1, e2, e3, e5, e6⟩
/-- what a function does that works on its caller's boxes and rows -/
theorem fng_of {f n : Nat} {m : M} {rs : List MRes} (hl : look E.P f = some (n, m, rs)) {args : List PV} {bx : List (List PC)} {nt : Nat} {live : List Nat} {R : PV → List (List PC) → Nat → List Nat → Prop} (hn : args.length ≤ n)
    (h : ∀ B, B.n = n → mw E B m (retG rs R) (argS args bx nt live)) : FnG E f args bx nt live R :=
  fun C w vs hI hnt hold hn2 hlen hvs => fn_core hl hn C w (h ⟨C, w, n⟩ rfl) vs hI hnt (fun t ht => by rw [hold]; exact ht) hn2 hlen hvs
end
end Go.Proofs.YthngfihpnfoppaaDoor

namespace Go.Proofs.YthngfihpnfoppaaDoor
open Go.RowKit

/-- f returns this -/
def FnV (E : Env) (f : Nat) (args : List PV) (v : PV) : Prop := Fn E f args (fun x _ => x.dat = some v)
/-- f returns this, in rows of its own -/
def FnO (E : Env) (f : Nat) (args : List PV) (v : PV) : Prop := Fn E f args (fun x lv => x.dat = some v ∧ x.toks.Nodup ∧ (∀ t ∈ x.toks, lv t) ∧ match x with
  | .d c => c.owned = true
  | .ag cs => ownedL cs = true
  | _ => False)
theorem FnO.v {E : Env} {f : Nat} {args : List PV} {v : PV} (h : FnO E f args v) : FnV E f args v := h.mono fun _ _ h => h.1

/-- a temporary that is set only where b holds -/
def cif (b : Bool) (v : PV) : PV := match b with
  | true => v
  | false => .tup []
def up (d : Nat) (v : PV) (tm : Nat → PV) : Nat → PV := fun t => match Nat.beq t d with
  | true => v
  | false => tm t
theorem up_eq (d : Nat) (v : PV) (tm : Nat → PV) : (fun t => if t = d then v else tm t) = up d v tm := by
  funext t
  unfold up
  by_cases h : t = d
  · subst h; simp
  · rw [if_neg h]; have : Nat.beq t d = false := by cases hb : Nat.beq t d with
      | false => rfl
      | true => exact absurd (Nat.eq_of_beq_eq_true hb) h
    rw [this]
theorem up_self {d : Nat} {v : PV} {tm : Nat → PV} (h : tm d = v) : up d v tm = tm := by
  rw [← up_eq]; funext t
  by_cases ht : t = d
  · subst ht; rw [if_pos rfl, h]
  · rw [if_neg ht]
theorem put_up {tm : Nat → PV} {bx : List (List PC)} {nt : Nat} {live : List Nat} {d : Nat} {v : PV} : St.put ⟨tm, bx, nt, live⟩ (some d) v = ⟨up d v tm, bx, nt, live⟩ := by
  simp only [St.put, up_eq]

section
variable {E : Env} {d : Nat} {dd : Option Nat} {o : MO} {g : Option (Nat × Bool)} {c : List X} {r : List MOpr} {K : St → Prop} {s : St} {tm : Nat → PV} {bx : List (List PC)} {nt : Nat} {live : List Nat}

theorem po_nil (h : K s) : po E [] K s := h
theorem po_q {v : PV} (hg : gd g tm = some true) (hq : qf (ev tm) bx o = some v) (h : po E r K ⟨up d v tm, bx, nt, live⟩) : po E (⟨some d, o, g, c⟩ :: r) K ⟨tm, bx, nt, live⟩ := by
  refine ⟨true, hg, .inl ⟨rfl, ?_⟩⟩
  rw [← put_up] at h
  cases o <;> first | exact .inl ⟨v, hq, h⟩ | (simp [qf] at hq; done)
/-- a comparison, under a name -/
theorem po_b {e : Bool} (hg : gd g tm = some true) (hq : qf (ev tm) bx o = some (.d (.v (.bool e)))) (h : ∀ b, b = e → po E r K ⟨up d (.d (.v (.bool b))) tm, bx, nt, live⟩) : po E (⟨some d, o, g, c⟩ :: r) K ⟨tm, bx, nt, live⟩ := po_q hg hq (h e rfl)
/-- a quiet operation that is carried out where b holds -/
theorem po_gq {b : Bool} {v : PV} (hg : gd g tm = some b) (hq : b = true → qf (ev tm) bx o = some v) (h : po E r K ⟨up d (cif b v) tm, bx, nt, live⟩) : po E (⟨some d, o, g, c⟩ :: r) K ⟨tm, bx, nt, live⟩ := by
  rw [← put_up] at h
  cases b with
  | true =>
    refine ⟨true, hg, .inl ⟨rfl, ?_⟩⟩
    have hq := hq rfl
    cases o <;> first | exact .inl ⟨v, hq, h⟩ | (simp [qf] at hq; done)
  | false => exact ⟨false, hg, .inr ⟨rfl, h⟩⟩
theorem po_gb {b e : Bool} (hg : gd g tm = some b) (hq : b = true → qf (ev tm) bx o = some (.d (.v (.bool e)))) (h : ∀ b', b' = e → po E r K ⟨up d (cif b (.d (.v (.bool b')))) tm, bx, nt, live⟩) : po E (⟨some d, o, g, c⟩ :: r) K ⟨tm, bx, nt, live⟩ := po_gq hg hq (h e rfl)
/-- a && b -/
theorem po_and {x y : X} {b e : Bool} (hx : ev tm x = .d (.v (.bool b))) (hy : ev tm y = cif b (.d (.v (.bool e)))) (h : ∀ b', b' = (b && e) → po E r K ⟨up d (.d (.v (.bool b'))) tm, bx, nt, live⟩) : po E (⟨some d, .pick x y (.c (.bool false)), none, c⟩ :: r) K ⟨tm, bx, nt, live⟩ := by
  refine po_q rfl ?_ (h _ rfl)
  simp only [qf, hx, hy]
  cases b <;> rfl
/-- a || b -/
theorem po_or {x y : X} {b e : Bool} (hx : ev tm x = .d (.v (.bool b))) (hy : ev tm y = cif (!b) (.d (.v (.bool e)))) (h : ∀ b', b' = (b || e) → po E r K ⟨up d (.d (.v (.bool b'))) tm, bx, nt, live⟩) : po E (⟨some d, .pick x (.c (.bool true)) y, none, c⟩ :: r) K ⟨tm, bx, nt, live⟩ := by
  refine po_q rfl ?_ (h _ rfl)
  simp only [qf, hx, hy]
  cases b <;> rfl
theorem po_skip (hg : gd g tm = some false) (h : po E r K ⟨up d (.tup []) tm, bx, nt, live⟩) : po E (⟨some d, o, g, c⟩ :: r) K ⟨tm, bx, nt, live⟩ := by
  rw [← put_up] at h; exact ⟨false, hg, .inr ⟨rfl, h⟩⟩
theorem po_box {x : X} {cs : List PC} (hq : pcells (ev tm x) = some cs) (h : po E r K ⟨up d (.ref bx.length 0) tm, bx ++ [cs], nt, live⟩) : po E (⟨some d, .box x, none, []⟩ :: r) K ⟨tm, bx, nt, live⟩ := by
  rw [← put_up] at h
  exact ⟨true, rfl, .inl ⟨rfl, .inr ⟨.ref bx.length 0, ⟨tm, bx ++ [cs], nt, live⟩, by simp only [lf, hq, Option.map_some], rfl, h⟩⟩⟩
theorem po_zero {z : List Value} (h : po E r K ⟨up d (.ref bx.length 0) tm, bx ++ [z.map ofC], nt, live⟩) : po E (⟨some d, .zero z, none, []⟩ :: r) K ⟨tm, bx, nt, live⟩ := by
  rw [← put_up] at h
  exact ⟨true, rfl, .inl ⟨rfl, .inr ⟨.ref bx.length 0, ⟨tm, bx ++ [z.map ofC], nt, live⟩, rfl, rfl, h⟩⟩⟩
theorem po_zbld {T U : TypeId} (h : po E r K ⟨up d (.ref bx.length 0) tm, bx ++ [[.bld bx.length T 1 U, .sl 1 []]], nt, live⟩) : po E (⟨some d, .zbld T U, none, []⟩ :: r) K ⟨tm, bx, nt, live⟩ := by
  rw [← put_up] at h
  exact ⟨true, rfl, .inl ⟨rfl, .inr ⟨.ref bx.length 0, ⟨tm, bx ++ [[.bld bx.length T 1 U, .sl 1 []]], nt, live⟩, rfl, rfl, h⟩⟩⟩
theorem po_lit {n : Nat} {xs : List X} {es : List (List PC)} (hq : litP (ev tm) n xs = some es) (h : po E r K ⟨up d (.d (.sl nt es)) tm, bx, nt + 1, nt :: live⟩) : po E (⟨some d, .lit n xs, none, []⟩ :: r) K ⟨tm, bx, nt, live⟩ := by
  rw [← put_up] at h
  exact ⟨true, rfl, .inl ⟨rfl, .inr ⟨_, _, by simp only [lf, hq, Option.map_some], rfl, h⟩⟩⟩
theorem po_app {n t t' : Nat} {x y : X} {es ds : List (List PC)} (hx : ev tm x = .d (.sl t es)) (hy : ev tm y = .d (.sl t' ds)) (ht : t = 1 ∨ t ∈ live) (hl : es.length + ds.length ≤ 4294967296) (hd : ∀ e ∈ ds, e.length = n) (he : ∀ e ∈ es, e.length = n)
    (h : po E r K ⟨up d (.d (.sl nt (es ++ ds))) tm, bx, nt + 1, nt :: live.filter (· != t)⟩) : po E (⟨some d, .app n x y, none, c⟩ :: r) K ⟨tm, bx, nt, live⟩ := by
  rw [← put_up] at h
  exact ⟨true, rfl, .inl ⟨rfl, .inl ⟨_, _, by simp only [lf, hx, hy]; rw [if_pos ⟨ht, hl, hd, he⟩], h⟩⟩⟩
/-- an append to a row in a box -/
theorem po_appB {n p len cap t' k : Nat} {x y : X} {z : List PC} {ds : List (List PC)} (hx : ev tm x = .d (.row p len cap)) (hy : ev tm y = .d (.sl t' ds)) (hp : bx[p]? = some z) (hz : z.length = n * cap) (hd0 : ds ≠ []) (hl : len + ds.length ≤ 4294967296) (hd : ∀ e ∈ ds, e.length = n)
    (h : ∀ p' cap' bx', AppB n len cap z ds p bx p' cap' bx' → po E r K ⟨up d (.d (.row p' (len + ds.length) cap')) tm, bx', nt, live⟩) : po E (⟨some d, .app n x y, none, [.f k]⟩ :: r) K ⟨tm, bx, nt, live⟩ :=
  ⟨true, rfl, .inl ⟨rfl, .inr ⟨rfl, p, len, cap, z, t', ds, .inl ⟨hx, hp, hz⟩, hy, hd0, hl, hd, fun p' cap' bx' hA => ⟨fun y hy => by rw [List.mem_singleton] at hy; subst hy; exact keepX_f _ _ _ _, by rw [put_up]; exact h p' cap' bx' hA⟩⟩⟩⟩
/-- a first append: a row in a box -/
theorem po_appN {n t t' k : Nat} {x y : X} {ds : List (List PC)} (hx : ev tm x = .d (.sl t [])) (hy : ev tm y = .d (.sl t' ds)) (ht : t = 1 ∨ t ∈ live) (hd0 : ds ≠ []) (hl : ds.length ≤ 4294967296) (hd : ∀ e ∈ ds, e.length = n)
    (h : ∀ p' cap' bx', AppB n 0 0 [] ds bx.length bx p' cap' bx' → po E r K ⟨up d (.d (.row p' (0 + ds.length) cap')) tm, bx', nt, live⟩) : po E (⟨some d, .app n x y, none, [.f k]⟩ :: r) K ⟨tm, bx, nt, live⟩ :=
  ⟨true, rfl, .inl ⟨rfl, .inr ⟨rfl, bx.length, 0, 0, [], t', ds, .inr ⟨t, hx, ht, rfl, rfl, rfl, rfl⟩, hy, hd0, by omega, hd, fun p' cap' bx' hA => ⟨fun y hy => by rw [List.mem_singleton] at hy; subst hy; exact keepX_f _ _ _ _, by rw [put_up]; exact h p' cap' bx' hA⟩⟩⟩⟩
theorem po_store {n p o' : Nat} {a x : X} {cs z : List PC} (ha : ev tm a = .ref p o') (hx : pcells (ev tm x) = some cs) (hz : bx[p]? = some z) (hn : cs.length = n ∧ o' + n ≤ z.length) (hc : c.all (apartX (ev tm) a) = true)
    (h : po E r K ⟨tm, bx.set p (spl z o' cs), nt, live⟩) : po E (⟨none, .store n a x, none, c⟩ :: r) K ⟨tm, bx, nt, live⟩ :=
  ⟨true, rfl, .inl ⟨rfl, .inr ⟨_, _, by simp only [lf, ha, hx, hz]; rw [if_pos hn], hc, h⟩⟩⟩
theorem po_ix {n : Nat} {x i : X} {t : Nat} {es : List (List PC)} {k : IntKind} {j : Int} {e : List PC} (hg : gd g tm = some true) (hx : ev tm x = .d (.sl t es)) (hi : ev tm i = .d (.v (.int k j))) (he : 0 ≤ j ∧ es[j.toNat]? = some e) (hn : e.length = n)
    (h : po E r K ⟨up d (.pt e) tm, bx, nt, live⟩) : po E (⟨some d, .ix n x i, g, c⟩ :: r) K ⟨tm, bx, nt, live⟩ := by
  refine po_q hg ?_ h
  simp only [qf, hx, hi, if_pos he.1, he.2, if_pos hn]
theorem po_call {f : Nat} {xs : List X} {args : List PV} {v : PV} (hd : PV.dats (xs.map (ev tm)) = some args) (hF : FnV E f args v) (h : po E r K ⟨up d v tm, bx, nt, live⟩) : po E (⟨some d, .call f xs, none, c⟩ :: r) K ⟨tm, bx, nt, live⟩ := by
  rw [← put_up] at h
  exact ⟨true, rfl, .inl ⟨rfl, .inl ⟨args, _, hd, hF, .inl fun x lv hx => ⟨v, hx, h⟩⟩⟩⟩
theorem po_gcall {f : Nat} {xs : List X} {args : List PV} {v : PV} {b : Bool} (hg : gd g tm = some b) (hd : b = true → PV.dats (xs.map (ev tm)) = some args) (hF : b = true → FnV E f args v) (h : po E r K ⟨up d (cif b v) tm, bx, nt, live⟩) : po E (⟨some d, .call f xs, g, c⟩ :: r) K ⟨tm, bx, nt, live⟩ := by
  rw [← put_up] at h
  cases b with
  | true => exact ⟨true, hg, .inl ⟨rfl, .inl ⟨args, _, hd rfl, hF rfl, .inl fun x lv hx => ⟨v, hx, h⟩⟩⟩⟩
  | false => exact ⟨false, hg, .inr ⟨rfl, h⟩⟩
/-- a call whose result lies in rows of its own -/
theorem po_own {f : Nat} {xs : List X} {args : List PV} {v : PV} (hd : PV.dats (xs.map (ev tm)) = some args) (hF : FnO E f args v)
    (h : ∀ (x : PV) (nt' : Nat), x.dat = some v → x.toks.Nodup → (∀ t ∈ x.toks, nt ≤ t ∧ t < nt') → nt + 2 ≤ nt' → (match x with | .d c => c.owned = true | .ag cs => ownedL cs = true | _ => False) → po E r K ⟨up d x tm, bx, nt', x.toks ++ live⟩) : po E (⟨some d, .call f xs, none, c⟩ :: r) K ⟨tm, bx, nt, live⟩ := by
  refine ⟨true, rfl, .inl ⟨rfl, .inl ⟨args, _, hd, hF, .inr ?_⟩⟩⟩
  rintro x lv k ⟨h1, h2, h3, h4⟩ hk hlt
  have hpos : ∀ t ∈ x.toks, t < k := fun t ht => hlt t (h3 t ht)
  have nd : ∀ l : List Nat, l.Nodup → (l.map (· + nt)).Nodup := fun l hl => hl.map _ (fun a b hab h => hab (by omega))
  cases x with
  | d x =>
    refine ⟨.d (x.sh nt), rfl, h3, ?_⟩
    have htk : PV.toks (.d (x.sh nt)) = (PV.toks (.d x)).map (· + nt) := PC.toks_sh nt x
    have := h (.d (x.sh nt)) (nt + k) (by simp only [PV.dat, PC.er_sh] at h1 ⊢; exact h1) (by rw [htk]; exact nd _ h2) (by rw [htk]; intro t ht; obtain ⟨t0, ht0, rfl⟩ := List.mem_map.1 ht; have := hpos t0 ht0; omega) (by omega) (by simp only [PC.owned_sh]; exact h4)
    rw [htk] at this
    rw [put_up]; exact this
  | ag cs =>
    refine ⟨.ag (shL nt cs), rfl, h3, ?_⟩
    have htk : PV.toks (.ag (shL nt cs)) = (PV.toks (.ag cs)).map (· + nt) := toksL_sh nt cs
    have := h (.ag (shL nt cs)) (nt + k) (by simp only [PV.dat, erL_sh] at h1 ⊢; exact h1) (by rw [htk]; exact nd _ h2) (by rw [htk]; intro t ht; obtain ⟨t0, ht0, rfl⟩ := List.mem_map.1 ht; have := hpos t0 ht0; omega) (by omega) (by simp only [ownedL_sh]; exact h4)
    rw [htk] at this
    rw [put_up]; exact this
  | _ => exact h4.elim
end
/-- a call that works on these boxes and rows -/
theorem po_g {E : Env} {d : Nat} {k : Nat} {r : List MOpr} {K : St → Prop} {tm : Nat → PV} {bx : List (List PC)} {nt : Nat} {live : List Nat} {f : Nat} {xs : List X} {args : List PV} {R : PV → List (List PC) → Nat → List Nat → Prop} (hd : xs.map (ev tm) = args) (hF : FnG E f args bx nt live R)
    (h : ∀ x bx' nt' live', R x bx' nt' live' → po E r K ⟨up d x tm, bx', nt', live'⟩) : po E (⟨some d, .call f xs, none, [.f k]⟩ :: r) K ⟨tm, bx, nt, live⟩ := by
  subst hd
  refine ⟨true, rfl, .inl ⟨rfl, .inr ⟨rfl, R, hF, fun x bx' nt' live' hR => ⟨fun y hy => by rw [List.mem_singleton] at hy; subst hy; exact keepX_f _ _ _ _, ?_⟩⟩⟩⟩
  rw [put_up]; exact h x bx' nt' live' hR
/-- .. and loads lie beside it -/
theorem po_gk {E : Env} {d : Nat} {k : Nat} {ys : List X} {r : List MOpr} {K : St → Prop} {tm : Nat → PV} {bx : List (List PC)} {nt : Nat} {live : List Nat} {f : Nat} {xs : List X} {args : List PV} {R : PV → List (List PC) → Nat → List Nat → Prop} (hd : xs.map (ev tm) = args) (hF : FnG E f args bx nt live R)
    (hk : ∀ x bx' nt' live', R x bx' nt' live' → ∀ y ∈ ys, keepX (ev tm) bx bx' y)
    (h : ∀ x bx' nt' live', R x bx' nt' live' → po E r K ⟨up d x tm, bx', nt', live'⟩) : po E (⟨some d, .call f xs, none, .f k :: ys⟩ :: r) K ⟨tm, bx, nt, live⟩ := by
  subst hd
  refine ⟨true, rfl, .inl ⟨rfl, .inr ⟨rfl, R, hF, fun x bx' nt' live' hR => ⟨fun y hy => ?_, ?_⟩⟩⟩⟩
  · rcases List.mem_cons.1 hy with rfl | hy
    · exact keepX_f _ _ _ _
    · exact hk x bx' nt' live' hR y hy
  · rw [put_up]; exact h x bx' nt' live' hR
/-- a call of a value of a function -/
theorem po_vg {E : Env} {d : Nat} {k : Nat} {r : List MOpr} {K : St → Prop} {tm : Nat → PV} {bx : List (List PC)} {nt : Nat} {live : List Nat} {f : Nat} {x : X} {xs : List X} {cap args : List PV} {R : PV → List (List PC) → Nat → List Nat → Prop} (hx : ev tm x = .fn f cap) (hok : okFn E.P f = true) (hd : xs.map (ev tm) ++ cap = args) (hF : FnG E f args bx nt live R)
    (h : ∀ y bx' nt' live', R y bx' nt' live' → po E r K ⟨up d y tm, bx', nt', live'⟩) : po E (⟨some d, .callv x xs, none, [.f k]⟩ :: r) K ⟨tm, bx, nt, live⟩ := by
  subst hd
  refine ⟨true, rfl, .inl ⟨rfl, f, cap, hx, hok, .inr ⟨rfl, R, hF, fun y bx' nt' live' hR => ⟨fun z hz => by rw [List.mem_singleton] at hz; subst hz; exact keepX_f _ _ _ _, ?_⟩⟩⟩⟩
  rw [put_up]; exact h y bx' nt' live' hR
theorem po_v {E : Env} {d : Nat} {c : List X} {r : List MOpr} {K : St → Prop} {tm : Nat → PV} {bx : List (List PC)} {nt : Nat} {live : List Nat} {f : Nat} {x : X} {xs : List X} {cap args : List PV} {v : PV} (hx : ev tm x = .fn f cap) (hok : okFn E.P f = true) (hd : PV.dats (xs.map (ev tm) ++ cap) = some args) (hF : FnV E f args v)
    (h : po E r K ⟨up d v tm, bx, nt, live⟩) : po E (⟨some d, .callv x xs, none, c⟩ :: r) K ⟨tm, bx, nt, live⟩ := by
  rw [← put_up] at h
  exact ⟨true, rfl, .inl ⟨rfl, f, cap, hx, hok, .inl ⟨args, _, hd, hF, .inl fun x lv hx => ⟨v, hx, h⟩⟩⟩⟩
/-- a loop: what holds of the state at each round's head, and a number that falls -/
theorem mw_while {E : Env} {B : Base} {a : M} {Q : Exit → St → Prop} {s : St} (I : Nat → St → Prop) (n : Nat) (h0 : I n s) (h : ∀ n tm bx nt live, I n ⟨tm, bx, nt, live⟩ → mw E B a (loopK I n Q) ⟨tm, bx, nt, live⟩) : mw E B (.loop a) Q s :=
  mw_loop I n h0 fun n s hi => by obtain ⟨tm, bx, nt, live⟩ := s; exact h n tm bx nt live hi
theorem mw_cut {E : Env} {B : Base} {a b : M} {Q : Exit → St → Prop} {s : St} (I : St → Prop) (h : mw E B a (fun e s => match e with | .normal => I s | e => Q e s) s) (k : ∀ tm bx nt live, I ⟨tm, bx, nt, live⟩ → mw E B b Q ⟨tm, bx, nt, live⟩) : mw E B (.seq a b) Q s := by
  refine mw_seq (mw_mono h ?_)
  rintro e ⟨tm, bx, nt, live⟩ hq
  cases e <;> first | exact k _ _ _ _ hq | exact hq
end Go.Proofs.YthngfihpnfoppaaDoor

namespace Go.Proofs.YthngfihpnfoppaaDoor
open Go.RowKit

inductive V where
  | mk (kind n e : Int) (s : List UInt8) (kids : List V)
inductive Sh where
  | mk (kind low high : Int) (keys : List (List UInt8)) (must : Int) (kids : List Sh)

mutual
def V.d : V → D
  | .mk k n e s kids => .agg [dI k, dI n, dI e, dS s, .sl 5 (V.ds kids)]
def V.ds : List V → List D
  | [] => []
  | v :: vs => V.d v :: V.ds vs
end
mutual
def Sh.d : Sh → D
  | .mk k l h ks m kids => .agg [dI k, dI l, dI h, dSs ks, dI m, .sl 6 (Sh.ds kids)]
def Sh.ds : List Sh → List D
  | [] => []
  | v :: vs => Sh.d v :: Sh.ds vs
end
theorem V.ds_map : ∀ vs : List V, V.ds vs = vs.map V.d
  | [] => rfl
  | v :: vs => by simp [V.ds, V.ds_map vs]
theorem Sh.ds_map : ∀ vs : List Sh, Sh.ds vs = vs.map Sh.d
  | [] => rfl
  | v :: vs => by simp [Sh.ds, Sh.ds_map vs]
theorem V.width (v : V) : D.width (V.d v) = 5 := by cases v; simp [V.d, D.width, D.widths, dI, dS]
theorem Sh.width (v : Sh) : D.width (Sh.d v) = 6 := by cases v; simp [Sh.d, D.width, D.widths, dI, dSs]

mutual
def V.bulk : V → Nat
  | .mk _ _ _ s kids => s.length + (kids.length + V.bulks kids)
def V.bulks : List V → Nat
  | [] => 0
  | v :: vs => V.bulk v + V.bulks vs
end
def ssBulk : List (List UInt8) → Nat
  | [] => 0
  | l :: ls => l.length + ssBulk ls
mutual
def Sh.bulk : Sh → Nat
  | .mk _ _ _ ks _ kids => (ks.length + ssBulk ks) + (kids.length + Sh.bulks kids)
def Sh.bulks : List Sh → Nat
  | [] => 0
  | v :: vs => Sh.bulk v + Sh.bulks vs
end
mutual
def V.nodes : V → Nat
  | .mk _ _ _ _ kids => 1 + V.nodess kids
def V.nodess : List V → Nat
  | [] => 0
  | v :: vs => V.nodes v + V.nodess vs
end
mutual
def Sh.nodes : Sh → Nat
  | .mk _ _ _ _ _ kids => 1 + Sh.nodess kids
def Sh.nodess : List Sh → Nat
  | [] => 0
  | v :: vs => Sh.nodes v + Sh.nodess vs
end
theorem Sh.nodes_get : ∀ (vs : List Sh) i (h : i < vs.length), Sh.nodes vs[i] ≤ Sh.nodess vs
  | v :: vs, 0, _ => by simp [Sh.nodess]
  | v :: vs, i + 1, hi => by have := Sh.nodes_get vs i (by simpa using hi); simp only [Sh.nodess, List.getElem_cons_succ]; omega
theorem V.nodes_get : ∀ (vs : List V) i (h : i < vs.length), V.nodes vs[i] ≤ V.nodess vs
  | v :: vs, 0, _ => by simp [V.nodess]
  | v :: vs, i + 1, hi => by have := V.nodes_get vs i (by simpa using hi); simp only [V.nodess, List.getElem_cons_succ]; omega
theorem Sh.nodes_pos : ∀ v : Sh, 1 ≤ Sh.nodes v
  | .mk .. => by simp [Sh.nodes]
theorem V.nodes_pos : ∀ v : V, 1 ≤ V.nodes v
  | .mk .. => by simp [V.nodes]
theorem Sh.bulks_snoc : ∀ (ls : List Sh) (k : Nat) (h : k < ls.length), Sh.bulks (ls.take (k + 1)) = Sh.bulks (ls.take k) + Sh.bulk ls[k]
  | l :: ls, 0, _ => by simp [Sh.bulks]
  | l :: ls, k + 1, h => by simp only [List.take_succ_cons, Sh.bulks, List.getElem_cons_succ]; rw [Sh.bulks_snoc ls k (by simpa using h)]; omega
theorem V.bulks_snoc : ∀ (ls : List V) (k : Nat) (h : k < ls.length), V.bulks (ls.take (k + 1)) = V.bulks (ls.take k) + V.bulk ls[k]
  | l :: ls, 0, _ => by simp [V.bulks]
  | l :: ls, k + 1, h => by simp only [List.take_succ_cons, V.bulks, List.getElem_cons_succ]; rw [V.bulks_snoc ls k (by simpa using h)]; omega
theorem ssBulk_snoc : ∀ (ls : List (List UInt8)) (k : Nat) (h : k < ls.length), ssBulk (ls.take (k + 1)) = ssBulk (ls.take k) + ls[k].length
  | l :: ls, 0, _ => by simp [ssBulk]
  | l :: ls, k + 1, h => by simp only [List.take_succ_cons, ssBulk, List.getElem_cons_succ]; rw [ssBulk_snoc ls k (by simpa using h)]; omega
theorem Sh.bulks_take : ∀ (ls : List Sh) (k : Nat), Sh.bulks (ls.take k) ≤ Sh.bulks ls
  | [], k => by simp [Sh.bulks]
  | l :: ls, 0 => by simp [Sh.bulks]
  | l :: ls, k + 1 => by have := Sh.bulks_take ls k; simp only [List.take_succ_cons, Sh.bulks]; omega
theorem V.bulks_take : ∀ (ls : List V) (k : Nat), V.bulks (ls.take k) ≤ V.bulks ls
  | [], k => by simp [V.bulks]
  | l :: ls, 0 => by simp [V.bulks]
  | l :: ls, k + 1 => by have := V.bulks_take ls k; simp only [List.take_succ_cons, V.bulks]; omega
theorem ssBulk_take : ∀ (ls : List (List UInt8)) (k : Nat), ssBulk (ls.take k) ≤ ssBulk ls
  | [], k => by simp [ssBulk]
  | l :: ls, 0 => by simp [ssBulk]
  | l :: ls, k + 1 => by have := ssBulk_take ls k; simp only [List.take_succ_cons, ssBulk]; omega
theorem take_map_snoc {α : Type} (f : α → D) (ls : List α) (k : Nat) (h : k < ls.length) : (ls.take (k + 1)).map f = (ls.take k).map f ++ [f ls[k]] := by
  rw [List.take_succ_eq_append_getElem h, List.map_append]; rfl
mutual
def V.wf : V → Prop
  | .mk k n e s kids => i64ok k ∧ i64ok n ∧ i64ok e ∧ strok s ∧ kids.length ≤ 9223372036854775807 ∧ V.wfs kids
def V.wfs : List V → Prop
  | [] => True
  | v :: vs => V.wf v ∧ V.wfs vs
end
mutual
def Sh.wf : Sh → Prop
  | .mk k l h ks m kids => i64ok k ∧ i64ok l ∧ i64ok h ∧ (ks.length ≤ 9223372036854775807 ∧ ∀ s ∈ ks, strok s) ∧ i64ok m ∧ kids.length ≤ 9223372036854775807 ∧ Sh.wfs kids
def Sh.wfs : List Sh → Prop
  | [] => True
  | v :: vs => Sh.wf v ∧ Sh.wfs vs
end
theorem Sh.wfs_get : ∀ {vs : List Sh}, Sh.wfs vs → ∀ i (h : i < vs.length), Sh.wf vs[i]
  | v :: vs, h, 0, _ => h.1
  | v :: vs, h, i + 1, hi => by simpa using Sh.wfs_get h.2 i (by simpa using hi)
theorem V.wfs_get : ∀ {vs : List V}, V.wfs vs → ∀ i (h : i < vs.length), V.wf vs[i]
  | v :: vs, h, 0, _ => h.1
  | v :: vs, h, i + 1, hi => by simpa using V.wfs_get h.2 i (by simpa using hi)

/-- what is left of a purse of n when t is taken; -1 if that is too much -/
def take' (t : Nat) (left : Int) : Int := if left < t then -1 else left - t
theorem take'_lt {t : Nat} {left : Int} : take' t left < 0 ↔ left < t ∨ left < 0 := by
  unfold take'; split <;> omega
theorem take'_no {t : Nat} {left : Int} (h : left < t) : take' t left = -1 := by unfold take'; rw [if_pos h]
theorem take'_yes {t : Nat} {left : Int} (h : (t : Int) ≤ left) : take' t left = left - t := by unfold take'; rw [if_neg (by omega)]
theorem take'_add {a b : Nat} {left : Int} (_h : ¬ left < a) : take' b (left - a) = take' (a + b) left := by
  unfold take'; split <;> split <;> omega

/-- one level of a shape that is read as data -/
theorem Sh.lay {w : World} {sh : Sh} {cs : List Value} (h : Rd w sh.d cs) : ∃ k l hi ks m kids v1 v2, sh = .mk k l hi ks m kids ∧ cs = [.int .i64 k, .int .i64 l, .int .i64 hi, v1, .int .i64 m, v2] ∧
    Rd w (dSs ks) [v1] ∧ Rd w (.sl 6 (Sh.ds kids)) [v2] := by
  obtain ⟨k, l, hi, ks, m, kids⟩ := sh
  simp only [Rd, Sh.d, RepC, RepCs, dI, dSs, D.width] at h
  obtain ⟨c1, r1, rfl, _, rfl, c2, r2, rfl, _, rfl, c3, r3, rfl, _, rfl, c4, r4, rfl, _, ⟨a4, n4, rfl, h4⟩, c5, r5, rfl, _, rfl, c6, r6, rfl, _, ⟨a6, n6, rfl, h6⟩, rfl⟩ := h
  refine ⟨k, l, hi, ks, m, kids, _, _, rfl, rfl, ?_, ?_⟩
  · simp only [Rd, dSs, RepC]; exact ⟨a4, n4, rfl, h4⟩
  · simp only [Rd, RepC]; exact ⟨a6, n6, rfl, h6⟩
theorem V.lay {w : World} {v : V} {cs : List Value} (h : Rd w v.d cs) : ∃ k n e s kids v1, v = .mk k n e s kids ∧ cs = [.int .i64 k, .int .i64 n, .int .i64 e, .string ⟨s.toArray⟩, v1] ∧ Rd w (.sl 5 (V.ds kids)) [v1] := by
  obtain ⟨k, n, e, s, kids⟩ := v
  simp only [Rd, V.d, RepC, RepCs, dI, dS, D.width] at h
  obtain ⟨c1, r1, rfl, _, rfl, c2, r2, rfl, _, rfl, c3, r3, rfl, _, rfl, c4, r4, rfl, _, rfl, c5, r5, rfl, _, ⟨a5, n5, rfl, h5⟩, rfl⟩ := h
  refine ⟨k, n, e, s, kids, _, rfl, rfl, ?_⟩
  simp only [Rd, RepC]; exact ⟨a5, n5, rfl, h5⟩

/-- a slice of strings, read: its shape and its cells -/
theorem Rd.strs {w : World} {ls : List (List UInt8)} {v : Value} (h : Rd w (dSs ls) [v]) :
    ∃ a c, v = .slice a ls.length c ∧ (ls ≠ [] → ls.length ≤ c ∧ c ≤ maxLen ∧ ∃ b o, a = some ⟨b, o, none⟩ ∧ b < w.heap.size ∧ ∀ i (hi : i < ls.length), w.cell? ⟨b, o + i, none⟩ = some (.string ⟨ls[i].toArray⟩)) := by
  obtain ⟨a, c, hv, h⟩ := Rd.slice h
  rw [List.length_map] at hv
  refine ⟨a, c, hv, fun hne => ?_⟩
  obtain ⟨_, h1, h2, b, o, ha, hb, hg⟩ := h (by simpa using hne)
  refine ⟨by simpa using h1, h2, b, o, ha, hb, fun i hi => ?_⟩
  obtain ⟨cs, _, hr, hc⟩ := hg i (by simpa using hi)
  simp only [List.getElem_map, dS, Rd, RepC] at hr
  subst hr
  have := hc 0 _ rfl
  simpa using this
/-- a slice of shapes, read -/
theorem Rd.shapes {w : World} {ls : List Sh} {v : Value} (h : Rd w (.sl 6 (Sh.ds ls)) [v]) :
    ∃ a c, v = .slice a ls.length c ∧ (ls ≠ [] → ls.length ≤ c ∧ c ≤ maxLen ∧ ∃ b o, a = some ⟨b, o, none⟩ ∧ b < w.heap.size ∧ ∀ i (hi : i < ls.length), ∃ v0 v1 v2 v3 v4 v5, Rd w ls[i].d [v0, v1, v2, v3, v4, v5] ∧
      w.cell? ⟨b, o + i * 6, none⟩ = some v0 ∧ w.cell? ⟨b, o + i * 6 + 1, none⟩ = some v1 ∧ w.cell? ⟨b, o + i * 6 + 2, none⟩ = some v2 ∧ w.cell? ⟨b, o + i * 6 + 3, none⟩ = some v3 ∧ w.cell? ⟨b, o + i * 6 + 4, none⟩ = some v4 ∧ w.cell? ⟨b, o + i * 6 + 5, none⟩ = some v5) := by
  rw [Sh.ds_map] at h
  obtain ⟨a, c, hv, h⟩ := Rd.slice h
  rw [List.length_map] at hv
  refine ⟨a, c, hv, fun hne => ?_⟩
  obtain ⟨_, h1, h2, b, o, ha, hb, hg⟩ := h (by simpa using hne)
  refine ⟨by simpa using h1, h2, b, o, ha, hb, fun i hi => ?_⟩
  obtain ⟨cs, hl, hr, hc⟩ := hg i (by simpa using hi)
  rw [List.getElem_map] at hr
  match cs, hl with
  | [v0, v1, v2, v3, v4, v5], _ =>
    rw [Nat.mul_comm 6 i] at hc
    exact ⟨v0, v1, v2, v3, v4, v5, hr, hc 0 _ rfl, hc 1 _ rfl, hc 2 _ rfl, hc 3 _ rfl, hc 4 _ rfl, hc 5 _ rfl⟩
/-- a slice of values, read -/
theorem Rd.values {w : World} {ls : List V} {v : Value} (h : Rd w (.sl 5 (V.ds ls)) [v]) :
    ∃ a c, v = .slice a ls.length c ∧ (ls ≠ [] → ls.length ≤ c ∧ c ≤ maxLen ∧ ∃ b o, a = some ⟨b, o, none⟩ ∧ b < w.heap.size ∧ ∀ i (hi : i < ls.length), ∃ v0 v1 v2 v3 v4, Rd w ls[i].d [v0, v1, v2, v3, v4] ∧
      w.cell? ⟨b, o + i * 5, none⟩ = some v0 ∧ w.cell? ⟨b, o + i * 5 + 1, none⟩ = some v1 ∧ w.cell? ⟨b, o + i * 5 + 2, none⟩ = some v2 ∧ w.cell? ⟨b, o + i * 5 + 3, none⟩ = some v3 ∧ w.cell? ⟨b, o + i * 5 + 4, none⟩ = some v4) := by
  rw [V.ds_map] at h
  obtain ⟨a, c, hv, h⟩ := Rd.slice h
  rw [List.length_map] at hv
  refine ⟨a, c, hv, fun hne => ?_⟩
  obtain ⟨_, h1, h2, b, o, ha, hb, hg⟩ := h (by simpa using hne)
  refine ⟨by simpa using h1, h2, b, o, ha, hb, fun i hi => ?_⟩
  obtain ⟨cs, hl, hr, hc⟩ := hg i (by simpa using hi)
  rw [List.getElem_map] at hr
  match cs, hl with
  | [v0, v1, v2, v3, v4], _ =>
    rw [Nat.mul_comm 5 i] at hc
    exact ⟨v0, v1, v2, v3, v4, hr, hc 0 _ rfl, hc 1 _ rfl, hc 2 _ rfl, hc 3 _ rfl, hc 4 _ rfl⟩
/-- a slice's value is a slice -/
theorem Rd.sl_form {w : World} {n : Nat} {es : List D} {v : Value} (h : Rd w (.sl n es) [v]) : ∃ a c, v = .slice a es.length c := by
  obtain ⟨a, c, h, _⟩ := Rd.slice h; exact ⟨a, c, h⟩
theorem Rd.sl_any {w : World} {n : Nat} {es : List D} {v : Value} (h : Rd w (.sl n es) [v]) : ∃ a l c, v = .slice a l c := by
  obtain ⟨a, c, h, _⟩ := Rd.slice h; exact ⟨a, _, c, h⟩
theorem Sh.form {w : World} {sh : Sh} {cs : List Value} (h : Rd w sh.d cs) : ∃ k l hi a1 n1 c1 m a2 n2 c2, cs = [.int .i64 k, .int .i64 l, .int .i64 hi, .slice a1 n1 c1, .int .i64 m, .slice a2 n2 c2] := by
  obtain ⟨k, l, hi, ks, m, kids, v1, v2, rfl, rfl, h1, h2⟩ := Sh.lay h
  obtain ⟨a1, c1, rfl⟩ := Rd.sl_form h1
  obtain ⟨a2, c2, rfl⟩ := Rd.sl_form h2
  exact ⟨k, l, hi, a1, _, c1, m, a2, _, c2, rfl⟩
theorem V.form {w : World} {v : V} {cs : List Value} (h : Rd w v.d cs) : ∃ k n e s a1 n1 c1, cs = [.int .i64 k, .int .i64 n, .int .i64 e, .string ⟨(s : List UInt8).toArray⟩, .slice a1 n1 c1] := by
  obtain ⟨k, n, e, s, kids, v1, rfl, rfl, h1⟩ := V.lay h
  obtain ⟨a1, c1, rfl⟩ := Rd.sl_form h1
  exact ⟨k, n, e, s, a1, _, c1, rfl⟩

mutual
def Sh.same : Sh → Sh → Bool
  | .mk k l h ks m kids, .mk k' l' h' ks' m' kids' => decide (k = k') && (decide (l = l') && (decide (h = h') && (decide (ks = ks') && (decide (m = m') && Sh.sames kids kids'))))
def Sh.sames : List Sh → List Sh → Bool
  | [], [] => true
  | a :: ar, b :: bs => Sh.same a b && Sh.sames ar bs
  | _, _ => false
end
mutual
def V.same : V → V → Bool
  | .mk k n e s kids, .mk k' n' e' s' kids' => decide (k = k') && (decide (n = n') && (decide (e = e') && (decide (s = s') && V.sames kids kids')))
def V.sames : List V → List V → Bool
  | [], [] => true
  | a :: ar, b :: bs => V.same a b && V.sames ar bs
  | _, _ => false
end
mutual
theorem Sh.same_iff : ∀ a b : Sh, Sh.same a b = true ↔ a = b
  | .mk k l h ks m kids, .mk k' l' h' ks' m' kids' => by simp [Sh.same, Sh.sames_iff kids kids']
theorem Sh.sames_iff : ∀ a b : List Sh, Sh.sames a b = true ↔ a = b
  | [], [] => by simp [Sh.sames]
  | a :: ar, b :: bs => by simp [Sh.sames, Sh.same_iff a b, Sh.sames_iff ar bs]
  | [], b :: bs => by simp [Sh.sames]
  | a :: ar, [] => by simp [Sh.sames]
end
mutual
theorem V.same_iff : ∀ a b : V, V.same a b = true ↔ a = b
  | .mk k l h ks kids, .mk k' l' h' ks' kids' => by simp [V.same, V.sames_iff kids kids']
theorem V.sames_iff : ∀ a b : List V, V.sames a b = true ↔ a = b
  | [], [] => by simp [V.sames]
  | a :: ar, b :: bs => by simp [V.sames, V.same_iff a b, V.sames_iff ar bs]
  | [], b :: bs => by simp [V.sames]
  | a :: ar, [] => by simp [V.sames]
end
instance : DecidableEq Sh := fun a b => decidable_of_iff _ (Sh.same_iff a b)
instance : DecidableEq V := fun a b => decidable_of_iff _ (V.same_iff a b)
/-- a prefix that agrees, one longer -/
theorem take_eq_snoc {α : Type} {a b : List α} {k : Nat} (h : a.take k = b.take k) (ha : k < a.length) (hb : k < b.length) (e : a[k] = b[k]) : a.take (k + 1) = b.take (k + 1) := by
  rw [List.take_succ_eq_append_getElem ha, List.take_succ_eq_append_getElem hb, h, e]
theorem ne_of_get {α : Type} {a b : List α} {k : Nat} (ha : k < a.length) (hb : k < b.length) (e : a[k] ≠ b[k]) : a ≠ b := by
  intro h; subst h; exact e rfl
end Go.Proofs.YthngfihpnfoppaaDoor

namespace Go.Proofs.YthngfihpnfoppaaDoor
open Go.RowKit

mutual
def D.pc : D → List PC
  | .one v => [.v v]
  | .agg fs => D.pcs fs
  | .sl _ es => [.sl 0 (D.pcE es)]
def D.pcs : List D → List PC
  | [] => []
  | d :: ds => D.pc d ++ D.pcs ds
def D.pcE : List D → List (List PC)
  | [] => []
  | d :: ds => D.pc d :: D.pcE ds
end
mutual
/-- plain cells of one cell, rows of one width -/
def D.wf : D → Prop
  | .one v => v.oneCell' = true
  | .agg fs => D.wfs fs
  | .sl n es => (∀ e ∈ es, D.width e = n) ∧ D.wfs es
def D.wfs : List D → Prop
  | [] => True
  | d :: ds => D.wf d ∧ D.wfs ds
end
mutual
theorem D.pc_len : ∀ d : D, d.pc.length = d.width
  | .one v => rfl
  | .agg fs => by simp only [D.pc, D.width]; exact D.pcs_len fs
  | .sl n es => rfl
theorem D.pcs_len : ∀ ds : List D, (D.pcs ds).length = D.widths ds
  | [] => rfl
  | d :: ds => by simp only [D.pcs, D.widths, List.length_append, D.pc_len d, D.pcs_len ds]
end
theorem D.pcE_map : ∀ ds : List D, D.pcE ds = ds.map D.pc
  | [] => rfl
  | d :: ds => by simp [D.pcE, D.pcE_map ds]
mutual
theorem D.pc_er : ∀ d : D, erL d.pc = d.pc
  | .one v => rfl
  | .agg fs => by simp only [D.pc]; exact D.pcs_er fs
  | .sl n es => by simp only [D.pc, erL, PC.er, D.pcE_er es]
theorem D.pcs_er : ∀ ds : List D, erL (D.pcs ds) = D.pcs ds
  | [] => rfl
  | d :: ds => by
    have h1 := D.pc_er d; have h2 := D.pcs_er ds
    rw [erL_map] at h1 h2 ⊢
    simp only [D.pcs, List.map_append, h1, h2]
theorem D.pcE_er : ∀ ds : List D, erLL (D.pcE ds) = D.pcE ds
  | [] => rfl
  | d :: ds => by simp only [D.pcE, erLL, D.pc_er d, D.pcE_er ds]
end

mutual
/-- what reads as data stands for it -/
theorem RepC.rp {C : Cx} {w : World} {S : Nat → Prop} (hF : ∀ b o, S b → C.F b o) : ∀ {d : D} {cs : List Value}, RepC S w d cs → d.wf → RpL C w d.pc cs
  | .one v, cs, h, hw => by simp only [RepC] at h; subst h; simp only [D.wf] at hw; exact .one1 (.v v hw)
  | .agg fs, cs, h, hw => by simp only [RepC] at h; simp only [D.wf] at hw; exact RepCs.rp hF h hw
  | .sl n es, cs, h, hw => by
    simp only [RepC] at h; simp only [D.wf] at hw
    obtain ⟨a, c, rfl, h⟩ := h
    simp only [D.pc]
    refine .one1 ?_
    by_cases hne : es = []
    · subst hne; exact .emp a c
    · obtain ⟨hn, h1, h2, b, o, xs, rfl, hb, hx, hwd, hr⟩ := h hne
      have hlen : xs.length = n * es.length := by
        rw [hr.len]
        have : ∀ l : List D, (∀ e ∈ l, D.width e = n) → D.widths l = n * l.length := by
          intro l
          induction l with
          | nil => intro _; rfl
          | cons d l ih => intro hl; simp only [D.widths, List.length_cons, Nat.mul_succ, hl d (by simp), ih fun e he => hl e (by simp [he])]; omega
        exact this es hwd
      have hE := RepCs.rpE hF hr hwd hw.2
      have hel : (D.pcE es).length = es.length := by rw [D.pcE_map]; simp
      have hget : ∀ i j, i < es.length → j < n → n * i + j < xs.length := by
        intro i j hi hj
        rw [hlen]
        calc n * i + j < n * i + n := by omega
          _ = n * (i + 1) := by rw [Nat.mul_succ]
          _ ≤ n * es.length := Nat.mul_le_mul_left n hi
      rw [← hel]
      refine .rd _ b o n c (fun i j => xs.getD (n * i + j) undef) (by rw [hel]; exact h1) h2 ⟨hn, ?_, ?_, fun i j _ _ => hF _ _ hb⟩ ?_
      · intro e he
        rw [D.pcE_map] at he
        obtain ⟨d, hd, rfl⟩ := List.mem_map.1 he
        rw [D.pc_len]; exact hwd d hd
      · intro i j hi hj
        rw [hel] at hi
        have := hget i j hi hj
        exact hx _ _ (by rw [List.getD_eq_getElem?_getD, List.getElem?_eq_getElem this]; rfl)
      · intro i j e y he hy
        obtain ⟨v, hv1, hv2⟩ := hE i j e y he hy
        rw [List.getD_eq_getElem?_getD, hv1]; exact hv2
theorem RepCs.rp {C : Cx} {w : World} {S : Nat → Prop} (hF : ∀ b o, S b → C.F b o) : ∀ {ds : List D} {cs : List Value}, RepCs S w ds cs → D.wfs ds → RpL C w (D.pcs ds) cs
  | [], cs, h, hw => by simp only [RepCs] at h; subst h; exact .nil
  | d :: ds, cs, h, hw => by
    simp only [RepCs] at h; simp only [D.wfs] at hw
    obtain ⟨c1, c2, rfl, h1, h2, h3⟩ := h
    exact (RepC.rp hF h2 hw.1).append (RepCs.rp hF h3 hw.2)
theorem RepCs.rpE {C : Cx} {w : World} {S : Nat → Prop} (hF : ∀ b o, S b → C.F b o) {n : Nat} : ∀ {ds : List D} {cs : List Value}, RepCs S w ds cs → (∀ e ∈ ds, D.width e = n) → D.wfs ds →
    ∀ (i j : Nat) (e : List PC) (y : PC), (D.pcE ds)[i]? = some e → e[j]? = some y → ∃ v, cs[n * i + j]? = some v ∧ RpC C w y v
  | [], cs, h, _, hw, i, j, e, y, he, hy => by simp [D.pcE] at he
  | d :: ds, cs, h, hwd, hw, i, j, e, y, he, hy => by
    simp only [RepCs] at h; simp only [D.wfs] at hw
    obtain ⟨c1, c2, rfl, h1, h2, h3⟩ := h
    have hd := hwd d (by simp)
    match i with
    | 0 =>
      simp only [D.pcE, List.getElem?_cons_zero, Option.some.injEq] at he; subst he
      have hr := RepC.rp hF h2 hw.1
      have hj : j < c1.length := by
        rw [hr.1]
        by_cases hj : j < d.pc.length
        · exact hj
        · rw [List.getElem?_eq_none (Nat.not_lt.1 hj)] at hy; cases hy
      refine ⟨c1[j], ?_, hr.2 j y _ hy (by simp)⟩
      rw [Nat.mul_zero, Nat.zero_add, List.getElem?_append_left hj]; simp
    | i + 1 =>
      simp only [D.pcE, List.getElem?_cons_succ] at he
      obtain ⟨v, hv1, hv2⟩ := RepCs.rpE hF h3 (fun e he => hwd e (by simp [he])) hw.2 i j e y he hy
      refine ⟨v, ?_, hv2⟩
      rw [List.getElem?_append_right (by rw [h1, hd, Nat.mul_succ]; omega), ← hv1]
      congr 1; rw [h1, hd, Nat.mul_succ]; omega
end

theorem D.widths_eq {n : Nat} : ∀ {l : List D}, (∀ e ∈ l, D.width e = n) → D.widths l = n * l.length
  | [], _ => rfl
  | d :: l, hl => by
    have h1 := D.widths_eq (l := l) fun e he => hl e (by simp [he])
    have h2 := hl d (by simp)
    simp only [D.widths, List.length_cons, Nat.mul_succ, h2, h1]; omega
theorem RpL.split {C : Cx} {w : World} {c1 c2 : List PC} {vs : List Value} (h : RpL C w (c1 ++ c2) vs) : ∃ v1 v2, vs = v1 ++ v2 ∧ v1.length = c1.length ∧ RpL C w c1 v1 ∧ RpL C w c2 v2 := by
  refine ⟨vs.take c1.length, vs.drop c1.length, by simp, ?_, ?_, ?_⟩
  · have := h.1; rw [List.length_append] at this; rw [List.length_take]; omega
  · have := h.slice 0 c1.length; simpa using this
  · have := h.slice c1.length c2.length
    rw [List.drop_left, List.take_of_length_le (Nat.le_refl _), List.take_of_length_le] at this
    · exact this
    · have := h.1; rw [List.length_append] at this; rw [List.length_drop]; omega
mutual
/-- what stands for data reads as it -/
theorem RpL.rep {C : Cx} {w : World} {S : Nat → Prop} (hF : ∀ b o, C.F b o → S b) : ∀ {d : D} {cs : List Value}, RpL C w d.pc cs → d.wf → RepC S w d cs
  | .one v, cs, h, hw => by
    simp only [D.pc] at h
    obtain ⟨x, xs, rfl, h1, h2⟩ := h.inv1
    have := h2.inv0; subst this
    cases h1; simp only [RepC]
  | .agg fs, cs, h, hw => by simp only [RepC]; simp only [D.wf] at hw; simp only [D.pc] at h; exact RpL.reps hF h hw
  | .sl n es, cs, h, hw => by
    simp only [D.wf] at hw; simp only [D.pc] at h
    obtain ⟨x, xs, rfl, h1, h2⟩ := h.inv1
    have := h2.inv0; subst this
    have hel : (D.pcE es).length = es.length := by rw [D.pcE_map]; simp
    simp only [RepC]
    generalize he : D.pcE es = es' at h1 hel
    cases h1 with
    | emp a c =>
      have : es = [] := by rw [D.pcE_map] at he; simpa using he
      subst this; exact ⟨a, c, rfl, fun h => absurd rfl h⟩
    | nilo t h2 ht hb => exact absurd h2 (by decide)
    | own t es b u h2 ht hb hlen hl hc hr h => exact absurd h2 (by decide)
    | rd _ b o n' c u hl hc hr hh =>
      rw [hel]
      refine ⟨_, c, rfl, fun hne => ?_⟩
      have hn : n' = n := by
        match es, hne, he with
        | d :: es, _, he =>
          rw [← he] at hr
          have h1 := hr.wid d.pc (by simp [D.pcE])
          rw [D.pc_len, hw.1 d (by simp)] at h1; omega
      subst hn
      obtain ⟨xs, hx1, hx2⟩ : ∃ xs : List Value, xs.length = n' * es.length ∧ ∀ i j, i < es.length → j < n' → xs[n' * i + j]? = some (u i j) := by
        refine ⟨(List.range (n' * es.length)).map fun m => u (m / n') (m % n'), by simp, fun i j hi hj => ?_⟩
        have hlt : n' * i + j < n' * es.length := by
          calc n' * i + j < n' * i + n' := by omega
            _ = n' * (i + 1) := by rw [Nat.mul_succ]
            _ ≤ n' * es.length := Nat.mul_le_mul_left n' hi
        rw [List.getElem?_map, List.getElem?_range hlt]
        simp only [Option.map_some, Option.some.injEq]
        rw [Nat.mul_add_div hr.pos, Nat.mul_add_mod, Nat.div_eq_of_lt hj, Nat.mod_eq_of_lt hj, Nat.add_zero]
      have hpos := hr.pos
      have h00 : C.F b (o + (n' * 0 + 0)) := hr.fix 0 0 (by rw [hel]; cases es with | nil => exact absurd rfl hne | cons => simp) hpos
      refine ⟨hpos, by omega, hc, b, o, xs, rfl, hF _ _ h00, fun j v hj => ?_, hw.1, RpL.repE hF hw.1 hw.2 hx1 hx2 (fun i j e y h1 h2 => hh i j e y (by rw [← he]; exact h1) h2)⟩
      have hjl : j < n' * es.length := by
        rw [← hx1]
        by_cases hj' : j < xs.length
        · exact hj'
        · rw [List.getElem?_eq_none (Nat.not_lt.1 hj')] at hj; cases hj
      have h1 : j / n' < es.length := (Nat.div_lt_iff_lt_mul hpos).2 (by rw [Nat.mul_comm]; exact hjl)
      have h2 : j % n' < n' := Nat.mod_lt _ hpos
      have h3 : n' * (j / n') + j % n' = j := Nat.div_add_mod j n'
      have h4 := hx2 _ _ h1 h2
      rw [h3, hj] at h4
      have h5 := hr.cell _ _ (by rw [hel]; exact h1) h2
      rw [h3, ← h4] at h5
      exact h5
theorem RpL.reps {C : Cx} {w : World} {S : Nat → Prop} (hF : ∀ b o, C.F b o → S b) : ∀ {ds : List D} {cs : List Value}, RpL C w (D.pcs ds) cs → D.wfs ds → RepCs S w ds cs
  | [], cs, h, hw => by simp only [D.pcs] at h; simp only [RepCs]; exact h.inv0
  | d :: ds, cs, h, hw => by
    simp only [D.pcs] at h; simp only [D.wfs] at hw; simp only [RepCs]
    obtain ⟨v1, v2, rfl, h1, h2, h3⟩ := h.split
    exact ⟨v1, v2, rfl, by rw [h1, D.pc_len], RpL.rep hF h2 hw.1, RpL.reps hF h3 hw.2⟩
theorem RpL.repE {C : Cx} {w : World} {S : Nat → Prop} (hF : ∀ b o, C.F b o → S b) {n : Nat} : ∀ {ds : List D} {xs : List Value} {u : Nat → Nat → Value}, (∀ e ∈ ds, D.width e = n) → D.wfs ds → xs.length = n * ds.length → (∀ i j, i < ds.length → j < n → xs[n * i + j]? = some (u i j)) →
    (∀ (i j : Nat) (e : List PC) (y : PC), (D.pcE ds)[i]? = some e → e[j]? = some y → RpC C w y (u i j)) → RepCs S w ds xs
  | [], xs, u, _, hw, hl, _, _ => by simp only [RepCs]; exact List.eq_nil_of_length_eq_zero (by rw [hl]; simp)
  | d :: ds, xs, u, hwd, hw, hl, hx, h => by
    simp only [D.wfs] at hw; simp only [RepCs]
    have hd := hwd d (by simp)
    rw [List.length_cons, Nat.mul_succ] at hl
    refine ⟨xs.take n, xs.drop n, by simp, by rw [List.length_take]; omega, RpL.rep hF ⟨by rw [List.length_take, D.pc_len]; omega, fun j c y hc hy => ?_⟩ hw.1, ?_⟩
    · rw [List.getElem?_take] at hy
      split at hy
      · rename_i hj
        have := hx 0 j (by simp) hj
        rw [Nat.mul_zero, Nat.zero_add, hy] at this
        simp only [Option.some.injEq] at this
        rw [this]; exact h 0 j d.pc c rfl hc
      · cases hy
    · refine RpL.repE hF (u := fun i j => u (i + 1) j) (fun e he => hwd e (by simp [he])) hw.2 (by rw [List.length_drop]; omega) (fun i j hi hj => ?_) (fun i j e y he hy => h (i + 1) j e y he hy)
      have := hx (i + 1) j (by simpa using hi) hj
      rw [List.getElem?_drop, ← this]; congr 1; rw [Nat.mul_succ]; omega
end
end Go.Proofs.YthngfihpnfoppaaDoor

namespace Go.Proofs.YthngfihpnfoppaaDoor
open Go.RowKit

/-- what the names of own rows are known by -/
structure Tks (C : Cx) (w : World) (live : Nat → Prop) : Prop where
  blk : ∀ t, live t → ∀ b, C.tk t = some b → ∃ cur e, w.heap[b]? = some (.cells cur e (0, 0)) ∧ cur.size = C.cp t * C.tn t
  inj : ∀ t s b, live t → live s → C.tk t = some b → C.tk s = some b → t = s
theorem Tks.of {NG : Nat} {T : World → Prop} {C : Cx} {bx : List (List PC)} {live : Nat → Prop} {w : World} (h : Inv NG T C bx live w) : Tks C w live :=
  ⟨fun t ht b hb => by
    obtain ⟨_, _, h3⟩ := h.tok t ht
    rcases h3 with ⟨k, _⟩ | ⟨b', cur, e, c1, _, c3, c4, _⟩
    · rw [k] at hb; cases hb
    · rw [c1] at hb; simp only [Option.some.injEq] at hb; subst hb; exact ⟨cur, e, c3, c4⟩, h.tinj⟩

theorem pcs_row {C : Cx} {w : World} {live : Nat → Prop} (hT : Tks C w live) {f1 f2 t1 t2 : List Nat} (hd : (t1 ++ t2).Nodup) (hl : ∀ t ∈ t1 ++ t2, live t) (h1 : f1.Nodup) (h2 : f2.Nodup) (k1 : ∀ b ∈ f1, ∃ t ∈ t1, C.tk t = some b) (k2 : ∀ b ∈ f2, ∃ t ∈ t2, C.tk t = some b) : (f1 ++ f2).Nodup ∧ ∀ b ∈ f1 ++ f2, ∃ t ∈ t1 ++ t2, C.tk t = some b := by
  rw [List.nodup_append] at hd
  refine ⟨List.nodup_append.2 ⟨h1, h2, fun a ha b hb hab => ?_⟩, fun b hb => ?_⟩
  · subst hab
    obtain ⟨t, ht, e1⟩ := k1 a ha; obtain ⟨s, hs, e2⟩ := k2 a hb
    exact hd.2.2 t ht s hs (hT.inj t s a (hl t (by simp [ht])) (hl s (by simp [hs])) e1 e2)
  · rcases List.mem_append.1 hb with hb | hb
    · obtain ⟨t, ht, e⟩ := k1 b hb; exact ⟨t, by simp [ht], e⟩
    · obtain ⟨t, ht, e⟩ := k2 b hb; exact ⟨t, by simp [ht], e⟩

theorem toksL_append : ∀ a b : List PC, toksL (a ++ b) = toksL a ++ toksL b
  | [], b => rfl
  | c :: cs, b => by simp only [List.cons_append, toksL, toksL_append cs b, List.append_assoc]
theorem ownedL_append : ∀ a b : List PC, ownedL (a ++ b) = (ownedL a && ownedL b)
  | [], b => by simp [ownedL]
  | c :: cs, b => by simp only [List.cons_append, ownedL, ownedL_append cs b, Bool.and_assoc]

theorem erL_one {cs : List PC} {x : PC} (h : erL cs = [x]) : ∃ c, cs = [c] ∧ c.er = x := by
  rw [erL_map] at h
  match cs, h with
  | [], h => simp at h
  | c :: cs, h =>
    simp only [List.map_cons, List.cons.injEq, List.map_eq_nil_iff] at h
    exact ⟨c, by rw [h.2], h.1⟩
mutual
/-- rows of the call's own, no two of them one: a tree of blocks -/
theorem tree_of {C : Cx} {w : World} {live : Nat → Prop} (hT : Tks C w live) : ∀ {d : D} {cs : List PC} {vs : List Value}, erL cs = d.pc → d.wf → ownedL cs = true → RpL C w cs vs → (∀ t ∈ toksL cs, live t) → (toksL cs).Nodup →
    ∃ fp, fp.Nodup ∧ (∀ b ∈ fp, ∃ t ∈ toksL cs, C.tk t = some b) ∧ TreeC w d fp vs
  | .one v, cs, vs, he, hw, ho, h, hl, hn => by
    simp only [D.pc] at he
    obtain ⟨c, rfl, hc0⟩ := erL_one he; clear he
    · match c, hc0 with
      | .v x, he =>
        simp only [PC.er, PC.v.injEq] at he; subst he
        obtain ⟨y, ys, rfl, h1, h2⟩ := h.inv1
        have := h2.inv0; subst this
        cases h1
        exact ⟨[], by simp, by simp, by simp [TreeC]⟩
  | .agg fs, cs, vs, he, hw, ho, h, hl, hn => by
    simp only [D.pc] at he; simp only [D.wf] at hw; simp only [TreeC]
    exact trees_of hT he hw ho h hl hn
  | .sl n es, cs, vs, he, hw, ho, h, hl, hn => by
    simp only [D.pc] at he; simp only [D.wf] at hw
    obtain ⟨c, rfl, hc0⟩ := erL_one he; clear he
    · match c, hc0 with
      | .sl t rows, he =>
        simp only [PC.er, PC.sl.injEq, true_and] at he
        obtain ⟨y, ys, rfl, h1, h2⟩ := h.inv1
        have := h2.inv0; subst this
        have hlen : rows.length = es.length := by
          have := congrArg List.length he
          rw [erLL_map, D.pcE_map] at this; simpa using this
        simp only [ownedL, PC.owned, Bool.and_true, Bool.and_eq_true, Bool.or_eq_true, decide_eq_true_eq] at ho
        simp only [toksL, List.append_nil, PC.toks] at hl hn ⊢
        simp only [TreeC]
        have nilc : ∀ (a : Option Addr) (k c : Nat), k = 0 → es = [] → ∃ fp : List Nat, fp.Nodup ∧ (∀ b ∈ fp, ∃ t' ∈ (if 2 ≤ t then t :: toksLL rows else toksLL rows), C.tk t' = some b) ∧ ∃ a' c', [Value.slice a k c] = [.slice a' es.length c'] ∧ ((es = [] ∧ fp = []) ∨
            ∃ b fr cur e, a' = some ⟨b, 0, none⟩ ∧ fp = b :: fr ∧ w.heap[b]? = some (.cells cur e (0, 0)) ∧ 0 < n ∧ (es.length ≤ c' ∧ cur.size = c' * n) ∧ c' ≤ maxLen ∧ (∀ e ∈ es, D.width e = n) ∧ TreeCs w es fr (cur.toList.take (n * es.length))) := by
          intro a k c hk hes
          exact ⟨[], by simp, by simp, a, c, by rw [hes, hk]; rfl, .inl ⟨hes, rfl⟩⟩
        have hnil : rows = [] → es = [] := fun h => List.eq_nil_of_length_eq_zero (by rw [← hlen, h]; rfl)
        cases h1 with
        | emp a c => exact nilc a 0 c rfl (hnil rfl)
        | nil => exact nilc none 0 0 rfl (hnil rfl)
        | nilo t h2 ht hb => exact nilc none 0 0 rfl (hnil rfl)
        | rd _ b o n' c u hl' hc hr hh =>
          have : rows = [] := by
            rcases ho.1 with h | h
            · exact absurd rfl h
            · exact List.isEmpty_iff.1 h
          exact nilc _ _ _ (by rw [this]; rfl) (hnil this)
        | own _ _ b u h2 ht hb htl hl' hc hr hh =>
          by_cases hes : es = []
          · exact nilc _ _ _ (by rw [hlen, hes]; rfl) hes
          · rw [if_pos h2] at hl hn ⊢
            have hlt := hl t (by simp)
            obtain ⟨cur, e, hblk, hbsz⟩ := hT.blk t hlt b hb
            have hn' : C.tn t = n := by
              match es, rows, hes, he with
              | d :: es, r :: rows, _, he =>
                have h3 := hr.wid r (by simp)
                simp only [erLL, D.pcE, List.cons.injEq] at he
                have h4 : r.length = d.pc.length := by rw [← he.1, erL_map]; simp
                rw [D.pc_len, hw.1 d (by simp)] at h4; omega
              | d :: es, [], _, he => simp [erLL, D.pcE] at he
            rw [List.nodup_cons] at hn
            have hpos : 0 < n := by have := hr.pos; omega
            have hcell : ∀ i j, i < es.length → j < n → cur[n * i + j]? = some (u i j) := by
              intro i j hi hj
              have := hr.cell i j (by omega) (by omega)
              rw [cell_of_block hblk, Nat.zero_add, hn'] at this
              exact this
            have hcl : n * es.length ≤ cur.size := by
              have hne : 0 < es.length := by cases es with | nil => exact absurd rfl hes | cons => simp
              have := hcell (es.length - 1) (n - 1) (by omega) (by omega)
              have hlt : n * (es.length - 1) + (n - 1) < cur.size := by
                by_cases hx : n * (es.length - 1) + (n - 1) < cur.size
                · exact hx
                · rw [Array.getElem?_eq_none (Nat.not_lt.1 hx)] at this; cases this
              have h5 : n * es.length = n * (es.length - 1) + n := by
                rw [← Nat.mul_succ]; congr 1; omega
              omega
            obtain ⟨fr, f1, f2, f3⟩ := treeE_of hT he hw.1 hw.2 ho.2 (xs := cur.toList.take (n * es.length)) (u := u) (by rw [List.length_take]; simp; omega) (fun i j hi hj => by
                rw [List.getElem?_take, if_pos (by
                  calc n * i + j < n * i + n := by omega
                    _ = n * (i + 1) := by rw [Nat.mul_succ]
                    _ ≤ n * es.length := Nat.mul_le_mul_left n hi)]
                simpa using hcell i j hi hj) hh (fun t ht => hl t (by simp [ht])) hn.2
            refine ⟨b :: fr, List.nodup_cons.2 ⟨fun hm => ?_, f1⟩, fun b' hb' => ?_, some ⟨b, 0, none⟩, C.cp t, by rw [hlen], .inr ⟨b, fr, cur, e, rfl, rfl, hblk, hpos, ⟨by omega, by rw [hbsz, hn']⟩, hc, hw.1, f3⟩⟩
            · obtain ⟨s, hs, hsb⟩ := f2 b hm
              have := hT.inj t s b hlt (hl s (by simp [hs])) hb hsb
              subst this; exact hn.1 hs
            · rcases List.mem_cons.1 hb' with rfl | hb'
              · exact ⟨t, by simp, hb⟩
              · obtain ⟨s, hs, hsb⟩ := f2 b' hb'; exact ⟨s, by simp [hs], hsb⟩
theorem trees_of {C : Cx} {w : World} {live : Nat → Prop} (hT : Tks C w live) : ∀ {ds : List D} {cs : List PC} {vs : List Value}, erL cs = D.pcs ds → D.wfs ds → ownedL cs = true → RpL C w cs vs → (∀ t ∈ toksL cs, live t) → (toksL cs).Nodup →
    ∃ fp, fp.Nodup ∧ (∀ b ∈ fp, ∃ t ∈ toksL cs, C.tk t = some b) ∧ TreeCs w ds fp vs
  | [], cs, vs, he, _, ho, h, hl, hn => by
    have : cs = [] := by simp only [D.pcs] at he; rw [erL_map] at he; simpa using he
    subst this
    have := h.inv0; subst this
    exact ⟨[], by simp, by simp, by simp [TreeCs]⟩
  | d :: ds, cs, vs, he, hw, ho, h, hl, hn => by
    simp only [D.pcs] at he; simp only [D.wfs] at hw
    have hlen : d.pc.length ≤ cs.length := by
      have := congrArg List.length he
      rw [erL_map, List.length_map, List.length_append] at this; omega
    obtain ⟨c1, c2, rfl, hc1⟩ : ∃ c1 c2, cs = c1 ++ c2 ∧ c1.length = d.pc.length := ⟨cs.take d.pc.length, cs.drop d.pc.length, by simp, by rw [List.length_take]; omega⟩
    have he' : erL c1 = d.pc ∧ erL c2 = D.pcs ds := by
      rw [erL_map, List.map_append] at he
      have := List.append_inj he (by rw [List.length_map]; exact hc1)
      rw [erL_map, erL_map]; exact this
    rw [toksL_append] at hl hn ⊢
    rw [ownedL_append, Bool.and_eq_true] at ho
    obtain ⟨v1, v2, rfl, hv, h1, h2⟩ := h.split
    have hn' := List.nodup_append.1 hn
    obtain ⟨f1, a1, a2, a3⟩ := tree_of hT he'.1 hw.1 ho.1 h1 (fun t ht => hl t (by simp [ht])) hn'.1
    obtain ⟨f2, b1, b2, b3⟩ := trees_of hT he'.2 hw.2 ho.2 h2 (fun t ht => hl t (by simp [ht])) hn'.2.1
    obtain ⟨e1, e2⟩ := pcs_row hT hn hl a1 b1 a2 b2
    exact ⟨f1 ++ f2, e1, e2, by simp only [TreeCs]; exact ⟨f1, f2, v1, v2, rfl, rfl, by rw [hv, hc1, D.pc_len], a3, b3⟩⟩
theorem treeE_of {C : Cx} {w : World} {live : Nat → Prop} (hT : Tks C w live) {n : Nat} : ∀ {ds : List D} {rows : List (List PC)} {xs : List Value} {u : Nat → Nat → Value}, erLL rows = D.pcE ds → (∀ e ∈ ds, D.width e = n) → D.wfs ds → ownedLL rows = true → xs.length = n * ds.length → (∀ i j, i < ds.length → j < n → xs[n * i + j]? = some (u i j)) →
    (∀ (i j : Nat) (e : List PC) (y : PC), rows[i]? = some e → e[j]? = some y → RpC C w y (u i j)) → (∀ t ∈ toksLL rows, live t) → (toksLL rows).Nodup →
    ∃ fp, fp.Nodup ∧ (∀ b ∈ fp, ∃ t ∈ toksLL rows, C.tk t = some b) ∧ TreeCs w ds fp xs
  | [], rows, xs, u, he, _, hw, ho, hx, _, _, hl, hn => by
    have := List.eq_nil_of_length_eq_zero (l := xs) (by rw [hx]; simp)
    subst this
    exact ⟨[], by simp, by simp, by simp [TreeCs]⟩
  | d :: ds, rows, xs, u, he, hwd, hw, ho, hx, hu, h, hl, hn => by
    match rows, he with
    | r :: rows, he =>
      simp only [erLL, D.pcE, List.cons.injEq] at he
      simp only [D.wfs] at hw
      simp only [toksLL] at hl hn ⊢
      simp only [ownedLL, Bool.and_eq_true] at ho
      have hd := hwd d (by simp)
      have hrl : r.length = n := by rw [← hd, ← D.pc_len, ← he.1, erL_map]; simp
      rw [List.length_cons, Nat.mul_succ] at hx
      have hn' := List.nodup_append.1 hn
      obtain ⟨f1, a1, a2, a3⟩ := tree_of hT he.1 hw.1 ho.1 (vs := xs.take n) ⟨by rw [List.length_take]; omega, fun j c y hc hy => by
        rw [List.getElem?_take] at hy
        split at hy
        · rename_i hj
          have := hu 0 j (by simp) hj
          rw [Nat.mul_zero, Nat.zero_add, hy] at this
          simp only [Option.some.injEq] at this
          rw [this]; exact h 0 j r c rfl hc
        · cases hy⟩ (fun t ht => hl t (by simp [ht])) hn'.1
      obtain ⟨f2, b1, b2, b3⟩ := treeE_of hT (u := fun i j => u (i + 1) j) (xs := xs.drop n) he.2 (fun e he => hwd e (by simp [he])) hw.2 ho.2 (by rw [List.length_drop]; omega) (fun i j hi hj => by
        have := hu (i + 1) j (by simpa using hi) hj
        rw [List.getElem?_drop, ← this]; congr 1; rw [Nat.mul_succ]; omega) (fun i j e y he hy => h (i + 1) j e y he hy) (fun t ht => hl t (by simp [ht])) hn'.2.1
      obtain ⟨e1, e2⟩ := pcs_row hT hn hl a1 b1 a2 b2
      exact ⟨f1 ++ f2, e1, e2, by simp only [TreeCs]; exact ⟨f1, f2, xs.take n, xs.drop n, rfl, by simp, by rw [List.length_take]; omega, a3, b3⟩⟩
end

/-- all that lies in a world is read only -/
def C0 (w : World) : Cx := ⟨fun b _ => b < w.heap.size, 0, fun _ => 0, 2, fun _ => none, fun _ => 0, fun _ => 0, fun _ => 0, fun _ => False⟩
theorem rdV {w : World} {d : D} {cs : List Value} (h : Rd w d cs) (hw : d.wf) : RpV (C0 w) w (.ag d.pc) (.agg cs.toArray) := .ag _ _ (h.rp (fun _ _ hb => hb) hw)
theorem rd1 {w : World} {d : D} {v : Value} {c : PC} (h : Rd w d [v]) (hw : d.wf) (hc : d.pc = [c]) : RpV (C0 w) w (.d c) v := .d _ _ (by
  have := h.rp (C := C0 w) (fun _ _ hb => hb) hw
  rw [hc] at this
  exact this.2 0 c v rfl rfl)

/-- a contract, used in a world -/
theorem Fn.use {E : Env} {f : Nat} {args : List PV} {R : PV → (Nat → Prop) → Prop} (h : Fn E f args R) {w : World} (hng : E.NG ≤ w.heap.size) (hT : E.T w) {vs : List Value} (hl : vs.length = args.length) (hv : ∀ (j : Nat) (x : PV) (y : Value), args[j]? = some x → vs[j]? = some y → RpV (C0 w) w x y) :
    Calls E.P f vs.toArray w fun e w' => ∃ u x bx live C', e = .returned u ∧ R x live ∧ Inv E.NG E.T C' bx live w' ∧ RpV C' w' x u ∧ Below w.heap.size w w' ∧ E.T w' ∧ ∀ t b, live t → C'.tk t = some b → w.heap.size ≤ b := by
  refine (h (C0 w) w vs ⟨rfl, fun p cs hp => by simp at hp, fun p hp => by simp at hp, fun p hp => by simp at hp, fun p q hp => by simp at hp, fun t ht => ht.elim, fun t s b ht => ht.elim, fun b o h => h, hng, hT⟩ rfl (fun t h => h) hl hv).mono ?_
  rintro e w' ⟨u, x, bx, live, C', e1, e2, e3, e4, e5⟩
  exact ⟨u, x, bx, live, C', e1, e2, e3, e5, ⟨e4.os, e4.tape, e4.output, e4.size, fun k hk => e4.block0 (fun t h => h) k hk (fun p hp => by simp [C0] at hp)⟩, e3.t, fun t b => e4.newT0 (fun t h => h) t b⟩
/-- a struct in rows of its own -/
theorem FnO.use {E : Env} {f : Nat} {args : List PV} {d : D} (h : FnO E f args (.ag d.pc)) (hd : d.wf) {w : World} (hng : E.NG ≤ w.heap.size) (hT : E.T w) {vs : List Value} (hl : vs.length = args.length) (hv : ∀ (j : Nat) (x : PV) (y : Value), args[j]? = some x → vs[j]? = some y → RpV (C0 w) w x y) :
    Calls E.P f vs.toArray w fun e w' => ∃ cs, e = .returned (.agg (List.toArray cs)) ∧ Own w.heap.size w' d cs ∧ Below w.heap.size w w' ∧ E.T w' := by
  refine (Fn.use h hng hT hl hv).mono ?_
  rintro e w' ⟨u, x, bx, live, C', rfl, ⟨h1, h2, h3, h4⟩, hi, hr, hb, ht, hn⟩
  match x, h1, h4 with
  | .ag cs, h1, h4 =>
    simp only [PV.dat, Option.some.injEq, PV.ag.injEq] at h1
    cases hr with
    | ag _ vs hr =>
      obtain ⟨fp, f1, f2, f3⟩ := tree_of (Tks.of hi) h1 hd h4 hr h3 h2
      refine ⟨vs, rfl, ⟨fp, f1, fun b hb' => ?_, f3⟩, hb, ht⟩
      obtain ⟨t, ht, htb⟩ := f2 b hb'
      exact hn t b (h3 t ht) htb
  | .d c, h1, h4 => simp [PV.dat] at h1
/-- a contract of a function that returns a plain value -/
theorem FnV.old {E : Env} {f : Nat} {args : List PV} {v : Value} (ho : v.oneCell' = true) (h : ∀ (w : World) (C : Cx) (vs : List Value), (∀ b o, C.F b o → b < w.heap.size) → E.NG ≤ w.heap.size → E.T w → vs.length = args.length → (∀ (j : Nat) (x : PV) (y : Value), args[j]? = some x → vs[j]? = some y → RpV C w x y) →
    Calls E.P f vs.toArray w fun e w' => e = .returned v ∧ Below w.heap.size w w') : FnV E f args (.d (.v v)) := by
  intro C w vs hI hnt hold hl hv
  refine (h w C vs hI.fin hI.ng hI.t hl hv).mono ?_
  rintro e w' ⟨rfl, hb⟩
  have hF : Fix C w w' := .of (fun b o hF => World.cell?_of_block (a := ⟨b, o, none⟩) (hb.block b (hI.fin b o hF))) hb.block
  refine ⟨v, .d (.v v), [], fun _ => False, C, rfl, rfl, ⟨hI.nb, fun p cs hp => by simp at hp, fun p hp => by simp at hp, fun p hp => by simp at hp, fun p q hp => by simp at hp, fun t ht => ht.elim, fun t s b ht => ht.elim, fun b o h => Nat.lt_of_lt_of_le (hI.fin b o h) hb.size, Nat.le_trans hI.ng hb.size, E.low w w' hI.t hb.size (fun k hk => hb.block k (Nat.lt_of_lt_of_le hk hI.ng))⟩,
    ⟨hb.os, hb.tape, hb.output, hb.size, fun _ _ h => h, hF, fun k hk _ _ => hb.block k hk, ⟨Nat.le_refl _, fun _ _ => rfl⟩, fun _ _ h => .inl h, fun t b ht => ht.elim, (fun p hp hp2 => by simp at hp2), ⟨Nat.le_refl _, fun _ _ => ⟨rfl, rfl, rfl, rfl⟩⟩⟩, .d _ _ (.v v ho)⟩
theorem vRd {C : Cx} {w : World} (hF : ∀ b o, C.F b o → b < w.heap.size) {d : D} {y : Value} (hw : d.wf) (h : RpV C w (.ag d.pc) y) : ∃ cs : List Value, y = .agg cs.toArray ∧ Rd w d cs := by
  cases h with
  | ag _ vs h => exact ⟨vs, rfl, RpL.rep hF h hw⟩
theorem vRd1 {C : Cx} {w : World} (hF : ∀ b o, C.F b o → b < w.heap.size) {d : D} {c : PC} {y : Value} (hw : d.wf) (hc : d.pc = [c]) (h : RpV C w (.d c) y) : Rd w d [y] := by
  cases h with
  | d _ _ h => exact RpL.rep hF (by rw [hc]; exact .one1 h) hw
end Go.Proofs.YthngfihpnfoppaaDoor

namespace Go.Proofs.YthngfihpnfoppaaDoor
open Go.RowKit

/-- blocks that nobody knows yet -/
def Fr (NG : Nat) (C : Cx) (bx : List (List PC)) (live fp : List Nat) : Prop := ∀ b ∈ fp, NG ≤ b ∧ (∀ o, ¬ C.F b o) ∧ (∀ p, p < bx.length → C.bx p ≠ b) ∧ ∀ t ∈ live, C.tk t ≠ some b
/-- they are given names -/
structure Nmd (NG : Nat) (T : World → Prop) (bx : List (List PC)) (w : World) (C : Cx) (live fp : List Nat) (C' : Cx) (new tk : List Nat) : Prop where
  le : CxLe C C'
  inv : Inv NG T C' bx (· ∈ new ++ live) w
  nd : tk.Nodup
  sub : ∀ t ∈ tk, t ∈ new
  rng : ∀ t ∈ new, C.nt ≤ t ∧ t < C'.nt
  F : ∀ b o, C'.F b o → C.F b o ∨ b ∈ fp
  tkb : ∀ t ∈ new, ∃ b ∈ fp, C'.tk t = some b

section
variable {NG : Nat} {T : World → Prop} {bx : List (List PC)} {w : World}

theorem Nmd.refl {C : Cx} {live : List Nat} (h : Inv NG T C bx (· ∈ live) w) : Nmd NG T bx w C live [] C [] [] :=
  ⟨CxLe.refl C, h, by simp, by simp, by simp, fun _ _ h => .inl h, by simp⟩
theorem Nmd.trans {C C1 C2 : Cx} {live f1 f2 n1 n2 t1 t2 : List Nat} (h : Nmd NG T bx w C live f1 C1 n1 t1) (k : Nmd NG T bx w C1 (n1 ++ live) f2 C2 n2 t2) : Nmd NG T bx w C live (f1 ++ f2) C2 (n2 ++ n1) (t1 ++ t2) := by
  refine ⟨h.le.trans k.le, by rw [List.append_assoc]; exact k.inv, ?_, fun t ht => ?_, fun t ht => ?_, fun b o hF => ?_, fun t ht => ?_⟩
  · rw [List.nodup_append]
    refine ⟨h.nd, k.nd, fun a ha b hb e => ?_⟩
    have := (h.rng a (h.sub a ha)).2; have := (k.rng b (k.sub b hb)).1; omega
  · rcases List.mem_append.1 ht with ht | ht
    · simp [h.sub t ht]
    · simp [k.sub t ht]
  · have := h.le.nt; have := k.le.nt
    rcases List.mem_append.1 ht with ht | ht
    · have := k.rng t ht; omega
    · have := h.rng t ht; omega
  · rcases k.F b o hF with h1 | h1
    · rcases h.F b o h1 with h2 | h2
      · exact .inl h2
      · exact .inr (by simp [h2])
    · exact .inr (by simp [h1])
  · rcases List.mem_append.1 ht with ht | ht
    · obtain ⟨b, hb, e⟩ := k.tkb t ht; exact ⟨b, by simp [hb], e⟩
    · obtain ⟨b, hb, e⟩ := h.tkb t ht
      exact ⟨b, by simp [hb], ((k.le.tk t (h.rng t ht).2).1).trans e⟩
theorem Fr.next {C C1 : Cx} {live f1 f2 n1 t1 : List Nat} (hI : Inv NG T C bx (· ∈ live) w) (h : Nmd NG T bx w C live f1 C1 n1 t1) (hf : Fr NG C bx live f2) (hd : ∀ b ∈ f1, b ∉ f2) : Fr NG C1 bx (n1 ++ live) f2 := by
  intro b hb
  obtain ⟨a1, a2, a3, a4⟩ := hf b hb
  refine ⟨a1, fun o hF => ?_, fun p hp => ?_, fun t ht => ?_⟩
  · rcases h.F b o hF with h1 | h1
    · exact a2 o h1
    · exact hd b h1 hb
  · rw [h.le.bx p (by rw [hI.nb]; exact hp)]; exact a3 p hp
  · intro e
    rcases List.mem_append.1 ht with ht | ht
    · obtain ⟨b', hb', e'⟩ := h.tkb t ht
      rw [e'] at e; simp only [Option.some.injEq] at e; subst e; exact hd b' hb' hb
    · rw [(h.le.tk t (hI.tok t ht).2.1).1] at e; exact a4 t ht e
/-- one block more has a name -/
theorem Inv.addTok {C : Cx} {live : List Nat} (h : Inv NG T C bx (· ∈ live) w) (h2 : 2 ≤ C.nt) {b cap len n : Nat} (hf : Fr NG C bx live [b]) {cur : Array Value} {e : TypeId} (hblk : w.heap[b]? = some (.cells cur e (0, 0))) (hsz : cur.size = cap * n) (hl : len ≤ cap) (hm : cap ≤ maxLen) (hn : 0 < n) (hp : 0 < len) :
    Inv NG T (C.tok (some b) cap len n) bx (· ∈ C.nt :: live) w := by
  have hle := Cx.tok_le C (some b) cap len n
  obtain ⟨n1, n2, n3, n4⟩ := Cx.tok_new C (some b) cap len n
  obtain ⟨f1, f2, f3, f4⟩ := hf b (by simp)
  refine ⟨h.nb, fun p cs hp => ?_, ?_, h.boxG, h.inj, ?_, ?_, ?_, h.ng, h.t⟩
  · obtain ⟨vs, e, h1, h2⟩ := h.box p cs hp
    exact ⟨vs, e, h1, h2.frame hle (Fix.refl _ _)⟩
  · rintro p hp o (hF | ⟨hb, _⟩)
    · exact h.boxF p hp o hF
    · simp only [Option.some.injEq] at hb; exact f3 p hp hb.symm
  · intro t ht
    rcases List.mem_cons.1 ht with rfl | ht
    · refine ⟨h2, Nat.lt_succ_self _, .inr ⟨b, cur, e, n1, f1, hblk, ?_, ?_, ?_, ?_, ?_, ?_, fun p hp => f3 p hp⟩⟩
      · rw [n2, n4]; exact hsz
      · rw [n2, n3]; exact hl
      · rw [n2]; exact hm
      · rw [n4]; exact hn
      · rw [n3]; omega
      · rintro o (hF | ⟨_, ho⟩)
        · exact absurd hF (f2 o)
        · rw [n3, n4]; exact ho
    · obtain ⟨a1, a2, a3⟩ := h.tok t ht
      obtain ⟨k1, k2, k3, k4⟩ := hle.tk t a2
      refine ⟨a1, Nat.lt_succ_of_lt a2, ?_⟩
      rw [k1, k2, k3, k4]
      rcases a3 with a3 | ⟨b', cur', e', c1, c2, c3, c4, c5, c6, c7, c8, c9, c10⟩
      · exact .inl a3
      · refine .inr ⟨b', cur', e', c1, c2, c3, c4, c5, c6, c7, c8, ?_, c10⟩
        rintro o (hF | ⟨hb, _⟩)
        · exact c9 o hF
        · simp only [Option.some.injEq] at hb; subst hb; exact absurd c1 (f4 t ht)
  · intro t s b' ht hs e1 e2
    have key : ∀ t ∈ live, (C.tok (some b) cap len n).tk t = C.tk t := fun t ht => (hle.tk t (h.tok t ht).2.1).1
    rcases List.mem_cons.1 ht with rfl | ht <;> rcases List.mem_cons.1 hs with rfl | hs
    · rfl
    · rw [n1] at e1; simp only [Option.some.injEq] at e1; subst e1
      rw [key s hs] at e2; exact absurd e2 (f4 s hs)
    · rw [n1] at e2; simp only [Option.some.injEq] at e2; subst e2
      rw [key t ht] at e1; exact absurd e1 (f4 t ht)
    · rw [key t ht] at e1; rw [key s hs] at e2; exact h.tinj t s b' ht hs e1 e2
  · rintro b' o (hF | ⟨hb, _⟩)
    · exact h.fin b' o hF
    · simp only [Option.some.injEq] at hb; subst hb; exact heap_lt hblk

mutual
/-- a tree of blocks that nobody knows yet: they have names now -/
theorem names_of : ∀ {d : D} {fp : List Nat} {vs : List Value} {C : Cx} {live : List Nat}, TreeC w d fp vs → d.wf → fp.Nodup → Inv NG T C bx (· ∈ live) w → 2 ≤ C.nt → Fr NG C bx live fp →
    ∃ C' cs new, Nmd NG T bx w C live fp C' new (toksL cs) ∧ RpL C' w cs vs ∧ erL cs = d.pc ∧ ownedL cs = true
  | .one v, fp, vs, C, live, h, hw, hn, hI, h2, hf => by
    simp only [TreeC] at h; obtain ⟨rfl, rfl⟩ := h
    simp only [D.wf] at hw
    exact ⟨C, [.v v], [], Nmd.refl hI, .one1 (.v v hw), rfl, rfl⟩
  | .agg fs, fp, vs, C, live, h, hw, hn, hI, h2, hf => by
    simp only [TreeC] at h; simp only [D.wf] at hw; simp only [D.pc]
    exact names_ofs h hw hn hI h2 hf
  | .sl n es, fp, vs, C, live, h, hw, hn, hI, h2, hf => by
    simp only [TreeC] at h; simp only [D.wf] at hw
    obtain ⟨a, c, rfl, ⟨rfl, rfl⟩ | ⟨b, fr, cur, e, rfl, rfl, hb, hn0, hl, hm, hwd, ht⟩⟩ := h
    · exact ⟨C, [.sl 0 []], [], Nmd.refl hI, .one1 (.emp a c), rfl, rfl⟩
    · rw [List.nodup_cons] at hn
      obtain ⟨C1, rows, new, k1, k2, k3, k4, k5, k6⟩ := names_ofE ht hwd hw.2 hn.2 hI h2 (fun b' hb' => hf b' (by simp [hb']))
      by_cases hes : es = []
      · subst hes
        have : rows = [] := by simp only [D.pcE] at k3; rw [erLL_map] at k3; simpa using k3
        subst this
        exact ⟨C1, [.sl 0 []], new, ⟨k1.le, k1.inv, k1.nd, k1.sub, k1.rng, fun b o hF => (k1.F b o hF).imp id fun h => by simp [h], fun t ht => by
          obtain ⟨b', hb', e'⟩ := k1.tkb t ht; exact ⟨b', by simp [hb'], e'⟩⟩, .one1 (.emp _ _), rfl, rfl⟩
      · have hlen : rows.length = es.length := by
          have := congrArg List.length k3
          rw [erLL_map, D.pcE_map] at this; simpa using this
        have hpos : 0 < es.length := by cases es with | nil => exact absurd rfl hes | cons => simp
        have h21 : 2 ≤ C1.nt := Nat.le_trans h2 k1.le.nt
        have hf1 : Fr NG C1 bx (new ++ live) [b] := Fr.next hI k1 (fun b' hb' => hf b' (by simp at hb'; simp [hb'])) (fun b' hb' he => by simp at he; subst he; exact hn.1 hb')
        have hI2 := k1.inv.addTok h21 (cap := c) (len := rows.length) (n := n) hf1 hb hl.2 (by rw [hlen]; exact hl.1) hm hn0 (by rw [hlen]; exact hpos)
        have hown := own_new (C := C1) (w := w) (w' := w) (b := b) (cap := c) (n := n) (es := rows) (fl := cur.toList.take (n * es.length)) h21 hn0 k5 k2 (fun q y hq => by
          rw [cell_of_block hb]
          rw [List.getElem?_take] at hq
          split at hq
          · simpa using hq
          · cases hq) (by rw [hlen]; exact hl.1) hm (Fix.refl _ _)
        have hle := Cx.tok_le C1 (some b) c rows.length n
        have n1 := (Cx.tok_new C1 (some b) c rows.length n).1
        rw [hlen] at hown
        refine ⟨C1.tok (some b) c rows.length n, [.sl C1.nt rows], C1.nt :: new, ⟨k1.le.trans hle, hI2, ?_, ?_, ?_, ?_, ?_⟩, .one1 (by rw [hlen]; exact hown), ?_, ?_⟩
        · simp only [toksL, PC.toks, if_pos h21, List.append_nil]
          rw [List.nodup_cons]
          exact ⟨fun hm => by have := (k1.rng _ (k1.sub _ hm)).2; omega, k1.nd⟩
        · intro t ht
          simp only [toksL, PC.toks, if_pos h21, List.append_nil, List.mem_cons] at ht
          rcases ht with rfl | ht
          · simp
          · simp [k1.sub t ht]
        · intro t ht
          have : (C1.tok (some b) c rows.length n).nt = C1.nt + 1 := rfl
          rcases List.mem_cons.1 ht with rfl | ht
          · have := k1.le.nt; omega
          · have := k1.rng t ht; omega
        · rintro b' o (hF | ⟨hb', _⟩)
          · exact (k1.F b' o hF).imp id fun h => by simp [h]
          · simp only [Option.some.injEq] at hb'; subst hb'; exact .inr (by simp)
        · intro t ht
          rcases List.mem_cons.1 ht with rfl | ht
          · exact ⟨b, by simp, n1⟩
          · obtain ⟨b', hb', e'⟩ := k1.tkb t ht
            exact ⟨b', by simp [hb'], ((hle.tk t (k1.rng t ht).2).1).trans e'⟩
        · simp only [erL, PC.er, k3, D.pc]
        · have : C1.nt ≠ 0 := by omega
          simp [ownedL, PC.owned, k4, this]
theorem names_ofs : ∀ {ds : List D} {fp : List Nat} {vs : List Value} {C : Cx} {live : List Nat}, TreeCs w ds fp vs → D.wfs ds → fp.Nodup → Inv NG T C bx (· ∈ live) w → 2 ≤ C.nt → Fr NG C bx live fp →
    ∃ C' cs new, Nmd NG T bx w C live fp C' new (toksL cs) ∧ RpL C' w cs vs ∧ erL cs = D.pcs ds ∧ ownedL cs = true
  | [], fp, vs, C, live, h, _, hn, hI, h2, hf => by
    simp only [TreeCs] at h; obtain ⟨rfl, rfl⟩ := h
    exact ⟨C, [], [], Nmd.refl hI, .nil, rfl, rfl⟩
  | d :: ds, fp, vs, C, live, h, hw, hn, hI, h2, hf => by
    simp only [TreeCs] at h; obtain ⟨f1, f2, c1, c2, rfl, rfl, hl, h1, h3⟩ := h
    simp only [D.wfs] at hw
    rw [List.nodup_append] at hn
    obtain ⟨C1, cs1, new1, a1, a2, a3, a4⟩ := names_of h1 hw.1 hn.1 hI h2 (fun b hb => hf b (by simp [hb]))
    obtain ⟨C2, cs2, new2, b1, b2, b3, b4⟩ := names_ofs h3 hw.2 hn.2.1 a1.inv (Nat.le_trans h2 a1.le.nt) (Fr.next hI a1 (fun b hb => hf b (by simp [hb])) (fun b hb hb2 => hn.2.2 b hb b hb2 rfl))
    refine ⟨C2, cs1 ++ cs2, new2 ++ new1, by rw [toksL_append]; exact a1.trans b1, (a2.frame b1.le (Fix.refl _ _)).append b2, ?_, by rw [ownedL_append, a4, b4]; rfl⟩
    simp only [D.pcs]; rw [erL_map, List.map_append, ← erL_map, ← erL_map, a3, b3]
theorem names_ofE {n : Nat} : ∀ {es : List D} {fp : List Nat} {vs : List Value} {C : Cx} {live : List Nat}, TreeCs w es fp vs → (∀ e ∈ es, D.width e = n) → D.wfs es → fp.Nodup → Inv NG T C bx (· ∈ live) w → 2 ≤ C.nt → Fr NG C bx live fp →
    ∃ C' rows new, Nmd NG T bx w C live fp C' new (toksLL rows) ∧ RpL C' w rows.flatten vs ∧ erLL rows = D.pcE es ∧ ownedLL rows = true ∧ (∀ r ∈ rows, r.length = n) ∧ True
  | [], fp, vs, C, live, h, _, _, hn, hI, h2, hf => by
    simp only [TreeCs] at h; obtain ⟨rfl, rfl⟩ := h
    exact ⟨C, [], [], Nmd.refl hI, .nil, rfl, rfl, by simp, trivial⟩
  | d :: ds, fp, vs, C, live, h, hwd, hw, hn, hI, h2, hf => by
    simp only [TreeCs] at h; obtain ⟨f1, f2, c1, c2, rfl, rfl, hl, h1, h3⟩ := h
    simp only [D.wfs] at hw
    rw [List.nodup_append] at hn
    obtain ⟨C1, cs1, new1, a1, a2, a3, a4⟩ := names_of h1 hw.1 hn.1 hI h2 (fun b hb => hf b (by simp [hb]))
    obtain ⟨C2, cs2, new2, b1, b2, b3, b4, b5, _⟩ := names_ofE h3 (fun e he => hwd e (by simp [he])) hw.2 hn.2.1 a1.inv (Nat.le_trans h2 a1.le.nt) (Fr.next hI a1 (fun b hb => hf b (by simp [hb])) (fun b hb hb2 => hn.2.2 b hb b hb2 rfl))
    refine ⟨C2, cs1 :: cs2, new2 ++ new1, by simp only [toksLL]; exact a1.trans b1, by rw [List.flatten_cons]; exact (a2.frame b1.le (Fix.refl _ _)).append b2, by simp only [erLL, D.pcE, a3, b3], by simp only [ownedLL, a4, b4]; rfl, fun r hr => ?_, trivial⟩
    rcases List.mem_cons.1 hr with rfl | hr
    · rw [← hwd d (by simp), ← D.pc_len, ← a3, erL_map]; simp
    · exact b5 r hr
end
end

/-- a contract of a function that returns a struct in memory of its own -/
theorem FnO.old {E : Env} {f : Nat} {args : List PV} {d : D} (hd : d.wf) (h : ∀ (w : World) (C : Cx) (vs : List Value), (∀ b o, C.F b o → b < w.heap.size) → E.NG ≤ w.heap.size → E.T w → vs.length = args.length → (∀ (j : Nat) (x : PV) (y : Value), args[j]? = some x → vs[j]? = some y → RpV C w x y) →
    Calls E.P f vs.toArray w fun e w' => ∃ cs, e = .returned (.agg (List.toArray cs)) ∧ Below w.heap.size w w' ∧ Own w.heap.size w' d cs) : FnO E f args (.ag d.pc) := by
  intro C w vs hI hnt hold hl hv
  refine (h w C vs hI.fin hI.ng hI.t hl hv).mono ?_
  rintro e w' ⟨cs, rfl, hb, fp, hnd, hfp, ht⟩
  have hF : Fix C w w' := .of (fun b o hF => World.cell?_of_block (a := ⟨b, o, none⟩) (hb.block b (hI.fin b o hF))) hb.block
  have hI1 : Inv E.NG E.T C [] (· ∈ ([] : List Nat)) w' := ⟨hI.nb, fun p cs hp => by simp at hp, fun p hp => by simp at hp, fun p hp => by simp at hp, fun p q hp => by simp at hp, (fun t ht => by cases ht), (fun t s b ht => by cases ht), fun b o h => Nat.lt_of_lt_of_le (hI.fin b o h) hb.size, Nat.le_trans hI.ng hb.size, E.low w w' hI.t hb.size (fun k hk => hb.block k (Nat.lt_of_lt_of_le hk hI.ng))⟩
  obtain ⟨C', pcs, new, k1, k2, k3, k4⟩ := names_of ht hd hnd hI1 (by rw [hnt]; exact Nat.le_refl 2) (fun b hb' => ⟨Nat.le_trans hI.ng (hfp b hb'), fun o hFo => by have := hI.fin b o hFo; have := hfp b hb'; omega, fun p hp => by simp at hp, fun t ht => by cases ht⟩)
  refine ⟨_, .ag pcs, [], (· ∈ new ++ []), C', rfl, ⟨?_, k1.nd, fun t ht => List.mem_append.2 (.inl (k1.sub t ht)), k4⟩, k1.inv, ?_, .ag _ _ k2⟩
  · show some (PV.ag (erL pcs)) = _; rw [k3]
  · refine ⟨hb.os, hb.tape, hb.output, hb.size, k1.le.F, hF, fun k hk _ _ => hb.block k hk, ⟨k1.le.nb, k1.le.bx⟩, ?_, ?_, (fun p hp hp2 => by simp at hp2), ⟨k1.le.nt, k1.le.tk⟩⟩
    · intro b o hF'
      rcases k1.F b o hF' with h | h
      · exact .inl h
      · exact .inr (.inl (hfp b h))
    · intro t b ht hb2
      rw [List.append_nil] at ht
      obtain ⟨b', hb', e'⟩ := k1.tkb t ht
      rw [e'] at hb2; simp only [Option.some.injEq] at hb2; subst hb2; exact .inl (hfp b' hb')

/-- a contract in a world of which more is known -/
theorem Fn.up {E E' : Env} (hP : E'.P = E.P) (hN : E.NG ≤ E'.NG) (hT : ∀ w, E'.T w → E.T w) {f : Nat} {args : List PV} {R : PV → (Nat → Prop) → Prop} (h : Fn E f args R) : Fn E' f args R := by
  intro C w vs hI hnt hold hl hv
  rw [hP]
  refine (h C w vs ⟨hI.nb, fun p cs hp => by simp at hp, fun p hp => by simp at hp, fun p hp => by simp at hp, fun p q hp => by simp at hp, fun t ht => ht.elim, fun t s b ht => ht.elim, hI.fin, Nat.le_trans hN hI.ng, hT w hI.t⟩ hnt hold hl hv).mono ?_
  rintro e w' ⟨u, x, bx, live, C', e1, e2, e3, e4, e5⟩
  have hnb : C.nb = 0 := hI.nb
  refine ⟨u, x, bx, live, C', e1, e2, ⟨e3.nb, e3.box, e3.boxF, fun p hp => ?_, e3.inj, fun t ht => ?_, e3.tinj, e3.fin, Nat.le_trans hI.ng e4.size, E'.low w w' hI.t e4.size (fun k hk => e4.block0 hold k (Nat.lt_of_lt_of_le hk hI.ng) (fun p hp => by omega))⟩, e4, e5⟩
  · exact Nat.le_trans hI.ng (e4.newB p (by omega) hp)
  · obtain ⟨a1, a2, a3⟩ := e3.tok t ht
    refine ⟨a1, a2, a3.imp id ?_⟩
    rintro ⟨b, cur, e, c1, c2, c3⟩
    exact ⟨b, cur, e, c1, Nat.le_trans hI.ng (e4.newT0 hold t b ht c1), c3⟩
end Go.Proofs.YthngfihpnfoppaaDoor

namespace Go.Proofs.YthngfihpnfoppaaDoor
open Go.RowKit

/-- w' is w with new blocks and writes to blocks that meet S -/
structure Keep (S : Nat → Prop) (w w' : World) : Prop where
  os : w'.os = w.os
  tape : w'.tape = w.tape
  output : w'.output = w.output
  size : w.heap.size ≤ w'.heap.size
  block : ∀ k, k < w.heap.size → ¬ S k → w'.heap[k]? = w.heap[k]?
theorem Keep.refl (S : Nat → Prop) (w : World) : Keep S w w := ⟨rfl, rfl, rfl, Nat.le_refl _, fun _ _ _ => rfl⟩
theorem Keep.trans {S : Nat → Prop} {a b c : World} (h : Keep S a b) (k : Keep S b c) : Keep S a c :=
  ⟨k.os.trans h.os, k.tape.trans h.tape, k.output.trans h.output, Nat.le_trans h.size k.size, fun i hi hs => (k.block i (Nat.lt_of_lt_of_le hi h.size) hs).trans (h.block i hi hs)⟩
theorem Keep.mono {S T : Nat → Prop} {a b : World} (h : Keep S a b) (hs : ∀ k, k < a.heap.size → S k → T k) : Keep T a b := ⟨h.os, h.tape, h.output, h.size, fun k hk ht => h.block k hk fun hS => ht (hs k hk hS)⟩
/-- what is written was made since -/
theorem Keep.thin {S T : Nat → Prop} {a b c : World} (h : Keep S a b) (k : Keep T b c) (hs : ∀ k, k < a.heap.size → T k → S k) : Keep S a c :=
  ⟨k.os.trans h.os, k.tape.trans h.tape, k.output.trans h.output, Nat.le_trans h.size k.size, fun i hi hn => (k.block i (Nat.lt_of_lt_of_le hi h.size) fun ht => hn (hs i hi ht)).trans (h.block i hi hn)⟩
theorem Keep.of_below {S : Nat → Prop} {w w' : World} (h : Below w.heap.size w w') : Keep S w w' := ⟨h.os, h.tape, h.output, h.size, fun k hk _ => h.block k hk⟩
theorem Keep.below {S : Nat → Prop} {w w' : World} {B : Nat} (h : Keep S w w') (hB : B ≤ w.heap.size) (hs : ∀ k, k < B → ¬ S k) : Below B w w' := ⟨h.os, h.tape, h.output, h.size, fun k hk => h.block k (Nat.lt_of_lt_of_le hk hB) (hs k hk)⟩
theorem Keep.then {S : Nat → Prop} {a b c : World} (h : Keep S a b) (k : Below b.heap.size b c) : Keep S a c := h.trans (Keep.of_below k)
theorem Keep.alloc {S : Nat → Prop} {a w : World} (h : Keep S a w) (o : Obj) : Keep S a (w.alloc o) := h.then ((Below.refl _ _).alloc (Nat.le_refl _) o)
theorem Keep.drew {S : Nat → Prop} {a w : World} (h : Keep S a w) : Keep S a w.drew := ⟨h.os, h.tape, h.output, h.size, h.block⟩
theorem Keep.drewN {S : Nat → Prop} {a w : World} (h : Keep S a w) : ∀ n, Keep S a (w.drewN n)
  | 0 => h
  | n + 1 => (h.drewN n).drew
theorem Keep.setCell {S : Nat → Prop} {a w : World} (h : Keep S a w) {p : Addr} (hp : S p.block ∨ a.heap.size ≤ p.block) (u : Value) : Keep S a (w.setCell p u) :=
  ⟨h.os, h.tape, h.output, by simpa [World.setCell] using h.size, fun k hk hs => (Below.heap_setCell w p u k (by
    rintro rfl
    rcases hp with hp | hp
    · exact hs hp
    · omega)).trans (h.block k hk hs)⟩
theorem Keep.cell {S : Nat → Prop} {w w' : World} (h : Keep S w w') {b o : Nat} (hb : b < w.heap.size) (hs : ¬ S b) : w'.cell? ⟨b, o, none⟩ = w.cell? ⟨b, o, none⟩ := World.cell?_of_block (a := ⟨b, o, none⟩) (h.block b hb hs)
theorem Keep.frozen {S : Nat → Prop} {w w' : World} (h : Keep S w w') {b o : Nat} (hb : b < w.heap.size) (hs : ¬ S b) : w'.frozen? ⟨b, o, none⟩ = w.frozen? ⟨b, o, none⟩ := World.frozen?_of_block (a := ⟨b, o, none⟩) (h.block b hb hs)

/-- read as data that lies below block N -/
def RdN (N : Nat) (w : World) (d : D) (cs : List Value) : Prop := RepC (· < N) w d cs
theorem RdN.rd {N : Nat} {w : World} {d : D} {cs : List Value} (h : RdN N w d cs) : Rd w d cs := Rd.of h
theorem Rd.rdN {w : World} {d : D} {cs : List Value} (h : Rd w d cs) : RdN w.heap.size w d cs := h
theorem RdN.below {N : Nat} {w w' : World} {d : D} {cs : List Value} (h : RdN N w d cs) (hb : Below N w w') : RdN N w' d cs := RepC.frame (fun b hlt => hb.block b hlt) h
theorem RdN.keep {N : Nat} {S : Nat → Prop} {w w' : World} {d : D} {cs : List Value} (h : RdN N w d cs) (hk : Keep S w w') (hN : N ≤ w.heap.size) (hs : ∀ k, k < N → ¬ S k) : RdN N w' d cs := h.below (hk.below hN hs)
theorem RdN.mono {N M : Nat} {w : World} {d : D} {cs : List Value} (h : RdN N w d cs) (hM : N ≤ M) : RdN M w d cs := RepC.mono (fun _ _ hb => Nat.lt_of_lt_of_le hb hM) h

/-- one level of a shape -/
theorem Sh.layS {S : Nat → Prop} {w : World} {sh : Sh} {cs : List Value} (h : RepC S w sh.d cs) : ∃ k l hi ks m kids v1 v2, sh = .mk k l hi ks m kids ∧ cs = [.int .i64 k, .int .i64 l, .int .i64 hi, v1, .int .i64 m, v2] ∧
    RepC S w (dSs ks) [v1] ∧ RepC S w (.sl 6 (Sh.ds kids)) [v2] := by
  obtain ⟨k, l, hi, ks, m, kids⟩ := sh
  simp only [Sh.d, RepC, RepCs, dI, dSs, D.width] at h
  obtain ⟨c1, r1, rfl, _, rfl, c2, r2, rfl, _, rfl, c3, r3, rfl, _, rfl, c4, r4, rfl, _, ⟨a4, n4, rfl, h4⟩, c5, r5, rfl, _, rfl, c6, r6, rfl, _, ⟨a6, n6, rfl, h6⟩, rfl⟩ := h
  refine ⟨k, l, hi, ks, m, kids, _, _, rfl, rfl, ?_, ?_⟩
  · simp only [dSs, RepC]; exact ⟨a4, n4, rfl, h4⟩
  · simp only [RepC]; exact ⟨a6, n6, rfl, h6⟩
/-- one level of a value -/
theorem V.layS {S : Nat → Prop} {w : World} {v : V} {cs : List Value} (h : RepC S w v.d cs) : ∃ k n e s kids v1, v = .mk k n e s kids ∧ cs = [.int .i64 k, .int .i64 n, .int .i64 e, .string ⟨s.toArray⟩, v1] ∧ RepC S w (.sl 5 (V.ds kids)) [v1] := by
  obtain ⟨k, n, e, s, kids⟩ := v
  simp only [V.d, RepC, RepCs, dI, dS, D.width] at h
  obtain ⟨c1, r1, rfl, _, rfl, c2, r2, rfl, _, rfl, c3, r3, rfl, _, rfl, c4, r4, rfl, _, rfl, c5, r5, rfl, _, ⟨a5, n5, rfl, h5⟩, rfl⟩ := h
  refine ⟨k, n, e, s, kids, _, rfl, rfl, ?_⟩
  simp only [RepC]; exact ⟨a5, n5, rfl, h5⟩
/-- a slice -/
theorem RepC.slice {S : Nat → Prop} {w : World} {n : Nat} {es : List D} {v : Value} (h : RepC S w (.sl n es) [v]) :
    ∃ a c, v = .slice a es.length c ∧ (es ≠ [] → 0 < n ∧ es.length ≤ c ∧ c ≤ maxLen ∧ ∃ b o, a = some ⟨b, o, none⟩ ∧ S b ∧
      ∀ i (hi : i < es.length), ∃ cs, cs.length = n ∧ RepC S w es[i] cs ∧ ∀ j u, cs[j]? = some u → w.cell? ⟨b, o + (n * i + j), none⟩ = some u) := by
  simp only [RepC] at h
  obtain ⟨a, c, hv, h⟩ := h
  simp only [List.cons.injEq, and_true] at hv
  refine ⟨a, c, hv, fun hne => ?_⟩
  obtain ⟨hn, h1, h2, b, o, xs, ha, hb, hx, hw, hr⟩ := h hne
  refine ⟨hn, h1, h2, b, o, ha, hb, fun i hi => ?_⟩
  obtain ⟨cs, hc1, hc2, hc3⟩ := hr.get hw i hi
  refine ⟨cs, hc1, hc2, fun j u hj => hx _ _ ?_⟩
  have : j < cs.length := by
    rcases Nat.lt_or_ge j cs.length with h | h
    · exact h
    · simp [List.getElem?_eq_none h] at hj
  rw [hc3 j (by omega)]; exact hj
/-- a slice of shapes -/
theorem RepC.shapes {S : Nat → Prop} {w : World} {ls : List Sh} {v : Value} (h : RepC S w (.sl 6 (Sh.ds ls)) [v]) :
    ∃ a c, v = .slice a ls.length c ∧ (ls ≠ [] → ls.length ≤ c ∧ c ≤ maxLen ∧ ∃ b o, a = some ⟨b, o, none⟩ ∧ S b ∧ ∀ i (hi : i < ls.length), ∃ v0 v1 v2 v3 v4 v5, RepC S w ls[i].d [v0, v1, v2, v3, v4, v5] ∧
      w.cell? ⟨b, o + i * 6, none⟩ = some v0 ∧ w.cell? ⟨b, o + i * 6 + 1, none⟩ = some v1 ∧ w.cell? ⟨b, o + i * 6 + 2, none⟩ = some v2 ∧ w.cell? ⟨b, o + i * 6 + 3, none⟩ = some v3 ∧ w.cell? ⟨b, o + i * 6 + 4, none⟩ = some v4 ∧ w.cell? ⟨b, o + i * 6 + 5, none⟩ = some v5) := by
  rw [Sh.ds_map] at h
  obtain ⟨a, c, hv, h⟩ := RepC.slice h
  rw [List.length_map] at hv
  refine ⟨a, c, hv, fun hne => ?_⟩
  obtain ⟨_, h1, h2, b, o, ha, hb, hg⟩ := h (by simpa using hne)
  refine ⟨by simpa using h1, h2, b, o, ha, hb, fun i hi => ?_⟩
  obtain ⟨cs, hl, hr, hc⟩ := hg i (by simpa using hi)
  rw [List.getElem_map] at hr
  match cs, hl with
  | [v0, v1, v2, v3, v4, v5], _ =>
    rw [Nat.mul_comm 6 i] at hc
    exact ⟨v0, v1, v2, v3, v4, v5, hr, hc 0 _ rfl, hc 1 _ rfl, hc 2 _ rfl, hc 3 _ rfl, hc 4 _ rfl, hc 5 _ rfl⟩
/-- a slice of values -/
theorem RepC.values {S : Nat → Prop} {w : World} {ls : List V} {v : Value} (h : RepC S w (.sl 5 (V.ds ls)) [v]) :
    ∃ a c, v = .slice a ls.length c ∧ (ls ≠ [] → ls.length ≤ c ∧ c ≤ maxLen ∧ ∃ b o, a = some ⟨b, o, none⟩ ∧ S b ∧ ∀ i (hi : i < ls.length), ∃ v0 v1 v2 v3 v4, RepC S w ls[i].d [v0, v1, v2, v3, v4] ∧
      w.cell? ⟨b, o + i * 5, none⟩ = some v0 ∧ w.cell? ⟨b, o + i * 5 + 1, none⟩ = some v1 ∧ w.cell? ⟨b, o + i * 5 + 2, none⟩ = some v2 ∧ w.cell? ⟨b, o + i * 5 + 3, none⟩ = some v3 ∧ w.cell? ⟨b, o + i * 5 + 4, none⟩ = some v4) := by
  rw [V.ds_map] at h
  obtain ⟨a, c, hv, h⟩ := RepC.slice h
  rw [List.length_map] at hv
  refine ⟨a, c, hv, fun hne => ?_⟩
  obtain ⟨_, h1, h2, b, o, ha, hb, hg⟩ := h (by simpa using hne)
  refine ⟨by simpa using h1, h2, b, o, ha, hb, fun i hi => ?_⟩
  obtain ⟨cs, hl, hr, hc⟩ := hg i (by simpa using hi)
  rw [List.getElem_map] at hr
  match cs, hl with
  | [v0, v1, v2, v3, v4], _ =>
    rw [Nat.mul_comm 5 i] at hc
    exact ⟨v0, v1, v2, v3, v4, hr, hc 0 _ rfl, hc 1 _ rfl, hc 2 _ rfl, hc 3 _ rfl, hc 4 _ rfl⟩
theorem Sh.formS {S : Nat → Prop} {w : World} {sh : Sh} {cs : List Value} (h : RepC S w sh.d cs) : ∃ k l hi a1 n1 c1 m a2 n2 c2, cs = [.int .i64 k, .int .i64 l, .int .i64 hi, .slice a1 n1 c1, .int .i64 m, .slice a2 n2 c2] := Sh.form (Rd.of h)
theorem V.formS {S : Nat → Prop} {w : World} {v : V} {cs : List Value} (h : RepC S w v.d cs) : ∃ k n e s a1 n1 c1, cs = [.int .i64 k, .int .i64 n, .int .i64 e, .string ⟨(s : List UInt8).toArray⟩, .slice a1 n1 c1] := V.form (Rd.of h)
end Go.Proofs.YthngfihpnfoppaaDoor

namespace Go.Proofs.YthngfihpnfoppaaDoor
open Go.RowKit

mutual
/-- all rows that it names are known by a list -/
def PC.fine (L : Nat → Prop) : PC → Prop
  | .v _ => True
  | .bld _ _ _ _ => False
  | .anyp => True
  | .row _ _ _ => True
  | .sl t es => es = [] ∨ ((t = 1 ∨ L t) ∧ fineLL L es)
def fineL (L : Nat → Prop) : List PC → Prop
  | [] => True
  | c :: cs => PC.fine L c ∧ fineL L cs
def fineLL (L : Nat → Prop) : List (List PC) → Prop
  | [] => True
  | l :: ls => fineL L l ∧ fineLL L ls
end
theorem fineL_get {L : Nat → Prop} : ∀ {cs : List PC} (j : Nat) (c : PC), fineL L cs → cs[j]? = some c → c.fine L
  | c :: cs, 0, _, h, e => by simp at e; subst e; exact h.1
  | c :: cs, j + 1, _, h, e => fineL_get j _ h.2 (by simpa using e)
theorem fineLL_get {L : Nat → Prop} : ∀ {cs : List (List PC)} (j : Nat) (c : List PC), fineLL L cs → cs[j]? = some c → fineL L c
  | c :: cs, 0, _, h, e => by simp at e; subst e; exact h.1
  | c :: cs, j + 1, _, h, e => fineLL_get j _ h.2 (by simpa using e)
mutual
theorem fine_of {L : Nat → Prop} : ∀ {c : PC}, c.owned = true → (∀ t ∈ c.toks, L t) → c.fine L
  | .v _, _, _ => by simp only [PC.fine]
  | .bld _ _ _ _, ho, _ => by simp [PC.owned] at ho
  | .anyp, _, _ => by simp only [PC.fine]
  | .row _ _ _, _, _ => by simp only [PC.fine]
  | .sl t es, ho, h => by
    simp only [PC.owned, Bool.and_eq_true, Bool.or_eq_true, decide_eq_true_eq] at ho
    simp only [PC.fine]
    simp only [PC.toks] at h
    rcases ho.1 with h0 | h0
    · refine .inr ⟨?_, fineLL_of ho.2 fun s hs => h s (by split <;> simp [hs])⟩
      by_cases h2 : 2 ≤ t
      · exact .inr (h t (by rw [if_pos h2]; simp))
      · exact .inl (by omega)
    · exact .inl (List.isEmpty_iff.1 h0)
theorem fineL_of {L : Nat → Prop} : ∀ {c : List PC}, ownedL c = true → (∀ t ∈ toksL c, L t) → fineL L c
  | [], _, _ => by simp only [fineL]
  | c :: cs, ho, h => by
    simp only [ownedL, Bool.and_eq_true] at ho
    simp only [toksL, List.mem_append] at h
    simp only [fineL]
    exact ⟨fine_of ho.1 fun t ht => h t (.inl ht), fineL_of ho.2 fun t ht => h t (.inr ht)⟩
theorem fineLL_of {L : Nat → Prop} : ∀ {c : List (List PC)}, ownedLL c = true → (∀ t ∈ toksLL c, L t) → fineLL L c
  | [], _, _ => by simp only [fineLL]
  | c :: cs, ho, h => by
    simp only [ownedLL, Bool.and_eq_true] at ho
    simp only [toksLL, List.mem_append] at h
    simp only [fineLL]
    exact ⟨fineL_of ho.1 fun t ht => h t (.inl ht), fineLL_of ho.2 fun t ht => h t (.inr ht)⟩
end
/-- plain cells are fine -/
theorem fineL_raw {L : Nat → Prop} : ∀ vs : List Value, fineL L (vs.map .v)
  | [] => by simp only [List.map_nil, fineL]
  | v :: vs => by simp only [List.map_cons, fineL, PC.fine, true_and]; exact fineL_raw vs
def fineV (L : Nat → Prop) : PV → Prop
  | .d c => c.fine L
  | .ag cs => fineL L cs
  | .ref _ _ => True
  | .raw _ => True
  | _ => False
/-- blocks that are no longer fixed -/
def Cx.cut (C : Cx) (S : Nat → Prop) : Cx := { C with F := fun b o => C.F b o ∧ ¬ S b }

section
variable {E : Env} {B : Base} {C : Cx} {s : St} {a : Act} {w w' : World} {S : Nat → Prop} {L : List Nat}

theorem fine_rp (hI : Inv E.NG E.T C s.bx (· ∈ s.live) w) (hk : Keep S w w') (hS : ∀ b, S b → ∃ t ∈ s.live, C.tk t = some b ∧ t ∉ L) (hL : ∀ t ∈ L, t ∈ s.live) {c : PC} {v : Value} (h : RpC C w c v) : c.fine (· ∈ L) → RpC (C.cut S) w' c v := by
  induction h with
  | v x h => intro _; exact .v x h
  | bld p T t U v h cs fz ht hv hU => intro hf; exact hf.elim
  | anyp a h => intro _; exact .anyp a h
  | row p l c h hl hc => intro _; exact .row (C := C.cut S) p l c h hl hc
  | emp a c => intro _; exact .emp a c
  | nil => intro _; exact .nil
  | nilo t h2 ht hb => intro _; exact .nilo t h2 ht hb
  | rd es b o n c u hl hc hr h ih =>
    intro hf
    simp only [PC.fine] at hf
    rcases hf with rfl | ⟨h1 | h1, _⟩
    · exact .emp _ _
    · cases h1
    · have := (hI.tok 0 (hL 0 h1)).1; omega
  | own t es b u h2 ht hb hlen hl hc hr h ih =>
    intro hf
    simp only [PC.fine] at hf
    rcases hf with rfl | ⟨h1, hf⟩
    · refine .own (C := C.cut S) t [] b u h2 ht hb hlen hl hc ⟨hr.pos, hr.wid, fun i j hi => by simp at hi, fun i j hi => by simp at hi⟩ (fun i j e y he => by simp at he)
    · have h1 : t ∈ L := h1.resolve_left (by omega)
      have hnS : ¬ S b := by
        intro hSb
        obtain ⟨t', ht', e', hn'⟩ := hS b hSb
        have := hI.tinj t t' b (hL t h1) ht' hb e'
        subst this; exact hn' h1
      have hlt : ∀ i j, i < es.length → j < C.tn t → b < w.heap.size := fun i j hi hj => hI.fin b _ (hr.fix i j hi hj)
      refine .own (C := C.cut S) t es b u h2 ht hb hlen hl hc ⟨hr.pos, hr.wid, fun i j hi hj => ?_, fun i j hi hj => ⟨hr.fix i j hi hj, hnS⟩⟩ (fun i j e y he hy => ih i j e y he hy (fineL_get j y (fineLL_get i e hf he) hy))
      exact (World.cell?_of_block (a := ⟨b, 0 + (C.tn t * i + j), none⟩) (hk.block b (hlt i j hi hj) hnS)).trans (hr.cell i j hi hj)
theorem fineL_rp (hI : Inv E.NG E.T C s.bx (· ∈ s.live) w) (hk : Keep S w w') (hS : ∀ b, S b → ∃ t ∈ s.live, C.tk t = some b ∧ t ∉ L) (hL : ∀ t ∈ L, t ∈ s.live) {cs : List PC} {vs : List Value} (h : RpL C w cs vs) (hf : fineL (· ∈ L) cs) : RpL (C.cut S) w' cs vs :=
  ⟨h.1, fun j c y h1 h2 => fine_rp hI hk hS hL (h.2 j c y h1 h2) (fineL_get j c hf h1)⟩
theorem fineV_rp (hI : Inv E.NG E.T C s.bx (· ∈ s.live) w) (hk : Keep S w w') (hS : ∀ b, S b → ∃ t ∈ s.live, C.tk t = some b ∧ t ∉ L) (hL : ∀ t ∈ L, t ∈ s.live) {x : PV} {v : Value} (h : RpV C w x v) (hf : fineV (· ∈ L) x) : RpV (C.cut S) w' x v := by
  cases h with
  | d x v h => exact .d _ _ (fine_rp hI hk hS hL h hf)
  | ag cs vs h => exact .ag _ _ (fineL_rp hI hk hS hL h hf)
  | ref p o h => exact .ref (C := C.cut S) p o h
  | raw v => exact .raw v
  | tup xs vs hl h => exact hf.elim
  | pt cs b o u hc hF h => exact hf.elim
  | fn f xs vs hl h => exact hf.elim
end

/-- boxes: those marked stay, of the others nothing is known -/
def maskB (r : Nat → List PC) : Nat → List Bool → List (List PC) → List (List PC)
  | i, true :: ks, b :: bs => b :: maskB r (i + 1) ks bs
  | i, false :: ks, _ :: bs => r i :: maskB r (i + 1) ks bs
  | _, _, _ => []
def fineB (L : Nat → Prop) : List Bool → List (List PC) → Prop
  | true :: ks, b :: bs => fineL L b ∧ fineB L ks bs
  | false :: ks, _ :: bs => fineB L ks bs
  | [], [] => True
  | _, _ => False
def maskT (rw : Nat → Value) (ks : List Nat) (tm : Nat → PV) : Nat → PV := fun t => match ks.contains t with
  | true => tm t
  | false => .raw (rw t)
def fineT (L : Nat → Prop) (tm : Nat → PV) : List Nat → Prop
  | [] => True
  | t :: ts => fineV L (tm t) ∧ fineT L tm ts
theorem fineT_get {L : Nat → Prop} {tm : Nat → PV} : ∀ {ts : List Nat}, fineT L tm ts → ∀ t ∈ ts, fineV L (tm t)
  | x :: ts, h, t, ht => by
    rcases List.mem_cons.1 ht with rfl | ht
    · exact h.1
    · exact fineT_get h.2 t ht
theorem maskB_get {r : Nat → List PC} {L : Nat → Prop} : ∀ {ks : List Bool} {bs : List (List PC)} {i : Nat}, fineB L ks bs → (maskB r i ks bs).length = bs.length ∧ ∀ (p : Nat) (c : List PC), (maskB r i ks bs)[p]? = some c → (bs[p]? = some c ∧ fineL L c) ∨ c = r (i + p)
  | [], [], i, h => ⟨rfl, fun p c hc => by simp [maskB] at hc⟩
  | [], _ :: _, i, h => h.elim
  | true :: ks, [], i, h => h.elim
  | false :: ks, [], i, h => h.elim
  | true :: ks, b :: bs, i, h => by
    obtain ⟨h1, h2⟩ := maskB_get (r := r) (i := i + 1) h.2
    refine ⟨by simp [maskB, h1], fun p c hc => ?_⟩
    match p with
    | 0 => simp [maskB] at hc; subst hc; exact .inl ⟨rfl, h.1⟩
    | p + 1 =>
      have := h2 p c (by simpa [maskB] using hc)
      rw [show i + (p + 1) = i + 1 + p by omega]; exact this
  | false :: ks, b :: bs, i, h => by
    obtain ⟨h1, h2⟩ := maskB_get (r := r) (L := L) (ks := ks) (bs := bs) (i := i + 1) h
    refine ⟨by simp [maskB, h1], fun p c hc => ?_⟩
    match p with
    | 0 => simp [maskB] at hc; subst hc; exact .inr rfl
    | p + 1 =>
      have := h2 p c (by simpa [maskB] using hc)
      rw [show i + (p + 1) = i + 1 + p by omega]; exact this

/-- **rows have been written into: what does not name them is as it was** -/
theorem Rep.drop {E : Env} {B : Base} {C : Cx} {tm : Nat → PV} {bx : List (List PC)} {nt : Nat} {live : List Nat} {a : Act} {w w' : World} (h : Rep E B C ⟨tm, bx, nt, live⟩ a w) (hB : ∀ t, ¬ B.C.old t) (hBF : ∀ b o, B.C.F b o → b < B.w.heap.size) {S : Nat → Prop} {L : List Nat} (hk : Keep S w w') (hS : ∀ b, S b → ∃ t ∈ live, C.tk t = some b ∧ t ∉ L) (hL : ∀ t ∈ L, t ∈ live)
    {kt : List Nat} {kb : List Bool} (ht : fineT (· ∈ L) tm kt) (hb : fineB (· ∈ L) kb bx) : ∃ rw r, Rep E B (C.cut S) ⟨maskT rw kt tm, maskB r 0 kb bx, nt, L⟩ a w' ∧ ∀ p c, bx[p]? = some c → ∃ vs : List Value, r p = vs.map .v ∧ RpL C w c vs := by
  have hI := h.inv
  -- what the boxes hold
  have hv : ∀ p, ∃ vs : List Value, p < bx.length → ∃ e, w.heap[C.bx p]? = some (.cells (List.toArray vs) e (0, 0)) ∧ ∀ c, bx[p]? = some c → RpL C w c vs := by
    intro p
    by_cases hp : p < bx.length
    · obtain ⟨vs, e, h1, h2⟩ := hI.box p bx[p] (List.getElem?_eq_getElem hp)
      exact ⟨vs, fun _ => ⟨e, h1, fun c hc => by rw [List.getElem?_eq_getElem hp] at hc; simp only [Option.some.injEq] at hc; subst hc; exact h2⟩⟩
    · exact ⟨[], fun h => absurd h hp⟩
  obtain ⟨vb, hvb⟩ := Classical.axiomOfChoice hv
  have hnew : ∀ b, S b → B.w.heap.size ≤ b := fun b hb => by
    obtain ⟨t, ht, e, _⟩ := hS b hb
    exact h.ext.newT0 hB t b ht e
  have hSlt : ∀ b, S b → E.NG ≤ b := fun b hb => by
    obtain ⟨t, ht, e, _⟩ := hS b hb
    obtain ⟨_, _, ⟨k, _⟩ | ⟨b', cur, e', c1, c2, _⟩⟩ := hI.tok t ht
    · rw [k] at e; cases e
    · rw [c1] at e; simp only [Option.some.injEq] at e; subst e; exact c2
  have hbxS : ∀ p, p < bx.length → ¬ S (C.bx p) := fun p hp hs => by
    obtain ⟨t, ht, e, _⟩ := hS _ hs
    obtain ⟨_, _, ⟨k, _⟩ | ⟨b', cur, e', c1, c2, c3, c4, c5, c6, c7, c8, c9, c10⟩⟩ := hI.tok t ht
    · rw [k] at e; cases e
    · rw [c1] at e; simp only [Option.some.injEq] at e; subst e; exact c10 p hp rfl
  obtain ⟨m1, m2⟩ := maskB_get (r := fun p => (vb p).map PC.v) (i := 0) hb
  have hbxlt : ∀ p, p < bx.length → C.bx p < w.heap.size := fun p hp => hI.lt hp
  refine ⟨fun t => a.tmps.getD t undef, fun p => (vb p).map PC.v, ⟨?_, h.nt, h.n2, ?_, h.size, h.defers, fun t => ?_⟩, fun p c hc => ?_⟩
  · refine ⟨hI.nb.trans m1.symm, fun p cs hp => ?_, fun p hp o hF => ?_, fun p hp => ?_, fun p q hp hq => ?_, fun t ht => ?_, fun t s b ht hs => hI.tinj t s b (hL t ht) (hL s hs), fun b o hF => Nat.lt_of_lt_of_le (hI.fin b o hF.1) hk.size, Nat.le_trans hI.ng hk.size, E.low w w' hI.t hk.size fun k hk' => hk.block k (Nat.lt_of_lt_of_le hk' hI.ng) (fun hs => by have := hSlt k hs; omega)⟩
    · have hlt : p < bx.length := by
        rw [← m1]
        rcases Nat.lt_or_ge p (maskB (fun p => (vb p).map PC.v) 0 kb bx).length with h' | h'
        · exact h'
        · have hp' : (maskB (fun p => (vb p).map PC.v) 0 kb bx)[p]? = some cs := hp
          rw [List.getElem?_eq_none h'] at hp'; cases hp'
      obtain ⟨e, h1, h2⟩ := hvb p hlt
      refine ⟨vb p, e, (hk.block _ (hbxlt p hlt) (hbxS p hlt)).trans h1, ?_⟩
      rcases m2 p cs hp with ⟨k1, k2⟩ | rfl
      · exact fineL_rp (s := ⟨tm, bx, nt, live⟩) hI hk hS hL (h2 cs k1) k2
      · have h3 := h2 bx[p] (List.getElem?_eq_getElem hlt)
        have h4 := h3.one
        rw [Nat.zero_add]
        refine ⟨by simp, fun j c y hc hy => ?_⟩
        rw [List.getElem?_map, hy] at hc
        simp only [Option.map_some, Option.some.injEq] at hc; subst hc
        exact .v _ (h4 y (List.mem_of_getElem? hy))
    · have hp' : p < (maskB (fun p => (vb p).map PC.v) 0 kb bx).length := hp
      rw [m1] at hp'
      exact hI.boxF p hp' o hF.1
    · have hp' : p < (maskB (fun p => (vb p).map PC.v) 0 kb bx).length := hp
      rw [m1] at hp'
      exact hI.boxG p hp'
    · have hp' : p < (maskB (fun p => (vb p).map PC.v) 0 kb bx).length := hp
      have hq' : q < (maskB (fun p => (vb p).map PC.v) 0 kb bx).length := hq
      rw [m1] at hp' hq'
      exact hI.inj p q hp' hq'
    · obtain ⟨a1, a2, a3⟩ := hI.tok t (hL t ht)
      refine ⟨a1, a2, a3.imp id ?_⟩
      rintro ⟨b, cur, e, c1, c2, c3, c4, c5, c6, c7, c8, c9, c10⟩
      refine ⟨b, cur, e, c1, c2, ?_, c4, c5, c6, c7, c8, fun o hF => c9 o hF.1, fun p hp => ?_⟩
      · refine (hk.block b (heap_lt c3) fun hs => ?_).trans c3
        obtain ⟨t', ht', e', hn'⟩ := hS b hs
        have := hI.tinj t t' b (hL t ht) ht' c1 e'
        subst this; exact hn' ht
      · have hp' : p < (maskB (fun p => (vb p).map PC.v) 0 kb bx).length := hp
        rw [m1] at hp'; exact c10 p hp'
  · have hE := h.ext
    have hb0 : ∀ k, k < B.w.heap.size → w'.heap[k]? = w.heap[k]? := fun k hk' => hk.block k (Nat.lt_of_lt_of_le hk' hE.size) fun hs => by have := hnew k hs; omega
    refine ⟨hk.os.trans hE.os, hk.tape.trans hE.tape, hk.output.trans hE.output, Nat.le_trans hE.size hk.size, fun b o hF => ⟨hE.F b o hF, fun hs => ?_⟩, ⟨fun b o hF => ?_, fun k T cs fz hh => ?_⟩, fun k hk' hp ho => (hb0 k hk').trans (hE.block k hk' hp ho), hE.bx, fun b o hF => hE.newF b o hF.1, fun t b ht => hE.newT t b (hL t ht), fun p hp hp2 => ?_, hE.tk⟩
    · have := hBF b o hF; have := hnew b hs; omega
    · exact (World.cell?_of_block (a := ⟨b, o, none⟩) (hk.block b (hI.fin b o (hE.F b o hF)) fun hs => by have := hBF b o hF; have := hnew b hs; omega)).trans (hE.fix.1 b o hF)
    · obtain ⟨cs', fz', h'⟩ := hE.fix.2 k T cs fz hh
      have hkl := heap_lt hh
      exact ⟨cs', fz', (hk.block _ (heap_lt h') fun hs => by have := hnew k hs; omega).trans h'⟩
    · have hp' : p < (maskB (fun p => (vb p).map PC.v) 0 kb bx).length := hp2
      rw [m1] at hp'; exact hE.newB p hp hp'
  · simp only [maskT]
    cases hc : kt.contains t with
    | true => exact fineV_rp (s := ⟨tm, bx, nt, live⟩) hI hk hS hL (h.tm t) (fineT_get ht t (List.contains_iff_mem.1 hc))
    | false => exact .raw _
  · have hlt : p < bx.length := by
      rcases Nat.lt_or_ge p bx.length with h' | h'
      · exact h'
      · rw [List.getElem?_eq_none h'] at hc; cases hc
    obtain ⟨e, h1, h2⟩ := hvb p hlt
    exact ⟨vb p, rfl, h2 c hc⟩
end Go.Proofs.YthngfihpnfoppaaDoor
