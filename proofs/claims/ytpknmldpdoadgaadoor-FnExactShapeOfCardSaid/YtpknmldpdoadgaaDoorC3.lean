/- Part 3 of a proof: WrongDef, PvD, PvJ0, PvLw, ShOfLawM, ShOfLaw, PvEnv, PvTop, ShapeSz, ShapeTo, ShapeEq, DecDef, Mark, MarkT, MarkS, Mark2, MarkSh, PvSh, PvVal, ValueSz, ValueTo, ValueEq, MarkV, PvVl, PvHlp, PvMJ, PvJ1, JoinDef, JoinBulk, Text -/
import Derived.Test.YtpknmldpdoadgaaDoorC2
import Derived.Lib.ItoaNum
import Derived.Test.YtpknmldpdoadgaaDoorChecked
import Derived.KernelRfl
import GoSem.Claims
import Derived.Test.YtpknmldpdoadgaaDoorRows
import Derived.IntWalk
import Derived.OwnWalk
import Derived.Deep.QuietTactic
import Derived.BigQuiet
import Derived.StillTailTactics
import Derived.Lib.ItoaLen
import Derived.Test.YtpknmldpdoadgaaDoorProg
import Derived.Deep.RegionHeld3
import Derived.Lib.ValidLaws
import Derived.Laws.BitsAllLaws
import Derived.Lib.ConvBytes

/- Whether a value is of a shape, and the way to the first part that is not. No program in sight. -/
namespace Go.Proofs.YtpknmldpdoadgaaDoor
open Go.RowKit

/-- the texts among the keys of a map -/
def keysL : List V → List (List UInt8)
  | [] => []
  | [x] => if x.kind = 5 then [x.text] else []
  | x :: _ :: r => if x.kind = 5 then x.text :: keysL r else keysL r
def V.keys (v : V) : List (List UInt8) := if v.kind = 8 then keysL v.kids else []
def V.texts (v : V) : Bool := decide (v.kind = 8) && decide (2 * v.keys.length = v.kids.length)
def Sh.kind : Sh → Int | .mk k _ _ _ _ _ => k
def Sh.low : Sh → Int | .mk _ l _ _ _ _ => l
def Sh.high : Sh → Int | .mk _ _ h _ _ _ => h
def Sh.keys : Sh → List (List UInt8) | .mk _ _ _ ks _ _ => ks
def Sh.must : Sh → Int | .mk _ _ _ _ m _ => m
def Sh.kids : Sh → List Sh | .mk _ _ _ _ _ ks => ks
def allIn (a b : List (List UInt8)) : Bool := a.all fun x => decide (x ∈ b)
/-- a value is of a shape that is no choice, but for its parts -/
def heldB (v : V) (h : Sh) : Bool :=
  if h.kind = 0 then true
  else if h.kind = 1 then decide (v.kind = 0)
  else if h.kind = 2 then decide (v.kind = 1) || decide (v.kind = 2)
  else if h.kind = 3 then decide (v.kind = 3) && inR v.num h.low h.high
  else if h.kind = 4 then decide (v.kind = 3) || decide (v.kind = 4)
  else if h.kind = 5 then decide (v.kind = 5) && inR v.text.length h.low h.high
  else if h.kind = 6 then decide (v.kind = 6) && inR v.text.length h.low h.high
  else if h.kind = 7 then decide (v.kind = 7) && inR v.kids.length h.low h.high
  else v.texts && (allIn v.keys h.keys && allIn (h.keys.take h.must.toNat) v.keys)
def shNil : Sh := .mk 0 0 0 [] 0 []
theorem sh_self7 {l hi m : Int} {ks : List (List UInt8)} {kids : List Sh} (h : Sh.self (.mk 7 l hi ks m kids) = true) : ∃ kid, kids = [kid] := by
  have : kids.length = 1 := by
    unfold Sh.self at h; simp at h; exact h.2.2
  match kids, this with
  | [kid], _ => exact ⟨kid, rfl⟩
theorem sh_self8 {l hi m : Int} {ks : List (List UInt8)} {kids : List Sh} (h : Sh.self (.mk 8 l hi ks m kids) = true) : keysOk ks = true ∧ kids.length = ks.length ∧ 0 ≤ m ∧ m ≤ ks.length := by
  unfold Sh.self at h; simp [Sh.fields] at h; exact ⟨h.2.2.1, h.2.2.2.1, h.2.2.2.2⟩
/-- the first that is wrong among the kids of a list from the i-th on -/
def wrL (f : V → Option (List (List UInt8))) : Nat → List V → Option (List (List UInt8))
  | _, [] => none
  | i, x :: r => match f x with | some p => some (Lib.itoa i :: p) | none => wrL f (i + 1) r
/-- the first that is wrong among the pairs of a map -/
def wrM (f : List UInt8 → V → Option (List (List UInt8))) : List V → Option (List (List UInt8))
  | x :: y :: r => match f x.text y with | some p => some (x.text :: p) | none => wrM f r
  | _ => none
theorem wrL_step {f : V → Option (List (List UInt8))} {xs : List V} {j : Nat} (h : j < xs.length) : wrL f j (xs.drop j) = (match f xs[j] with | some p => some (Lib.itoa j :: p) | none => wrL f (j + 1) (xs.drop (j + 1))) := by
  rw [List.drop_eq_getElem_cons h]; rfl
theorem wrM_step {f : List UInt8 → V → Option (List (List UInt8))} {xs : List V} {j : Nat} (h : 2 * j + 1 < xs.length) : wrM f (xs.drop (2 * j)) = (match f (xs[2 * j]'(by omega)).text xs[2 * j + 1] with | some p => some ((xs[2 * j]'(by omega)).text :: p) | none => wrM f (xs.drop (2 * (j + 1)))) := by
  rw [List.drop_eq_getElem_cons (show 2 * j < xs.length by omega), List.drop_eq_getElem_cons h, show 2 * j + 1 + 1 = 2 * (j + 1) by omega]; rfl
/-- the way to what is wrong -/
def wrg : Nat → V → Sh → Option (List (List UInt8))
  | 0, _, _ => none
  | n + 1, v, h =>
    if h.kind = 9 then (if h.kids.any (fun k => (wrg n v k).isNone) then none else some [])
    else if heldB v h = false then some []
    else if h.kind = 7 then wrL (fun x => wrg n x (h.kids.headD shNil)) 0 v.kids
    else if h.kind = 8 then wrM (fun s y => wrg n y (h.kids.getD (ixF h.keys s 0).toNat shNil)) v.kids
    else none
theorem Sh.ds_length (xs : List Sh) : (Sh.ds xs).length = xs.length := by rw [Sh.ds_map, List.length_map]
theorem Sh.bulk_in : ∀ (vs : List Sh) i (h : i < vs.length), Sh.bulk vs[i] ≤ Sh.bulks vs
  | v :: vs, 0, _ => by simp [Sh.bulks]
  | v :: vs, i + 1, hi => by have := Sh.bulk_in vs i (by simpa using hi); simp only [Sh.bulks, List.getElem_cons_succ]; omega
theorem V.bulk_in : ∀ (vs : List V) i (h : i < vs.length), V.bulk vs[i] ≤ V.bulks vs
  | v :: vs, 0, _ => by simp [V.bulks]
  | v :: vs, i + 1, hi => by have := V.bulk_in vs i (by simpa using hi); simp only [V.bulks, List.getElem_cons_succ]; omega
theorem keysL_half : ∀ xs : List V, 2 * (keysL xs).length ≤ xs.length + 1
  | [] => by simp [keysL]
  | [x] => by simp only [keysL]; split <;> simp
  | x :: y :: r => by
    have := keysL_half r
    simp only [keysL]; split <;> simp only [List.length_cons] <;> omega
/-- where all keys are texts, each of them is one -/
theorem keysL_all : ∀ (xs : List V), 2 * (keysL xs).length = xs.length → ∀ i (h : 2 * i < xs.length), 2 * i + 1 < xs.length ∧ (xs[2 * i]).kind = 5 ∧ (xs[2 * i]).text ∈ keysL xs
  | [], _, i, h => absurd h (by simp)
  | [x], he, i, h => by simp only [keysL] at he; split at he <;> simp at he
  | x :: y :: r, he, i, h => by
    have hh := keysL_half r
    simp only [keysL] at he ⊢
    by_cases hk : x.kind = 5
    · rw [if_pos hk] at he ⊢
      cases i with
      | zero => exact ⟨by simp, hk, List.mem_cons_self⟩
      | succ i =>
        have := keysL_all r (by simp only [List.length_cons] at he; omega) i (by simp only [List.length_cons] at h; omega)
        have e1 : (x :: y :: r)[2 * (i + 1)]'h = r[2 * i]'(by simp only [List.length_cons] at h; omega) := by simp [show 2 * (i + 1) = 2 * i + 1 + 1 by omega]
        refine ⟨by simp only [List.length_cons]; omega, ?_, ?_⟩
        · rw [e1]; exact this.2.1
        · rw [e1]; exact List.mem_cons_of_mem _ this.2.2
    · rw [if_neg hk] at he
      simp only [List.length_cons] at he; omega
theorem V.texts_key {x : V} (h : x.texts = true) (i : Nat) (hi : 2 * i < x.kids.length) : 2 * i + 1 < x.kids.length ∧ (x.kids[2 * i]).kind = 5 ∧ (x.kids[2 * i]).text ∈ x.keys := by
  unfold V.texts at h; simp only [Bool.and_eq_true, decide_eq_true_eq] at h
  unfold V.keys at h ⊢; rw [if_pos h.1] at h ⊢
  exact keysL_all _ h.2 i hi
/-- a map of a shape: each of its keys is one of the shape's -/
theorem heldB_key {x : V} {h : Sh} (hk : h.kind = 8) (hh : heldB x h = true) (i : Nat) (hi : 2 * i < x.kids.length) : 2 * i + 1 < x.kids.length ∧ (x.kids[2 * i]).kind = 5 ∧ (x.kids[2 * i]).text ∈ h.keys := by
  unfold heldB at hh
  rw [if_neg (by omega), if_neg (by omega), if_neg (by omega), if_neg (by omega), if_neg (by omega), if_neg (by omega), if_neg (by omega), if_neg (by omega)] at hh
  simp only [Bool.and_eq_true] at hh
  obtain ⟨h1, h2, _⟩ := hh
  obtain ⟨a, b, c⟩ := V.texts_key h1 i hi
  unfold allIn at h2; rw [List.all_eq_true] at h2
  exact ⟨a, b, of_decide_eq_true (h2 _ c)⟩
end Go.Proofs.YtpknmldpdoadgaaDoor

/- The program's data as values without memory; rows of the call's own. No program in sight. -/
namespace Go.Proofs.YtpknmldpdoadgaaDoor
open Go.RowKit

def pI (n : Int) : PC := .v (.int .i64 n)
def pB (b : Bool) : PC := .v (.bool b)
def pS (l : List UInt8) : PC := .v (.string ⟨l.toArray⟩)
def pSr (ks : List (List UInt8)) : List (List PC) := ks.map fun k => [pS k]
def pSs (ks : List (List UInt8)) : PC := .sl 0 (pSr ks)
theorem pSr_er (ks : List (List UInt8)) : erLL (pSr ks) = pSr ks := by
  simp [pSr, erLL_map, erL_map, PC.er, pS, Function.comp_def]
theorem pSs_er (ks : List (List UInt8)) : (pSs ks).er = pSs ks := by simp only [pSs, PC.er, pSr_er]
theorem pSr_tok (ks : List (List UInt8)) : toksLL (pSr ks) = [] := by
  induction ks with
  | nil => rfl
  | cons k ks ih => simp only [pSr, List.map_cons] at ih ⊢; simp [toksLL, toksL, PC.toks, pS] ; simpa [pS] using ih
theorem pSr_own (ks : List (List UInt8)) : ownedLL (pSr ks) = true := by
  induction ks with
  | nil => rfl
  | cons k ks ih => simp only [pSr, List.map_cons] at ih ⊢; simp [ownedLL, ownedL, PC.owned, pS] ; simpa [pS] using ih
theorem dSs_pc (ks : List (List UInt8)) : (dSs ks).pc = [pSs ks] := by
  simp only [dSs, D.pc, pSs, pSr, D.pcE_map, List.map_map]; rfl
theorem dSs_wf (ks : List (List UInt8)) : (dSs ks).wf := by
  simp only [dSs, D.wf]
  refine ⟨fun e he => by obtain ⟨k, _, rfl⟩ := List.mem_map.1 he; rfl, ?_⟩
  induction ks with
  | nil => trivial
  | cons k ks ih => exact ⟨rfl, ih⟩

/-- a shape's cells -/
def shK (kids : List Sh) : List (List PC) := kids.map fun x => x.d.pc
def shC (a : Sh) : List PC := [pI a.kind, pI a.low, pI a.high, pSs a.keys, pI a.must, .sl 0 (shK a.kids)]
theorem Sh.pc_eq (x : Sh) : x.d.pc = shC x := by
  obtain ⟨k, l, h, ks, m, kids⟩ := x
  simp only [Sh.d, D.pc, D.pcs, dSs_pc, D.pcE_map, Sh.ds_map, List.map_map, List.append_nil]
  rfl
theorem shK_eq (kids : List Sh) : shK kids = kids.map shC := by unfold shK; exact List.map_congr_left fun x _ => x.pc_eq
theorem shC_er (x : Sh) : erL (shC x) = shC x := by rw [← Sh.pc_eq]; exact D.pc_er _
theorem shK_er (kids : List Sh) : erLL (shK kids) = shK kids := by
  have : shK kids = D.pcE (kids.map Sh.d) := by rw [D.pcE_map, List.map_map]; rfl
  rw [this]; exact D.pcE_er _
mutual
theorem Sh.wfd : ∀ x : Sh, x.d.wf
  | .mk k l h ks m kids => by
    simp only [Sh.d, D.wf, D.wfs]
    exact ⟨rfl, rfl, rfl, dSs_wf ks, rfl, ⟨fun e he => by rw [Sh.ds_map] at he; obtain ⟨y, _, rfl⟩ := List.mem_map.1 he; exact Sh.width y, Sh.wfds kids⟩, trivial⟩
theorem Sh.wfds : ∀ xs : List Sh, D.wfs (Sh.ds xs)
  | [] => trivial
  | x :: xs => ⟨Sh.wfd x, Sh.wfds xs⟩
end

/-- cells whose rows are all the call's own -/
structure OwnL (nt : Nat) (live : List Nat) (cs : List PC) : Prop where
  own : ownedL cs = true
  nd : (toksL cs).Nodup
  mem : ∀ t ∈ toksL cs, t ∈ live ∧ t < nt
theorem OwnL.mono {nt nt' : Nat} {live live' : List Nat} {cs : List PC} (h : OwnL nt live cs) (hn : nt ≤ nt') (hl : ∀ t ∈ live, t < nt → t ∈ live') : OwnL nt' live' cs :=
  ⟨h.own, h.nd, fun t ht => ⟨hl t (h.mem t ht).1 (h.mem t ht).2, Nat.lt_of_lt_of_le (h.mem t ht).2 hn⟩⟩
theorem ownedLL_append : ∀ a b : List (List PC), ownedLL (a ++ b) = (ownedLL a && ownedLL b)
  | [], b => by simp [ownedLL]
  | c :: cs, b => by simp only [List.cons_append, ownedLL, ownedLL_append cs b, Bool.and_assoc]
theorem toksLL_append : ∀ a b : List (List PC), toksLL (a ++ b) = toksLL a ++ toksLL b
  | [], b => rfl
  | c :: cs, b => by simp only [List.cons_append, toksLL, toksLL_append cs b, List.append_assoc]
theorem toks_sl2 {t : Nat} (h : 2 ≤ t) (es : List (List PC)) : PC.toks (.sl t es) = t :: toksLL es := by rw [PC.toks, if_pos h]
theorem owned_sl2 {t : Nat} (h : 2 ≤ t) (es : List (List PC)) : PC.owned (.sl t es) = ownedLL es := by
  rw [PC.owned, decide_eq_true (show t ≠ 0 by omega)]; simp
mutual
theorem PC.toks_ge : ∀ (c : PC) (t : Nat), t ∈ c.toks → 2 ≤ t
  | .v x, t, h => by simp [PC.toks] at h
  | .sl s es, t, h => by
    by_cases h2 : 2 ≤ s
    · rw [PC.toks, if_pos h2] at h
      rcases List.mem_cons.1 h with rfl | h
      · exact h2
      · exact toksLL_ge es t h
    · rw [PC.toks, if_neg h2] at h; exact toksLL_ge es t h
theorem toksL_ge : ∀ (l : List PC) (t : Nat), t ∈ toksL l → 2 ≤ t
  | [], t, h => by simp [toksL] at h
  | c :: cs, t, h => by
    rw [toksL, List.mem_append] at h
    exact h.elim (PC.toks_ge c t) (toksL_ge cs t)
theorem toksLL_ge : ∀ (l : List (List PC)) (t : Nat), t ∈ toksLL l → 2 ≤ t
  | [], t, h => by simp [toksLL] at h
  | c :: cs, t, h => by
    rw [toksLL, List.mem_append] at h
    exact h.elim (toksL_ge c t) (toksLL_ge cs t)
end
theorem toks_sl1 (es : List (List PC)) : PC.toks (.sl 1 es) = toksLL es := by rw [PC.toks, if_neg (by decide)]
theorem owned_sl1 (es : List (List PC)) : PC.owned (.sl 1 es) = ownedLL es := by
  rw [PC.owned, decide_eq_true (show (1 : Nat) ≠ 0 by omega)]; simp
/-- an element of own rows, made since, appended to a row of one's own -/
theorem OwnL.push {nt nt' t : Nat} {live : List Nat} {a b : List PC} {rows : List (List PC)} {e : List PC} (h : OwnL nt live (a ++ .sl t rows :: b)) (h2 : 2 ≤ t) (hn : nt ≤ nt') (he : ownedL e = true) (hd : (toksL e).Nodup) (hm : ∀ t ∈ toksL e, nt ≤ t ∧ t < nt') (hnt : 2 ≤ nt') :
    OwnL (nt' + 1) (nt' :: (toksL e ++ live).filter (· != t)) (a ++ .sl nt' (rows ++ [e]) :: b) := by
  obtain ⟨o1, o2, o3⟩ := h
  rw [ownedL_append, ownedL, owned_sl2 h2, Bool.and_eq_true, Bool.and_eq_true] at o1
  rw [toksL_append, toksL, toks_sl2 h2] at o2 o3
  have q := o2
  rw [List.nodup_append] at q
  obtain ⟨q1, q2, q3⟩ := q
  rw [List.cons_append, List.nodup_cons, List.nodup_append] at q2
  obtain ⟨q4, q5, q6, q7⟩ := q2
  have hlt : ∀ x, x ∈ toksL a ∨ x ∈ toksLL rows ∨ x ∈ toksL b → x ∈ live ∧ x < nt ∧ x ≠ t := by
    rintro x (hx | hx | hx)
    · have := o3 x (by simp [hx]); exact ⟨this.1, this.2, fun e => q3 x hx t (by simp) e⟩
    · have := o3 x (by simp [hx]); exact ⟨this.1, this.2, fun e => q4 (by simp [← e, hx])⟩
    · have := o3 x (by simp [hx]); exact ⟨this.1, this.2, fun e => q4 (by simp [← e, hx])⟩
  have ht := o3 t (by simp)
  refine ⟨?_, ?_, ?_⟩
  · rw [ownedL_append, ownedL, owned_sl2 hnt, ownedLL_append, o1.1, o1.2.1, o1.2.2]; simp [ownedLL, he]
  · rw [toksL_append, toksL, toks_sl2 hnt, toksLL_append]
    simp only [toksLL, List.append_nil, List.cons_append]
    rw [List.nodup_append]
    refine ⟨q1, List.nodup_cons.2 ⟨fun hx => ?_, ?_⟩, fun x hx y hy hxy => ?_⟩
    · simp only [List.mem_append] at hx
      rcases hx with (hx | hx) | hx
      · have := hlt nt' (.inr (.inl hx)); omega
      · have := hm nt' hx; omega
      · have := hlt nt' (.inr (.inr hx)); omega
    · rw [List.append_assoc, List.nodup_append]
      refine ⟨q5, List.nodup_append.2 ⟨hd, q6, fun x hx y hy hxy => ?_⟩, fun x hx y hy hxy => ?_⟩
      · subst hxy; have := hm x hx; have := hlt x (.inr (.inr hy)); omega
      · subst hxy
        rcases List.mem_append.1 hy with hy | hy
        · have := hm x hy; have := hlt x (.inr (.inl hx)); omega
        · exact q7 x hx x hy rfl
    · subst hxy
      simp only [List.mem_cons, List.mem_append] at hy
      rcases hy with hy | (hy | hy) | hy
      · have := hlt x (.inl hx); omega
      · exact q3 x hx x (by simp [hy]) rfl
      · have := hm x hy; have := hlt x (.inl hx); omega
      · exact q3 x hx x (by simp [hy]) rfl
  · intro x hx
    rw [toksL_append, toksL, toks_sl2 hnt, toksLL_append] at hx
    simp only [toksLL, List.append_nil, List.cons_append, List.mem_append, List.mem_cons] at hx
    have old : x ∈ toksL a ∨ x ∈ toksLL rows ∨ x ∈ toksL b → x ∈ nt' :: (toksL e ++ live).filter (· != t) ∧ x < nt' + 1 := by
      intro hx
      have := hlt x hx
      refine ⟨List.mem_cons.2 (.inr (List.mem_filter.2 ⟨List.mem_append.2 (.inr this.1), by simpa using this.2.2⟩)), by omega⟩
    rcases hx with hx | hx | (hx | hx) | hx
    · exact old (.inl hx)
    · exact ⟨by simp [hx], by omega⟩
    · exact old (.inr (.inl hx))
    · have := hm x hx
      refine ⟨List.mem_cons.2 (.inr (List.mem_filter.2 ⟨List.mem_append.2 (.inl hx), ?_⟩)), by omega⟩
      have : x ≠ t := by omega
      simpa using this
    · exact old (.inr (.inr hx))
/-- the first element of own rows, appended to nil -/
theorem OwnL.push1 {nt nt' : Nat} {live : List Nat} {a b : List PC} {e : List PC} (h : OwnL nt live (a ++ .sl 1 [] :: b)) (hn : nt ≤ nt') (he : ownedL e = true) (hd : (toksL e).Nodup) (hm : ∀ t ∈ toksL e, nt ≤ t ∧ t < nt') (hnt : 2 ≤ nt') :
    OwnL (nt' + 1) (nt' :: (toksL e ++ live).filter (· != 1)) (a ++ .sl nt' ([] ++ [e]) :: b) := by
  obtain ⟨o1, o2, o3⟩ := h
  rw [ownedL_append, ownedL, owned_sl1, Bool.and_eq_true, Bool.and_eq_true] at o1
  rw [toksL_append, toksL, toks_sl1] at o2 o3
  simp only [toksLL, List.nil_append] at o2 o3
  have q := o2
  rw [List.nodup_append] at q
  obtain ⟨q1, q2, q3⟩ := q
  have hlt : ∀ x, x ∈ toksL a ∨ x ∈ toksL b → x ∈ live ∧ x < nt := fun x hx => o3 x (List.mem_append.2 hx)
  refine ⟨?_, ?_, ?_⟩
  · rw [ownedL_append, ownedL, owned_sl2 hnt, o1.1, o1.2.2]; simp [ownedLL, he]
  · rw [toksL_append, toksL, toks_sl2 hnt]
    simp only [toksLL, List.append_nil, List.cons_append, List.nil_append]
    rw [List.nodup_append]
    refine ⟨q1, List.nodup_cons.2 ⟨fun hx => ?_, List.nodup_append.2 ⟨hd, q2, fun x hx y hy hxy => ?_⟩⟩, fun x hx y hy hxy => ?_⟩
    · rcases List.mem_append.1 hx with hx | hx
      · have := hm nt' hx; omega
      · have := hlt nt' (.inr hx); omega
    · subst hxy; have := hm x hx; have := hlt x (.inr hy); omega
    · subst hxy
      have := hlt x (.inl hx)
      rcases List.mem_cons.1 hy with hy | hy
      · omega
      · rcases List.mem_append.1 hy with hy | hy
        · have := hm x hy; omega
        · exact q3 x hx x hy rfl
  · intro x hx
    have hx2 := toksL_ge _ x hx
    rw [toksL_append, toksL, toks_sl2 hnt] at hx
    simp only [toksLL, List.append_nil, List.cons_append, List.nil_append, List.mem_append, List.mem_cons] at hx
    have hf : ∀ y, 2 ≤ y → y ∈ toksL e ++ live → y ∈ nt' :: (toksL e ++ live).filter (· != 1) := by
      intro y h2 hy
      have : y ≠ 1 := by omega
      exact List.mem_cons.2 (.inr (List.mem_filter.2 ⟨hy, by simpa using this⟩))
    rcases hx with hx | hx | hx | hx
    · have := hlt x (.inl hx); exact ⟨hf x hx2 (List.mem_append.2 (.inr this.1)), by omega⟩
    · exact ⟨by simp [hx], by omega⟩
    · have := hm x hx; exact ⟨hf x hx2 (List.mem_append.2 (.inl hx)), by omega⟩
    · have := hlt x (.inr hx); exact ⟨hf x hx2 (List.mem_append.2 (.inr this.1)), by omega⟩
/-- cells of a call's result: rows of its own, with names since -/
structure NewL (nt nt' : Nat) (cs : List PC) : Prop where
  own : ownedL cs = true
  nd : (toksL cs).Nodup
  mem : ∀ t ∈ toksL cs, nt ≤ t ∧ t < nt'
theorem NewL.ownL {nt nt' : Nat} {cs : List PC} (h : NewL nt nt' cs) (live : List Nat) : OwnL nt' (toksL cs ++ live) cs := ⟨h.own, h.nd, fun t ht => ⟨List.mem_append.2 (.inl ht), (h.mem t ht).2⟩⟩
/-- a call of a function that returns a shape in rows of its own -/
theorem po_sh {E : Env} {d : Nat} {c : List X} {r : List MOpr} {K : St → Prop} {tm : Nat → PV} {bx : List (List PC)} {nt : Nat} {live : List Nat} {f : Nat} {xs : List X} {args : List PV} {y : Sh} (hd : PV.dats (xs.map (ev tm)) = some args) (hF : FnO E f args (.ag (shC y)))
    (h : ∀ (c0 c1 c2 c3 c4 c5 : PC) (nt' : Nat), erL [c0, c1, c2, c3, c4, c5] = shC y → nt + 2 ≤ nt' → NewL nt nt' [c0, c1, c2, c3, c4, c5] → po E r K ⟨up d (.ag [c0, c1, c2, c3, c4, c5]) tm, bx, nt', toksL [c0, c1, c2, c3, c4, c5] ++ live⟩) : po E (⟨some d, .call f xs, none, c⟩ :: r) K ⟨tm, bx, nt, live⟩ := by
  refine po_own hd hF ?_
  rintro (_ | cs | _ | _ | _ | _) nt2 hx hnd hmem hnt2 hown <;> try exact hown.elim
  · simp [PV.dat] at hx
  simp only [PV.dat, Option.some.injEq, PV.ag.injEq] at hx
  have hcs : cs.length = 6 := by
    have := congrArg List.length hx
    rw [erL_map] at this; simpa [shC] using this
  match cs, hcs with
  | [c0, c1, c2, c3, c4, c5], _ => exact h c0 c1 c2 c3 c4 c5 nt2 hx hnt2 ⟨hown, hnd, hmem⟩
theorem shC_arg (x : Sh) : PV.dats [.ag (shC x)] = some [.ag (shC x)] := congrArg (fun l => some [PV.ag l]) (shC_er x)
theorem shC_arg2 (x y : Sh) : PV.dats [.ag (shC x), .ag (shC y)] = some [.ag (shC x), .ag (shC y)] := by
  show some [PV.ag (erL (shC x)), PV.ag (erL (shC y))] = _
  rw [shC_er, shC_er]
end Go.Proofs.YtpknmldpdoadgaaDoor

/- Facts on slots; rows of shapes. No program in sight. -/
namespace Go.Proofs.YtpknmldpdoadgaaDoor
open Go.RowKit

def has (tm : Nat → PV) : List (Nat × PV) → Prop
  | [] => True
  | (d, v) :: r => tm d = v ∧ has tm r
def ups : List (Nat × PV) → (Nat → PV) → Nat → PV
  | [], tm => tm
  | (d, v) :: r, tm => up d v (ups r tm)
theorem has_ups : ∀ {l : List (Nat × PV)} {tm : Nat → PV}, has tm l → ∃ tm0, tm = ups l tm0 := by
  intro l tm h
  refine ⟨tm, ?_⟩
  induction l with
  | nil => rfl
  | cons p l ih =>
    obtain ⟨d, v⟩ := p
    simp only [ups]
    rw [← ih h.2, up_self h.1]
theorem erLL_len {rows : List (List PC)} {rs : List (List PC)} (h : erLL rows = rs) : rows.length = rs.length := by rw [← h, erLL_map]; simp
theorem erLL_wid {rows rs : List (List PC)} {n : Nat} (h : erLL rows = rs) (hr : ∀ e ∈ rs, e.length = n) : ∀ e ∈ rows, e.length = n := by
  intro e he
  have : erL e ∈ rs := by rw [← h, erLL_map]; exact List.mem_map.2 ⟨e, he, rfl⟩
  have := hr _ this
  rw [erL_map] at this; simpa using this
theorem erLL_append (a b : List (List PC)) : erLL (a ++ b) = erLL a ++ erLL b := by simp [erLL_map]
theorem shK_wid (kids : List Sh) : ∀ e ∈ shK kids, e.length = 6 := by
  intro e he; rw [shK_eq] at he; obtain ⟨x, _, rfl⟩ := List.mem_map.1 he; rfl
theorem pSr_wid (ks : List (List UInt8)) : ∀ e ∈ pSr ks, e.length = 1 := by
  intro e he; obtain ⟨x, _, rfl⟩ := List.mem_map.1 he; rfl
theorem shK_get {kids : List Sh} {j : Nat} (h : j < kids.length) : (shK kids)[j]? = some (shC kids[j]) := by
  rw [shK_eq, List.getElem?_map, List.getElem?_eq_getElem h]; rfl
theorem shK_take {kids : List Sh} {j : Nat} (h : j < kids.length) : shK (kids.take (j + 1)) = shK (kids.take j) ++ [shC kids[j]] := by
  rw [shK_eq, shK_eq, List.take_succ_eq_append_getElem h, List.map_append]; rfl
theorem shK_len (kids : List Sh) : (shK kids).length = kids.length := by simp [shK]
theorem pSr_len (ks : List (List UInt8)) : (pSr ks).length = ks.length := by simp [pSr]
theorem pSr_get {ks : List (List UInt8)} {j : Nat} (h : j < ks.length) : (pSr ks)[j]? = some [pS ks[j]] := by
  rw [pSr, List.getElem?_map, List.getElem?_eq_getElem h]; rfl
theorem six {α : Type} {l : List α} (h : l.length = 6) : ∃ a b c d e f, l = [a, b, c, d, e, f] := by
  match l, h with
  | [a, b, c, d, e, f], _ => exact ⟨a, b, c, d, e, f, rfl⟩
theorem wrap_lt {n : Int} (h : 0 ≤ n) (h2 : n < 9223372036854775808) : IntKind.wrap .i64 n = n := by
  rw [IntKind.wrap_i64]; omega
/-- the cells of a shape whose keys and parts lie in these rows -/
def shO (x : Sh) (ks kids : PC) : List PC := [pI x.kind, pI x.low, pI x.high, ks, pI x.must, kids]
theorem shO_er {x : Sh} {ks kids : PC} (h1 : ks.er = pSs x.keys) (h2 : kids.er = .sl 0 (shK x.kids)) : erL (shO x ks kids) = shC x := by
  simp only [shO, erL, h1, h2]; rfl
theorem sh_cells {c0 c1 c2 c3 c4 c5 : PC} {y : Sh} (h : erL [c0, c1, c2, c3, c4, c5] = shC y) : ∃ t3 r3 t5 r5, c0 = pI y.kind ∧ c1 = pI y.low ∧ c2 = pI y.high ∧ c3 = .sl t3 r3 ∧ c4 = pI y.must ∧ c5 = .sl t5 r5 ∧ erLL r3 = pSr y.keys ∧ erLL r5 = shK y.kids := by
  simp only [erL, shC, List.cons.injEq, and_true] at h
  obtain ⟨h0, h1, h2, h3, h4, h5⟩ := h
  have e : ∀ (c : PC) (n : Int), c.er = pI n → c = pI n := by
    intro c n hc
    cases c with
    | v x => exact hc
    | sl t es => simp [PC.er, pI] at hc
  have f : ∀ (c : PC) (es : List (List PC)), c.er = .sl 0 es → ∃ t r, c = .sl t r ∧ erLL r = es := by
    intro c es hc
    cases c with
    | v x => simp [PC.er] at hc
    | sl t r => simp only [PC.er, PC.sl.injEq, true_and] at hc; exact ⟨t, r, rfl, hc⟩
  obtain ⟨t3, r3, e3, f3⟩ := f c3 _ h3
  obtain ⟨t5, r5, e5, f5⟩ := f c5 _ h5
  exact ⟨t3, r3, t5, r5, e _ _ h0, e _ _ h1, e _ _ h2, e3, e _ _ h4, e5, f3, f5⟩
theorem shO_row {x : Sh} {t3 t5 : Nat} {r3 r5 : List (List PC)} (h3 : erLL r3 = pSr x.keys) (h5 : erLL r5 = shK x.kids) : erL (shO x (.sl t3 r3) (.sl t5 r5)) = shC x := shO_er (by simp only [PC.er, h3]; rfl) (by simp only [PC.er, h5])
/-- a comparison, and its two ways -/
theorem po_bc {E : Env} {d : Nat} {op : BinOp} {isb : Bool} {x y : X} {g : Option (Nat × Bool)} {c : List X} {r : List MOpr} {K : St → Prop} {tm : Nat → PV} {bx : List (List PC)} {nt : Nat} {live : List Nat} {e : Bool} (hg : gd g tm = some true) (hq : qf (ev tm) bx (.bin op isb x y) = some (.d (.v (.bool e))))
    (h1 : e = true → po E r K ⟨up d (.d (.v (.bool true))) tm, bx, nt, live⟩) (h0 : e = false → po E r K ⟨up d (.d (.v (.bool false))) tm, bx, nt, live⟩) : po E (⟨some d, .bin op isb x y, g, c⟩ :: r) K ⟨tm, bx, nt, live⟩ := by
  refine po_q hg hq ?_
  cases e with
  | true => exact h1 rfl
  | false => exact h0 rfl
theorem OwnL.drop {nt t : Nat} {live : List Nat} {a b : List PC} {rows : List (List PC)} (h : OwnL nt live (a ++ .sl t rows :: b)) : OwnL nt live (a ++ .sl 1 [] :: b) := by
  obtain ⟨o1, o2, o3⟩ := h
  have hsub : (toksL (a ++ .sl 1 [] :: b)).Sublist (toksL (a ++ .sl t rows :: b)) := by
    rw [toksL_append, toksL_append]
    refine List.Sublist.append (List.Sublist.refl _) ?_
    simp only [toksL]
    refine List.Sublist.append ?_ (List.Sublist.refl _)
    rw [toks_sl1]; exact List.nil_sublist _
  refine ⟨?_, o2.sublist hsub, fun x hx => o3 x (hsub.subset hx)⟩
  rw [ownedL_append, ownedL, Bool.and_eq_true, Bool.and_eq_true] at o1
  rw [ownedL_append, ownedL, o1.1, o1.2.2]; rfl
end Go.Proofs.YtpknmldpdoadgaaDoor

/- Steps of a law's walk. No program in sight. -/
namespace Go.Proofs.YtpknmldpdoadgaaDoor
open Go.RowKit

section
variable {E : Env} {K : St → Prop} {tm : Nat → PV} {bx : List (List PC)} {nt d : Nat} {live : List Nat} {r : List MOpr}
/-- a whole box is read -/
theorem po_ldw {n p : Nat} {x : X} {g : Option (Nat × Bool)} {c : List X} {cs : List PC} (hg : gd g tm = some true) (hx : ev tm x = .ref p 0) (hb : bx[p]? = some cs) (hn : cs.length = n) (h : po E r K ⟨up d (.ag cs) tm, bx, nt, live⟩) : po E (⟨some d, .load true n x, g, c⟩ :: r) K ⟨tm, bx, nt, live⟩ := by
  refine po_q hg ?_ h
  simp only [qf, hx, hb, Nat.zero_add, List.drop_zero, ldv, hn, Nat.le_refl, if_true]
  rw [← hn, List.take_length]
/-- a whole box is written -/
theorem po_stw {n p : Nat} {a x : X} {c : List X} {cs z : List PC} (ha : ev tm a = .ref p 0) (hx : ev tm x = .ag cs) (hb : bx[p]? = some z) (hn : cs.length = n) (hz : z.length = n) (hc : c.all (apartX (ev tm) a) = true) (h : po E r K ⟨tm, bx.set p cs, nt, live⟩) : po E (⟨none, .store n a x, none, c⟩ :: r) K ⟨tm, bx, nt, live⟩ := by
  have hs : spl z 0 cs = cs := by
    unfold spl
    rw [List.take_zero, List.nil_append, Nat.zero_add, hn, ← hz, List.drop_length, List.append_nil]
  have hx' : pcells (ev tm x) = some cs := by rw [hx]; rfl
  refine po_store ha hx' hb ⟨hn, by omega⟩ hc ?_
  rw [hs]; exact h
/-- a call that returns a struct in rows of its own -/
theorem po_ownN {n f : Nat} {xs : List X} {args : List PV} {c : List X} {v : List PC} (hd : PV.dats (xs.map (ev tm)) = some args) (hF : FnO E f args (.ag v)) (hn : v.length = n)
    (h : ∀ (cs : List PC) (nt' : Nat), erL cs = v → cs.length = n → nt ≤ nt' → NewL nt nt' cs → po E r K ⟨up d (.ag cs) tm, bx, nt', toksL cs ++ live⟩) : po E (⟨some d, .call f xs, none, c⟩ :: r) K ⟨tm, bx, nt, live⟩ := by
  refine po_own hd hF ?_
  rintro (_ | cs | _ | _ | _ | _) nt2 hx hnd hmem hnt2 hown <;> try exact hown.elim
  · simp [PV.dat] at hx
  simp only [PV.dat, Option.some.injEq, PV.ag.injEq] at hx
  refine h cs nt2 hx ?_ (by omega) ⟨hown, hnd, hmem⟩
  have := congrArg List.length hx
  rw [erL_map, List.length_map] at this; omega
end
/-- what is known of the state, said anew -/
theorem mw_at {E : Env} {B : Base} {m : M} {Q : Exit → St → Prop} {s : St} (I : St → Prop) (h : I s) (k : ∀ tm bx nt live, I ⟨tm, bx, nt, live⟩ → mw E B m Q ⟨tm, bx, nt, live⟩) : mw E B m Q s := by
  obtain ⟨tm, bx, nt, live⟩ := s
  exact k tm bx nt live h
theorem dats1 {a v : List PC} (h : erL a = v) : PV.dats [.ag a] = some [.ag v] := by rw [← h]; rfl
theorem dats2 {a b v w : List PC} (h : erL a = v) (k : erL b = w) : PV.dats [.ag a, .ag b] = some [.ag v, .ag w] := by rw [← h, ← k]; rfl
theorem dats1i {a v : List PC} (h : erL a = v) (x : Value) : PV.dats [.ag a, .d (.v x)] = some [.ag v, .d (.v x)] := by rw [← h]; rfl
/-- names of rows made at different times -/
theorem NewL.lt {a b : Nat} {cs : List PC} (h : NewL a b cs) {c d : Nat} {ds : List PC} (k : NewL c d ds) (hbc : b ≤ c) : ∀ t ∈ toksL cs, t ∉ toksL ds := fun t h1 h2 => by
  have := (h.mem t h1).2; have := (k.mem t h2).1; omega
theorem NewL.gt {a b : Nat} {cs : List PC} (h : NewL a b cs) {c d : Nat} {ds : List PC} (k : NewL c d ds) (hbc : d ≤ a) : ∀ t ∈ toksL cs, t ∉ toksL ds := fun t h1 h2 => by
  have := (h.mem t h1).1; have := (k.mem t h2).2; omega
end Go.Proofs.YtpknmldpdoadgaaDoor

/- Bodies of functions in the small language. Written by a program. -/
namespace Go.Proofs.YtpknmldpdoadgaaDoor
set_option maxRecDepth 100000
def m_l_FnExactShapeOf : M := .seq (.ops [⟨some 1, .box (.t 0), none, []⟩,
  ⟨some 2, .mv (.c (.bool false)), none, []⟩])
 (.seq (.ops [⟨some 3, .mv (.c (.int .i64 1048576)), none, []⟩])
 (.seq (.ops [⟨some 11, .load true 5 (.t 1), none, []⟩,
  ⟨some 12, .mv (.t 3), none, []⟩,
  ⟨some 13, .call 12 [.t 11, .t 12], none, [.f 1]⟩,
  ⟨some 3, .mv (.t 13), none, []⟩])
 (.seq (.seq (.ops [⟨some 14, .mv (.t 3), none, []⟩,
  ⟨some 15, .bin .lss false (.t 14) (.c (.int .i64 0)), none, []⟩])
 (.cond (.t 15) (.seq (.ops [⟨some 2, .mv (.c (.bool true)), none, []⟩])
 (.ret))
 (.skip)))
 (.seq (.ops [⟨some 16, .load true 5 (.t 1), none, []⟩,
  ⟨some 17, .call 14 [.t 16], none, [.f 1]⟩,
  ⟨some 18, .call 13 [.t 17], none, [.f 1]⟩,
  ⟨some 4, .zero [.int .i64 0, .int .i64 0, .int .i64 0, .slice none 0 0, .int .i64 0, .slice none 0 0], none, []⟩,
  ⟨none, .store 6 (.t 4) (.t 18), none, []⟩])
 (.seq (.ops [⟨some 19, .load true 5 (.t 1), none, []⟩,
  ⟨some 20, .call 14 [.t 19], none, [.f 1]⟩,
  ⟨some 5, .zero [.int .i64 0, .int .i64 0, .int .i64 0, .string ⟨[].toArray⟩, .slice none 0 0], none, []⟩,
  ⟨none, .store 5 (.t 5) (.t 20), none, []⟩])
 (.seq (.ops [⟨some 21, .load true 5 (.t 5), none, []⟩,
  ⟨some 22, .call 15 [.t 21], none, [.f 1]⟩,
  ⟨some 6, .zero [.int .i64 0, .int .i64 0, .int .i64 0, .slice none 0 0, .int .i64 0, .slice none 0 0], none, []⟩,
  ⟨none, .store 6 (.t 6) (.t 22), none, []⟩])
 (.seq (.seq (.ops [⟨some 23, .load true 6 (.t 6), none, []⟩,
  ⟨some 24, .load true 6 (.t 4), none, []⟩,
  ⟨some 25, .call 9 [.t 23, .t 24], none, [.f 1]⟩,
  ⟨some 26, .not (.t 25), none, []⟩])
 (.cond (.t 26) (.seq (.ops [⟨some 2, .mv (.c (.bool false)), none, []⟩])
 (.ret))
 (.skip)))
 (.seq (.seq (.ops [⟨some 27, .load true 5 (.t 5), none, []⟩,
  ⟨some 28, .load true 5 (.t 1), none, []⟩,
  ⟨some 29, .call 14 [.t 28], none, []⟩,
  ⟨some 30, .call 16 [.t 27, .t 29], none, [.f 0]⟩,
  ⟨some 31, .not (.t 30), none, []⟩])
 (.cond (.t 31) (.seq (.ops [⟨some 2, .mv (.c (.bool false)), none, []⟩])
 (.ret))
 (.skip)))
 (.seq (.ops [⟨some 7, .mv (.c (.int .i64 1)), none, []⟩])
 (.seq (.ops [⟨some 32, .load true 5 (.t 5), none, []⟩,
  ⟨some 33, .mv (.t 7), none, []⟩,
  ⟨some 34, .call 17 [.t 32, .t 33], none, [.f 1]⟩,
  ⟨some 7, .mv (.t 34), none, []⟩])
 (.seq (.seq (.ops [⟨some 35, .mv (.t 7), none, []⟩,
  ⟨some 36, .bin .lss false (.t 35) (.c (.int .i64 0)), none, []⟩,
  ⟨some 37, .mv (.t 36), none, []⟩,
  ⟨some 38, .load true 6 (.t 6), some (37, false), []⟩,
  ⟨some 39, .load true 6 (.t 4), some (37, false), []⟩,
  ⟨some 40, .call 9 [.t 38, .t 39], some (37, false), [.f 1]⟩,
  ⟨some 41, .not (.t 40), some (37, false), []⟩,
  ⟨some 42, .pick (.t 37) (.c (.bool true)) (.t 41), none, []⟩])
 (.cond (.t 42) (.seq (.ops [⟨some 2, .mv (.c (.bool false)), none, []⟩])
 (.ret))
 (.skip)))
 (.seq (.ops [⟨some 8, .mv (.c (.int .i64 1)), none, []⟩])
 (.seq (.ops [⟨some 43, .load true 6 (.t 6), none, []⟩,
  ⟨some 44, .mv (.t 8), none, []⟩,
  ⟨some 45, .call 10 [.t 43, .t 44], none, [.f 1]⟩,
  ⟨some 8, .mv (.t 45), none, []⟩])
 (.seq (.ops [⟨some 9, .mv (.c (.int .i64 1)), none, []⟩])
 (.seq (.ops [⟨some 46, .load true 6 (.t 6), none, []⟩,
  ⟨some 47, .mv (.t 9), none, []⟩,
  ⟨some 48, .call 11 [.t 46, .t 47], none, [.f 1]⟩,
  ⟨some 9, .mv (.t 48), none, []⟩])
 (.seq (.seq (.ops [⟨some 49, .mv (.t 9), none, []⟩,
  ⟨some 50, .bin .lss false (.t 49) (.c (.int .i64 0)), none, []⟩])
 (.cond (.t 50) (.seq (.ops [⟨some 2, .mv (.c (.bool false)), none, []⟩])
 (.ret))
 (.skip)))
 (.seq (.seq (.ops [⟨some 51, .mv (.t 9), none, []⟩,
  ⟨some 52, .mv (.t 8), none, []⟩,
  ⟨some 53, .bin .neq false (.t 51) (.t 52), none, []⟩])
 (.cond (.t 53) (.seq (.ops [⟨some 2, .mv (.c (.bool false)), none, []⟩])
 (.ret))
 (.skip)))
 (.seq (.ops [⟨some 54, .load true 5 (.t 1), none, []⟩,
  ⟨some 55, .call 14 [.t 54], none, [.f 1]⟩,
  ⟨some 56, .call 15 [.t 55], none, [.f 1]⟩,
  ⟨some 10, .zero [.int .i64 0, .int .i64 0, .int .i64 0, .slice none 0 0, .int .i64 0, .slice none 0 0], none, []⟩,
  ⟨none, .store 6 (.t 10) (.t 56), none, []⟩])
 (.seq (.seq (.ops [⟨some 57, .load true 6 (.t 10), none, []⟩,
  ⟨some 58, .load true 6 (.t 4), none, []⟩,
  ⟨some 59, .call 9 [.t 57, .t 58], none, [.f 1]⟩,
  ⟨some 60, .not (.t 59), none, []⟩])
 (.cond (.t 60) (.seq (.ops [⟨some 2, .mv (.c (.bool false)), none, []⟩])
 (.ret))
 (.skip)))
 (.seq (.ops [⟨some 9, .mv (.c (.int .i64 1)), none, []⟩])
 (.seq (.ops [⟨some 61, .load true 6 (.t 6), none, []⟩,
  ⟨some 62, .mv (.t 9), none, []⟩,
  ⟨some 63, .call 11 [.t 61, .t 62], none, [.f 1]⟩,
  ⟨some 9, .mv (.t 63), none, []⟩])
 (.seq (.seq (.ops [⟨some 64, .mv (.t 9), none, []⟩,
  ⟨some 65, .bin .lss false (.t 64) (.c (.int .i64 0)), none, []⟩])
 (.cond (.t 65) (.seq (.ops [⟨some 2, .mv (.c (.bool false)), none, []⟩])
 (.ret))
 (.skip)))
 (.seq (.seq (.ops [⟨some 66, .mv (.t 9), none, []⟩,
  ⟨some 67, .mv (.t 8), none, []⟩,
  ⟨some 68, .bin .neq false (.t 66) (.t 67), none, []⟩])
 (.cond (.t 68) (.seq (.ops [⟨some 2, .mv (.c (.bool false)), none, []⟩])
 (.ret))
 (.skip)))
 (.seq (.ops [⟨some 2, .mv (.c (.bool true)), none, []⟩])
 (.ret)))))))))))))))))))))))))
theorem lk_l_FnExactShapeOf : look Tryd.prog 4 = some (69, m_l_FnExactShapeOf, [.tm 2]) := by kernel_rfl
end Go.Proofs.YtpknmldpdoadgaaDoor

/- The walk of FnExactShapeOf. -/
namespace Go.Proofs.YtpknmldpdoadgaaDoor
open Go.RowKit

def ShOfLaw8 (A0 VR : List PC) (s : St) : Prop := ∃ cw, has s.tm [(1, .ref 0 0), (4, .ref 1 0)] ∧ s.bx = [A0, cw] ∧ erL cw = VR ∧ cw.length = 6 ∧ OwnL s.nt s.live cw
def ShOfLaw29 (b : List (List PC)) (m : Int) (s : St) : Prop := has s.tm [(1, .ref 0 0), (4, .ref 1 0), (6, .ref 3 0), (8, .d (pI m))] ∧ s.bx = b

set_option maxHeartbeats 4000000 in
theorem lawShapeOf_fn {E : Env} (hP : E.P = Tryd.prog) {A0 : List PC} {D0 D0' DR DR' : D} {s0 k0 m : Int}
    (e0 : erL A0 = A0) (g0 : ∀ L, fineL L A0) (l0 : A0.length = 5)
    (z0 : FnV E 12 [.ag A0, .d (pI 1048576)] (.d (pI s0)))
    (hg : 0 ≤ s0 → FnO E 14 [.ag A0] (.ag D0.pc) ∧ (FnO E 13 [.ag D0.pc] (.ag DR.pc) ∧ FnO E 15 [.ag D0.pc] (.ag DR.pc)) ∧
      (FnV E 9 [.ag DR.pc, .ag DR.pc] (.d (pB true)) ∧ FnV E 16 [.ag D0.pc, .ag D0.pc] (.d (pB true))) ∧
      (MarkC E 17 D0 D0' 1 k0 ∧ MarkC E 10 DR DR' 1 m ∧ FnV E 11 [.ag DR'.pc, .d (pI 1)] (.d (pI m))) ∧ 0 ≤ k0 ∧ 0 ≤ m ∧
      (D0.wf ∧ DR.wf ∧ DR'.wf ∧ DR'.pl) ∧ (D0.pc.length = 5 ∧ DR.pc.length = 6 ∧ DR'.pc.length = 6)) :
    FnV E 4 [.ag A0] (.d (pB true)) := by
  refine fn_ofB (by rw [hP]; exact lk_l_FnExactShapeOf) (by show 1 ≤ 69; decide) fun B hB hold hBF => ?_
  unfold m_l_FnExactShapeOf
  refine mw_seq (mw_ops ?_)
  refine po_box rfl ?_
  refine po_q rfl rfl ?_
  refine po_nil ?_
  refine mw_seq (mw_ops ?_)
  refine po_q rfl rfl ?_
  refine po_nil ?_
  refine mw_seq (mw_ops ?_)
  refine po_ldw (p := 0) (cs := A0) rfl rfl rfl l0 ?_
  refine po_q rfl rfl ?_
  refine po_call (dats1i e0 _) z0 ?_
  refine po_q rfl rfl ?_
  refine po_nil ?_
  refine mw_seq (mw_seq (mw_ops ?_))
  refine po_q rfl rfl ?_
  refine po_b rfl rfl (fun b1 hb1 => ?_)
  refine po_nil ?_
  by_cases h0 : s0 < 0
  · have : b1 = true := by rw [hb1]; exact decide_eq_true h0
    subst this
    refine mw_cond (t := true) rfl (fun _ => ?_) (fun h => absurd h (by decide))
    refine mw_seq (mw_ops ?_)
    refine po_q rfl rfl ?_
    refine po_nil ?_
    exact mw_ret ⟨.inr rfl, _, rfl, rfl⟩
  have : b1 = false := by rw [hb1]; exact decide_eq_false h0
  subst this
  refine mw_cond (t := false) rfl (fun h => absurd h (by decide)) (fun _ => ?_)
  refine mw_skip ?_
  obtain ⟨t0, ⟨hS, hI⟩, ⟨qR, q0⟩, ⟨m0, mR, hR⟩, hk1, hm, ⟨w0, wR, wR', plR⟩, n0, nR, nR'⟩ := hg (by omega)
  clear hb1
  refine mw_seq (mw_ops ?_)
  refine po_ldw (p := 0) (cs := A0) rfl rfl rfl l0 ?_
  refine po_call (dats1 e0) t0.v ?_
  refine po_ownN (n := 6) (dats1 (D.pc_er _)) hS nR (fun cw ntw ecw lcw hnw Nw => ?_)
  refine po_zero ?_
  refine po_stw (p := 1) rfl rfl rfl lcw rfl rfl ?_
  refine po_nil ?_
  refine mw_at (ShOfLaw8 A0 DR.pc) ⟨cw, ⟨rfl, rfl, trivial⟩, rfl, ecw, lcw, Nw.ownL _⟩ ?_
  rintro tm bx nt live ⟨cw, ht, hbx, ew, lw, Ow⟩
  obtain ⟨tm0, rfl⟩ := has_ups ht
  simp only at hbx Ow; subst hbx
  clear ht
  have mw : ∀ t ∈ toksL cw, t < nt := fun t h => (Ow.mem t h).2
  have hwl : ∀ t ∈ toksL cw, t ∈ live := fun t h => (Ow.mem t h).1
  refine mw_seq (mw_ops ?_)
  refine po_ldw (p := 0) (cs := A0) rfl rfl rfl l0 ?_
  refine po_ownN (n := 5) (dats1 e0) t0 n0 (fun c0 nt0 ec0 lc0 hn0 N0 => ?_)
  refine po_zero ?_
  refine po_stw (p := 2) rfl rfl rfl lc0 rfl rfl ?_
  refine po_nil ?_
  refine mw_seq (mw_ops ?_)
  refine po_ldw (p := 2) (cs := c0) rfl rfl rfl lc0 ?_
  refine po_ownN (n := 6) (dats1 ec0) hI nR (fun cg ntg ecg lcg hng Ng => ?_)
  refine po_zero ?_
  refine po_stw (p := 3) rfl rfl rfl lcg rfl rfl ?_
  refine po_nil ?_
  refine mw_seq (mw_seq (mw_ops ?_))
  refine po_ldw (p := 3) (cs := cg) rfl rfl rfl lcg ?_
  refine po_ldw (p := 1) (cs := cw) rfl rfl rfl lw ?_
  refine po_call (dats2 ecg ew) qR ?_
  refine po_q rfl rfl ?_
  refine po_nil ?_
  refine mw_cond (t := false) rfl (fun h => absurd h (by decide)) (fun _ => ?_)
  refine mw_skip ?_
  refine mw_seq (mw_seq (mw_ops ?_))
  refine po_ldw (p := 2) (cs := c0) rfl rfl rfl lc0 ?_
  refine po_ldw (p := 0) (cs := A0) rfl rfl rfl l0 ?_
  refine po_call (dats1 e0) t0.v ?_
  refine po_call (dats2 ec0 (D.pc_er _)) q0 ?_
  refine po_q rfl rfl ?_
  refine po_nil ?_
  refine mw_cond (t := false) rfl (fun h => absurd h (by decide)) (fun _ => ?_)
  refine mw_skip ?_
  refine mw_seq (mw_ops ?_)
  refine po_q rfl rfl ?_
  refine po_nil ?_
  refine mw_seq (mw_callX (pre := [_, _]) (suf := [_]) ?_)
  refine po_ldw (p := 2) (cs := c0) rfl rfl rfl lc0 ?_
  refine po_q rfl rfl ?_
  refine po_nil ?_
  refine xcall_drop (cs := c0) (L := toksL cg ++ toksL cw) (kt := [1, 4, 6]) (kb := [true, true, false, true]) m0 hold hBF w0 ec0 N0.own N0.nd (fun t h => by simp [h]) (fun t h => ?_) ⟨trivial, trivial, trivial, trivial⟩ ⟨g0 _, fineL_of Ow.own (fun t h => by simp [h]), fineL_of Ng.own (fun t h => by simp [h]), trivial⟩ (fun rw0 r0 => ?_)
  · simp only [List.mem_append] at h
    rcases h with h | h
    · exact ⟨by simp [h], Ng.gt N0 (by omega) t h⟩
    · exact ⟨by simp [hwl t h], fun h2 => by have := mw t h; have := (N0.mem t h2).1; omega⟩
  refine po_q rfl rfl ?_
  refine po_nil ?_
  refine mw_seq (mw_seq (mw_ops ?_))
  refine po_q rfl rfl ?_
  refine po_b rfl rfl (fun b1 hb1 => ?_)
  have : b1 = false := by rw [hb1]; exact decide_eq_false (by omega)
  subst this
  refine po_q rfl rfl ?_
  refine po_ldw (p := 3) (cs := cg) rfl rfl rfl lcg ?_
  refine po_ldw (p := 1) (cs := cw) rfl rfl rfl lw ?_
  refine po_gcall (b := true) rfl (fun _ => dats2 ecg ew) (fun _ => qR) ?_
  refine po_q rfl rfl ?_
  refine po_q rfl rfl ?_
  refine po_nil ?_
  refine mw_cond (t := false) rfl (fun h => absurd h (by decide)) (fun _ => ?_)
  refine mw_skip ?_
  refine mw_seq (mw_ops ?_)
  refine po_q rfl rfl ?_
  refine po_nil ?_
  refine mw_seq (mw_callX (pre := [_, _]) (suf := [_]) ?_)
  refine po_ldw (p := 3) (cs := cg) rfl rfl rfl lcg ?_
  refine po_q rfl rfl ?_
  refine po_nil ?_
  refine xcall_redo (p := 3) (cs := cg) (L := toksL cw) (kt := [1, 4, 6]) (kb := [true, true, false, false]) mR hold hBF wR wR' plR ecg Ng.own Ng.nd (fun t h => by simp [h]) (fun t h => ?_) ⟨trivial, trivial, trivial, trivial⟩ ⟨g0 _, fineL_of Ow.own (fun t h => by simp [h]), trivial⟩ rfl (fun _ => rfl) (fun rwG rG cg' nt3 ecg' og ndg mg hn3 => ?_)
  · have h := h
    exact ⟨by simp [h], fun h2 => by have := mw t h; have := (Ng.mem t h2).1; omega⟩
  have lcg' : cg'.length = 6 := by rw [← nR', ← ecg', erL_map, List.length_map]
  refine po_q rfl rfl ?_
  refine po_nil ?_
  refine mw_seq (mw_ops ?_)
  refine po_q rfl rfl ?_
  refine po_nil ?_
  refine mw_seq (mw_ops ?_)
  refine po_ldw (p := 3) (cs := cg') rfl rfl rfl lcg' ?_
  refine po_q rfl rfl ?_
  refine po_call (dats1i ecg' _) hR ?_
  refine po_q rfl rfl ?_
  refine po_nil ?_
  refine mw_seq (mw_seq (mw_ops ?_))
  refine po_q rfl rfl ?_
  refine po_b rfl rfl (fun b1 hb1 => ?_)
  have : b1 = false := by rw [hb1]; exact decide_eq_false (by omega)
  subst this
  refine po_nil ?_
  refine mw_cond (t := false) rfl (fun h => absurd h (by decide)) (fun _ => ?_)
  refine mw_skip ?_
  refine mw_seq (mw_seq (mw_ops ?_))
  refine po_q rfl rfl ?_
  refine po_q rfl rfl ?_
  refine po_b rfl rfl (fun b1 hb1 => ?_)
  have : b1 = false := by rw [hb1]; simp
  subst this
  refine po_nil ?_
  refine mw_cond (t := false) rfl (fun h => absurd h (by decide)) (fun _ => ?_)
  refine mw_skip ?_
  refine mw_at (ShOfLaw29 [A0, cw, (rG 2), cg'] m) ⟨⟨rfl, rfl, rfl, rfl, trivial⟩, rfl⟩ ?_
  rintro tm bx nt live ⟨ht, hbx⟩
  obtain ⟨tm0, rfl⟩ := has_ups ht
  simp only at hbx; subst hbx
  clear ht
  refine mw_seq (mw_ops ?_)
  refine po_ldw (p := 0) (cs := A0) rfl rfl rfl l0 ?_
  refine po_call (dats1 e0) t0.v ?_
  refine po_call (dats1 (D.pc_er _)) hI.v ?_
  refine po_zero ?_
  refine po_stw (p := 4) rfl rfl rfl nR rfl rfl ?_
  refine po_nil ?_
  refine mw_seq (mw_seq (mw_ops ?_))
  refine po_ldw (p := 4) (cs := DR.pc) rfl rfl rfl nR ?_
  refine po_ldw (p := 1) (cs := cw) rfl rfl rfl lw ?_
  refine po_call (dats2 (D.pc_er _) ew) qR ?_
  refine po_q rfl rfl ?_
  refine po_nil ?_
  refine mw_cond (t := false) rfl (fun h => absurd h (by decide)) (fun _ => ?_)
  refine mw_skip ?_
  refine mw_seq (mw_ops ?_)
  refine po_q rfl rfl ?_
  refine po_nil ?_
  refine mw_seq (mw_ops ?_)
  refine po_ldw (p := 3) (cs := cg') rfl rfl rfl lcg' ?_
  refine po_q rfl rfl ?_
  refine po_call (dats1i ecg' _) hR ?_
  refine po_q rfl rfl ?_
  refine po_nil ?_
  refine mw_seq (mw_seq (mw_ops ?_))
  refine po_q rfl rfl ?_
  refine po_b rfl rfl (fun b1 hb1 => ?_)
  have : b1 = false := by rw [hb1]; exact decide_eq_false (by omega)
  subst this
  refine po_nil ?_
  refine mw_cond (t := false) rfl (fun h => absurd h (by decide)) (fun _ => ?_)
  refine mw_skip ?_
  refine mw_seq (mw_seq (mw_ops ?_))
  refine po_q rfl rfl ?_
  refine po_q rfl rfl ?_
  refine po_b rfl rfl (fun b1 hb1 => ?_)
  have : b1 = false := by rw [hb1]; simp
  subst this
  refine po_nil ?_
  refine mw_cond (t := false) rfl (fun h => absurd h (by decide)) (fun _ => ?_)
  refine mw_skip ?_
  refine mw_seq (mw_ops ?_)
  refine po_q rfl rfl ?_
  refine po_nil ?_
  exact mw_ret ⟨.inr rfl, _, rfl, rfl⟩
end Go.Proofs.YtpknmldpdoadgaaDoor

/- The program of this seat, for walks on values without memory. -/
namespace Go.Proofs.YtpknmldpdoadgaaDoor
open Go.RowKit

noncomputable def ngl : Nat := Tryd.prog.globals.size
noncomputable def env (T : World → Prop) (hT : Low ngl T) : Env := ⟨Tryd.prog, ngl, T, hT, by kernel_rfl⟩
theorem look_env {T : World → Prop} {hT : Low ngl T} {f : Nat} {r : Nat × M × List MRes} (h : look Tryd.prog f = some r) : look (env T hT).P f = some r := h
end Go.Proofs.YtpknmldpdoadgaaDoor

/- From a law's walk on values without memory to the claim: the world at the call's beginning. -/
namespace Go.Proofs.YtpknmldpdoadgaaDoor
open Go.RowKit

/-- all variables of the program lie in a world that is in shape -/
theorem ngl_of {w : World} (h : w.ShapedOpen Tryd.prog) : ngl ≤ w.heap.size := by
  have hlt : ngl < (begin Tryd.prog (fun _ _ => 0) default).world.heap.size := of_decide_eq_true (by unfold ngl; kernel_rfl)
  obtain ⟨o, _, h2, _⟩ := h.2 ngl (Nat.le_refl _) hlt
  exact Nat.le_of_lt (heap_lt h2)
/-- this world's own cells stay as they are -/
def Stay (T : World → Prop) (w : World) (W : World) : Prop := T W ∧ w.heap.size ≤ W.heap.size ∧ ∀ k, k < w.heap.size → W.heap[k]? = w.heap[k]?
theorem Stay.low {T : World → Prop} (hT : Low ngl T) {w : World} (hn : ngl ≤ w.heap.size) : Low w.heap.size (Stay T w) := fun W W' h hs hk =>
  ⟨hT W W' h.1 hs fun k hk' => hk k (Nat.lt_of_lt_of_le hk' hn), Nat.le_trans h.2.1 hs, fun k hk' => (hk k hk').trans (h.2.2 k hk')⟩
noncomputable def envW (T : World → Prop) (hT : Low ngl T) (w : World) (hn : ngl ≤ w.heap.size) : Env := ⟨Tryd.prog, w.heap.size, Stay T w, Stay.low hT hn, by kernel_rfl⟩
section
variable {T : World → Prop} {hT : Low ngl T} {w : World} {hn : ngl ≤ w.heap.size}
theorem FnV.toW {f : Nat} {args : List PV} {v : PV} (h : FnV (env T hT) f args v) : FnV (envW T hT w hn) f args v := Fn.up (E := env T hT) (E' := envW T hT w hn) rfl hn (fun _ h => h.1) h
theorem FnO.toW {f : Nat} {args : List PV} {v : PV} (h : FnO (env T hT) f args v) : FnO (envW T hT w hn) f args v := Fn.up (E := env T hT) (E' := envW T hT w hn) rfl hn (fun _ h => h.1) h
theorem Stay.rd {W : World} (h : Stay T w W) {d : D} {cs : List Value} (hr : Rd w d cs) : Rd W d cs := Rd.of (RepC.frame (S := (· < w.heap.size)) (fun b hb => h.2.2 b hb) hr)
end
/-- an argument as it comes -/
def rawL (cs : List Value) : List PC := cs.map .v
theorem rawL_er (cs : List Value) : erL (rawL cs) = rawL cs := by
  unfold rawL; rw [erL_map, List.map_map]; rfl
theorem rawL_len (cs : List Value) : (rawL cs).length = cs.length := by simp [rawL]
theorem rawL_inv {C : Cx} {W : World} {cs : List Value} {y : Value} (h : RpV C W (.ag (rawL cs)) y) : y = .agg cs.toArray := by
  cases h with
  | ag _ us hl =>
    have : us = cs := by
      refine List.ext_getElem (by rw [hl.1]; simp [rawL]) fun j h4 h5 => ?_
      have := hl.2 j (.v cs[j]) us[j] (by simp [rawL]) (by simp)
      generalize us[j] = x at this; generalize cs[j] = z at this
      cases this; rfl
    rw [this]
theorem int_inv {C : Cx} {W : World} {k : Int} {y : Value} (h : RpV C W (.d (pI k)) y) : y = .int .i64 k := by
  cases h with
  | d _ _ h => cases h; rfl
theorem rawL_rp {w : World} {d : D} {cs : List Value} (hr : Rd w d cs) (hw : d.wf) : RpV (C0 w) w (.ag (rawL cs)) (.agg cs.toArray) := by
  refine .ag _ _ ⟨by simp [rawL], fun j c y h1 h2 => ?_⟩
  have h0 := (hr.rp (C := C0 w) (fun _ _ hb => hb) hw).one
  unfold rawL at h1
  rw [List.getElem?_map, h2] at h1
  simp only [Option.map_some, Option.some.injEq] at h1; subst h1
  exact .v _ (h0 y (List.mem_of_getElem? h2))
theorem FnV.bool {E : Env} {f : Nat} {args : List PV} {b : Bool} (h : FnV E f args (.d (pB b))) {w : World} (hng : E.NG ≤ w.heap.size) (hT : E.T w) {vs : List Value} (hl : vs.length = args.length) (hv : ∀ (j : Nat) (x : PV) (y : Value), args[j]? = some x → vs[j]? = some y → RpV (C0 w) w x y) :
    Calls E.P f vs.toArray w fun e w' => e = .returned (.bool b) ∧ Below w.heap.size w w' := by
  refine (Fn.use h hng hT hl hv).mono ?_
  rintro e w' ⟨u, x, bx, live, C', rfl, h1, _, h3, h4, _⟩
  have hx : x = .d (pB b) := by
    cases x with
    | d c =>
      simp only [PV.dat, Option.some.injEq, PV.d.injEq] at h1
      cases c with
      | v y => simp only [PC.er] at h1; rw [h1]
      | sl t es => simp [PC.er, pB] at h1
    | _ => simp [PV.dat] at h1
  subst hx
  cases h3 with
  | d _ _ h => cases h; exact ⟨rfl, h4⟩
end Go.Proofs.YtpknmldpdoadgaaDoor

/- Contracts of the laws' own functions over shapes: sizes, copies, comparison. -/
namespace Go.Proofs.YtpknmldpdoadgaaDoor
open Go.RowKit

set_option maxHeartbeats 400000 in
theorem szStringS_any (ls : List (List UInt8)) (v : Value) (left : Int) (w : World) (h : Rd w (dSs ls) [v]) (hs : ∀ s ∈ ls, strok s) (hlen : ls.length ≤ 9223372036854775807) (hl : 0 ≤ left ∧ left ≤ 1048576) :
    Calls Tryd.prog 18 #[v, .int .i64 left] w fun e w' => e = .returned (.int .i64 (take' (ls.length + ssBulk ls) left)) ∧ Below w.heap.size w w' := by
  obtain ⟨a, c, rfl, hg⟩ := h.strs
  obtain ⟨hl1, hl2⟩ := hl
  by_cases hlt : left < ls.length
  · have H := Lib.hid (show take' (ls.length + ssBulk ls) left = -1 by unfold take'; rw [if_pos (by omega)])
    go_enter Tryd.func18, Tryd.ntmps18
    go_wp2
    go_ret
    exact ⟨ret_int H.out.symm, Below.refl _ _⟩
  · go_enter Tryd.func18, Tryd.ntmps18
    go_wp2
    go_loop [1, 5] (fun x i => ∃ (k : Nat), k ≤ ls.length ∧ i = .int .i64 k ∧ ((ls.length + ssBulk (ls.take k) : Nat) : Int) ≤ left ∧ x = .int .i64 (left - (ls.length + ssBulk (ls.take k) : Nat))) (fun _ i => ls.length - (intOf i).toNat)
    case atStart => exact ⟨0, Nat.zero_le _, rfl, by simp [ssBulk]; omega, by simp [ssBulk]⟩
    case round =>
      obtain ⟨k, hk, rfl, hx, rfl⟩ := hrel
      by_cases hk2 : k < ls.length
      · obtain ⟨_, _, b, o, rfl, hb, hcell⟩ := hg (by intro e; rw [e] at hk2; simp at hk2)
        have hc := hcell k hk2
        have hsk : ls[k].length ≤ 9223372036854775807 := hs _ (List.getElem_mem hk2)
        have HS := Lib.hid (ssBulk_snoc ls k hk2)
        clear hcell
        go_wp2
        · have hno : left - ((ls.length : Int) + ↑(ssBulk (ls.take k))) - ↑(ls[k].length) < 0 := by assumption
          have hle := ssBulk_take ls (k + 1)
          rw [HS.out] at hle
          go_ret
          exact ⟨ret_int (take'_no (by omega)).symm, Below.refl _ _⟩
        · have hyes : 0 ≤ left - ((ls.length : Int) + ↑(ssBulk (ls.take k))) - ↑(ls[k].length) := by assumption
          go_round
          case rel => exact ⟨k + 1, by omega, by go_num, by rw [HS.out]; omega, by rw [HS.out]; go_num⟩
          case measure => simp [intOf] <;> omega
      · obtain rfl : k = ls.length := by omega
        rw [List.take_length] at hx
        have H := Lib.hid (take'_yes hx)
        go_wp2
        go_ret
        exact ⟨ret_int (by rw [H.out]; go_num), Below.refl _ _⟩

def SzA (n : Nat) : Prop := ∀ (sh : Sh) (cs : List Value) (left : Int) (w : World), sh.nodes ≤ n → Rd w sh.d cs → sh.wf → 0 ≤ left ∧ left ≤ 1048576 →
  Calls Tryd.prog 5 #[.agg cs.toArray, .int .i64 left] w fun e w' => e = .returned (.int .i64 (take' sh.bulk left)) ∧ Below w.heap.size w w'
def SzB (n : Nat) : Prop := ∀ (ls : List Sh) (v : Value) (left : Int) (w : World), Sh.nodess ls ≤ n → Rd w (.sl 6 (Sh.ds ls)) [v] → Sh.wfs ls → ls.length ≤ 9223372036854775807 → 0 ≤ left ∧ left ≤ 1048576 →
  Calls Tryd.prog 19 #[v, .int .i64 left] w fun e w' => e = .returned (.int .i64 (take' (ls.length + Sh.bulks ls) left)) ∧ Below w.heap.size w w'

set_option maxHeartbeats 400000 in
theorem SzB_of {n : Nat} (hA : SzA n) : SzB n := by
  intro ls v left w hn h hs hlen hl
  obtain ⟨a, c, rfl, hg⟩ := h.shapes
  obtain ⟨hl1, hl2⟩ := hl
  by_cases hlt : left < ls.length
  · have H := Lib.hid (show take' (ls.length + Sh.bulks ls) left = -1 by unfold take'; rw [if_pos (by omega)])
    go_enter Tryd.func19, Tryd.ntmps19
    go_wp2
    go_ret
    exact ⟨ret_int H.out.symm, Below.refl _ _⟩
  · go_enter Tryd.func19, Tryd.ntmps19
    go_wp2
    go_loopw [1, 5] (fun x i wr => ∃ (k : Nat), k ≤ ls.length ∧ i = .int .i64 k ∧ ((ls.length + Sh.bulks (ls.take k) : Nat) : Int) ≤ left ∧ x = .int .i64 (left - (ls.length + Sh.bulks (ls.take k) : Nat)) ∧ Below w.heap.size w wr) (fun _ i _ => ls.length - (intOf i).toNat)
    case atStart => exact ⟨0, Nat.zero_le _, rfl, by simp [Sh.bulks]; omega, by simp [Sh.bulks], Below.refl _ _⟩
    case round =>
      obtain ⟨k, hk, rfl, hx, rfl, hbel⟩ := hrel
      by_cases hk2 : k < ls.length
      · obtain ⟨_, _, b, o, rfl, hb, hcell⟩ := hg (by intro e; rw [e] at hk2; simp at hk2)
        obtain ⟨v0, v1, v2, v3, v4, v5, hr, c0, c1, c2, c3, c4, c5⟩ := hcell k hk2
        have hwk := Sh.wfs_get hs k hk2
        have hnk := Nat.le_trans (Sh.nodes_get ls k hk2) hn
        have HS := Lib.hid (Sh.bulks_snoc ls k hk2)
        clear hcell
        obtain ⟨hbc, _⟩ := bcell hbel
        have hr' := hr.below hbel
        go_wp2_with (go_at_call 5; refine (hA _ _ _ _ hnk hr' hwk (by omega)).mono ?_; rintro e w' ⟨rfl, hb1⟩)
        · have hno : take' ls[k].bulk (left - ((ls.length : Int) + ↑(Sh.bulks (ls.take k)))) < 0 := by assumption
          rw [take'_lt] at hno
          have hle := Sh.bulks_take ls (k + 1)
          rw [HS.out] at hle
          go_ret
          exact ⟨ret_int (take'_no (by omega)).symm, below2 hbel hb1 (Nat.le_refl _)⟩
        · have hyes : 0 ≤ take' ls[k].bulk (left - ((ls.length : Int) + ↑(Sh.bulks (ls.take k)))) := by assumption
          have hy2 : ¬ (take' ls[k].bulk (left - ((ls.length : Int) + ↑(Sh.bulks (ls.take k)))) < 0) := by omega
          rw [take'_lt] at hy2
          have hy3 := Lib.hid (take'_yes (t := ls[k].bulk) (left := left - ((ls.length : Int) + ↑(Sh.bulks (ls.take k)))) (by omega))
          go_roundw
          case rel => exact ⟨k + 1, by omega, by go_num, by rw [HS.out]; omega, by rw [HS.out, hy3.out]; go_num, below2 hbel hb1 (Nat.le_refl _)⟩
          case measure => simp [intOf] <;> omega
      · obtain rfl : k = ls.length := by omega
        rw [List.take_length] at hx
        have H := Lib.hid (take'_yes hx)
        go_wp2
        go_ret
        exact ⟨ret_int (by rw [H.out, List.take_length]), hbel⟩

set_option maxHeartbeats 400000 in
theorem SzA_of {n : Nat} (hB : SzB n) : SzA (n + 1) := by
  intro sh cs left w hn h hs hl
  obtain ⟨k, l, hi, ks, m, kids, v1, v2, rfl, rfl, hk, hkids⟩ := Sh.lay h
  obtain ⟨_, _, _, ⟨hkl, hks⟩, _, hkidl, hwk⟩ := hs
  have hnk : Sh.nodess kids ≤ n := by simp only [Sh.nodes] at hn; omega
  have hA := (Below.refl w.heap.size w).alloc (Nat.le_refl _) (.cells #[.int .i64 k, .int .i64 l, .int .i64 hi, v1, .int .i64 m, v2] 25)
  have hk' := hk.alloc (.cells #[.int .i64 k, .int .i64 l, .int .i64 hi, v1, .int .i64 m, v2] 25)
  have hkids' := hkids.alloc (.cells #[.int .i64 k, .int .i64 l, .int .i64 hi, v1, .int .i64 m, v2] 25)
  by_cases h1 : left < (ks.length + ssBulk ks : Nat)
  · have H := Lib.hid (take'_no h1)
    have HR := Lib.hid (take'_no (t := Sh.bulk (.mk k l hi ks m kids)) (left := left) (by simp only [Sh.bulk]; omega))
    go_enter Tryd.func5, Tryd.ntmps5
    go_wp2_with (go_at_call 18; refine (szStringS_any _ _ _ _ hk' hks hkl hl).mono ?_; rw [H.out]; rintro e w' ⟨rfl, hb1⟩)
    go_ret
    exact ⟨ret_int HR.out.symm, below2 hA hb1 (Nat.le_refl _)⟩
  · have H := Lib.hid (take'_yes (t := ks.length + ssBulk ks) (left := left) (by omega))
    have HR := Lib.hid (take'_add (b := kids.length + Sh.bulks kids) h1)
    obtain ⟨h10, h11⟩ := hl
    have hl2 : 0 ≤ left - ((ks.length + ssBulk ks : Nat) : Int) := by omega
    generalize hq : left - ((ks.length + ssBulk ks : Nat) : Int) = q at *
    have HQ := Lib.hid hq; clear hq
    have hq2 : q ≤ 1048576 := by have := HQ.out; omega
    go_enter Tryd.func5, Tryd.ntmps5
    go_wp2_with (first | (go_at_call 18; refine (szStringS_any _ _ _ _ hk' hks hkl ⟨h10, h11⟩).mono ?_; rw [H.out]; rintro e w' ⟨rfl, hb1⟩; obtain ⟨hc1, hf1⟩ := bcell hb1; have hz : w.heap.size < w'.heap.size := (by have := hb1.size; simp at this; omega)) | (go_at_call 19; refine (hB _ _ _ _ hnk (hkids'.below hb1) hwk hkidl ⟨hl2, hq2⟩).mono ?_; rintro e w' ⟨rfl, hb2⟩))
    · have hno : take' (kids.length + Sh.bulks kids) q < 0 := by assumption
      rw [HR.out, take'_lt] at hno
      have H2 := take'_no (t := Sh.bulk (.mk k l hi ks m kids)) (left := left) (by simp only [Sh.bulk]; omega)
      go_ret
      exact ⟨ret_int H2.symm, below2 (below2 hA hb1 (Nat.le_refl _)) hb2 (Nat.le_refl _)⟩
    · go_ret
      exact ⟨ret_int (by rw [HR.out]; rfl), below2 (below2 hA hb1 (Nat.le_refl _)) hb2 (Nat.le_refl _)⟩

theorem Sz_all : ∀ n, SzA n ∧ SzB n
  | 0 => by
    have h0 : SzA 0 := fun sh cs left w hn => absurd (Sh.nodes_pos sh) (by omega)
    exact ⟨h0, SzB_of h0⟩
  | n + 1 => by
    have h1 := SzA_of (Sz_all n).2
    exact ⟨h1, SzB_of h1⟩
theorem szShape_any (sh : Sh) (cs : List Value) (left : Int) (w : World) (h : Rd w sh.d cs) (hs : sh.wf) (hl : 0 ≤ left ∧ left ≤ 1048576) :
    Calls Tryd.prog 5 #[.agg cs.toArray, .int .i64 left] w fun e w' => e = .returned (.int .i64 (take' sh.bulk left)) ∧ Below w.heap.size w w' :=
  (Sz_all sh.nodes).1 sh cs left w (Nat.le_refl _) h hs hl
end Go.Proofs.YtpknmldpdoadgaaDoor

/- Contracts of the laws' own functions over shapes: copies. -/
namespace Go.Proofs.YtpknmldpdoadgaaDoor
open Go.RowKit

theorem tySs : ElemTy Tryd.prog 22 9 1 16 := ElemTy.mk' (z := .string ⟨#[]⟩) Tryd.underlying22 (by kernel_rfl) rfl (by decide)

set_option maxHeartbeats 400000 in
theorem toStringS_any (ls : List (List UInt8)) (v : Value) (w : World) (h : Rd w (dSs ls) [v]) (hlen : ls.length ≤ 1048576) :
    Calls Tryd.prog 22 #[v] w fun e w' => ∃ v', e = .returned v' ∧ Below w.heap.size w w' ∧ Own w.heap.size w' (dSs ls) [v'] := by
  obtain ⟨a, c, rfl, hg⟩ := h.strs
  obtain ⟨cs, hcs, hmk⟩ := run_mk tySs ls.length (by omega) (by decide)
  have HCS := Lib.hid hcs; clear hcs
  go_enter Tryd.func22, Tryd.ntmps22
  go_wp2
  go_loopw [4] (fun i wr => ∃ (k : Nat), k ≤ ls.length ∧ i = .int .i64 k ∧ Part w.heap.size wr w.heap.size 1 ls.length ((ls.take k).map dS) ∧ Below w.heap.size w wr) (fun i _ => ls.length - (intOf i).toNat)
  case atStart => exact ⟨0, Nat.zero_le _, rfl, Part.start HCS.out, (Below.refl _ _).alloc (Nat.le_refl _) _⟩
  case round =>
    obtain ⟨k, hk, rfl, hp, hbel⟩ := hrel
    by_cases hk2 : k < ls.length
    · obtain ⟨_, _, b, o, rfl, hb, hcell⟩ := hg (by intro e; rw [e] at hk2; simp at hk2)
      have hc := hcell k hk2
      obtain ⟨hbc, _⟩ := bcell hbel
      clear hcell
      obtain ⟨⟨z, hz⟩, hfr⟩ := hp.there k (by omega)
      have hp2 := hp.put (d := dS ls[k]) (Below.refl _ wr) (Own.one _) rfl (by simp; omega) hbel.size
      have HS := Lib.hid (take_map_snoc dS ls k hk2)
      go_wp2
      go_roundw
      case rel => exact ⟨k + 1, by omega, by go_num, by rw [HS.out]; simpa [Nat.min_eq_left hk, setCells] using hp2, hbel.setCell (Nat.le_refl _) _⟩
      case measure => simp [intOf] <;> omega
    · obtain rfl : k = ls.length := by omega
      rw [List.take_length] at hp
      have ho := Part.own (ds := ls.map dS) (n := 1) (c := ls.length) (by simpa using hp) (by decide) ⟨by simp, by unfold maxLen; omega⟩
      go_wp2
      go_ret
      exact ⟨_, rfl, hbel, by simpa [dSs] using ho⟩

theorem tyShs : ElemTy Tryd.prog 27 29 6 80 := ElemTy.mk' (z := .agg #[.int .i64 0, .int .i64 0, .int .i64 0, .slice none 0 0, .int .i64 0, .slice none 0 0]) Tryd.underlying27 (by kernel_rfl) rfl (by decide)

def ToA (n : Nat) : Prop := ∀ (sh : Sh) (cs : List Value) (w : World), sh.nodes ≤ n → Rd w sh.d cs → sh.bulk ≤ 1048576 →
  Calls Tryd.prog 7 #[.agg cs.toArray] w fun e w' => ∃ cs', e = .returned (.agg cs'.toArray) ∧ Below w.heap.size w w' ∧ Own w.heap.size w' sh.d cs'
def ToB (n : Nat) : Prop := ∀ (ls : List Sh) (v : Value) (w : World), Sh.nodess ls ≤ n → Rd w (.sl 6 (Sh.ds ls)) [v] → ls.length + Sh.bulks ls ≤ 1048576 →
  Calls Tryd.prog 23 #[v] w fun e w' => ∃ v', e = .returned v' ∧ Below w.heap.size w w' ∧ Own w.heap.size w' (.sl 6 (Sh.ds ls)) [v']

set_option maxHeartbeats 800000 in
theorem ToB_of {n : Nat} (hA : ToA n) : ToB n := by
  intro ls v w hn h hlen
  obtain ⟨a, c, rfl, hg⟩ := h.shapes
  obtain ⟨cs, hcs, hmk⟩ := run_mk tyShs ls.length (by omega) (by decide)
  have HCS := Lib.hid hcs; clear hcs
  have hl : ls.length ≤ 1048576 := by omega
  go_enter Tryd.func23, Tryd.ntmps23
  go_wp2
  go_loopw [4] (fun i wr => ∃ (k : Nat), k ≤ ls.length ∧ i = .int .i64 k ∧ Part w.heap.size wr w.heap.size 6 ls.length ((ls.take k).map Sh.d) ∧ Below w.heap.size w wr) (fun i _ => ls.length - (intOf i).toNat)
  case atStart => exact ⟨0, Nat.zero_le _, rfl, Part.start HCS.out, (Below.refl _ _).alloc (Nat.le_refl _) _⟩
  case round =>
    obtain ⟨k, hk, rfl, hp, hbel⟩ := hrel
    by_cases hk2 : k < ls.length
    · obtain ⟨_, _, b, o, rfl, hb, hcell⟩ := hg (by intro e; rw [e] at hk2; simp at hk2)
      obtain ⟨v0, v1, v2, v3, v4, v5, hr, c0, c1, c2, c3, c4, c5⟩ := hcell k hk2
      obtain ⟨hbc, _⟩ := bcell hbel
      have hr' := hr.below hbel
      have hnk := Nat.le_trans (Sh.nodes_get ls k hk2) hn
      have hbk : ls[k].bulk ≤ 1048576 := by have h1 := Sh.bulks_snoc ls k hk2; have h2 := Sh.bulks_take ls (k + 1); omega
      have HS := Lib.hid (take_map_snoc Sh.d ls k hk2)
      clear hcell
      go_wp2_with (go_at_call 7; refine (hA _ _ _ hnk hr' hbk).mono ?_; rintro e w1 ⟨cs', rfl, hb1, hown⟩; obtain ⟨x0, x1, x2, a1, n1, c1, x4, a2, n2, c2, rfl⟩ := Sh.form hown.rd; have hp1 := hp.below hb1; obtain ⟨⟨z0, hz0⟩, hf0⟩ := hp1.there (k * 6) (by omega); obtain ⟨⟨z1, hz1⟩, hf1⟩ := hp1.there (k * 6 + 1) (by omega); obtain ⟨⟨z2, hz2⟩, hf2⟩ := hp1.there (k * 6 + 2) (by omega); obtain ⟨⟨z3, hz3⟩, hf3⟩ := hp1.there (k * 6 + 3) (by omega); obtain ⟨⟨z4, hz4⟩, hf4⟩ := hp1.there (k * 6 + 4) (by omega); obtain ⟨⟨z5, hz5⟩, hf5⟩ := hp1.there (k * 6 + 5) (by omega))
      have hp2 := hp.put hb1 hown (Sh.width _) (by simp; omega) hbel.size
      have hb2 := below_setCells (g := w.heap.size) [.int .i64 x0, .int .i64 x1, .int .i64 x2, .slice a1 n1 c1, .int .i64 x4, .slice a2 n2 c2] (k * 6) (below2 hbel hb1 (Nat.le_refl _)) (Nat.le_refl _)
      rw [List.length_map, List.length_take, Nat.min_eq_left hk, Nat.mul_comm] at hp2
      go_roundw
      case rel => exact ⟨k + 1, by omega, by go_num, by rw [HS.out]; exact hp2, hb2⟩
      case measure => simp [intOf] <;> omega
    · obtain rfl : k = ls.length := by omega
      rw [List.take_length] at hp
      have ho := Part.own (ds := ls.map Sh.d) (n := 6) (c := ls.length) (by simpa using hp) (by decide) ⟨by simp, by unfold maxLen; omega⟩
      go_wp2
      go_ret
      exact ⟨_, rfl, hbel, by rw [Sh.ds_map]; simpa using ho⟩

theorem Sh.own {B : Nat} {w : World} {k l hi m : Int} {ks : List (List UInt8)} {kids : List Sh} {v1 v2 : Value} (h : Owns B w [dSs ks, .sl 6 (Sh.ds kids)] [v1, v2]) :
    Own B w (Sh.d (.mk k l hi ks m kids)) [.int .i64 k, .int .i64 l, .int .i64 hi, v1, .int .i64 m, v2] := by
  obtain ⟨fp, h1, h2, h3⟩ := h
  refine ⟨fp, h1, h2, ?_⟩
  simp only [TreeCs] at h3
  obtain ⟨f1, f2, c1, c2, rfl, hc, hl, ht1, g1, g2, e1, e2, rfl, rfl, hl2, ht2, rfl, rfl⟩ := h3
  have hw : c1.length = 1 := by simpa [dSs, D.width] using hl
  have hw2 : e1.length = 1 := by simpa [D.width] using hl2
  obtain ⟨x, rfl⟩ := List.length_eq_one_iff.1 hw
  obtain ⟨y, rfl⟩ := List.length_eq_one_iff.1 hw2
  simp only [List.append_nil, List.cons_append, List.nil_append, List.cons.injEq, and_true] at hc
  obtain ⟨rfl, rfl⟩ := hc
  simp only [Sh.d, TreeC, TreeCs, dI]
  exact ⟨[], f1 ++ g1, [_], _, by simp, rfl, rfl, ⟨rfl, rfl⟩, [], f1 ++ g1, [_], _, by simp, rfl, rfl, ⟨rfl, rfl⟩, [], f1 ++ g1, [_], _, by simp, rfl, rfl, ⟨rfl, rfl⟩,
    f1, g1, [_], _, rfl, rfl, by simp [dSs, D.width], ht1, [], g1, [_], _, by simp, rfl, rfl, ⟨rfl, rfl⟩, g1, [], [_], [], by simp, rfl, rfl, by simpa only [TreeC] using ht2, rfl, rfl⟩

set_option maxHeartbeats 800000 in
theorem ToA_of {n : Nat} (hB : ToB n) : ToA (n + 1) := by
  intro sh cs w hn h hlen
  obtain ⟨k, l, hi, ks, m, kids, v1, v2, rfl, rfl, hk, hkids⟩ := Sh.lay h
  have hnk : Sh.nodess kids ≤ n := by simp only [Sh.nodes] at hn; omega
  simp only [Sh.bulk] at hlen
  have hA := (Below.refl w.heap.size w).alloc (Nat.le_refl _) (.cells #[.int .i64 k, .int .i64 l, .int .i64 hi, v1, .int .i64 m, v2] 25)
  have hkl : ks.length ≤ 1048576 := by omega
  have hkb : kids.length + Sh.bulks kids ≤ 1048576 := by omega
  go_enter Tryd.func7, Tryd.ntmps7
  go_wp2_with (first | (go_at_call 22; refine (toStringS_any _ _ _ (((hk.alloc _).alloc _).alloc _) hkl).mono ?_; rintro e w1 ⟨x1, rfl, hb1, hown1⟩; obtain ⟨a1, m1, n1, rfl⟩ := Rd.sl_any hown1.rd; obtain ⟨hc1, hf1⟩ := bcell hb1; have hb0 := below2 (((hA.alloc (by simp; try omega) _).alloc (by simp; try omega) _)) hb1 (Nat.le_refl _); have hz1 := hb1.size; simp at hz1; have g1 : w.heap.size < w1.heap.size := (by omega); have g2 : w.heap.size + 1 < w1.heap.size := (by omega); have g3 : w.heap.size + 1 + 1 < w1.heap.size := (by omega)) | (go_at_call 23; refine (hB _ _ _ hnk (hkids.below ((hb0.setCell (by simp; try omega) _).setCell (by simp; try omega) _)) hkb).mono ?_; rintro e w2 ⟨x2, rfl, hb2, hown2⟩; obtain ⟨a2, m2, n2, rfl⟩ := Rd.sl_any hown2.rd; obtain ⟨hc2, hf2⟩ := bcell hb2; have hz2 := hb2.size; simp at hz2; have g4 : w.heap.size < w2.heap.size := (by omega); have g5 : w.heap.size + 1 < w2.heap.size := (by omega); have g6 : w.heap.size + 1 + 1 < w2.heap.size := (by omega)))
  refine bodyPost_ret (v := .agg #[.int .i64 k, .int .i64 l, .int .i64 hi, .slice a1 m1 n1, .int .i64 m, .slice a2 m2 n2]) ?_ rfl ⟨[.int .i64 k, .int .i64 l, .int .i64 hi, .slice a1 m1 n1, .int .i64 m, .slice a2 m2 n2], rfl, ?_, ?_⟩
  · simp [results, Tryd.results7, go_sem, hc1, hc2, g2]
  · iterate 7 (refine Below.setCell ?_ (by simp; try omega) _)
    exact below2 ((hb0.setCell (by simp; try omega) _).setCell (by simp; try omega) _) hb2 (Nat.le_refl _)
  · refine Own.mono (B := w.heap.size + 1 + 1 + 1) ?_ (by omega)
    iterate 7 (refine Own.setCell ?_ (by simp; try omega) _)
    exact Sh.own (Owns.snoc (Owns.of1 (((hown1.mono (by simp)).setCell (by simp) _).setCell (by simp) _)) hb2 hown2 (by simp; omega))

theorem To_all : ∀ n, ToA n ∧ ToB n
  | 0 => by
    have h0 : ToA 0 := fun sh cs w hn => absurd (Sh.nodes_pos sh) (by omega)
    exact ⟨h0, ToB_of h0⟩
  | n + 1 => by
    have h1 := ToA_of (To_all n).2
    exact ⟨h1, ToB_of h1⟩
theorem toShape_any (sh : Sh) (cs : List Value) (w : World) (h : Rd w sh.d cs) (hs : sh.bulk ≤ 1048576) :
    Calls Tryd.prog 7 #[.agg cs.toArray] w fun e w' => ∃ cs', e = .returned (.agg cs'.toArray) ∧ Below w.heap.size w w' ∧ Own w.heap.size w' sh.d cs' :=
  (To_all sh.nodes).1 sh cs w (Nat.le_refl _) h hs
end Go.Proofs.YtpknmldpdoadgaaDoor

/- Contracts of the laws' own functions over shapes: comparison. -/
namespace Go.Proofs.YtpknmldpdoadgaaDoor
open Go.RowKit

set_option maxHeartbeats 400000 in
theorem eqStringS_any (la lb : List (List UInt8)) (va vb : Value) (w : World) (h : Rd w (dSs la) [va]) (h2 : Rd w (dSs lb) [vb]) (hla : la.length ≤ 9223372036854775807) (hlb : lb.length ≤ 9223372036854775807) :
    Calls Tryd.prog 27 #[va, vb] w fun e w' => e = .returned (.bool (decide (la = lb))) ∧ Below w.heap.size w w' := by
  obtain ⟨a, c, rfl, hg⟩ := h.strs
  obtain ⟨a', c', rfl, hg'⟩ := h2.strs
  by_cases hlen : la.length = lb.length
  · go_enter Tryd.func27, Tryd.ntmps27
    go_wp2
    go_loopw [5] (fun i wr => ∃ (k : Nat), k ≤ lb.length ∧ i = .int .i64 k ∧ la.take k = lb.take k ∧ Below w.heap.size w wr) (fun i _ => lb.length - (intOf i).toNat)
    case atStart => exact ⟨0, Nat.zero_le _, rfl, by simp, Below.refl _ _⟩
    case round =>
      obtain ⟨k, hk, rfl, htk, hbel⟩ := hrel
      have HT := Lib.hid htk; clear htk
      by_cases hk2 : k < lb.length
      · have hk1 : k < la.length := by omega
        obtain ⟨_, _, b, o, rfl, hb, hcell⟩ := hg (by intro e; rw [e] at hk1; simp at hk1)
        obtain ⟨_, _, b', o', rfl, hb', hcell'⟩ := hg' (by intro e; rw [e] at hk2; simp at hk2)
        have hc := hcell k hk1
        have hc' := hcell' k hk2
        clear hcell hcell' hg hg'
        obtain ⟨hbc, _⟩ := bcell hbel
        have hi1 : (0 : Int) ≤ k := by omega
        have hi2 : (k : Int) < lb.length := by omega
        go_wp2
        go_quiet (fail)
        go_wp2
        · have hne : (!la[k] == lb[k]) = true := by assumption
          have hne' : ¬ la = lb := ne_of_get hk1 hk2 (by simpa using hne)
          go_ret
          exact ⟨by rw [decide_eq_false hne']; rfl, below_drewN hbel _⟩
        · have heq : (!la[k] == lb[k]) = false := by assumption
          go_roundw
          case rel => exact ⟨k + 1, by omega, by go_num, take_eq_snoc HT.out hk1 hk2 (by simpa using heq), below_drewN hbel _⟩
          case measure => simp [intOf] <;> omega
      · obtain rfl : k = lb.length := by omega
        have he : la = lb := by have := HT.out; rw [List.take_length, ← hlen, List.take_length] at this; exact this
        have H := Lib.hid (decide_eq_true he)
        clear he
        go_wp2
        go_ret
        exact ⟨by rw [H.out]; rfl, hbel⟩
  · have H := Lib.hid (decide_eq_false (show ¬ la = lb from fun e => hlen (by rw [e])))
    go_enter Tryd.func27, Tryd.ntmps27
    go_wp2
    go_ret
    exact ⟨by rw [H.out]; rfl, Below.refl _ _⟩

def EqA (n : Nat) : Prop := ∀ (x y : Sh) (cs ds : List Value) (w : World), x.nodes ≤ n → Rd w x.d cs → Rd w y.d ds → x.bulk ≤ 1048576 → y.bulk ≤ 1048576 →
  Calls Tryd.prog 9 #[.agg cs.toArray, .agg ds.toArray] w fun e w' => e = .returned (.bool (decide (x = y))) ∧ Below w.heap.size w w'
def EqB (n : Nat) : Prop := ∀ (x y : List Sh) (va vb : Value) (w : World), Sh.nodess x ≤ n → Rd w (.sl 6 (Sh.ds x)) [va] → Rd w (.sl 6 (Sh.ds y)) [vb] → x.length + Sh.bulks x ≤ 1048576 → y.length + Sh.bulks y ≤ 1048576 →
  Calls Tryd.prog 28 #[va, vb] w fun e w' => e = .returned (.bool (decide (x = y))) ∧ Below w.heap.size w w'

theorem Sh.bulk_get {ls : List Sh} {m : Nat} (h : ls.length + Sh.bulks ls ≤ m) (k : Nat) (hk : k < ls.length) : ls[k].bulk ≤ m := by
  have h1 := Sh.bulks_snoc ls k hk; have h2 := Sh.bulks_take ls (k + 1); omega

set_option maxHeartbeats 800000 in
set_option maxRecDepth 100000 in
theorem EqB_of {n : Nat} (hA : EqA n) : EqB n := by
  intro la lb va vb w hn h h2 hla hlb
  obtain ⟨a, c, rfl, hg⟩ := h.shapes
  obtain ⟨a', c', rfl, hg'⟩ := h2.shapes
  by_cases hlen : la.length = lb.length
  · have hlt : ((la.length : Int) != (lb.length : Int)) = false := by simp [hlen]
    have HL := Lib.hid hlen; clear hlen
    go_enter Tryd.func28, Tryd.ntmps28
    go_wp2
    go_loopw [5] (fun i wr => ∃ (k : Nat), k ≤ la.length ∧ i = .int .i64 k ∧ la.take k = lb.take k ∧ Below w.heap.size w wr) (fun i _ => la.length - (intOf i).toNat)
    case atStart => exact ⟨0, Nat.zero_le _, rfl, by simp, Below.refl _ _⟩
    case round =>
      obtain ⟨k, hk, rfl, htk, hbel⟩ := hrel
      have HT := Lib.hid htk; clear htk
      by_cases hk1 : k < la.length
      · have hk2 : k < lb.length := by have := HL.out; omega
        obtain ⟨_, _, b, o, rfl, hb, hcell⟩ := hg (by intro e; rw [e] at hk1; simp at hk1)
        obtain ⟨_, _, b', o', rfl, hb', hcell'⟩ := hg' (by intro e; rw [e] at hk2; simp at hk2)
        obtain ⟨v0, v1, v2, v3, v4, v5, hr, c0, c1, c2, c3, c4, c5⟩ := hcell k hk1
        obtain ⟨x0, x1, x2, x3, x4, x5, hs, d0, d1, d2, d3, d4, d5⟩ := hcell' k hk2
        clear hcell hcell' hg hg'
        obtain ⟨hbc, _⟩ := bcell hbel
        have hi1 : (0 : Int) ≤ k := by omega
        have hi2 : (k : Int) < lb.length := by omega
        have hnk := Nat.le_trans (Sh.nodes_get la k hk1) hn
        have hr' := hr.below hbel
        have hs' := hs.below hbel
        by_cases he : la[k] = lb[k]
        · have hd := Lib.hid (decide_eq_true he)
          have HE := Lib.hid he
          clear he
          go_wp2_with fail
          go_still_tail 8, (by kernel_rfl)
          go_wp2_with (go_at_call 9; refine (hA _ _ _ _ _ hnk hr'.drew hs'.drew (Sh.bulk_get hla k hk1) (Sh.bulk_get hlb k hk2)).mono ?_; rw [hd.out]; rintro e w1 ⟨rfl, hb1⟩)
          go_roundw
          case rel => exact ⟨k + 1, by omega, by go_num, take_eq_snoc HT.out hk1 hk2 HE.out, below2 hbel.drew hb1 (Nat.le_refl _)⟩
          case measure => simp [intOf] <;> omega
        · have hd := Lib.hid (decide_eq_false he)
          have HE := Lib.hid (decide_eq_false (ne_of_get hk1 hk2 he))
          clear he
          go_wp2_with fail
          go_still_tail 8, (by kernel_rfl)
          go_wp2_with (go_at_call 9; refine (hA _ _ _ _ _ hnk hr'.drew hs'.drew (Sh.bulk_get hla k hk1) (Sh.bulk_get hlb k hk2)).mono ?_; rw [hd.out]; rintro e w1 ⟨rfl, hb1⟩)
          go_ret
          exact ⟨by rw [HE.out]; rfl, below2 hbel.drew hb1 (Nat.le_refl _)⟩
      · obtain rfl : k = la.length := by omega
        have he : la = lb := by have := HT.out; rw [List.take_length, HL.out, List.take_length] at this; exact this
        have H := Lib.hid (decide_eq_true he)
        clear he
        go_wp2
        go_ret
        exact ⟨by rw [H.out]; rfl, hbel⟩
  · have H := Lib.hid (decide_eq_false (show ¬ la = lb from fun e => hlen (by rw [e])))
    go_enter Tryd.func28, Tryd.ntmps28
    go_wp2
    go_ret
    exact ⟨by rw [H.out]; rfl, Below.refl _ _⟩

theorem Sh.ne_mk {k l hi m k' l' hi' m' : Int} {ks ks' : List (List UInt8)} {kids kids' : List Sh} (h : ¬ (k = k' ∧ l = l' ∧ hi = hi' ∧ ks = ks' ∧ m = m' ∧ kids = kids')) :
    decide (Sh.mk k l hi ks m kids = Sh.mk k' l' hi' ks' m' kids') = false := decide_eq_false (by simpa using h)
set_option maxHeartbeats 800000 in
theorem EqA_of {n : Nat} (hB : EqB n) : EqA (n + 1) := by
  intro x y cs ds w hn h h2 hx hy
  obtain ⟨k, l, hi, ks, m, kids, v1, v2, rfl, rfl, hk, hkids⟩ := Sh.lay h
  obtain ⟨k', l', hi', ks', m', kids', v1', v2', rfl, rfl, hk', hkids'⟩ := Sh.lay h2
  have hnk : Sh.nodess kids ≤ n := by simp only [Sh.nodes] at hn; omega
  simp only [Sh.bulk] at hx hy
  have hA := ((Below.refl w.heap.size w).alloc (Nat.le_refl _) (.cells #[.int .i64 k, .int .i64 l, .int .i64 hi, v1, .int .i64 m, v2] 29)).alloc (by simp) (.cells #[.int .i64 k', .int .i64 l', .int .i64 hi', v1', .int .i64 m', v2'] 29)
  by_cases e1 : k = k' ∧ l = l' ∧ hi = hi'
  · obtain ⟨rfl, rfl, rfl⟩ := e1
    go_enter Tryd.func9, Tryd.ntmps9
    go_wp2_with fail
    refine (eqStringS_any ks ks' _ _ _ ((hk.alloc _).alloc _) ((hk'.alloc _).alloc _) (by omega) (by omega)).mono ?_
    by_cases e2 : ks = ks'
    · subst e2
      rw [decide_eq_true rfl]
      rintro e w1 ⟨rfl, hb1⟩
      have hb0 := below2 hA hb1 (Nat.le_refl _)
      obtain ⟨hc1, hf1⟩ := bcell hb1
      have hz1 := hb1.size
      simp at hz1
      have g1 : w.heap.size < w1.heap.size := by omega
      have g2 : w.heap.size + 1 < w1.heap.size := by omega
      by_cases e3 : m = m'
      · subst e3
        go_wp2_with fail
        refine (hB _ _ _ _ _ hnk ((hkids.below hb0)) (hkids'.below hb0) (by omega) (by omega)).mono ?_
        by_cases e4 : kids = kids'
        · subst e4
          rw [decide_eq_true rfl]
          rintro e w2 ⟨rfl, hb2⟩
          go_wp2
          go_ret
          exact ⟨by simp, below2 hb0 hb2 (Nat.le_refl _)⟩
        · have H := Lib.hid (Sh.ne_mk (k := k) (l := l) (hi := hi) (ks := ks) (m := m) (kids := kids) (k' := k) (l' := l) (hi' := hi) (ks' := ks) (m' := m) (kids' := kids') (by simp [e4]))
          rw [decide_eq_false e4]
          rintro e w2 ⟨rfl, hb2⟩
          clear e4
          go_wp2
          go_ret
          exact ⟨by rw [H.out]; rfl, below2 hb0 hb2 (Nat.le_refl _)⟩
      · have H := Lib.hid (Sh.ne_mk (k := k) (l := l) (hi := hi) (ks := ks) (m := m) (kids := kids) (k' := k) (l' := l) (hi' := hi) (ks' := ks) (m' := m') (kids' := kids') (by simp [e3]))
        go_wp2_with fail
        go_ret
        exact ⟨by rw [H.out]; rfl, hb0⟩
    · have H := Lib.hid (Sh.ne_mk (k := k) (l := l) (hi := hi) (ks := ks) (m := m) (kids := kids) (k' := k) (l' := l) (hi' := hi) (ks' := ks') (m' := m') (kids' := kids') (by simp [e2]))
      rw [decide_eq_false e2]
      rintro e w1 ⟨rfl, hb1⟩
      have hb0 := below2 hA hb1 (Nat.le_refl _)
      clear e2
      go_wp2_with fail
      go_ret
      exact ⟨by rw [H.out]; rfl, hb0⟩
  · have H := Lib.hid (Sh.ne_mk (k := k) (l := l) (hi := hi) (ks := ks) (m := m) (kids := kids) (k' := k') (l' := l') (hi' := hi') (ks' := ks') (m' := m') (kids' := kids') (by simp only [not_and] at e1 ⊢; intro a b c; exact absurd c (e1 a b)))
    go_enter Tryd.func9, Tryd.ntmps9
    go_wp2_with fail
    all_goals
      go_ret
      exact ⟨by rw [H.out]; rfl, hA⟩

theorem Eq_all : ∀ n, EqA n ∧ EqB n
  | 0 => by
    have h0 : EqA 0 := fun sh y cs ds w hn => absurd (Sh.nodes_pos sh) (by omega)
    exact ⟨h0, EqB_of h0⟩
  | n + 1 => by
    have h1 := EqA_of (Eq_all n).2
    exact ⟨h1, EqB_of h1⟩
theorem eqShape_any (x y : Sh) (cs ds : List Value) (w : World) (h : Rd w x.d cs) (h2 : Rd w y.d ds) (hx : x.bulk ≤ 1048576) (hy : y.bulk ≤ 1048576) :
    Calls Tryd.prog 9 #[.agg cs.toArray, .agg ds.toArray] w fun e w' => e = .returned (.bool (decide (x = y))) ∧ Below w.heap.size w w' :=
  (Eq_all x.nodes).1 x y cs ds w (Nat.le_refl _) h h2 hx hy
end Go.Proofs.YtpknmldpdoadgaaDoor

/- Decimal numerals, digit by digit. No program in sight. -/
namespace Go.Proofs.YtpknmldpdoadgaaDoor
open Go.RowKit

def decOn (u : Nat) (l : List UInt8) : List UInt8 := if u = 0 then l else Lib.decDigits u ++ l
theorem decOn_step {u : Nat} (h : u ≠ 0) (l : List UInt8) : decOn (u / 10) (UInt8.ofNat (48 + u % 10) :: l) = decOn u l := by
  unfold decOn
  rw [if_neg h]
  by_cases h1 : u < 10
  · rw [if_pos (by omega), Lib.decDigits_one h1, Nat.mod_eq_of_lt h1]; rfl
  · rw [if_neg (by omega)]
    conv => rhs; rw [Lib.decDigits, dif_neg h1]
    simp
def digs : List UInt8 := [48, 49, 50, 51, 52, 53, 54, 55, 56, 57]
theorem digs_piece : ∀ d : Fin 10, (digs.drop d.val).take 1 = [UInt8.ofNat (48 + d.val)] := by decide
theorem digs_at {d : Nat} (h : d < 10) : (([48, 49, 50, 51, 52, 53, 54, 55, 56, 57] : List UInt8).drop d).take 1 = [UInt8.ofNat (48 + d)] := digs_piece ⟨d, h⟩
theorem tdivAbs (m : Int) : (Int.tdiv m 10).natAbs = m.natAbs / 10 := by rw [Int.natAbs_tdiv]; rfl
theorem tmodAbs (m : Int) : (Int.tmod m 10).natAbs = m.natAbs % 10 := by rw [Int.natAbs_tmod]; rfl
theorem decDigits_len20 {u : Nat} (h : u ≤ 9223372036854775808) : (Lib.decDigits u).length ≤ 20 := by rw [Lib.decDigits_length]; exact Lib.nDigits_le20 u (by omega)
end Go.Proofs.YtpknmldpdoadgaaDoor

/- Marks laid into own data: what stands in every cell of a tree of own blocks behind it. No program in sight. -/
namespace Go.Proofs.YtpknmldpdoadgaaDoor
open Go.RowKit

/-- the k-th mark as a text -/
def mt (k : Nat) : List UInt8 := 109 :: Lib.decDigits k
mutual
def V.cnt : V → Nat
  | .mk _ _ _ _ kids => 4 + V.cnts kids
def V.cnts : List V → Nat
  | [] => 0
  | v :: vs => V.cnt v + V.cnts vs
end
mutual
def V.mark1 : Nat → V → V
  | k, .mk _ _ _ _ kids => .mk (k : Nat) ((k + 1 : Nat) : Int) ((k + 2 : Nat) : Int) (mt (k + 3)) (V.marks (k + 4) kids)
def V.marks : Nat → List V → List V
  | _, [] => []
  | k, v :: vs => V.mark1 k v :: V.marks (k + V.cnt v) vs
end
def mtS : Nat → List (List UInt8) → List (List UInt8)
  | _, [] => []
  | k, _ :: ls => mt k :: mtS (k + 1) ls
mutual
def Sh.cnt : Sh → Nat
  | .mk _ _ _ ks _ kids => 3 + (ks.length + (1 + Sh.cnts kids))
def Sh.cnts : List Sh → Nat
  | [] => 0
  | v :: vs => Sh.cnt v + Sh.cnts vs
end
mutual
def Sh.mark1 : Nat → Sh → Sh
  | k, .mk _ _ _ ks _ kids => .mk (k : Nat) ((k + 1 : Nat) : Int) ((k + 2 : Nat) : Int) (mtS (k + 3) ks) ((k + 3 + ks.length : Nat) : Int) (Sh.marks (k + 3 + ks.length + 1) kids)
def Sh.marks : Nat → List Sh → List Sh
  | _, [] => []
  | k, v :: vs => Sh.mark1 k v :: Sh.marks (k + Sh.cnt v) vs
end
theorem V.marks_length : ∀ (k : Nat) (vs : List V), (V.marks k vs).length = vs.length
  | _, [] => rfl
  | k, v :: vs => by simp [V.marks, V.marks_length _ vs]
theorem Sh.marks_length : ∀ (k : Nat) (vs : List Sh), (Sh.marks k vs).length = vs.length
  | _, [] => rfl
  | k, v :: vs => by simp [Sh.marks, Sh.marks_length _ vs]
theorem mtS_length : ∀ (k : Nat) (vs : List (List UInt8)), (mtS k vs).length = vs.length
  | _, [] => rfl
  | k, v :: vs => by simp [mtS, mtS_length _ vs]
theorem V.cnts_snoc (v : V) : ∀ vs : List V, V.cnts (vs ++ [v]) = V.cnts vs + V.cnt v
  | [] => by simp [V.cnts]
  | u :: vs => by simp only [List.cons_append, V.cnts, V.cnts_snoc v vs]; omega
theorem Sh.cnts_snoc (v : Sh) : ∀ vs : List Sh, Sh.cnts (vs ++ [v]) = Sh.cnts vs + Sh.cnt v
  | [] => by simp [Sh.cnts]
  | u :: vs => by simp only [List.cons_append, Sh.cnts, Sh.cnts_snoc v vs]; omega
theorem V.marks_snoc (v : V) : ∀ (k : Nat) (vs : List V), V.marks k (vs ++ [v]) = V.marks k vs ++ [V.mark1 (k + V.cnts vs) v]
  | k, [] => by simp [V.marks, V.cnts]
  | k, u :: vs => by simp only [List.cons_append, V.marks, V.marks_snoc v (k + V.cnt u) vs, V.cnts, Nat.add_assoc]
theorem Sh.marks_snoc (v : Sh) : ∀ (k : Nat) (vs : List Sh), Sh.marks k (vs ++ [v]) = Sh.marks k vs ++ [Sh.mark1 (k + Sh.cnts vs) v]
  | k, [] => by simp [Sh.marks, Sh.cnts]
  | k, u :: vs => by simp only [List.cons_append, Sh.marks, Sh.marks_snoc v (k + Sh.cnt u) vs, Sh.cnts, Nat.add_assoc]
theorem mtS_get : ∀ (k : Nat) (ls : List (List UInt8)) (j : Nat) (h : j < ls.length), (mtS k ls)[j]'(by rw [mtS_length]; exact h) = mt (k + j)
  | k, l :: ls, 0, _ => rfl
  | k, l :: ls, j + 1, h => by simp only [mtS, List.getElem_cons_succ]; rw [mtS_get (k + 1) ls j (by simpa using h)]; congr 1; omega
theorem V.cnts_take (vs : List V) (j : Nat) (h : j < vs.length) : V.cnts (vs.take (j + 1)) = V.cnts (vs.take j) + V.cnt vs[j] := by
  rw [List.take_succ_eq_append_getElem h, V.cnts_snoc]
theorem Sh.cnts_take (vs : List Sh) (j : Nat) (h : j < vs.length) : Sh.cnts (vs.take (j + 1)) = Sh.cnts (vs.take j) + Sh.cnt vs[j] := by
  rw [List.take_succ_eq_append_getElem h, Sh.cnts_snoc]
theorem V.cnts_le : ∀ (vs : List V) (j : Nat), V.cnts (vs.take j) ≤ V.cnts vs
  | [], j => by simp
  | v :: vs, 0 => by simp [V.cnts]
  | v :: vs, j + 1 => by have := V.cnts_le vs j; simp only [List.take_succ_cons, V.cnts]; omega
theorem Sh.cnts_le : ∀ (vs : List Sh) (j : Nat), Sh.cnts (vs.take j) ≤ Sh.cnts vs
  | [], j => by simp
  | v :: vs, 0 => by simp [Sh.cnts]
  | v :: vs, j + 1 => by have := Sh.cnts_le vs j; simp only [List.take_succ_cons, Sh.cnts]; omega
/-- marked so far -/
def V.half (k : Nat) (vs : List V) (j : Nat) : List V := V.marks k (vs.take j) ++ vs.drop j
def Sh.half (k : Nat) (vs : List Sh) (j : Nat) : List Sh := Sh.marks k (vs.take j) ++ vs.drop j
def halfS (k : Nat) (vs : List (List UInt8)) (j : Nat) : List (List UInt8) := mtS k (vs.take j) ++ vs.drop j
theorem mtS_snoc (v : List UInt8) : ∀ (k : Nat) (vs : List (List UInt8)), mtS k (vs ++ [v]) = mtS k vs ++ [mt (k + vs.length)]
  | k, [] => by simp [mtS]
  | k, u :: vs => by simp only [List.cons_append, mtS, mtS_snoc v (k + 1) vs, List.length_cons]; rw [show k + 1 + vs.length = k + (vs.length + 1) by omega]
theorem half_set {α : Type} {a : List α} {vs : List α} {j : Nat} (h : j < vs.length) (ha : a.length = j) (x : α) : (a ++ vs.drop j).set j x = (a ++ [x]) ++ vs.drop (j + 1) := by
  rw [List.set_append_right _ _ (by omega), ha, Nat.sub_self, List.drop_eq_getElem_cons h, List.set_cons_zero]; simp
theorem half_get {α : Type} {a : List α} {vs : List α} {j : Nat} (h : j < vs.length) (ha : a.length = j) : (a ++ vs.drop j)[j]'(by simp; omega) = vs[j] := by
  rw [List.getElem_append_right (by omega)]; simp [ha]
theorem V.half_set (k : Nat) (vs : List V) (j : Nat) (h : j < vs.length) : (V.half k vs j).set j (V.mark1 (k + V.cnts (vs.take j)) vs[j]) = V.half k vs (j + 1) := by
  unfold V.half
  rw [Go.Proofs.YtpknmldpdoadgaaDoor.half_set h (by rw [V.marks_length, List.length_take]; omega), ← V.marks_snoc, ← List.take_succ_eq_append_getElem h]
theorem Sh.half_set (k : Nat) (vs : List Sh) (j : Nat) (h : j < vs.length) : (Sh.half k vs j).set j (Sh.mark1 (k + Sh.cnts (vs.take j)) vs[j]) = Sh.half k vs (j + 1) := by
  unfold Sh.half
  rw [Go.Proofs.YtpknmldpdoadgaaDoor.half_set h (by rw [Sh.marks_length, List.length_take]; omega), ← Sh.marks_snoc, ← List.take_succ_eq_append_getElem h]
theorem halfS_set (k : Nat) (vs : List (List UInt8)) (j : Nat) (h : j < vs.length) : (halfS k vs j).set j (mt (k + j)) = halfS k vs (j + 1) := by
  unfold halfS
  rw [Go.Proofs.YtpknmldpdoadgaaDoor.half_set h (by rw [mtS_length, List.length_take]; omega), List.take_succ_eq_append_getElem h, mtS_snoc, List.length_take, Nat.min_eq_left (by omega)]

/-- one element laid open; what is put in its place -/
theorem TreeCs.at {w : World} {n : Nat} : ∀ {ds : List D} {fp : List Nat} {cs : List Value}, TreeCs w ds fp cs → (∀ e ∈ ds, D.width e = n) → fp.Nodup → ∀ i (hi : i < ds.length),
    ∃ fi ci, fi.Nodup ∧ (∀ b ∈ fi, b ∈ fp) ∧ TreeC w ds[i] fi ci ∧ ci.length = n ∧ (cs.drop (n * i)).take n = ci ∧
      ∀ (w' : World) (d' : D) (ci' : List Value), D.width d' = n → (∀ b ∈ fp, b ∉ fi → w'.heap[b]? = w.heap[b]?) → TreeC w' d' fi ci' → TreeCs w' (ds.set i d') fp (cs.take (n * i) ++ (ci' ++ cs.drop (n * i + n)))
  | [], fp, cs, h, hw, hn, i, hi => by simp at hi
  | d :: ds, fp, cs, h, hw, hn, i, hi => by
    simp only [TreeCs] at h; obtain ⟨f1, f2, c1, c2, rfl, rfl, h1, h2, h3⟩ := h
    have hd := hw d (by simp)
    rw [hd] at h1
    rw [List.nodup_append] at hn
    obtain ⟨n1, n2, n3⟩ := hn
    match i with
    | 0 =>
      refine ⟨f1, c1, n1, fun b hb => by simp [hb], h2, h1, by simp [← h1], fun w' d' ci' hd' hs ht => ?_⟩
      simp only [Nat.mul_zero, List.take_zero, List.nil_append, List.set_cons_zero, Nat.zero_add, TreeCs]
      refine ⟨f1, f2, ci', c2, rfl, by rw [← h1]; simp, by rw [ht.len], ht, h3.frame fun b hb => hs b (by simp [hb]) fun hb1 => n3 b hb1 b hb rfl⟩
    | i + 1 =>
      obtain ⟨fi, ci, k1, k2, k3, k4, k5, k6⟩ := TreeCs.at h3 (fun e he => hw e (by simp [he])) n2 i (by simpa using hi)
      have e1 : n * (i + 1) = c1.length + n * i := by rw [h1, Nat.mul_succ]; omega
      refine ⟨fi, ci, k1, fun b hb => by simp [k2 b hb], by simpa using k3, k4, ?_, fun w' d' ci' hd' hs ht => ?_⟩
      · rw [e1, List.drop_length_add_append]; exact k5
      · have := k6 w' d' ci' hd' (fun b hb hb' => hs b (by simp [hb]) hb') ht
        simp only [List.set_cons_succ, TreeCs]
        refine ⟨f1, f2, c1, _, rfl, ?_, by rw [h1, hd], h2.frame fun b hb => hs b (by simp [hb]) fun hb2 => n3 b hb b (k2 b hb2) rfl, this⟩
        rw [e1, List.take_length_add_append, List.append_assoc, Nat.add_assoc, List.drop_length_add_append]

/-- block g is of sz cells that may be written -/
def Blk (w : World) (g : Nat) (e : TypeId) (sz : Nat) : Prop := ∃ cur, w.heap[g]? = some (.cells cur e (0, 0)) ∧ cur.size = sz
theorem Blk.lt {w : World} {g sz : Nat} {e : TypeId} (h : Blk w g e sz) : g < w.heap.size := by obtain ⟨cur, h, _⟩ := h; exact heap_lt h
theorem Blk.free {w : World} {g sz : Nat} {e : TypeId} (h : Blk w g e sz) (o : Nat) : w.frozen? ⟨g, o, none⟩ = false := by obtain ⟨cur, h, _⟩ := h; simp [World.frozen?, h]
theorem Blk.same {w w' : World} {g sz : Nat} {e : TypeId} (h : Blk w g e sz) (hs : w'.heap[g]? = w.heap[g]?) : Blk w' g e sz := by obtain ⟨cur, h, h2⟩ := h; exact ⟨cur, by rw [hs]; exact h, h2⟩
theorem Blk.below {w w' : World} {g sz : Nat} {e : TypeId} (h : Blk w g e sz) (hb : Below w.heap.size w w') : Blk w' g e sz := h.same (hb.block g h.lt)
theorem Blk.keep {S : Nat → Prop} {w w' : World} {g sz : Nat} {e : TypeId} (h : Blk w g e sz) (hk : Keep S w w') (hg : ¬ S g) : Blk w' g e sz := h.same (hk.block g h.lt hg)
theorem Blk.setCell {w : World} {g sz : Nat} {e : TypeId} (h : Blk w g e sz) (o : Nat) (v : Value) : Blk (w.setCell ⟨g, o, none⟩ v) g e sz := by
  obtain ⟨cur, h, h2⟩ := h; exact ⟨_, heap_setCell_at h v, by simpa using h2⟩
theorem Blk.there {w : World} {g sz : Nat} {e : TypeId} (h : Blk w g e sz) (o : Nat) (ho : o < sz) : ∃ v, w.cell? ⟨g, o, none⟩ = some v := by
  obtain ⟨cur, h, h2⟩ := h; exact ⟨cur[o]'(by omega), by rw [cell_of_block h]; simp⟩
theorem Keep.same {S : Nat → Prop} {w w' : World} (h : Keep S w w') {T : Nat → Prop} (hT : ∀ b, T b → b < w.heap.size ∧ ¬ S b) : SameOn T w w' := fun b hb => h.block b (hT b hb).1 (hT b hb).2
/-- own data of n cells each in block g, over the blocks fr -/
def Row (w : World) (n g : Nat) (e : TypeId) (sz : Nat) (fr : List Nat) (ds : List D) : Prop :=
  ∃ cur, w.heap[g]? = some (.cells cur e (0, 0)) ∧ cur.size = sz ∧ n * ds.length ≤ sz ∧ (∀ d ∈ ds, D.width d = n) ∧ TreeCs w ds fr (cur.toList.take (n * ds.length))
theorem Row.blk {w : World} {n g sz : Nat} {e : TypeId} {fr : List Nat} {ds : List D} (h : Row w n g e sz fr ds) : Blk w g e sz := by obtain ⟨cur, h, h2, _⟩ := h; exact ⟨cur, h, h2⟩
theorem list_put (l c : List Value) (j n m : Nat) (hl : c.length = n) (h : n * j + n ≤ n * m) (hm : n * m ≤ l.length) (l' : List Value) (hl' : l'.length = l.length) (h1 : ∀ i, i < n → l'[j * n + i]? = c[i]?) (h2 : ∀ o, o < j * n ∨ j * n + n ≤ o → l'[o]? = l[o]?) :
    l'.take (n * m) = (l.take (n * m)).take (n * j) ++ (c ++ (l.take (n * m)).drop (n * j + n)) := by
  have hjn : j * n = n * j := Nat.mul_comm j n
  rw [hjn] at h1 h2
  apply List.ext_getElem?
  intro o
  by_cases ho : o < n * m
  · rw [List.getElem?_take, if_pos ho]
    by_cases ha : o < n * j
    · rw [List.getElem?_append_left (by simp only [List.length_take]; omega), List.getElem?_take, if_pos ha, List.getElem?_take, if_pos ho, h2 o (.inl ha)]
    · rw [List.getElem?_append_right (by simp only [List.length_take]; omega)]
      have hlen : ((l.take (n * m)).take (n * j)).length = n * j := by simp only [List.length_take]; omega
      rw [hlen]
      by_cases hb : o < n * j + n
      · rw [List.getElem?_append_left (by omega), ← h1 (o - n * j) (by omega)]; congr 1; omega
      · rw [List.getElem?_append_right (by omega), List.getElem?_drop, List.getElem?_take, h2 o (.inr (by omega)), hl]
        rw [if_pos (by omega)]; congr 1; omega
  · rw [List.getElem?_eq_none (by simp only [List.length_take]; omega), List.getElem?_eq_none]
    simp only [List.length_append, List.length_take, List.length_drop]; omega
/-- one element laid open; what is put in its place -/
theorem Row.at {w : World} {n g sz : Nat} {e : TypeId} {fr : List Nat} {ds : List D} (h : Row w n g e sz fr ds) (hn : (g :: fr).Nodup) (j : Nat) (hj : j < ds.length) : ∃ fi ci, fi.Nodup ∧ (∀ b ∈ fi, b ∈ fr) ∧ g ∉ fi ∧ TreeC w ds[j] fi ci ∧ ci.length = n ∧ j * n + n ≤ sz ∧
    (∀ i u, i < n → ci[i]? = some u → w.cell? ⟨g, j * n + i, none⟩ = some u) ∧
    ∀ w' d' ci', D.width d' = n → Blk w' g e sz → (∀ i, i < n → w'.cell? ⟨g, j * n + i, none⟩ = ci'[i]?) → (∀ o, o < j * n ∨ j * n + n ≤ o → w'.cell? ⟨g, o, none⟩ = w.cell? ⟨g, o, none⟩) → (∀ b ∈ fr, b ∉ fi → w'.heap[b]? = w.heap[b]?) → TreeC w' d' fi ci' →
      Row w' n g e sz fr (ds.set j d') := by
  obtain ⟨cur, h1, h2, h3, h4, h5⟩ := h
  rw [List.nodup_cons] at hn
  obtain ⟨fi, ci, k1, k2, k3, k4, k5, k6⟩ := TreeCs.at h5 h4 hn.2 j hj
  have hm : n * j + n ≤ n * ds.length := by rw [← Nat.mul_succ]; exact Nat.mul_le_mul_left n hj
  refine ⟨fi, ci, k1, k2, fun hb => hn.1 (k2 g hb), k3, k4, by rw [Nat.mul_comm j n]; omega, fun i u hi hu => ?_, fun w' d' ci' hd hbk hc1 hc2 hs ht => ?_⟩
  · rw [cell_of_block h1, ← hu, ← k5, List.getElem?_take, if_pos hi, List.getElem?_drop, List.getElem?_take, if_pos (by omega), Nat.mul_comm j n]; simp
  · obtain ⟨cur', g1, g2⟩ := hbk
    have := k6 w' d' ci' hd hs ht
    refine ⟨cur', g1, g2, by simpa using h3, ?_, ?_⟩
    · intro x hx
      rcases List.mem_or_eq_of_mem_set hx with hx | rfl
      · exact h4 x hx
      · exact hd
    · rw [List.length_set, list_put cur.toList ci' j n ds.length (by rw [ht.len, hd]) hm (by simpa [h2] using h3) cur'.toList (by simp [h2, g2]) ?_ ?_]
      · exact this
      · intro i hi
        have := hc1 i hi
        rw [cell_of_block g1] at this
        simpa using this
      · intro o ho
        have := hc2 o ho
        rw [cell_of_block g1, cell_of_block h1] at this
        simpa using this
/-- an own slice laid open -/
theorem TreeC.row {w : World} {n : Nat} {es : List D} {fp : List Nat} {v : Value} (h : TreeC w (.sl n es) fp [v]) : ∃ a c, v = .slice a es.length c ∧ (es ≠ [] → ∃ g fr e sz, a = some ⟨g, 0, none⟩ ∧ fp = g :: fr ∧ (es.length ≤ c ∧ sz = c * n) ∧ c ≤ maxLen ∧ Row w n g e sz fr es) := by
  simp only [TreeC] at h
  obtain ⟨a, c, hv, h⟩ := h
  simp only [List.cons.injEq, and_true] at hv
  refine ⟨a, c, hv, fun hne => ?_⟩
  rcases h with h | ⟨b, fr, cur, e, ha, hf, hb, hn, h1, h2, hw, ht⟩
  · exact absurd h.1 hne
  · refine ⟨b, fr, e, cur.size, ha, hf, h1, h2, cur, hb, rfl, ?_, hw, ht⟩
    have := ht.len
    have hwd : D.widths es = n * es.length := by
      clear ht h1 hb this hne hv
      induction es with
      | nil => simp [D.widths]
      | cons x xs ih => simp only [D.widths, hw x (by simp), ih (fun e he => hw e (by simp [he])), List.length_cons, Nat.mul_succ]; omega
    rw [hwd, List.length_take] at this
    simp at this; omega
theorem Row.tree {w : World} {n g sz : Nat} {e : TypeId} {fr : List Nat} {es : List D} {c : Nat} (h : Row w n g e sz fr es) (hn : 0 < n) (hc : (es.length ≤ c ∧ sz = c * n) ∧ c ≤ maxLen) : TreeC w (.sl n es) (g :: fr) [.slice (some ⟨g, 0, none⟩) es.length c] := by
  obtain ⟨cur, h1, h2, h3, h4, h5⟩ := h
  simp only [TreeC]
  exact ⟨_, c, rfl, .inr ⟨g, fr, cur, e, rfl, rfl, h1, hn, ⟨hc.1.1, by rw [h2, hc.1.2]⟩, hc.2, h4, h5⟩⟩
theorem TreeC.nil {w : World} {n : Nat} {a : Option Addr} {c : Nat} : TreeC w (.sl n []) [] [.slice a 0 c] := by simp only [TreeC]; exact ⟨a, c, rfl, .inl (by simp)⟩
theorem V.width_ds (es : List V) : ∀ d ∈ V.ds es, D.width d = 5 := by rw [V.ds_map]; intro d hd; rw [List.mem_map] at hd; obtain ⟨v, _, rfl⟩ := hd; exact V.width v
theorem Sh.width_ds (es : List Sh) : ∀ d ∈ Sh.ds es, D.width d = 6 := by rw [Sh.ds_map]; intro d hd; rw [List.mem_map] at hd; obtain ⟨v, _, rfl⟩ := hd; exact Sh.width v
theorem V.ds_set (es : List V) (j : Nat) (v : V) : (V.ds es).set j v.d = V.ds (es.set j v) := by rw [V.ds_map, V.ds_map, List.map_set]
theorem Sh.ds_set (es : List Sh) (j : Nat) (v : Sh) : (Sh.ds es).set j v.d = Sh.ds (es.set j v) := by rw [Sh.ds_map, Sh.ds_map, List.map_set]
theorem V.tree {w : World} {k n e : Int} {s : List UInt8} {kids : List V} {fp : List Nat} {cs : List Value} (h : TreeC w (V.d (.mk k n e s kids)) fp cs) : ∃ v, cs = [.int .i64 k, .int .i64 n, .int .i64 e, .string ⟨s.toArray⟩, v] ∧ TreeC w (.sl 5 (V.ds kids)) fp [v] := by
  simp only [V.d, TreeC, TreeCs, dI, dS, D.width] at h
  obtain ⟨f1, r1, c1, d1, rfl, rfl, _, ⟨rfl, rfl⟩, f2, r2, c2, d2, rfl, rfl, _, ⟨rfl, rfl⟩, f3, r3, c3, d3, rfl, rfl, _, ⟨rfl, rfl⟩, f4, r4, c4, d4, rfl, rfl, _, ⟨rfl, rfl⟩, f5, r5, c5, d5, rfl, rfl, _, ⟨a, c, rfl, h5⟩, rfl, rfl⟩ := h
  refine ⟨_, rfl, ?_⟩
  simp only [TreeC, List.nil_append, List.append_nil]
  exact ⟨a, c, rfl, h5⟩
theorem V.tree_mk {w : World} {k n e : Int} {s : List UInt8} {kids : List V} {fp : List Nat} {v : Value} (h : TreeC w (.sl 5 (V.ds kids)) fp [v]) : TreeC w (V.d (.mk k n e s kids)) fp [.int .i64 k, .int .i64 n, .int .i64 e, .string ⟨s.toArray⟩, v] := by
  simp only [V.d, TreeC, TreeCs, dI, dS, D.width]
  exact ⟨[], fp, [_], _, rfl, rfl, rfl, ⟨rfl, rfl⟩, [], fp, [_], _, rfl, rfl, rfl, ⟨rfl, rfl⟩, [], fp, [_], _, rfl, rfl, rfl, ⟨rfl, rfl⟩, [], fp, [_], _, rfl, rfl, rfl, ⟨rfl, rfl⟩, fp, [], [_], [], by simp, rfl, rfl, by simpa only [TreeC] using h, rfl, rfl⟩
theorem Sh.tree {w : World} {k l h : Int} {ks : List (List UInt8)} {m : Int} {kids : List Sh} {fp : List Nat} {cs : List Value} (h0 : TreeC w (Sh.d (.mk k l h ks m kids)) fp cs) :
    ∃ v u f1 f2, fp = f1 ++ f2 ∧ cs = [.int .i64 k, .int .i64 l, .int .i64 h, v, .int .i64 m, u] ∧ TreeC w (dSs ks) f1 [v] ∧ TreeC w (.sl 6 (Sh.ds kids)) f2 [u] := by
  simp only [Sh.d, TreeC, TreeCs, dI, dSs, D.width] at h0
  obtain ⟨f1, r1, c1, d1, rfl, rfl, _, ⟨rfl, rfl⟩, f2, r2, c2, d2, rfl, rfl, _, ⟨rfl, rfl⟩, f3, r3, c3, d3, rfl, rfl, _, ⟨rfl, rfl⟩, f4, r4, c4, d4, rfl, rfl, _, ⟨a4, n4, rfl, h4⟩, f5, r5, c5, d5, rfl, rfl, _, ⟨rfl, rfl⟩, f6, r6, c6, d6, rfl, rfl, _, ⟨a6, n6, rfl, h6⟩, rfl, rfl⟩ := h0
  refine ⟨_, _, f4, f6, by simp, rfl, ?_, ?_⟩
  · simp only [dSs, TreeC]; exact ⟨a4, n4, rfl, h4⟩
  · simp only [TreeC]; exact ⟨a6, n6, rfl, h6⟩
theorem Sh.tree_mk {w : World} {k l h : Int} {ks : List (List UInt8)} {m : Int} {kids : List Sh} {f1 f2 : List Nat} {v u : Value} (h1 : TreeC w (dSs ks) f1 [v]) (h2 : TreeC w (.sl 6 (Sh.ds kids)) f2 [u]) :
    TreeC w (Sh.d (.mk k l h ks m kids)) (f1 ++ f2) [.int .i64 k, .int .i64 l, .int .i64 h, v, .int .i64 m, u] := by
  simp only [Sh.d, TreeC, TreeCs, dI, dSs, D.width]
  exact ⟨[], _, [_], _, rfl, rfl, rfl, ⟨rfl, rfl⟩, [], _, [_], _, rfl, rfl, rfl, ⟨rfl, rfl⟩, [], _, [_], _, rfl, rfl, rfl, ⟨rfl, rfl⟩, f1, f2, [_], _, rfl, rfl, rfl, by simpa only [dSs, TreeC] using h1, [], f2, [_], _, rfl, rfl, rfl, ⟨rfl, rfl⟩, f2, [], [_], [], by simp, rfl, rfl, by simpa only [TreeC] using h2, rfl, rfl⟩

end Go.Proofs.YtpknmldpdoadgaaDoor

/- The law's own marks as texts. -/
namespace Go.Proofs.YtpknmldpdoadgaaDoor
open Go.RowKit

theorem byte48 {r : Nat} : byteOf (48 + (r : Int)).toNat = UInt8.ofNat (48 + r) := by
  rw [← cb_ofNat]; congr 1
set_option maxHeartbeats 800000 in
set_option maxRecDepth 10000 in
theorem markText_any (k : Nat) (w : World) (hk : k ≤ 9223372036854775807) (h0 : 0 < k) :
    Calls Tryd.prog 52 #[.int .i64 k] w fun e w' => e = .returned (.string ⟨(mt k).toArray⟩) ∧ Below w.heap.size w w' := by
  obtain ⟨res, hres⟩ : ∃ res, Lib.decDigits k = res := ⟨_, rfl⟩
  have hrl : res.length ≤ 20 := by rw [← hres]; exact decDigits_len20 (by omega)
  have HM := Lib.hid (show mt k = 109 :: res by unfold mt; rw [hres])
  have hk1 : ¬ (k : Int) ≤ 0 := by omega
  go_enter Tryd.func52, Tryd.ntmps52
  go_wp2
  go_loopw [0, 3] (fun m o wr => ∃ (l : List UInt8) (q : Nat), o = .string ⟨l.toArray⟩ ∧ m = .int .i64 q ∧ q ≤ 9223372036854775807 ∧ decOn q l = res ∧ Below w.heap.size w wr) (fun m _ _ => (intOf m).toNat)
  case atStart => exact ⟨[], k, rfl, rfl, hk, by unfold decOn; rw [if_neg (by omega), hres]; simp, Below.refl _ _⟩
  case round =>
    obtain ⟨l, q, rfl, rfl, hq, hd, hbel⟩ := hrel
    by_cases hq0 : q = 0
    · subst hq0
      have hl : l = res := by rw [← hd]; rfl
      subst hl
      clear hd
      go_wp2
      go_ret
      exact ⟨by rw [HM.out]; rfl, hbel⟩
    · have ll : l.length ≤ 20 := by
        have := congrArg List.length hd; unfold decOn at this; rw [if_neg hq0, List.length_append] at this; omega
      have st := decOn_step hq0 l
      rw [hd] at st
      have ST := Lib.hid st
      clear hd st
      have gq : (0 : Int) < q := by omega
      have hr : q % 10 < 10 := Nat.mod_lt _ (by decide)
      have e1 : Int.tmod (q : Int) 10 = ((q % 10 : Nat) : Int) := by rw [Int.tmod_eq_emod_of_nonneg (by omega)]; rfl
      have e2 : Int.tdiv (q : Int) 10 = ((q / 10 : Nat) : Int) := by rw [Int.tdiv_eq_ediv_of_nonneg (by omega)]; rfl
      have B := byte48 (r := q % 10)
      have hcv := fun b c w => conv1 (P := Tryd.prog) Tryd.underlying87 Tryd.underlying5 Tryd.underlying9 b c w
      generalize hrr : q % 10 = r at *
      go_wp2
      go_roundw
      case rel => exact ⟨_, q / 10, rfl, by first | rfl | go_num, by omega, by first | exact ST.out | (rw [B]; exact ST.out) | simpa using ST.out, by first | exact hbel | exact hbel.alloc hbel.size _⟩
      case measure => simp [intOf]; omega
end Go.Proofs.YtpknmldpdoadgaaDoor

/- Marks laid into own texts: the law's markStringS and heldStringS. -/
namespace Go.Proofs.YtpknmldpdoadgaaDoor
open Go.RowKit

theorem halfS_zero (k : Nat) (ls : List (List UInt8)) : halfS k ls 0 = ls := by simp [halfS, mtS]
theorem halfS_all (k : Nat) (ls : List (List UInt8)) : halfS k ls ls.length = mtS k ls := by simp [halfS]
theorem halfS_length (k : Nat) (ls : List (List UInt8)) (j : Nat) (h : j ≤ ls.length) : (halfS k ls j).length = ls.length := by simp [halfS, mtS_length]; omega
theorem dS_set (ls : List (List UInt8)) (j : Nat) (s : List UInt8) : (ls.map dS).set j (dS s) = (ls.set j s).map dS := by rw [List.map_set]

set_option maxHeartbeats 800000 in
set_option maxRecDepth 10000 in
theorem markStringS_any (ls : List (List UInt8)) (v : Value) (k : Nat) (fp : List Nat) (w : World) (h : TreeC w (dSs ls) fp [v]) (hn : fp.Nodup) (hl : ls.length ≤ 4294967296) (hk : 0 < k) (hk2 : k ≤ 4611686018427387904) :
    Calls Tryd.prog 29 #[v, .int .i64 k] w fun e w' => e = .returned (.int .i64 ((k + ls.length : Nat) : Int)) ∧ Keep (· ∈ fp) w w' ∧ TreeC w' (dSs (mtS k ls)) fp [v] := by
  by_cases hne : ls = []
  · subst hne
    have h0 := h
    obtain ⟨a, c, rfl, _⟩ := TreeC.row h
    have H0 := Lib.hid h0
    clear h h0
    go_enter Tryd.func29, Tryd.ntmps29
    go_wp2
    go_loopw [1, 5] (fun kk i wr => kk = .int .i64 k ∧ i = .int .i64 (0 : Int) ∧ wr = w) (fun _ _ _ => 0)
    case atStart => exact ⟨rfl, rfl, rfl⟩
    case round =>
      obtain ⟨rfl, rfl, rfl⟩ := hrel
      go_wp2
      go_ret
      exact ⟨rfl, Keep.refl _ _, H0.out⟩
  · obtain ⟨a, c, rfl, hg⟩ := TreeC.row h
    obtain ⟨g, fr, e, sz, rfl, rfl, hc1, hc2, hrow⟩ := hg (by simpa using hne)
    rw [List.length_map] at hc1 ⊢
    clear hg h
    have HC := Lib.hid (show (ls.length ≤ c ∧ sz = c * 1) ∧ c ≤ maxLen from ⟨hc1, hc2⟩)
    clear hc1 hc2
    go_enter Tryd.func29, Tryd.ntmps29
    go_wp2
    go_loopw [1, 5] (fun kk i wr => ∃ j : Nat, j ≤ ls.length ∧ kk = .int .i64 ((k + j : Nat) : Int) ∧ i = .int .i64 j ∧ Row wr 1 g e sz fr ((halfS k ls j).map dS) ∧ Keep (· ∈ g :: fr) w wr) (fun _ i _ => ls.length - (intOf i).toNat)
    case atStart => exact ⟨0, Nat.zero_le _, rfl, rfl, by rw [halfS_zero]; exact hrow, Keep.refl _ _⟩
    case round =>
      obtain ⟨j, hj, rfl, rfl, hr, hkp⟩ := hrel
      by_cases hlt : j < ls.length
      · have hjl : j < ((halfS k ls j).map dS).length := by rw [List.length_map, halfS_length _ _ _ hj]; exact hlt
        obtain ⟨fi, ci, _, _, hgf, ht, hci, hsz, hcell, hput⟩ := hr.at hn j hjl
        simp only [List.getElem_map, dS, TreeC] at ht
        obtain ⟨rfl, rfl⟩ := ht
        have d0 := hcell 0 _ (by decide) rfl
        have hfr := hr.blk.free (j * 1)
        have hlt2 := hr.blk.lt
        simp only [Nat.mul_one, Nat.add_zero] at d0 hfr hsz
        have i1 : (0 : Int) ≤ j := by omega
        have i2 : (j : Int) < ls.length := by omega
        have hkj : 0 < k + j := by omega
        have hkj2 : k + j ≤ 9223372036854775806 := by omega
        have HMT := Lib.hid (markText_any (k + j) wr (by omega) hkj)
        have HFR := Lib.hid hr.blk
        have HSET := Lib.hid (halfS_set k ls j hlt)
        go_wp2_with (go_at_call 52; refine HMT.out.mono ?_; rintro e1 w1 ⟨rfl, hb1⟩; have c1 : w1.cell? ⟨g, j, none⟩ = some _ := (by rw [(bcell hb1).1 _ _ hlt2]; exact d0); have c2 : w1.frozen? ⟨g, j, none⟩ = false := (by rw [(bcell hb1).2 _ _ hlt2]; exact hfr))
        go_roundw
        case rel =>
          refine ⟨j + 1, by omega, by go_num, by go_num, ?_, ?_⟩
          · rw [← HSET.out, ← dS_set]
            refine hput _ _ [.string ⟨(mt (k + j)).toArray⟩] rfl ((HFR.out.below hb1).setCell _ _) ?_ ?_ ?_ (by simp [TreeC, dS])
            · intro i hi
              obtain rfl : i = 0 := by omega
              simp only [Nat.mul_one, Nat.add_zero]
              simp [go_sem, c1]
            · intro o ho
              rw [← (bcell hb1).1 _ _ hlt2]
              have : o ≠ j := by omega
              simp [go_sem, this]
            · intro b hb _
              have hne : b ≠ g := fun e => by subst e; exact (List.nodup_cons.1 hn).1 hb
              have hbl : b < wr.heap.size := by obtain ⟨_, _, _, _, _, hts⟩ := hr; exact hts.lt b hb
              rw [Below.heap_setCell _ _ _ _ (by simpa using hne), hb1.block b hbl]
          · exact (hkp.then hb1).setCell (.inl (by simp)) _
        case measure => simp [intOf]; omega
      · obtain rfl : j = ls.length := by omega
        rw [halfS_all] at hr
        go_wp2
        go_ret
        have := Row.tree (c := c) hr (by decide) (by simpa [mtS_length] using HC.out)
        rw [List.length_map, mtS_length] at this
        exact ⟨rfl, hkp, this⟩

set_option maxHeartbeats 800000 in
set_option maxRecDepth 10000 in
theorem heldStringS_any (ls : List (List UInt8)) (v : Value) (k : Nat) (w : World) (h : Rd w (dSs (mtS k ls)) [v]) (hl : ls.length ≤ 4294967296) (hk : 0 < k) (hk2 : k ≤ 4611686018427387904) :
    Calls Tryd.prog 31 #[v, .int .i64 k] w fun e w' => e = .returned (.int .i64 ((k + ls.length : Nat) : Int)) ∧ Below w.heap.size w w' := by
  obtain ⟨a, c, rfl, hg⟩ := h.strs
  rw [mtS_length]
  clear h
  go_enter Tryd.func31, Tryd.ntmps31
  go_wp2
  go_loopw [1, 5] (fun kk i wr => ∃ j q : Nat, j ≤ ls.length ∧ q = k + j ∧ kk = .int .i64 q ∧ i = .int .i64 j ∧ Below w.heap.size w wr) (fun _ i _ => ls.length - (intOf i).toNat)
  case atStart => exact ⟨0, k, Nat.zero_le _, rfl, rfl, rfl, Below.refl _ _⟩
  case round =>
    obtain ⟨j, q, hj, hq, rfl, rfl, hbel⟩ := hrel
    have HQ := Lib.hid hq
    by_cases hlt : j < ls.length
    · obtain ⟨_, _, b, o, rfl, hb, hcell⟩ := hg (by intro e; have := congrArg List.length e; simp [mtS_length] at this; subst this; simp at hlt)
      have d0 := hcell j (by rw [mtS_length]; exact hlt)
      rw [mtS_get k ls j hlt, ← (bcell hbel).1 _ _ hb] at d0
      rw [← hq] at d0
      have i1 : (0 : Int) ≤ j := by omega
      have hq2 : q ≤ 4611686018427387904 + 4294967296 := by omega
      have hq3 : 0 < q := by omega
      clear hq
      have i2 : (j : Int) < ls.length := by omega
      have hb' : b < wr.heap.size := Nat.lt_of_lt_of_le hb hbel.size
      have HMT := fun W => Lib.hid (markText_any q W (by omega) (by omega))
      have hwr := Below.refl wr.heap.size wr
      have KB : Hid (∀ W, Below wr.heap.size wr W → W.cell? ⟨b, o + j, none⟩ = some (.string ⟨(mt q).toArray⟩)) := fun W hW => by rw [(bcell hW).1 _ _ hb']; exact d0
      clear hcell hg d0
      go_wp2_with fail
      go_region_held3 (fun W => W.cell? ⟨b, o + j, none⟩ = some (.string ⟨(mt q).toArray⟩)) (first | exact KB.out _ hwr | exact KB.out _ hwr.drew)
        ((go_at_call 52; with_reducible refine (HMT _).out.mono ?_; rintro e1 w1 ⟨rfl, hb1⟩; replace hwr := below2 (by first | exact hwr | exact hwr.drew) hb1 (Nat.le_refl _)))
      go_wp2
      go_roundw
      case rel => exact ⟨j + 1, q + 1, by omega, by have := HQ.out; omega, by go_num, by go_num, below2 hbel (by first | exact hwr | exact hwr.drew) (Nat.le_refl _)⟩
      case measure => simp [intOf]; omega
    · obtain rfl : j = ls.length := by omega
      clear hq
      go_wp2
      go_ret
      exact ⟨by rw [← HQ.out]; rfl, hbel⟩
end Go.Proofs.YtpknmldpdoadgaaDoor

/- One element of an own row marked: values and shapes. No program in sight. -/
namespace Go.Proofs.YtpknmldpdoadgaaDoor
open Go.RowKit

def setA (w : World) (g o : Nat) (q : Nat) : World := ((w.setCell ⟨g, o, none⟩ (.int .i64 (q : Int))).setCell ⟨g, o + 1, none⟩ (.int .i64 ((q : Int) + 1))).setCell ⟨g, o + 2, none⟩ (.int .i64 ((q : Int) + 1 + 1))
theorem setA_block {w : World} {g o q b : Nat} (h : b ≠ g) : (setA w g o q).heap[b]? = w.heap[b]? := by
  unfold setA; rw [Below.heap_setCell _ _ _ _ (by simpa using h), Below.heap_setCell _ _ _ _ (by simpa using h), Below.heap_setCell _ _ _ _ (by simpa using h)]
theorem setA_size {w : World} {g o q : Nat} : (setA w g o q).heap.size = w.heap.size := by simp [setA, World.setCell]
theorem setA_cell {w : World} {g o q p : Nat} (h0 : ∃ v, w.cell? ⟨g, o, none⟩ = some v) (h1 : ∃ v, w.cell? ⟨g, o + 1, none⟩ = some v) (h2 : ∃ v, w.cell? ⟨g, o + 2, none⟩ = some v) :
    (setA w g o q).cell? ⟨g, p, none⟩ = if p = o + 2 then some (.int .i64 ((q + 2 : Nat) : Int)) else if p = o + 1 then some (.int .i64 ((q + 1 : Nat) : Int)) else if p = o then some (.int .i64 (q : Nat)) else w.cell? ⟨g, p, none⟩ := by
  obtain ⟨v0, h0⟩ := h0; obtain ⟨v1, h1⟩ := h1; obtain ⟨v2, h2⟩ := h2
  unfold setA
  rw [show ((q + 2 : Nat) : Int) = (q : Int) + 1 + 1 from rfl, show ((q + 1 : Nat) : Int) = (q : Int) + 1 from rfl]
  by_cases e2 : p = o + 2
  · subst e2; simp [go_sem, h0, h1, h2]
  by_cases e1 : p = o + 1
  · subst e1; simp [go_sem, h0, h1, h2]
  by_cases e0 : p = o
  · subst e0; simp [go_sem, h0, h1, h2]
  · simp [go_sem, e0, e1, e2]
theorem setA_keep {S : Nat → Prop} {w : World} {g o q : Nat} (h : S g) : Keep S w (setA w g o q) := (((Keep.refl S w).setCell (p := ⟨g, o, none⟩) (.inl h) _).setCell (p := ⟨g, o + 1, none⟩) (.inl h) _).setCell (p := ⟨g, o + 2, none⟩) (.inl h) _

/-- one value of a row is marked: four cells written, then its kids -/
theorem RowV.round {w : World} {g sz : Nat} {e : TypeId} {fr : List Nat} {es : List V} (h : Row w 5 g e sz fr (V.ds es)) (hn : (g :: fr).Nodup) (j : Nat) (hj : j < es.length) (q : Nat) : ∃ fi kn nn en sn kids v, es[j] = .mk kn nn en sn kids ∧ fi.Nodup ∧
    w.cell? ⟨g, j * 5, none⟩ = some (.int .i64 kn) ∧ w.cell? ⟨g, j * 5 + 1, none⟩ = some (.int .i64 nn) ∧ w.cell? ⟨g, j * 5 + 2, none⟩ = some (.int .i64 en) ∧ (∀ o, w.frozen? ⟨g, o, none⟩ = false) ∧ g < w.heap.size ∧
    ∀ w1, Below (setA w g (j * 5) q).heap.size (setA w g (j * 5) q) w1 → w1.cell? ⟨g, j * 5 + 3, none⟩ = some (.string ⟨sn.toArray⟩) ∧ w1.frozen? ⟨g, j * 5 + 3, none⟩ = false ∧ w1.cell? ⟨g, j * 5 + 4, none⟩ = some v ∧
      TreeC (w1.setCell ⟨g, j * 5 + 3, none⟩ (.string ⟨(mt (q + 3)).toArray⟩)) (.sl 5 (V.ds kids)) fi [v] ∧
      ∀ wD, Keep (· ∈ fi) (w1.setCell ⟨g, j * 5 + 3, none⟩ (.string ⟨(mt (q + 3)).toArray⟩)) wD → TreeC wD (.sl 5 (V.ds (V.marks (q + 4) kids))) fi [v] →
        Row wD 5 g e sz fr (V.ds (es.set j (V.mark1 q es[j]))) ∧ Keep (· ∈ g :: fr) w wD := by
  obtain ⟨kn, nn, en, sn, kids, hes⟩ : ∃ kn nn en sn kids, es[j] = .mk kn nn en sn kids := by cases es[j]; exact ⟨_, _, _, _, _, rfl⟩
  have hblk := h.blk
  have hj' : j < (V.ds es).length := by rw [V.ds_map, List.length_map]; exact hj
  obtain ⟨fi, ci, k1, k2, hgf, ht, hci, hsz, hcell, hput⟩ := h.at hn j hj'
  have hd : (V.ds es)[j] = es[j].d := by simp [V.ds_map]
  rw [hd, hes] at ht
  obtain ⟨v, rfl, htk⟩ := V.tree ht
  clear ht
  have ht := htk
  have hg := hblk.lt
  have hfl : ∀ b ∈ fi, b < w.heap.size := ht.lt
  have hgr : g ∉ fr := (List.nodup_cons.1 hn).1
  have c0 := hcell 0 _ (by decide) rfl
  have c1 := hcell 1 _ (by decide) rfl
  have c2 := hcell 2 _ (by decide) rfl
  have c3 := hcell 3 _ (by decide) rfl
  have c4 := hcell 4 _ (by decide) rfl
  rw [Nat.add_zero] at c0
  have hlt : ∀ b ∈ fr, b < w.heap.size := by obtain ⟨_, _, _, _, _, hts⟩ := h; exact hts.lt
  refine ⟨fi, kn, nn, en, sn, kids, v, hes, k1, c0, c1, c2, hblk.free, hg, fun w1 hB => ?_⟩
  have hAg : g < (setA w g (j * 5) q).heap.size := by rw [setA_size]; exact hg
  have hbA : Blk (setA w g (j * 5) q) g e sz := ((hblk.setCell _ _).setCell _ _).setCell _ _
  have hb1 : Blk w1 g e sz := hbA.below hB
  have hA := @setA_cell w g (j * 5) q
  have h1c : ∀ p, w1.cell? ⟨g, p, none⟩ = (setA w g (j * 5) q).cell? ⟨g, p, none⟩ := fun p => (bcell hB).1 _ _ hAg
  have e3 : w1.cell? ⟨g, j * 5 + 3, none⟩ = some (.string ⟨sn.toArray⟩) := by rw [h1c, hA ⟨_, c0⟩ ⟨_, c1⟩ ⟨_, c2⟩, if_neg (by omega), if_neg (by omega), if_neg (by omega), c3]
  have e4 : w1.cell? ⟨g, j * 5 + 4, none⟩ = some v := by rw [h1c, hA ⟨_, c0⟩ ⟨_, c1⟩ ⟨_, c2⟩, if_neg (by omega), if_neg (by omega), if_neg (by omega), c4]
  have hC : ∀ b, b < w.heap.size → b ≠ g → (w1.setCell ⟨g, j * 5 + 3, none⟩ (.string ⟨(mt (q + 3)).toArray⟩)).heap[b]? = w.heap[b]? := by
    intro b hb hbg
    rw [Below.heap_setCell _ _ _ _ (by simpa using hbg), hB.block b (by rw [setA_size]; exact hb), setA_block hbg]
  refine ⟨e3, hb1.free _, e4, ht.frame fun b hb => hC b (hfl b hb) (fun e => hgf (e ▸ hb)), fun wD hK hT => ?_⟩
  have hKg : Keep (· ∈ g :: fr) w wD :=
    (((setA_keep (S := (· ∈ g :: fr)) (by simp)).then hB).setCell (.inl (by simp)) _).trans (hK.mono fun b _ hb => by simp [k2 b hb])
  refine ⟨?_, hKg⟩
  have hz1 := hB.size
  rw [setA_size] at hz1
  have hgC : g < (w1.setCell ⟨g, j * 5 + 3, none⟩ (.string ⟨(mt (q + 3)).toArray⟩)).heap.size := by simp [World.setCell]; omega
  have hDc : ∀ p, wD.cell? ⟨g, p, none⟩ = (w1.setCell ⟨g, j * 5 + 3, none⟩ (.string ⟨(mt (q + 3)).toArray⟩)).cell? ⟨g, p, none⟩ := fun p => hK.cell hgC hgf
  have hCc : ∀ p, p ≠ j * 5 + 3 → (w1.setCell ⟨g, j * 5 + 3, none⟩ (.string ⟨(mt (q + 3)).toArray⟩)).cell? ⟨g, p, none⟩ = w1.cell? ⟨g, p, none⟩ := by
    intro p hp; simp [go_sem, hp]
  rw [← V.ds_set]
  refine hput wD _ [.int .i64 (q : Nat), .int .i64 ((q + 1 : Nat) : Int), .int .i64 ((q + 2 : Nat) : Int), .string ⟨(mt (q + 3)).toArray⟩, v] (V.width _) ((hb1.setCell _ _).keep hK hgf) ?_ ?_ ?_ (by rw [hes]; exact V.tree_mk hT)
  · intro i hi
    rw [hDc]
    match i, hi with
    | 0, _ => rw [hCc _ (by omega), h1c, hA ⟨_, c0⟩ ⟨_, c1⟩ ⟨_, c2⟩, if_neg (by omega), if_neg (by omega), if_pos (by omega)]; rfl
    | 1, _ => rw [hCc _ (by omega), h1c, hA ⟨_, c0⟩ ⟨_, c1⟩ ⟨_, c2⟩, if_neg (by omega), if_pos (by omega)]; rfl
    | 2, _ => rw [hCc _ (by omega), h1c, hA ⟨_, c0⟩ ⟨_, c1⟩ ⟨_, c2⟩, if_pos (by omega)]; rfl
    | 3, _ => simp [go_sem, e3]
    | 4, _ => rw [hCc _ (by omega), e4]; rfl
  · intro o ho
    rw [hDc, hCc _ (by omega), h1c, hA ⟨_, c0⟩ ⟨_, c1⟩ ⟨_, c2⟩, if_neg (by omega), if_neg (by omega), if_neg (by omega)]
  · intro b hb hbi
    have hne : b ≠ g := fun e => hgr (e ▸ hb)
    rw [hK.block b (by simp [World.setCell]; have := hlt b hb; omega) hbi, hC b (hlt b hb) hne]

/-- one shape of a row is marked: three cells written, its keys, one cell more, its kids -/
theorem RowSh.round {w : World} {g sz : Nat} {e : TypeId} {fr : List Nat} {es : List Sh} (h : Row w 6 g e sz fr (Sh.ds es)) (hn : (g :: fr).Nodup) (j : Nat) (hj : j < es.length) (q : Nat) : ∃ f1 f2 kn ln hi ks mn kids v u, es[j] = .mk kn ln hi ks mn kids ∧ f1.Nodup ∧ f2.Nodup ∧
    w.cell? ⟨g, j * 6, none⟩ = some (.int .i64 kn) ∧ w.cell? ⟨g, j * 6 + 1, none⟩ = some (.int .i64 ln) ∧ w.cell? ⟨g, j * 6 + 2, none⟩ = some (.int .i64 hi) ∧ (∀ o, w.frozen? ⟨g, o, none⟩ = false) ∧ g < w.heap.size ∧
    w.cell? ⟨g, j * 6 + 3, none⟩ = some v ∧ TreeC (setA w g (j * 6) q) (dSs ks) f1 [v] ∧
    ∀ w1, Keep (· ∈ f1) (setA w g (j * 6) q) w1 → TreeC w1 (dSs (mtS (q + 3) ks)) f1 [v] → w1.cell? ⟨g, j * 6 + 4, none⟩ = some (.int .i64 mn) ∧ w1.frozen? ⟨g, j * 6 + 4, none⟩ = false ∧ w1.cell? ⟨g, j * 6 + 5, none⟩ = some u ∧
      TreeC (w1.setCell ⟨g, j * 6 + 4, none⟩ (.int .i64 ((q + 3 + ks.length : Nat) : Int))) (.sl 6 (Sh.ds kids)) f2 [u] ∧
      ∀ wD, Keep (· ∈ f2) (w1.setCell ⟨g, j * 6 + 4, none⟩ (.int .i64 ((q + 3 + ks.length : Nat) : Int))) wD → TreeC wD (.sl 6 (Sh.ds (Sh.marks (q + 3 + ks.length + 1) kids))) f2 [u] →
        Row wD 6 g e sz fr (Sh.ds (es.set j (Sh.mark1 q es[j]))) ∧ Keep (· ∈ g :: fr) w wD := by
  obtain ⟨kn, ln, hi, ks, mn, kids, hes⟩ : ∃ kn ln hi ks mn kids, es[j] = .mk kn ln hi ks mn kids := by cases es[j]; exact ⟨_, _, _, _, _, _, rfl⟩
  have hblk := h.blk
  have hj' : j < (Sh.ds es).length := by rw [Sh.ds_map, List.length_map]; exact hj
  obtain ⟨fi, ci, k1, k2, hgf, ht, hci, hsz, hcell, hput⟩ := h.at hn j hj'
  have hd : (Sh.ds es)[j] = es[j].d := by simp [Sh.ds_map]
  rw [hd, hes] at ht
  obtain ⟨v, u, f1, f2, rfl, rfl, ht1, ht2⟩ := Sh.tree ht
  rw [List.nodup_append] at k1
  obtain ⟨n1, n2, n3⟩ := k1
  have hg1 : g ∉ f1 := fun hb => hgf (by simp [hb])
  have hg2 : g ∉ f2 := fun hb => hgf (by simp [hb])
  have hg := hblk.lt
  have hl1 : ∀ b ∈ f1, b < w.heap.size := ht1.lt
  have hl2 : ∀ b ∈ f2, b < w.heap.size := ht2.lt
  have hgr : g ∉ fr := (List.nodup_cons.1 hn).1
  have c0 := hcell 0 _ (by decide) rfl
  have c1 := hcell 1 _ (by decide) rfl
  have c2 := hcell 2 _ (by decide) rfl
  have c3 := hcell 3 _ (by decide) rfl
  have c4 := hcell 4 _ (by decide) rfl
  have c5 := hcell 5 _ (by decide) rfl
  rw [Nat.add_zero] at c0
  have hlt : ∀ b ∈ fr, b < w.heap.size := by obtain ⟨_, _, _, _, _, hts⟩ := h; exact hts.lt
  have hA := @setA_cell w g (j * 6) q
  have hAg : g < (setA w g (j * 6) q).heap.size := by rw [setA_size]; exact hg
  refine ⟨f1, f2, kn, ln, hi, ks, mn, kids, v, u, hes, n1, n2, c0, c1, c2, hblk.free, hg, c3, ht1.frame fun b hb => setA_block (fun e => hg1 (e ▸ hb)), fun w1 hB hT1 => ?_⟩
  have hbA : Blk (setA w g (j * 6) q) g e sz := ((hblk.setCell _ _).setCell _ _).setCell _ _
  have hb1 : Blk w1 g e sz := hbA.keep hB hg1
  have h1c : ∀ p, w1.cell? ⟨g, p, none⟩ = (setA w g (j * 6) q).cell? ⟨g, p, none⟩ := fun p => hB.cell hAg hg1
  have e4 : w1.cell? ⟨g, j * 6 + 4, none⟩ = some (.int .i64 mn) := by rw [h1c, hA ⟨_, c0⟩ ⟨_, c1⟩ ⟨_, c2⟩, if_neg (by omega), if_neg (by omega), if_neg (by omega), c4]
  have e5 : w1.cell? ⟨g, j * 6 + 5, none⟩ = some u := by rw [h1c, hA ⟨_, c0⟩ ⟨_, c1⟩ ⟨_, c2⟩, if_neg (by omega), if_neg (by omega), if_neg (by omega), c5]
  have hC : ∀ b, b < w.heap.size → b ≠ g → b ∉ f1 → (w1.setCell ⟨g, j * 6 + 4, none⟩ (.int .i64 ((q + 3 + ks.length : Nat) : Int))).heap[b]? = w.heap[b]? := by
    intro b hb hbg hb1
    rw [Below.heap_setCell _ _ _ _ (by simpa using hbg), hB.block b (by rw [setA_size]; exact hb) hb1, setA_block hbg]
  refine ⟨e4, hb1.free _, e5, ht2.frame fun b hb => hC b (hl2 b hb) (fun e => hg2 (e ▸ hb)) (fun hb1 => n3 b hb1 b hb rfl), fun wD hK hT => ?_⟩
  have hKg : Keep (· ∈ g :: fr) w wD :=
    (((setA_keep (S := (· ∈ g :: fr)) (by simp)).trans (hB.mono fun b _ hb => by simp [k2 b (by simp [hb])])).setCell (.inl (by simp)) _).trans (hK.mono fun b _ hb => by simp [k2 b (by simp [hb])])
  refine ⟨?_, hKg⟩
  have hz1 := hB.size
  rw [setA_size] at hz1
  have hgC : g < (w1.setCell ⟨g, j * 6 + 4, none⟩ (.int .i64 ((q + 3 + ks.length : Nat) : Int))).heap.size := by simp [World.setCell]; omega
  have hDc : ∀ p, wD.cell? ⟨g, p, none⟩ = (w1.setCell ⟨g, j * 6 + 4, none⟩ (.int .i64 ((q + 3 + ks.length : Nat) : Int))).cell? ⟨g, p, none⟩ := fun p => hK.cell hgC hg2
  have hCc : ∀ p, p ≠ j * 6 + 4 → (w1.setCell ⟨g, j * 6 + 4, none⟩ (.int .i64 ((q + 3 + ks.length : Nat) : Int))).cell? ⟨g, p, none⟩ = w1.cell? ⟨g, p, none⟩ := by
    intro p hp; simp [go_sem, hp]
  rw [← Sh.ds_set]
  have hT1' : TreeC wD (dSs (mtS (q + 3) ks)) f1 [v] := hT1.frame fun b hb => by
    have hne : b ≠ g := fun e => hg1 (e ▸ hb)
    rw [hK.block b (by simp [World.setCell]; exact hT1.lt b hb) (fun hb2 => n3 b hb b hb2 rfl), Below.heap_setCell _ _ _ _ (by simpa using hne)]
  refine hput wD _ [.int .i64 (q : Nat), .int .i64 ((q + 1 : Nat) : Int), .int .i64 ((q + 2 : Nat) : Int), v, .int .i64 ((q + 3 + ks.length : Nat) : Int), u] (Sh.width _) ((hb1.setCell _ _).keep hK hg2) ?_ ?_ ?_ (by rw [hes]; exact Sh.tree_mk hT1' hT)
  · intro i hi
    rw [hDc]
    match i, hi with
    | 0, _ => rw [hCc _ (by omega), h1c, hA ⟨_, c0⟩ ⟨_, c1⟩ ⟨_, c2⟩, if_neg (by omega), if_neg (by omega), if_pos (by omega)]; rfl
    | 1, _ => rw [hCc _ (by omega), h1c, hA ⟨_, c0⟩ ⟨_, c1⟩ ⟨_, c2⟩, if_neg (by omega), if_pos (by omega)]; rfl
    | 2, _ => rw [hCc _ (by omega), h1c, hA ⟨_, c0⟩ ⟨_, c1⟩ ⟨_, c2⟩, if_pos (by omega)]; rfl
    | 3, _ => rw [hCc _ (by omega), h1c, hA ⟨_, c0⟩ ⟨_, c1⟩ ⟨_, c2⟩, if_neg (by omega), if_neg (by omega), if_neg (by omega), c3]; rfl
    | 4, _ => simp [go_sem, e4]
    | 5, _ => rw [hCc _ (by omega), e5]; rfl
  · intro o ho
    rw [hDc, hCc _ (by omega), h1c, hA ⟨_, c0⟩ ⟨_, c1⟩ ⟨_, c2⟩, if_neg (by omega), if_neg (by omega), if_neg (by omega)]
  · intro b hb hbi
    have hne : b ≠ g := fun e => hgr (e ▸ hb)
    have hb1' : b ∉ f1 := fun h => hbi (by simp [h])
    have hb2' : b ∉ f2 := fun h => hbi (by simp [h])
    rw [hK.block b (by simp [World.setCell]; have := hlt b hb; omega) hb2', hC b (hlt b hb) hne hb1']
end Go.Proofs.YtpknmldpdoadgaaDoor

/- Marks laid into own shapes: the law's markShape and heldShape. -/
namespace Go.Proofs.YtpknmldpdoadgaaDoor
open Go.RowKit

theorem Sh.half_zero (k : Nat) (ls : List Sh) : Sh.half k ls 0 = ls := by simp [Sh.half, Sh.marks]
theorem Sh.half_all (k : Nat) (ls : List Sh) : Sh.half k ls ls.length = Sh.marks k ls := by simp [Sh.half]
theorem Sh.half_length (k : Nat) (ls : List Sh) (j : Nat) (h : j ≤ ls.length) : (Sh.half k ls j).length = ls.length := by simp [Sh.half, Sh.marks_length]; omega
theorem Sh.half_at (k : Nat) (ls : List Sh) (j : Nat) (h : j < ls.length) : (Sh.half k ls j)[j]'(by rw [Sh.half_length _ _ _ (by omega)]; exact h) = ls[j] := half_get h (by rw [Sh.marks_length, List.length_take]; omega)
theorem Sh.cnts_get : ∀ (vs : List Sh) i (h : i < vs.length), Sh.cnts (vs.take i) + Sh.cnt vs[i] ≤ Sh.cnts vs := fun vs i h => by
  have := Sh.cnts_take vs i h; have := Sh.cnts_le vs (i + 1); omega

def SMk (n : Nat) : Prop := ∀ (vs : List Sh) (v : Value) (k : Nat) (fp : List Nat) (w : World), Sh.nodess vs ≤ n → TreeC w (.sl 6 (Sh.ds vs)) fp [v] → fp.Nodup → vs.length + Sh.bulks vs ≤ 4294967295 → 0 < k → k + Sh.cnts vs ≤ 4611686018427387904 →
  Calls Tryd.prog 30 #[v, .int .i64 k] w fun e w' => e = .returned (.int .i64 ((k + Sh.cnts vs : Nat) : Int)) ∧ Keep (· ∈ fp) w w' ∧ TreeC w' (.sl 6 (Sh.ds (Sh.marks k vs))) fp [v]

set_option maxHeartbeats 400000 in
theorem markSh_nil (v : Value) (k : Nat) (fp : List Nat) (w : World) (h : TreeC w (.sl 6 (Sh.ds [])) fp [v]) :
    Calls Tryd.prog 30 #[v, .int .i64 k] w fun e w' => e = .returned (.int .i64 ((k + Sh.cnts [] : Nat) : Int)) ∧ Keep (· ∈ fp) w w' ∧ TreeC w' (.sl 6 (Sh.ds (Sh.marks k []))) fp [v] := by
  have h0 := h
  obtain ⟨a, c, rfl, _⟩ := TreeC.row h
  have H0 := Lib.hid h0
  clear h h0
  go_enter Tryd.func30, Tryd.ntmps30
  go_wp2
  go_loopw [1, 5] (fun kk i wr => kk = .int .i64 k ∧ i = .int .i64 (0 : Int) ∧ wr = w) (fun _ _ _ => 0)
  case atStart => exact ⟨rfl, rfl, rfl⟩
  case round =>
    obtain ⟨rfl, rfl, rfl⟩ := hrel
    go_wp2
    go_ret
    exact ⟨rfl, Keep.refl _ _, H0.out⟩

set_option maxHeartbeats 2000000 in
set_option maxRecDepth 10000 in
theorem SMk_of {n : Nat} (hA : SMk n) : SMk (n + 1) := by
  intro vs v k fp w hnn h hn hl hk hk2
  by_cases hne : vs = []
  · subst hne
    exact markSh_nil v k fp w h
  · obtain ⟨a, c, rfl, hg⟩ := TreeC.row h
    obtain ⟨g, fr, e, sz, rfl, rfl, hc1, hc2, hrow⟩ := hg (by rw [Sh.ds_map]; simpa using hne)
    have hvl : (Sh.ds vs).length = vs.length := by rw [Sh.ds_map, List.length_map]
    rw [hvl] at hc1 ⊢
    clear hg h
    have HC := Lib.hid (show (vs.length ≤ c ∧ sz = c * 6) ∧ c ≤ maxLen from ⟨hc1, hc2⟩)
    clear hc1 hc2
    go_enter Tryd.func30, Tryd.ntmps30
    go_wp2
    go_loopw [1, 5] (fun kk i wr => ∃ j q : Nat, j ≤ vs.length ∧ q = k + Sh.cnts (vs.take j) ∧ kk = .int .i64 q ∧ i = .int .i64 j ∧ Row wr 6 g e sz fr (Sh.ds (Sh.half k vs j)) ∧ Keep (· ∈ g :: fr) w wr) (fun _ i _ => vs.length - (intOf i).toNat)
    case atStart => exact ⟨0, k, Nat.zero_le _, by simp [Sh.cnts], rfl, rfl, by rw [Sh.half_zero]; exact hrow, Keep.refl _ _⟩
    case round =>
      obtain ⟨j, q, hj, hq, rfl, rfl, hr, hkp⟩ := hrel
      have HQ := Lib.hid hq
      by_cases hlt : j < vs.length
      · have hqc := Sh.cnts_get vs j hlt
        have hq1 : 0 < q := by omega
        have hq2 : q + Sh.cnt vs[j] ≤ 4611686018427387904 := by omega
        have HQ2 := Lib.hid (show q + Sh.cnt vs[j] = k + Sh.cnts (vs.take (j + 1)) by rw [Sh.cnts_take vs j hlt]; omega)
        clear hq hqc
        have hjl : j < (Sh.half k vs j).length := by rw [Sh.half_length _ _ _ hj]; exact hlt
        obtain ⟨f1, f2, kn, ln, hi, ks, mn, kids, v, u, hes, hnf1, hnf2, d0, d1, d2, hfr, hgl, c3, htk1, hrest⟩ := RowSh.round hr hn j hjl q
        have hes' : vs[j] = .mk kn ln hi ks mn kids := by rw [← Sh.half_at k vs j hlt]; exact hes
        have hnj := Sh.nodes_get vs j hlt
        have hbj := Sh.bulks_snoc vs j hlt
        have hbt := Sh.bulks_take vs (j + 1)
        have hnk : Sh.nodess kids ≤ n := by rw [hes'] at hnj; simp only [Sh.nodes] at hnj; omega
        have hbk : (ks.length + ssBulk ks) + (kids.length + Sh.bulks kids) ≤ 4294967295 := by rw [hes'] at hbj; simp only [Sh.bulk] at hbj; omega
        have hck : Sh.cnt vs[j] = 3 + (ks.length + (1 + Sh.cnts kids)) := by rw [hes']; rfl
        have hqk : q + 3 + ks.length + 1 + Sh.cnts kids ≤ 4611686018427387904 := by omega
        have HQ3 := Lib.hid (show q + 3 + ks.length + 1 + Sh.cnts kids = k + Sh.cnts (vs.take (j + 1)) by rw [← HQ2.out]; omega)
        have HSET := Lib.hid (show (Sh.half k vs j).set j (Sh.mark1 q ((Sh.half k vs j)[j]'hjl)) = Sh.half k vs (j + 1) by rw [Sh.half_at k vs j hlt, HQ.out]; exact Sh.half_set k vs j hlt)
        have HR := Lib.hid hrest
        have f0 := hfr (j * 6)
        have f1' := hfr (j * 6 + 1)
        have f2' := hfr (j * 6 + 2)
        have i1 : (0 : Int) ≤ j := by omega
        have i2 : (j : Int) < vs.length := by omega
        have HMS := Lib.hid (markStringS_any ks v (q + 3) f1 _ htk1 hnf1 (by omega) (by omega) (by omega))
        have HHA := fun W h1 => Lib.hid (hA kids u (q + 3 + ks.length + 1) f2 W hnk h1 hnf2 (by omega) (by omega) hqk)
        have HKP := Lib.hid hkp
        have hkl : ks.length ≤ 4294967295 := by omega
        clear hes hes' hnj hbj hbt hnk hbk hck hrest hr hfr hnf1 hnf2 hA hrow hkp htk1
        go_wp2_with (first | (go_at_call 29; refine HMS.out.mono ?_; rintro e1 w1 ⟨rfl, hkk1, ht1⟩; obtain ⟨c4, f4, c5, htk, hfin⟩ := HR.out w1 hkk1 ht1) | (go_at_call 30; refine (HHA _ htk).out.mono ?_; rintro e1 w2 ⟨rfl, hk2', ht2⟩; obtain ⟨hrow2, hkp2⟩ := hfin w2 hk2' ht2))
        go_roundw
        case rel => exact ⟨j + 1, q + 3 + ks.length + 1 + Sh.cnts kids, by omega, HQ3.out, by go_num, by go_num, by rw [← HSET.out]; exact hrow2, HKP.out.trans hkp2⟩
        case measure => simp [intOf]; omega
      · obtain rfl : j = vs.length := by omega
        rw [Sh.half_all] at hr
        rw [List.take_length] at HQ
        clear hq
        go_wp2
        go_ret
        have hml : (Sh.ds (Sh.marks k vs)).length = vs.length := by rw [Sh.ds_map, List.length_map, Sh.marks_length]
        have := Row.tree (c := c) hr (by decide) (by rw [hml]; exact HC.out)
        rw [hml] at this
        exact ⟨by rw [← HQ.out]; rfl, hkp, this⟩
theorem SMk_all : ∀ n, SMk n
  | 0 => by
    intro vs v k fp w hnn h hn hl hk hk2
    have : vs = [] := by
      cases vs with
      | nil => rfl
      | cons x r => have := x.nodes_pos; simp only [Sh.nodess] at hnn; omega
    subst this
    exact markSh_nil v k fp w h
  | n + 1 => SMk_of (SMk_all n)
def SHd (n : Nat) : Prop := ∀ (vs : List Sh) (v : Value) (k : Nat) (w : World), Sh.nodess vs ≤ n → Rd w (.sl 6 (Sh.ds (Sh.marks k vs))) [v] → vs.length + Sh.bulks vs ≤ 4294967295 → 0 < k → k + Sh.cnts vs ≤ 4611686018427387904 →
  Calls Tryd.prog 32 #[v, .int .i64 k] w fun e w' => e = .returned (.int .i64 ((k + Sh.cnts vs : Nat) : Int)) ∧ Below w.heap.size w w'
theorem Sh.marks_get : ∀ (k : Nat) (vs : List Sh) (j : Nat) (h : j < vs.length), (Sh.marks k vs)[j]'(by rw [Sh.marks_length]; exact h) = Sh.mark1 (k + Sh.cnts (vs.take j)) vs[j]
  | k, v :: vs, 0, _ => by simp [Sh.marks, Sh.cnts]
  | k, v :: vs, j + 1, h => by simp only [Sh.marks, List.getElem_cons_succ, List.take_succ_cons, Sh.cnts]; rw [Sh.marks_get (k + Sh.cnt v) vs j (by simpa using h), Nat.add_assoc]
set_option maxHeartbeats 2000000 in
set_option maxRecDepth 10000 in
theorem SHd_of {n : Nat} (hA : SHd n) : SHd (n + 1) := by
  intro vs v k w hnn h hl hk hk2
  obtain ⟨a, c, rfl, hg⟩ := h.shapes
  rw [Sh.marks_length]
  clear h
  go_enter Tryd.func32, Tryd.ntmps32
  go_wp2
  go_loopw [1, 5] (fun kk i wr => ∃ j q : Nat, j ≤ vs.length ∧ q = k + Sh.cnts (vs.take j) ∧ kk = .int .i64 q ∧ i = .int .i64 j ∧ Below w.heap.size w wr) (fun _ i _ => vs.length - (intOf i).toNat)
  case atStart => exact ⟨0, k, Nat.zero_le _, by simp [Sh.cnts], rfl, rfl, Below.refl _ _⟩
  case round =>
    obtain ⟨j, q, hj, hq, rfl, rfl, hbel⟩ := hrel
    have HQ := Lib.hid hq
    by_cases hlt : j < vs.length
    · have hqc := Sh.cnts_get vs j hlt
      have hq1 : 0 < q := by omega
      have hq2 : q + Sh.cnt vs[j] ≤ 4611686018427387904 := by omega
      have HQ2 := Lib.hid (show q + Sh.cnt vs[j] = k + Sh.cnts (vs.take (j + 1)) by rw [Sh.cnts_take vs j hlt]; omega)
      obtain ⟨_, _, b, o, rfl, hb, hcell⟩ := hg (by intro e; have := congrArg List.length e; simp [Sh.marks_length] at this; subst this; simp at hlt)
      obtain ⟨v0, v1, v2, v3, v4, v5, hr, d0, d1, d2, d3, d4, d5⟩ := hcell j (by rw [Sh.marks_length]; exact hlt)
      rw [Sh.marks_get k vs j hlt, ← hq] at hr
      obtain ⟨kn, ln, hi, ks, mn, kids, hes'⟩ : ∃ kn ln hi ks mn kids, vs[j] = .mk kn ln hi ks mn kids := by cases vs[j]; exact ⟨_, _, _, _, _, _, rfl⟩
      rw [hes'] at hr
      obtain ⟨k', l', h', ks', m', kids', u1, u2, hm, hcs, hrs, hrk⟩ := Sh.lay hr
      simp only [Sh.mark1, Sh.mk.injEq] at hm
      obtain ⟨rfl, rfl, rfl, rfl, rfl, rfl⟩ := hm
      simp only [List.cons.injEq, and_true] at hcs
      obtain ⟨rfl, rfl, rfl, rfl, rfl, rfl⟩ := hcs
      have hnj := Sh.nodes_get vs j hlt
      have hbj := Sh.bulks_snoc vs j hlt
      have hbt := Sh.bulks_take vs (j + 1)
      have hnk : Sh.nodess kids ≤ n := by rw [hes'] at hnj; simp only [Sh.nodes] at hnj; omega
      have hbk : (ks.length + ssBulk ks) + (kids.length + Sh.bulks kids) ≤ 4294967295 := by rw [hes'] at hbj; simp only [Sh.bulk] at hbj; omega
      have hck : Sh.cnt vs[j] = 3 + (ks.length + (1 + Sh.cnts kids)) := by rw [hes']; rfl
      have hqk : q + 3 + ks.length + 1 + Sh.cnts kids ≤ 4611686018427387904 := by omega
      have HQ3 := Lib.hid (show q + 3 + ks.length + 1 + Sh.cnts kids = k + Sh.cnts (vs.take (j + 1)) by rw [← HQ2.out]; omega)
      have hbc := (bcell hbel).1
      rw [← hbc _ _ hb] at d0 d1 d2 d3 d4 d5
      have hb' : b < wr.heap.size := Nat.lt_of_lt_of_le hb hbel.size
      have hwr := Below.refl wr.heap.size wr
      have KB : Hid (∀ W, Below wr.heap.size wr W → W.cell? ⟨b, o + j * 6 + 4, none⟩ = some (.int .i64 ((q + 3 + ks.length : Nat) : Int)) ∧ W.cell? ⟨b, o + j * 6 + 5, none⟩ = some v5) := fun W hW => by rw [(bcell hW).1 _ _ hb', (bcell hW).1 _ _ hb']; exact ⟨d4, d5⟩
      have i1 : (0 : Int) ≤ j := by omega
      have i2 : (j : Int) < vs.length := by omega
      have HMT := Lib.hid (heldStringS_any ks v3 (q + 3) wr (hrs.below hbel) (by omega) (by omega) (by omega))
      have HHA := fun W (hB : Below wr.heap.size wr W) => Lib.hid (hA kids v5 (q + 3 + ks.length + 1) W hnk ((hrk.below hbel).below hB) (by omega) (by omega) hqk)
      have hkl : ks.length ≤ 4294967295 := by omega
      clear hes' hnj hbj hbt hnk hbk hck hA hrk hrs hcell hg hbc hq hqc HQ2
      go_wp2_with (first | (go_at_call 31; refine HMT.out.mono ?_; rintro e1 w1 ⟨rfl, hb1⟩; obtain ⟨p4, p5⟩ := KB.out _ hb1) | (go_at_call 32; refine (HHA _ hb1).out.mono ?_; rintro e1 w2 ⟨rfl, hb2⟩))
      go_roundw
      case rel => exact ⟨j + 1, q + 3 + ks.length + 1 + Sh.cnts kids, by omega, HQ3.out, by go_num, by go_num, below2 hbel (below2 hb1 hb2 (Nat.le_refl _)) (Nat.le_refl _)⟩
      case measure => simp [intOf]; omega
    · obtain rfl : j = vs.length := by omega
      rw [List.take_length] at HQ
      clear hq
      go_wp2
      go_ret
      exact ⟨by rw [← HQ.out]; rfl, hbel⟩
theorem SHd_all : ∀ n, SHd n
  | 0 => by
    intro vs v k w hnn h hl hk hk2
    have : vs = [] := by
      cases vs with
      | nil => rfl
      | cons x r => have := x.nodes_pos; simp only [Sh.nodess] at hnn; omega
    subst this
    obtain ⟨a, c, rfl, _⟩ := h.shapes
    clear h
    rw [Sh.marks_length]
    go_enter Tryd.func32, Tryd.ntmps32
    go_wp2
    go_loopw [1, 5] (fun kk i wr => kk = .int .i64 k ∧ i = .int .i64 (0 : Int) ∧ wr = w) (fun _ _ _ => 0)
    case atStart => exact ⟨rfl, rfl, rfl⟩
    case round =>
      obtain ⟨rfl, rfl, rfl⟩ := hrel
      go_wp2
      go_ret
      exact ⟨rfl, Below.refl _ _⟩
  | n + 1 => SHd_of (SHd_all n)
/-- keys and kids marked -/
def Sh.top (k : Nat) : Sh → Sh | .mk a b c ks m kids => .mk a b c (mtS k ks) m (Sh.marks (k + ks.length) kids)
/-- how many marks -/
def Sh.tcnt : Sh → Nat | .mk _ _ _ ks _ kids => ks.length + Sh.cnts kids

set_option maxHeartbeats 800000 in
theorem markShape_any (x : Sh) (cs : List Value) (k : Nat) (fp : List Nat) (w : World) (h : TreeC w x.d fp cs) (hn : fp.Nodup) (hbk : x.bulk ≤ 4294967295) (hk : 0 < k) (hk2 : k + x.tcnt ≤ 4611686018427387904) :
    Calls Tryd.prog 10 #[.agg cs.toArray, .int .i64 k] w fun e w' => e = .returned (.int .i64 ((k + x.tcnt : Nat) : Int)) ∧ Keep (· ∈ fp) w w' ∧ TreeC w' (x.top k).d fp cs := by
  obtain ⟨a, b, c, ks, m, kids⟩ := x
  obtain ⟨v, u, f1, f2, rfl, rfl, ht1, ht2⟩ := Sh.tree h
  simp only [Sh.tcnt] at hk2 ⊢
  simp only [Sh.bulk] at hbk
  rw [List.nodup_append] at hn
  obtain ⟨n1, n2, n3⟩ := hn
  obtain ⟨va, vc, rfl, _⟩ := TreeC.row ht1
  obtain ⟨ua, uc, rfl, _⟩ := TreeC.row ht2
  have e1 : (ks.map dS).length = ks.length := by simp
  have e2 : (Sh.ds kids).length = kids.length := by rw [Sh.ds_map]; simp
  rw [e1] at ht1
  rw [e2] at ht2
  rw [e1, e2]
  obtain ⟨W0, hW0⟩ : ∃ W0, W0 = w.alloc (.cells #[.int .i64 a, .int .i64 b, .int .i64 c, .slice va ks.length vc, .int .i64 m, .slice ua kids.length uc] 29) := ⟨_, rfl⟩
  have HW := Lib.hid hW0
  have hal : Below w.heap.size w W0 := by rw [hW0]; exact (Below.refl _ _).alloc (Nat.le_refl _) _
  have hz : w.heap.size < W0.heap.size := by rw [hW0]; simp
  have l1 := ht1.lt
  have l2 := ht2.lt
  have ht1' : TreeC W0 (dSs ks) f1 _ := ht1.frame fun b hb => hal.block b (l1 b hb)
  have ht2' : TreeC W0 (.sl 6 (Sh.ds kids)) f2 _ := ht2.frame fun b hb => hal.block b (l2 b hb)
  have HM := Lib.hid (markStringS_any ks _ k f1 W0 ht1' n1 (by omega) hk (by omega))
  have KB : Hid (∀ W, Keep (· ∈ f1) W0 W → W.cell? ⟨w.heap.size, 5, none⟩ = some (.slice ua kids.length uc)) := by
    intro W hb
    rw [hb.cell hz (fun hx => by have := l1 _ hx; omega)]
    subst hW0; simp
  have HN := fun W (hK : Keep (· ∈ f1) W0 W) => Lib.hid (SMk_all (Sh.nodess kids) kids _ (k + ks.length) f2 W (Nat.le_refl _) (ht2'.frame (hK.same fun b hb => ⟨Nat.lt_of_lt_of_le (l2 b hb) hal.size, fun hb1 => n3 b hb1 b hb rfl⟩)) n2 (by omega) (by omega) (by omega))
  have HF := Lib.hid (show ∀ (cs : List Value) W1 W2, Keep (· ∈ f1) W0 W1 → TreeC W1 (dSs (mtS k ks)) f1 cs → Keep (· ∈ f2) W1 W2 → TreeC W2 (dSs (mtS k ks)) f1 cs from fun cs W1 W2 h1 h2 h3 => h2.frame (h3.same fun b hb => ⟨h2.lt b hb, fun hb2 => n3 b hb b hb2 rfl⟩))
  have hkl : ks.length ≤ 4294967295 := by omega
  have hkc : k + (ks.length + Sh.cnts kids) = k + ks.length + Sh.cnts kids := by omega
  rw [hkc]
  clear hW0 h ht1 ht2 ht1' ht2' hkc
  go_enter Tryd.func10, Tryd.ntmps10
  go_wp2_with (first | (go_at_call 29; rw [← HW.out]; refine HM.out.mono ?_; rintro e1 w1 ⟨rfl, hk1, ht1⟩; have p5 := KB.out _ hk1) | (go_at_call 30; refine (HN _ hk1).out.mono ?_; rintro e1 w2 ⟨rfl, hk2', ht2⟩))
  go_ret
  exact ⟨rfl, ((Keep.of_below hal).trans (hk1.mono fun b _ hb => by simp [hb])).trans (hk2'.mono fun b _ hb => by simp [hb]), Sh.tree_mk (HF.out _ _ _ hk1 ht1 hk2') ht2⟩
set_option maxHeartbeats 800000 in
theorem heldShape_any (x : Sh) (cs : List Value) (k : Nat) (w : World) (h : Rd w (x.top k).d cs) (hbk : x.bulk ≤ 4294967295) (hk : 0 < k) (hk2 : k + x.tcnt ≤ 4611686018427387904) :
    Calls Tryd.prog 11 #[.agg cs.toArray, .int .i64 k] w fun e w' => e = .returned (.int .i64 ((k + x.tcnt : Nat) : Int)) ∧ Below w.heap.size w w' := by
  obtain ⟨a, b, c, ks, m, kids⟩ := x
  obtain ⟨k', l', h', ks', m', kids', v, u, hm, rfl, hrs, hrk⟩ := Sh.lay h
  simp only [Sh.top, Sh.mk.injEq] at hm
  obtain ⟨rfl, rfl, rfl, rfl, rfl, rfl⟩ := hm
  obtain ⟨va, vc, rfl⟩ := Rd.sl_form hrs
  obtain ⟨ua, uc, rfl⟩ := Rd.sl_form hrk
  have e1 : ((mtS k ks).map dS).length = ks.length := by simp [mtS_length]
  have e2 : (Sh.ds (Sh.marks (k + ks.length) kids)).length = kids.length := by rw [Sh.ds_map]; simp [Sh.marks_length]
  rw [e1] at hrs
  rw [e2] at hrk
  rw [e1, e2]
  simp only [Sh.tcnt] at hk2 ⊢
  simp only [Sh.bulk] at hbk
  obtain ⟨W0, hW0⟩ : ∃ W0, W0 = w.alloc (.cells #[.int .i64 a, .int .i64 b, .int .i64 c, .slice va ks.length vc, .int .i64 m, .slice ua kids.length uc] 29) := ⟨_, rfl⟩
  have HW := Lib.hid hW0
  have hal : Below w.heap.size w W0 := by rw [hW0]; exact (Below.refl _ _).alloc (Nat.le_refl _) _
  have hz : w.heap.size < W0.heap.size := by rw [hW0]; simp
  have HM := Lib.hid (heldStringS_any ks _ k W0 (hrs.below hal) (by omega) hk (by omega))
  have KB : Hid (∀ W, Below W0.heap.size W0 W → W.cell? ⟨w.heap.size, 5, none⟩ = some (.slice ua kids.length uc)) := by
    intro W hb
    rw [(bcell hb).1 _ _ hz]
    subst hW0; simp
  have HN := fun W (hB : Below W0.heap.size W0 W) => Lib.hid (SHd_all (Sh.nodess kids) kids _ (k + ks.length) W (Nat.le_refl _) (hrk.below (below2 hal hB (Nat.le_refl _))) (by omega) (by omega) (by omega))
  have hkl : ks.length ≤ 4294967295 := by omega
  have hkc : k + (ks.length + Sh.cnts kids) = k + ks.length + Sh.cnts kids := by omega
  rw [hkc]
  obtain ⟨q1, hq1⟩ : ∃ q, q = k + ks.length := ⟨_, rfl⟩
  obtain ⟨q2, hq2⟩ : ∃ q, q = q1 + Sh.cnts kids := ⟨_, rfl⟩
  rw [← hq1] at HM HN ⊢
  rw [← hq2] at HN ⊢
  clear hW0 h hrs hrk hkc hq1 hq2
  go_enter Tryd.func11, Tryd.ntmps11
  go_wp2_with (first | (go_at_call 31; rw [← HW.out]; refine HM.out.mono ?_; rintro e1 w1 ⟨rfl, hb1⟩; have p5 := KB.out _ hb1) | (go_at_call 32; refine (HN _ hb1).out.mono ?_; rintro e1 w2 ⟨rfl, hb2⟩))
  go_ret
  exact ⟨rfl, below2 hal (below2 hb1 hb2 (Nat.le_refl _)) (Nat.le_refl _)⟩
end Go.Proofs.YtpknmldpdoadgaaDoor

/- What the laws do with shapes, as contracts on values without memory. -/
namespace Go.Proofs.YtpknmldpdoadgaaDoor
open Go.RowKit

section
variable {T : World → Prop} {hT : Low ngl T} {w : World} {hn : ngl ≤ w.heap.size}
theorem szSh_fn {x : Sh} {cs : List Value} (hr : Rd w x.d cs) (hw : x.wf) {l : Int} (hl : 0 ≤ l ∧ l ≤ 1048576) : FnV (envW T hT w hn) 5 [.ag (rawL cs), .d (pI l)] (.d (pI (take' x.bulk l))) := by
  refine FnV.old rfl fun W C vs _ _ hS hlen hv => ?_
  match vs, hlen with
  | [a, b], _ =>
    have ha := rawL_inv (hv 0 _ _ rfl rfl)
    have hb := int_inv (hv 1 _ _ rfl rfl)
    subst ha; subst hb
    exact szShape_any x cs l W (Stay.rd hS hr) hw hl
theorem toSh_fn {x : Sh} {cs : List Value} (hr : Rd w x.d cs) (hb : x.bulk ≤ 1048576) : FnO (envW T hT w hn) 7 [.ag (rawL cs)] (.ag x.d.pc) := by
  refine FnO.old (Sh.wfd x) fun W C vs _ _ hS hlen hv => ?_
  match vs, hlen with
  | [a], _ =>
    have ha := rawL_inv (hv 0 _ _ rfl rfl)
    subst ha
    exact toShape_any x cs W (Stay.rd hS hr) hb
theorem eqSh_fn {E : Env} (hP : E.P = Tryd.prog) (x y : Sh) (hx : x.bulk ≤ 1048576) (hy : y.bulk ≤ 1048576) : FnV E 9 [.ag x.d.pc, .ag y.d.pc] (.d (pB (decide (x = y)))) := by
  refine FnV.old rfl fun W C vs hF _ _ hlen hv => ?_
  match vs, hlen with
  | [a, b], _ =>
    obtain ⟨cs, rfl, h1⟩ := vRd hF (Sh.wfd x) (hv 0 _ _ rfl rfl)
    obtain ⟨ds, rfl, h2⟩ := vRd hF (Sh.wfd y) (hv 1 _ _ rfl rfl)
    rw [hP]; exact eqShape_any x y cs ds W h1 h2 hx hy
theorem markSh_fn {E : Env} (hP : E.P = Tryd.prog) (x : Sh) (k : Nat) (hb : x.bulk ≤ 4294967295) (hk : 0 < k) (hk2 : k + x.tcnt ≤ 4611686018427387904) : MarkC E 10 x.d (x.top k).d k ((k + x.tcnt : Nat) : Int) := by
  intro W fp vs h hn
  rw [hP]; exact markShape_any x vs k fp W h hn hb hk hk2
theorem heldSh_fn {E : Env} (hP : E.P = Tryd.prog) (x : Sh) (k : Nat) (hb : x.bulk ≤ 4294967295) (hk : 0 < k) (hk2 : k + x.tcnt ≤ 4611686018427387904) : FnV E 11 [.ag (x.top k).d.pc, .d (pI k)] (.d (pI ((k + x.tcnt : Nat) : Int))) := by
  refine FnV.old rfl fun W C vs hF _ _ hlen hv => ?_
  match vs, hlen with
  | [a, b], _ =>
    obtain ⟨cs, rfl, h1⟩ := vRd hF (Sh.wfd _) (hv 0 _ _ rfl rfl)
    have hb := int_inv (hv 1 _ _ rfl rfl)
    subst hb
    rw [hP]; exact heldShape_any x cs k W h1 (by assumption) hk hk2
end
mutual
theorem Sh.cnt_b4 : ∀ x : Sh, Sh.cnt x ≤ 4 + 4 * x.bulk
  | .mk _ _ _ ks _ kids => by have := Sh.cnts_b4 kids; simp only [Sh.cnt, Sh.bulk]; omega
theorem Sh.cnts_b4 : ∀ xs : List Sh, Sh.cnts xs ≤ 4 * (xs.length + Sh.bulks xs)
  | [] => by simp [Sh.cnts]
  | x :: xs => by have := Sh.cnt_b4 x; have := Sh.cnts_b4 xs; simp only [Sh.cnts, Sh.bulks, List.length_cons]; omega
end
theorem Sh.tcnt_le (x : Sh) : x.tcnt ≤ 4 * x.bulk := by
  obtain ⟨a, b, c, ks, m, kids⟩ := x
  have := Sh.cnts_b4 kids; simp only [Sh.tcnt, Sh.bulk]; omega
theorem Sh.pld (x : Sh) : x.d.pl := by
  obtain ⟨a, b, c, ks, m, kids⟩ := x
  simp [Sh.d, D.pl, D.pls, dI, dSs]
theorem Sh.pcl (x : Sh) : x.d.pc.length = 6 := by rw [x.pc_eq]; rfl
end Go.Proofs.YtpknmldpdoadgaaDoor

/- Values of the program as values without memory. No program in sight. -/
namespace Go.Proofs.YtpknmldpdoadgaaDoor
open Go.RowKit

/-- a value's cells -/
def vK (kids : List V) : List (List PC) := kids.map fun x => x.d.pc
def vC (v : V) : List PC := [pI v.kind, pI v.num, pI v.exp, pS v.text, .sl 0 (vK v.kids)]
theorem V.pc_eq (x : V) : x.d.pc = vC x := by
  obtain ⟨k, n, e, s, kids⟩ := x
  simp only [V.d, D.pc, D.pcs, D.pcE_map, V.ds_map, List.map_map, List.append_nil]
  rfl
theorem vK_eq (kids : List V) : vK kids = kids.map vC := by unfold vK; exact List.map_congr_left fun x _ => x.pc_eq
theorem vC_er (x : V) : erL (vC x) = vC x := by rw [← V.pc_eq]; exact D.pc_er _
theorem vK_er (kids : List V) : erLL (vK kids) = vK kids := by
  have : vK kids = D.pcE (kids.map V.d) := by rw [D.pcE_map, List.map_map]; rfl
  rw [this]; exact D.pcE_er _
mutual
theorem V.wfd : ∀ x : V, x.d.wf
  | .mk k n e s kids => by
    simp only [V.d, D.wf, D.wfs]
    exact ⟨rfl, rfl, rfl, rfl, ⟨fun e he => by rw [V.ds_map] at he; obtain ⟨y, _, rfl⟩ := List.mem_map.1 he; exact V.width y, V.wfds kids⟩, trivial⟩
theorem V.wfds : ∀ xs : List V, D.wfs (V.ds xs)
  | [] => trivial
  | x :: xs => ⟨V.wfd x, V.wfds xs⟩
end
theorem vK_wid (kids : List V) : ∀ e ∈ vK kids, e.length = 5 := by
  intro e he; rw [vK_eq] at he; obtain ⟨x, _, rfl⟩ := List.mem_map.1 he; rfl
theorem vK_get {kids : List V} {j : Nat} (h : j < kids.length) : (vK kids)[j]? = some (vC kids[j]) := by
  rw [vK_eq, List.getElem?_map, List.getElem?_eq_getElem h]; rfl
theorem vK_len (kids : List V) : (vK kids).length = kids.length := by simp [vK]
theorem vC_arg (x : V) : PV.dats [.ag (vC x)] = some [.ag (vC x)] := congrArg (fun l => some [PV.ag l]) (vC_er x)
theorem V.pld (x : V) : x.d.pl := by
  obtain ⟨k, n, e, s, kids⟩ := x
  simp [V.d, D.pl, D.pls, dI, dS]
theorem V.pcl (x : V) : x.d.pc.length = 5 := by rw [x.pc_eq]; rfl
end Go.Proofs.YtpknmldpdoadgaaDoor

/- Contracts of the laws' own functions over values: sizes. -/
namespace Go.Proofs.YtpknmldpdoadgaaDoor
open Go.RowKit

def VSzA (n : Nat) : Prop := ∀ (sh : V) (cs : List Value) (left : Int) (w : World), sh.nodes ≤ n → Rd w sh.d cs → sh.wf → 0 ≤ left ∧ left ≤ 1048576 →
  Calls Tryd.prog 12 #[.agg cs.toArray, .int .i64 left] w fun e w' => e = .returned (.int .i64 (take' sh.bulk left)) ∧ Below w.heap.size w w'
def VSzB (n : Nat) : Prop := ∀ (ls : List V) (v : Value) (left : Int) (w : World), V.nodess ls ≤ n → Rd w (.sl 5 (V.ds ls)) [v] → V.wfs ls → ls.length ≤ 9223372036854775807 → 0 ≤ left ∧ left ≤ 1048576 →
  Calls Tryd.prog 33 #[v, .int .i64 left] w fun e w' => e = .returned (.int .i64 (take' (ls.length + V.bulks ls) left)) ∧ Below w.heap.size w w'

set_option maxHeartbeats 400000 in
theorem VSzB_of {n : Nat} (hA : VSzA n) : VSzB n := by
  intro ls v left w hn h hs hlen hl
  obtain ⟨a, c, rfl, hg⟩ := h.values
  obtain ⟨hl1, hl2⟩ := hl
  by_cases hlt : left < ls.length
  · have H := Lib.hid (show take' (ls.length + V.bulks ls) left = -1 by unfold take'; rw [if_pos (by omega)])
    go_enter Tryd.func33, Tryd.ntmps33
    go_wp2
    go_ret
    exact ⟨ret_int H.out.symm, Below.refl _ _⟩
  · go_enter Tryd.func33, Tryd.ntmps33
    go_wp2
    go_loopw [1, 5] (fun x i wr => ∃ (k : Nat), k ≤ ls.length ∧ i = .int .i64 k ∧ ((ls.length + V.bulks (ls.take k) : Nat) : Int) ≤ left ∧ x = .int .i64 (left - (ls.length + V.bulks (ls.take k) : Nat)) ∧ Below w.heap.size w wr) (fun _ i _ => ls.length - (intOf i).toNat)
    case atStart => exact ⟨0, Nat.zero_le _, rfl, by simp [V.bulks]; omega, by simp [V.bulks], Below.refl _ _⟩
    case round =>
      obtain ⟨k, hk, rfl, hx, rfl, hbel⟩ := hrel
      by_cases hk2 : k < ls.length
      · obtain ⟨_, _, b, o, rfl, hb, hcell⟩ := hg (by intro e; rw [e] at hk2; simp at hk2)
        obtain ⟨v0, v1, v2, v3, v4, hr, c0, c1, c2, c3, c4⟩ := hcell k hk2
        have hwk := V.wfs_get hs k hk2
        have hnk := Nat.le_trans (V.nodes_get ls k hk2) hn
        have HS := Lib.hid (V.bulks_snoc ls k hk2)
        clear hcell
        obtain ⟨hbc, _⟩ := bcell hbel
        have hr' := hr.below hbel
        go_wp2_with (go_at_call 12; refine (hA _ _ _ _ hnk hr' hwk (by omega)).mono ?_; rintro e w' ⟨rfl, hb1⟩)
        · have hno : take' ls[k].bulk (left - ((ls.length : Int) + ↑(V.bulks (ls.take k)))) < 0 := by assumption
          rw [take'_lt] at hno
          have hle := V.bulks_take ls (k + 1)
          rw [HS.out] at hle
          go_ret
          exact ⟨ret_int (take'_no (by omega)).symm, below2 hbel hb1 (Nat.le_refl _)⟩
        · have hyes : 0 ≤ take' ls[k].bulk (left - ((ls.length : Int) + ↑(V.bulks (ls.take k)))) := by assumption
          have hy2 : ¬ (take' ls[k].bulk (left - ((ls.length : Int) + ↑(V.bulks (ls.take k)))) < 0) := by omega
          rw [take'_lt] at hy2
          have hy3 := Lib.hid (take'_yes (t := ls[k].bulk) (left := left - ((ls.length : Int) + ↑(V.bulks (ls.take k)))) (by omega))
          go_roundw
          case rel => exact ⟨k + 1, by omega, by go_num, by rw [HS.out]; omega, by rw [HS.out, hy3.out]; go_num, below2 hbel hb1 (Nat.le_refl _)⟩
          case measure => simp [intOf] <;> omega
      · obtain rfl : k = ls.length := by omega
        rw [List.take_length] at hx
        have H := Lib.hid (take'_yes hx)
        go_wp2
        go_ret
        exact ⟨ret_int (by rw [H.out, List.take_length]), hbel⟩

set_option maxHeartbeats 400000 in
theorem VSzA_of {n : Nat} (hB : VSzB n) : VSzA (n + 1) := by
  intro sh cs left w hn h hs hl
  obtain ⟨k, m, e, s, kids, v1, rfl, rfl, hkids⟩ := V.lay h
  obtain ⟨_, _, _, hsl, hkidl, hwk⟩ := hs
  have hnk : V.nodess kids ≤ n := by simp only [V.nodes] at hn; omega
  have hA := (Below.refl w.heap.size w).alloc (Nat.le_refl _) (.cells #[.int .i64 k, .int .i64 m, .int .i64 e, .string ⟨s.toArray⟩, v1] 37)
  have hkids' := hkids.alloc (.cells #[.int .i64 k, .int .i64 m, .int .i64 e, .string ⟨s.toArray⟩, v1] 37)
  unfold strok at hsl
  obtain ⟨h10, h11⟩ := hl
  by_cases h1 : left < s.length
  · have HR := Lib.hid (take'_no (t := V.bulk (.mk k m e s kids)) (left := left) (by simp only [V.bulk]; omega))
    go_enter Tryd.func12, Tryd.ntmps12
    go_wp2
    go_ret
    exact ⟨ret_int HR.out.symm, hA⟩
  · have HR := Lib.hid (take'_add (a := s.length) (b := kids.length + V.bulks kids) h1)
    have hl2 : 0 ≤ left - (s.length : Int) := by omega
    have hq2 : left - (s.length : Int) ≤ 1048576 := by omega
    go_enter Tryd.func12, Tryd.ntmps12
    go_wp2_with (go_at_call 33; refine (hB _ _ _ _ hnk hkids' hwk hkidl ⟨hl2, hq2⟩).mono ?_; rintro e w' ⟨rfl, hb2⟩)
    · have hno : take' (kids.length + V.bulks kids) (left - (s.length : Int)) < 0 := by assumption
      rw [HR.out, take'_lt] at hno
      have H2 := take'_no (t := V.bulk (.mk k m e s kids)) (left := left) (by simp only [V.bulk]; omega)
      go_ret
      exact ⟨ret_int H2.symm, below2 hA hb2 (Nat.le_refl _)⟩
    · go_ret
      exact ⟨ret_int (by rw [HR.out]; rfl), below2 hA hb2 (Nat.le_refl _)⟩

theorem VSz_all : ∀ n, VSzA n ∧ VSzB n
  | 0 => by
    have h0 : VSzA 0 := fun sh cs left w hn => absurd (V.nodes_pos sh) (by omega)
    exact ⟨h0, VSzB_of h0⟩
  | n + 1 => by
    have h1 := VSzA_of (VSz_all n).2
    exact ⟨h1, VSzB_of h1⟩
theorem szValue_any (sh : V) (cs : List Value) (left : Int) (w : World) (h : Rd w sh.d cs) (hs : sh.wf) (hl : 0 ≤ left ∧ left ≤ 1048576) :
    Calls Tryd.prog 12 #[.agg cs.toArray, .int .i64 left] w fun e w' => e = .returned (.int .i64 (take' sh.bulk left)) ∧ Below w.heap.size w w' :=
  (VSz_all sh.nodes).1 sh cs left w (Nat.le_refl _) h hs hl
end Go.Proofs.YtpknmldpdoadgaaDoor

/- Contracts of the laws' own functions over values: copies. -/
namespace Go.Proofs.YtpknmldpdoadgaaDoor
open Go.RowKit

theorem tyVs : ElemTy Tryd.prog 40 42 5 64 := ElemTy.mk' (z := .agg #[.int .i64 0, .int .i64 0, .int .i64 0, .string ⟨#[]⟩, .slice none 0 0]) Tryd.underlying40 (by kernel_rfl) rfl (by decide)

def VToA (n : Nat) : Prop := ∀ (sh : V) (cs : List Value) (w : World), sh.nodes ≤ n → Rd w sh.d cs → sh.bulk ≤ 1048576 →
  Calls Tryd.prog 14 #[.agg cs.toArray] w fun e w' => ∃ cs', e = .returned (.agg cs'.toArray) ∧ Below w.heap.size w w' ∧ Own w.heap.size w' sh.d cs'
def VToB (n : Nat) : Prop := ∀ (ls : List V) (v : Value) (w : World), V.nodess ls ≤ n → Rd w (.sl 5 (V.ds ls)) [v] → ls.length + V.bulks ls ≤ 1048576 →
  Calls Tryd.prog 36 #[v] w fun e w' => ∃ v', e = .returned v' ∧ Below w.heap.size w w' ∧ Own w.heap.size w' (.sl 5 (V.ds ls)) [v']

set_option maxHeartbeats 800000 in
theorem VToB_of {n : Nat} (hA : VToA n) : VToB n := by
  intro ls v w hn h hlen
  obtain ⟨a, c, rfl, hg⟩ := h.values
  obtain ⟨cs, hcs, hmk⟩ := run_mk tyVs ls.length (by omega) (by decide)
  have HCS := Lib.hid hcs; clear hcs
  have hl : ls.length ≤ 1048576 := by omega
  go_enter Tryd.func36, Tryd.ntmps36
  go_wp2
  go_loopw [4] (fun i wr => ∃ (k : Nat), k ≤ ls.length ∧ i = .int .i64 k ∧ Part w.heap.size wr w.heap.size 5 ls.length ((ls.take k).map V.d) ∧ Below w.heap.size w wr) (fun i _ => ls.length - (intOf i).toNat)
  case atStart => exact ⟨0, Nat.zero_le _, rfl, Part.start HCS.out, (Below.refl _ _).alloc (Nat.le_refl _) _⟩
  case round =>
    obtain ⟨k, hk, rfl, hp, hbel⟩ := hrel
    by_cases hk2 : k < ls.length
    · obtain ⟨_, _, b, o, rfl, hb, hcell⟩ := hg (by intro e; rw [e] at hk2; simp at hk2)
      obtain ⟨v0, v1, v2, v3, v4, hr, c0, c1, c2, c3, c4⟩ := hcell k hk2
      obtain ⟨hbc, _⟩ := bcell hbel
      have hr' := hr.below hbel
      have hnk := Nat.le_trans (V.nodes_get ls k hk2) hn
      have hbk : ls[k].bulk ≤ 1048576 := by have h1 := V.bulks_snoc ls k hk2; have h2 := V.bulks_take ls (k + 1); omega
      have HS := Lib.hid (take_map_snoc V.d ls k hk2)
      clear hcell
      go_wp2_with (go_at_call 14; refine (hA _ _ _ hnk hr' hbk).mono ?_; rintro e w1 ⟨cs', rfl, hb1, hown⟩; obtain ⟨x0, x1, x2, x3, a2, n2, c2, rfl⟩ := V.form hown.rd; have hp1 := hp.below hb1; obtain ⟨⟨z0, hz0⟩, hf0⟩ := hp1.there (k * 5) (by omega); obtain ⟨⟨z1, hz1⟩, hf1⟩ := hp1.there (k * 5 + 1) (by omega); obtain ⟨⟨z2, hz2⟩, hf2⟩ := hp1.there (k * 5 + 2) (by omega); obtain ⟨⟨z3, hz3⟩, hf3⟩ := hp1.there (k * 5 + 3) (by omega); obtain ⟨⟨z4, hz4⟩, hf4⟩ := hp1.there (k * 5 + 4) (by omega))
      have hp2 := hp.put hb1 hown (V.width _) (by simp; omega) hbel.size
      have hb2 := below_setCells (g := w.heap.size) [.int .i64 x0, .int .i64 x1, .int .i64 x2, .string ⟨x3.toArray⟩, .slice a2 n2 c2] (k * 5) (below2 hbel hb1 (Nat.le_refl _)) (Nat.le_refl _)
      rw [List.length_map, List.length_take, Nat.min_eq_left hk, Nat.mul_comm] at hp2
      go_roundw
      case rel => exact ⟨k + 1, by omega, by go_num, by rw [HS.out]; exact hp2, hb2⟩
      case measure => simp [intOf] <;> omega
    · obtain rfl : k = ls.length := by omega
      rw [List.take_length] at hp
      have ho := Part.own (ds := ls.map V.d) (n := 5) (c := ls.length) (by simpa using hp) (by decide) ⟨by simp, by unfold maxLen; omega⟩
      go_wp2
      go_ret
      exact ⟨_, rfl, hbel, by rw [V.ds_map]; simpa using ho⟩

theorem V.own {B : Nat} {w : World} {k m e : Int} {s : List UInt8} {kids : List V} {v1 : Value} (h : Own B w (.sl 5 (V.ds kids)) [v1]) :
    Own B w (V.d (.mk k m e s kids)) [.int .i64 k, .int .i64 m, .int .i64 e, .string ⟨s.toArray⟩, v1] := by
  obtain ⟨fp, h1, h2, h3⟩ := h
  refine ⟨fp, h1, h2, ?_⟩
  simp only [V.d, TreeC, TreeCs, dI, dS]
  exact ⟨[], fp, [_], _, by simp, rfl, rfl, ⟨rfl, rfl⟩, [], fp, [_], _, by simp, rfl, rfl, ⟨rfl, rfl⟩, [], fp, [_], _, by simp, rfl, rfl, ⟨rfl, rfl⟩,
    [], fp, [_], _, by simp, rfl, rfl, ⟨rfl, rfl⟩, fp, [], [_], [], by simp, rfl, rfl, by simpa only [TreeC] using h3, rfl, rfl⟩

set_option maxHeartbeats 800000 in
theorem VToA_of {n : Nat} (hB : VToB n) : VToA (n + 1) := by
  intro sh cs w hn h hlen
  obtain ⟨k, m, e, s, kids, v1, rfl, rfl, hkids⟩ := V.lay h
  have hnk : V.nodess kids ≤ n := by simp only [V.nodes] at hn; omega
  simp only [V.bulk] at hlen
  have hA := (Below.refl w.heap.size w).alloc (Nat.le_refl _) (.cells #[.int .i64 k, .int .i64 m, .int .i64 e, .string ⟨s.toArray⟩, v1] 37)
  have hkb : kids.length + V.bulks kids ≤ 1048576 := by omega
  go_enter Tryd.func14, Tryd.ntmps14
  go_wp2_with (go_at_call 36; refine (hB _ _ _ hnk (((hkids.alloc _).alloc _).alloc _) hkb).mono ?_; rintro e w2 ⟨x2, rfl, hb2, hown2⟩; obtain ⟨a2, m2, n2, rfl⟩ := Rd.sl_any hown2.rd; obtain ⟨hc2, hf2⟩ := bcell hb2; have hz2 := hb2.size; simp at hz2; have g4 : w.heap.size < w2.heap.size := (by omega); have g5 : w.heap.size + 1 < w2.heap.size := (by omega); have g6 : w.heap.size + 1 + 1 < w2.heap.size := (by omega))
  refine bodyPost_ret (v := .agg #[.int .i64 k, .int .i64 m, .int .i64 e, .string ⟨s.toArray⟩, .slice a2 m2 n2]) ?_ rfl ⟨[.int .i64 k, .int .i64 m, .int .i64 e, .string ⟨s.toArray⟩, .slice a2 m2 n2], rfl, ?_, ?_⟩
  · simp [results, Tryd.results14, go_sem, hc2, g4, g5]
  · iterate 6 (refine Below.setCell ?_ (by simp; try omega) _)
    exact below2 ((hA.alloc (by simp; try omega) _).alloc (by simp; try omega) _) hb2 (Nat.le_refl _)
  · refine Own.mono (B := w.heap.size + 1 + 1 + 1) ?_ (by omega)
    iterate 6 (refine Own.setCell ?_ (by simp; try omega) _)
    exact V.own (hown2.mono (by simp; try omega))

theorem VTo_all : ∀ n, VToA n ∧ VToB n
  | 0 => by
    have h0 : VToA 0 := fun sh cs w hn => absurd (V.nodes_pos sh) (by omega)
    exact ⟨h0, VToB_of h0⟩
  | n + 1 => by
    have h1 := VToA_of (VTo_all n).2
    exact ⟨h1, VToB_of h1⟩
theorem toValue_any (sh : V) (cs : List Value) (w : World) (h : Rd w sh.d cs) (hs : sh.bulk ≤ 1048576) :
    Calls Tryd.prog 14 #[.agg cs.toArray] w fun e w' => ∃ cs', e = .returned (.agg cs'.toArray) ∧ Below w.heap.size w w' ∧ Own w.heap.size w' sh.d cs' :=
  (VTo_all sh.nodes).1 sh cs w (Nat.le_refl _) h hs
end Go.Proofs.YtpknmldpdoadgaaDoor

/- Contracts of the laws' own functions over values: comparison. -/
namespace Go.Proofs.YtpknmldpdoadgaaDoor
open Go.RowKit

def VEqA (n : Nat) : Prop := ∀ (x y : V) (cs ds : List Value) (w : World), x.nodes ≤ n → Rd w x.d cs → Rd w y.d ds → x.bulk ≤ 1048576 → y.bulk ≤ 1048576 →
  Calls Tryd.prog 16 #[.agg cs.toArray, .agg ds.toArray] w fun e w' => e = .returned (.bool (decide (x = y))) ∧ Below w.heap.size w w'
def VEqB (n : Nat) : Prop := ∀ (x y : List V) (va vb : Value) (w : World), V.nodess x ≤ n → Rd w (.sl 5 (V.ds x)) [va] → Rd w (.sl 5 (V.ds y)) [vb] → x.length + V.bulks x ≤ 1048576 → y.length + V.bulks y ≤ 1048576 →
  Calls Tryd.prog 39 #[va, vb] w fun e w' => e = .returned (.bool (decide (x = y))) ∧ Below w.heap.size w w'

theorem V.bulk_get {ls : List V} {m : Nat} (h : ls.length + V.bulks ls ≤ m) (k : Nat) (hk : k < ls.length) : ls[k].bulk ≤ m := by
  have h1 := V.bulks_snoc ls k hk; have h2 := V.bulks_take ls (k + 1); omega

set_option maxHeartbeats 800000 in
set_option maxRecDepth 100000 in
theorem VEqB_of {n : Nat} (hA : VEqA n) : VEqB n := by
  intro la lb va vb w hn h h2 hla hlb
  obtain ⟨a, c, rfl, hg⟩ := h.values
  obtain ⟨a', c', rfl, hg'⟩ := h2.values
  by_cases hlen : la.length = lb.length
  · have hlt : ((la.length : Int) != (lb.length : Int)) = false := by simp [hlen]
    have HL := Lib.hid hlen; clear hlen
    go_enter Tryd.func39, Tryd.ntmps39
    go_wp2
    go_loopw [5] (fun i wr => ∃ (k : Nat), k ≤ la.length ∧ i = .int .i64 k ∧ la.take k = lb.take k ∧ Below w.heap.size w wr) (fun i _ => la.length - (intOf i).toNat)
    case atStart => exact ⟨0, Nat.zero_le _, rfl, by simp, Below.refl _ _⟩
    case round =>
      obtain ⟨k, hk, rfl, htk, hbel⟩ := hrel
      have HT := Lib.hid htk; clear htk
      by_cases hk1 : k < la.length
      · have hk2 : k < lb.length := by have := HL.out; omega
        obtain ⟨_, _, b, o, rfl, hb, hcell⟩ := hg (by intro e; rw [e] at hk1; simp at hk1)
        obtain ⟨_, _, b', o', rfl, hb', hcell'⟩ := hg' (by intro e; rw [e] at hk2; simp at hk2)
        obtain ⟨v0, v1, v2, v3, v4, hr, c0, c1, c2, c3, c4⟩ := hcell k hk1
        obtain ⟨x0, x1, x2, x3, x4, hs, d0, d1, d2, d3, d4⟩ := hcell' k hk2
        clear hcell hcell' hg hg'
        obtain ⟨hbc, _⟩ := bcell hbel
        have hi1 : (0 : Int) ≤ k := by omega
        have hi2 : (k : Int) < lb.length := by omega
        have hnk := Nat.le_trans (V.nodes_get la k hk1) hn
        have hr' := hr.below hbel
        have hs' := hs.below hbel
        by_cases he : la[k] = lb[k]
        · have hd := Lib.hid (decide_eq_true he)
          have HE := Lib.hid he
          clear he
          go_wp2_with fail
          go_still_tail 8, (by kernel_rfl)
          go_wp2_with (go_at_call 16; refine (hA _ _ _ _ _ hnk hr'.drew hs'.drew (V.bulk_get hla k hk1) (V.bulk_get hlb k hk2)).mono ?_; rw [hd.out]; rintro e w1 ⟨rfl, hb1⟩)
          go_roundw
          case rel => exact ⟨k + 1, by omega, by go_num, take_eq_snoc HT.out hk1 hk2 HE.out, below2 hbel.drew hb1 (Nat.le_refl _)⟩
          case measure => simp [intOf] <;> omega
        · have hd := Lib.hid (decide_eq_false he)
          have HE := Lib.hid (decide_eq_false (ne_of_get hk1 hk2 he))
          clear he
          go_wp2_with fail
          go_still_tail 8, (by kernel_rfl)
          go_wp2_with (go_at_call 16; refine (hA _ _ _ _ _ hnk hr'.drew hs'.drew (V.bulk_get hla k hk1) (V.bulk_get hlb k hk2)).mono ?_; rw [hd.out]; rintro e w1 ⟨rfl, hb1⟩)
          go_ret
          exact ⟨by rw [HE.out]; rfl, below2 hbel.drew hb1 (Nat.le_refl _)⟩
      · obtain rfl : k = la.length := by omega
        have he : la = lb := by have := HT.out; rw [List.take_length, HL.out, List.take_length] at this; exact this
        have H := Lib.hid (decide_eq_true he)
        clear he
        go_wp2
        go_ret
        exact ⟨by rw [H.out]; rfl, hbel⟩
  · have H := Lib.hid (decide_eq_false (show ¬ la = lb from fun e => hlen (by rw [e])))
    go_enter Tryd.func39, Tryd.ntmps39
    go_wp2
    go_ret
    exact ⟨by rw [H.out]; rfl, Below.refl _ _⟩

theorem V.ne_mk {k m e k' m' e' : Int} {s s' : List UInt8} {kids kids' : List V} (h : ¬ (k = k' ∧ m = m' ∧ e = e' ∧ s = s' ∧ kids = kids')) :
    decide (V.mk k m e s kids = V.mk k' m' e' s' kids') = false := decide_eq_false (by simpa using h)
set_option maxHeartbeats 800000 in
theorem VEqA_of {n : Nat} (hB : VEqB n) : VEqA (n + 1) := by
  intro x y cs ds w hn h h2 hx hy
  obtain ⟨k, m, e, s, kids, v1, rfl, rfl, hkids⟩ := V.lay h
  obtain ⟨k', m', e', s', kids', v1', rfl, rfl, hkids'⟩ := V.lay h2
  have hnk : V.nodess kids ≤ n := by simp only [V.nodes] at hn; omega
  simp only [V.bulk] at hx hy
  have hA := fun a b => ((Below.refl w.heap.size w).alloc (Nat.le_refl _) a).alloc (by simp) b
  by_cases e1 : k = k' ∧ m = m' ∧ e = e' ∧ s = s'
  · obtain ⟨rfl, rfl, rfl, rfl⟩ := e1
    go_enter Tryd.func16, Tryd.ntmps16
    go_wp2_with fail
    refine (hB _ _ _ _ _ hnk ((hkids.alloc _).alloc _) ((hkids'.alloc _).alloc _) (by omega) (by omega)).mono ?_
    by_cases e4 : kids = kids'
    · subst e4
      rw [decide_eq_true rfl]
      rintro e w2 ⟨rfl, hb2⟩
      go_wp2
      go_ret
      exact ⟨by simp, below2 (hA _ _) hb2 (Nat.le_refl _)⟩
    · have H := Lib.hid (V.ne_mk (k := k) (m := m) (e := e) (s := s) (kids := kids) (k' := k) (m' := m) (e' := e) (s' := s) (kids' := kids') (by simp [e4]))
      rw [decide_eq_false e4]
      rintro e w2 ⟨rfl, hb2⟩
      clear e4
      go_wp2
      go_ret
      exact ⟨by rw [H.out]; rfl, below2 (hA _ _) hb2 (Nat.le_refl _)⟩
  · have H := Lib.hid (V.ne_mk (k := k) (m := m) (e := e) (s := s) (kids := kids) (k' := k') (m' := m') (e' := e') (s' := s') (kids' := kids') (by simp only [not_and] at e1 ⊢; intro a b c d; exact absurd d (e1 a b c)))
    by_cases a1 : k = k'
    · subst a1
      by_cases a2 : m = m'
      · subst a2
        by_cases a3 : e = e'
        · subst a3
          have a4 : (s == s') = false := by simp only [true_and] at e1; simpa using e1
          clear e1
          go_enter Tryd.func16, Tryd.ntmps16
          go_wp2_with fail
          all_goals (go_ret; exact ⟨by rw [H.out]; rfl, hA _ _⟩)
        · have a4 : (e == e') = false := by simpa using a3
          clear e1 a3
          go_enter Tryd.func16, Tryd.ntmps16
          go_wp2_with fail
          all_goals (go_ret; exact ⟨by rw [H.out]; rfl, hA _ _⟩)
      · have a4 : (m == m') = false := by simpa using a2
        clear e1 a2
        go_enter Tryd.func16, Tryd.ntmps16
        go_wp2_with fail
        all_goals (go_ret; exact ⟨by rw [H.out]; rfl, hA _ _⟩)
    · have a4 : (k == k') = false := by simpa using a1
      clear e1 a1
      go_enter Tryd.func16, Tryd.ntmps16
      go_wp2_with fail
      all_goals (go_ret; exact ⟨by rw [H.out]; rfl, hA _ _⟩)

theorem VEq_all : ∀ n, VEqA n ∧ VEqB n
  | 0 => by
    have h0 : VEqA 0 := fun sh y cs ds w hn => absurd (V.nodes_pos sh) (by omega)
    exact ⟨h0, VEqB_of h0⟩
  | n + 1 => by
    have h1 := VEqA_of (VEq_all n).2
    exact ⟨h1, VEqB_of h1⟩
theorem eqValue_any (x y : V) (cs ds : List Value) (w : World) (h : Rd w x.d cs) (h2 : Rd w y.d ds) (hx : x.bulk ≤ 1048576) (hy : y.bulk ≤ 1048576) :
    Calls Tryd.prog 16 #[.agg cs.toArray, .agg ds.toArray] w fun e w' => e = .returned (.bool (decide (x = y))) ∧ Below w.heap.size w w' :=
  (VEq_all x.nodes).1 x y cs ds w (Nat.le_refl _) h h2 hx hy
end Go.Proofs.YtpknmldpdoadgaaDoor

/- Marks laid into own values: the law's markValue and heldValue. -/
namespace Go.Proofs.YtpknmldpdoadgaaDoor
open Go.RowKit

theorem V.half_zero (k : Nat) (ls : List V) : V.half k ls 0 = ls := by simp [V.half, V.marks]
theorem V.half_all (k : Nat) (ls : List V) : V.half k ls ls.length = V.marks k ls := by simp [V.half]
theorem V.half_length (k : Nat) (ls : List V) (j : Nat) (h : j ≤ ls.length) : (V.half k ls j).length = ls.length := by simp [V.half, V.marks_length]; omega
theorem V.half_at (k : Nat) (ls : List V) (j : Nat) (h : j < ls.length) : (V.half k ls j)[j]'(by rw [V.half_length _ _ _ (by omega)]; exact h) = ls[j] := half_get h (by rw [V.marks_length, List.length_take]; omega)
theorem V.cnts_get : ∀ (vs : List V) i (h : i < vs.length), V.cnts (vs.take i) + V.cnt vs[i] ≤ V.cnts vs := fun vs i h => by
  have := V.cnts_take vs i h; have := V.cnts_le vs (i + 1); omega

def VMk (n : Nat) : Prop := ∀ (vs : List V) (v : Value) (k : Nat) (fp : List Nat) (w : World), V.nodess vs ≤ n → TreeC w (.sl 5 (V.ds vs)) fp [v] → fp.Nodup → vs.length + V.bulks vs ≤ 4294967295 → 0 < k → k + V.cnts vs ≤ 4611686018427387904 →
  Calls Tryd.prog 40 #[v, .int .i64 k] w fun e w' => e = .returned (.int .i64 ((k + V.cnts vs : Nat) : Int)) ∧ Keep (· ∈ fp) w w' ∧ TreeC w' (.sl 5 (V.ds (V.marks k vs))) fp [v]

set_option maxHeartbeats 400000 in
theorem markV_nil (v : Value) (k : Nat) (fp : List Nat) (w : World) (h : TreeC w (.sl 5 (V.ds [])) fp [v]) :
    Calls Tryd.prog 40 #[v, .int .i64 k] w fun e w' => e = .returned (.int .i64 ((k + V.cnts [] : Nat) : Int)) ∧ Keep (· ∈ fp) w w' ∧ TreeC w' (.sl 5 (V.ds (V.marks k []))) fp [v] := by
  have h0 := h
  obtain ⟨a, c, rfl, _⟩ := TreeC.row h
  have H0 := Lib.hid h0
  clear h h0
  go_enter Tryd.func40, Tryd.ntmps40
  go_wp2
  go_loopw [1, 5] (fun kk i wr => kk = .int .i64 k ∧ i = .int .i64 (0 : Int) ∧ wr = w) (fun _ _ _ => 0)
  case atStart => exact ⟨rfl, rfl, rfl⟩
  case round =>
    obtain ⟨rfl, rfl, rfl⟩ := hrel
    go_wp2
    go_ret
    exact ⟨rfl, Keep.refl _ _, H0.out⟩

set_option maxHeartbeats 2000000 in
set_option maxRecDepth 10000 in
theorem VMk_of {n : Nat} (hA : VMk n) : VMk (n + 1) := by
  intro vs v k fp w hnn h hn hl hk hk2
  by_cases hne : vs = []
  · subst hne
    exact markV_nil v k fp w h
  · obtain ⟨a, c, rfl, hg⟩ := TreeC.row h
    obtain ⟨g, fr, e, sz, rfl, rfl, hc1, hc2, hrow⟩ := hg (by rw [V.ds_map]; simpa using hne)
    have hvl : (V.ds vs).length = vs.length := by rw [V.ds_map, List.length_map]
    rw [hvl] at hc1 ⊢
    clear hg h
    have HC := Lib.hid (show (vs.length ≤ c ∧ sz = c * 5) ∧ c ≤ maxLen from ⟨hc1, hc2⟩)
    clear hc1 hc2
    go_enter Tryd.func40, Tryd.ntmps40
    go_wp2
    go_loopw [1, 5] (fun kk i wr => ∃ j q : Nat, j ≤ vs.length ∧ q = k + V.cnts (vs.take j) ∧ kk = .int .i64 q ∧ i = .int .i64 j ∧ Row wr 5 g e sz fr (V.ds (V.half k vs j)) ∧ Keep (· ∈ g :: fr) w wr) (fun _ i _ => vs.length - (intOf i).toNat)
    case atStart => exact ⟨0, k, Nat.zero_le _, by simp [V.cnts], rfl, rfl, by rw [V.half_zero]; exact hrow, Keep.refl _ _⟩
    case round =>
      obtain ⟨j, q, hj, hq, rfl, rfl, hr, hkp⟩ := hrel
      have HQ := Lib.hid hq
      by_cases hlt : j < vs.length
      · have hqc := V.cnts_get vs j hlt
        have hq1 : 0 < q := by omega
        have hq2 : q + V.cnt vs[j] ≤ 4611686018427387904 := by omega
        have HQ2 := Lib.hid (show q + V.cnt vs[j] = k + V.cnts (vs.take (j + 1)) by rw [V.cnts_take vs j hlt]; omega)
        clear hq hqc
        have hjl : j < (V.half k vs j).length := by rw [V.half_length _ _ _ hj]; exact hlt
        obtain ⟨fi, kn, nn, en, sn, kids, u, hes, hnf, d0, d1, d2, hfr, hgl, hrest⟩ := RowV.round hr hn j hjl q
        have hes' : vs[j] = .mk kn nn en sn kids := by rw [← V.half_at k vs j hlt]; exact hes
        have hnj := V.nodes_get vs j hlt
        have hbj := V.bulks_snoc vs j hlt
        have hbt := V.bulks_take vs (j + 1)
        have hnk : V.nodess kids ≤ n := by rw [hes'] at hnj; simp only [V.nodes] at hnj; omega
        have hbk : kids.length + V.bulks kids ≤ 4294967295 := by rw [hes'] at hbj; simp only [V.bulk] at hbj; omega
        have hck : V.cnt vs[j] = 4 + V.cnts kids := by rw [hes']; rfl
        have hqk : q + 4 + V.cnts kids ≤ 4611686018427387904 := by omega
        have HQ3 := Lib.hid (show q + 4 + V.cnts kids = k + V.cnts (vs.take (j + 1)) by rw [← HQ2.out]; omega)
        have HSET := Lib.hid (show (V.half k vs j).set j (V.mark1 q ((V.half k vs j)[j]'hjl)) = V.half k vs (j + 1) by rw [V.half_at k vs j hlt, HQ.out]; exact V.half_set k vs j hlt)
        have HR := Lib.hid hrest
        have HMT := fun W => Lib.hid (markText_any (q + 3) W (by omega) (by omega))
        have f0 := hfr (j * 5)
        have f1 := hfr (j * 5 + 1)
        have f2 := hfr (j * 5 + 2)
        have i1 : (0 : Int) ≤ j := by omega
        have i2 : (j : Int) < vs.length := by omega
        have HHA := fun W h1 => Lib.hid (hA kids u (q + 4) fi W hnk h1 hnf hbk (by omega) hqk)
        have HKP := Lib.hid hkp
        clear hes hes' hnj hbj hbt hnk hbk hck hrest hr hfr hnf hA hrow hkp
        go_wp2_with (first | (go_at_call 52; refine (HMT _).out.mono ?_; rintro e1 w1 ⟨rfl, hb1⟩; obtain ⟨c3, f3, c4, htk, hfin⟩ := HR.out w1 hb1) | (go_at_call 40; refine (HHA _ htk).out.mono ?_; rintro e1 w2 ⟨rfl, hk2', ht2⟩; obtain ⟨hrow2, hkp2⟩ := hfin w2 hk2' ht2))
        go_roundw
        case rel => exact ⟨j + 1, q + 4 + V.cnts kids, by omega, HQ3.out, by go_num, by go_num, by rw [← HSET.out]; exact hrow2, HKP.out.trans hkp2⟩
        case measure => simp [intOf]; omega
      · obtain rfl : j = vs.length := by omega
        rw [V.half_all] at hr
        rw [List.take_length] at HQ
        clear hq
        go_wp2
        go_ret
        have hml : (V.ds (V.marks k vs)).length = vs.length := by rw [V.ds_map, List.length_map, V.marks_length]
        have := Row.tree (c := c) hr (by decide) (by rw [hml]; exact HC.out)
        rw [hml] at this
        exact ⟨by rw [← HQ.out]; rfl, hkp, this⟩
theorem VMk_all : ∀ n, VMk n
  | 0 => by
    intro vs v k fp w hnn h hn hl hk hk2
    have : vs = [] := by
      cases vs with
      | nil => rfl
      | cons x r => have := x.nodes_pos; simp only [V.nodess] at hnn; omega
    subst this
    exact markV_nil v k fp w h
  | n + 1 => VMk_of (VMk_all n)
/-- kids marked -/
def V.top (k : Nat) : V → V | .mk a b c s kids => .mk a b c s (V.marks k kids)

set_option maxHeartbeats 400000 in
theorem markValue_any (x : V) (cs : List Value) (k : Nat) (fp : List Nat) (w : World) (h : TreeC w x.d fp cs) (hn : fp.Nodup) (hbk : x.bulk ≤ 4294967295) (hk : 0 < k) (hk2 : k + V.cnts x.kids ≤ 4611686018427387904) :
    Calls Tryd.prog 17 #[.agg cs.toArray, .int .i64 k] w fun e w' => e = .returned (.int .i64 ((k + V.cnts x.kids : Nat) : Int)) ∧ Keep (· ∈ fp) w w' ∧ TreeC w' (x.top k).d fp cs := by
  obtain ⟨a, b, c, s, kids⟩ := x
  obtain ⟨v, rfl, ht⟩ := V.tree h
  obtain ⟨ad, cc, rfl, _⟩ := TreeC.row ht
  simp only [V.kids] at hk2 ⊢
  have hl : (V.ds kids).length = kids.length := by rw [V.ds_map, List.length_map]
  rw [hl] at ht ⊢
  have hal : Below w.heap.size w (w.alloc (.cells #[.int .i64 a, .int .i64 b, .int .i64 c, .string ⟨s.toArray⟩, .slice ad kids.length cc] 42)) := (Below.refl _ _).alloc (Nat.le_refl _) _
  have HM := Lib.hid (VMk_all (V.nodess kids) kids _ k fp _ (Nat.le_refl _) (ht.frame fun b hb => hal.block b (ht.lt b hb)) hn (by simp only [V.bulk] at hbk; omega) hk hk2)
  clear h ht
  go_enter Tryd.func17, Tryd.ntmps17
  go_wp2_with (go_at_call 40; refine HM.out.mono ?_; rintro e1 w2 ⟨rfl, hk2', ht2⟩)
  go_ret
  exact ⟨rfl, (Keep.of_below hal).trans hk2', V.tree_mk ht2⟩
end Go.Proofs.YtpknmldpdoadgaaDoor

/- What the laws do with values, as contracts on values without memory. -/
namespace Go.Proofs.YtpknmldpdoadgaaDoor
open Go.RowKit

section
variable {T : World → Prop} {hT : Low ngl T} {w : World} {hn : ngl ≤ w.heap.size}
theorem szV_fn {x : V} {cs : List Value} (hr : Rd w x.d cs) (hw : x.wf) {l : Int} (hl : 0 ≤ l ∧ l ≤ 1048576) : FnV (envW T hT w hn) 12 [.ag (rawL cs), .d (pI l)] (.d (pI (take' x.bulk l))) := by
  refine FnV.old rfl fun W C vs _ _ hS hlen hv => ?_
  match vs, hlen with
  | [a, b], _ =>
    have ha := rawL_inv (hv 0 _ _ rfl rfl)
    have hb := int_inv (hv 1 _ _ rfl rfl)
    subst ha; subst hb
    exact szValue_any x cs l W (Stay.rd hS hr) hw hl
theorem toV_fn {x : V} {cs : List Value} (hr : Rd w x.d cs) (hb : x.bulk ≤ 1048576) : FnO (envW T hT w hn) 14 [.ag (rawL cs)] (.ag x.d.pc) := by
  refine FnO.old (V.wfd x) fun W C vs _ _ hS hlen hv => ?_
  match vs, hlen with
  | [a], _ =>
    have ha := rawL_inv (hv 0 _ _ rfl rfl)
    subst ha
    exact toValue_any x cs W (Stay.rd hS hr) hb
theorem eqV_fn {E : Env} (hP : E.P = Tryd.prog) (x y : V) (hx : x.bulk ≤ 1048576) (hy : y.bulk ≤ 1048576) : FnV E 16 [.ag x.d.pc, .ag y.d.pc] (.d (pB (decide (x = y)))) := by
  refine FnV.old rfl fun W C vs hF _ _ hlen hv => ?_
  match vs, hlen with
  | [a, b], _ =>
    obtain ⟨cs, rfl, h1⟩ := vRd hF (V.wfd x) (hv 0 _ _ rfl rfl)
    obtain ⟨ds, rfl, h2⟩ := vRd hF (V.wfd y) (hv 1 _ _ rfl rfl)
    rw [hP]; exact eqValue_any x y cs ds W h1 h2 hx hy
theorem markV_fn {E : Env} (hP : E.P = Tryd.prog) (x : V) (k : Nat) (hb : x.bulk ≤ 4294967295) (hk : 0 < k) (hk2 : k + V.cnts x.kids ≤ 4611686018427387904) : MarkC E 17 x.d (x.top k).d k ((k + V.cnts x.kids : Nat) : Int) := by
  intro W fp vs h hn
  rw [hP]; exact markValue_any x vs k fp W h hn hb hk hk2
end
mutual
theorem V.cnt_b4 : ∀ x : V, V.cnt x ≤ 5 + 5 * x.bulk
  | .mk _ _ _ s kids => by have := V.cnts_b4 kids; simp only [V.cnt, V.bulk]; omega
theorem V.cnts_b4 : ∀ xs : List V, V.cnts xs ≤ 5 * (xs.length + V.bulks xs)
  | [] => by simp [V.cnts]
  | x :: xs => by have := V.cnt_b4 x; have := V.cnts_b4 xs; simp only [V.cnts, V.bulks, List.length_cons]; omega
end
theorem V.kcnt_le (x : V) : V.cnts x.kids ≤ 5 * x.bulk := by
  obtain ⟨k, n, e, s, kids⟩ := x
  have := V.cnts_b4 kids; simp only [V.bulk, V.kids]; omega
end Go.Proofs.YtpknmldpdoadgaaDoor

/- More steps: sums, rows that grow. No program in sight. -/
namespace Go.Proofs.YtpknmldpdoadgaaDoor
open Go.RowKit

section
variable {E : Env} {K : St → Prop} {tm : Nat → PV} {bx : List (List PC)} {nt d : Nat} {live : List Nat} {r : List MOpr} {g : Option (Nat × Bool)} {c : List X} {x y : X} {a b n : Int}
theorem po_add (hg : gd g tm = some true) (hx : ev tm x = .d (pI a)) (hy : ev tm y = .d (pI b)) (hn : a + b = n) (h1 : -9223372036854775808 ≤ n ∧ n ≤ 9223372036854775807) (h : po E r K ⟨up d (.d (pI n)) tm, bx, nt, live⟩) : po E (⟨some d, .bin .add false x y, g, c⟩ :: r) K ⟨tm, bx, nt, live⟩ := by
  refine po_q hg ?_ h
  simp only [qf, hx, hy, pI]
  show some (PV.d (.v (.int .i64 (IntKind.wrap .i64 (a + b))))) = some (PV.d (.v (.int .i64 n)))
  have e : IntKind.wrap .i64 (a + b) = n := by rw [hn, IntKind.wrap_i64]; omega
  rw [e]
theorem po_sub (hg : gd g tm = some true) (hx : ev tm x = .d (pI a)) (hy : ev tm y = .d (pI b)) (hn : a - b = n) (h1 : -9223372036854775808 ≤ n ∧ n ≤ 9223372036854775807) (h : po E r K ⟨up d (.d (pI n)) tm, bx, nt, live⟩) : po E (⟨some d, .bin .sub false x y, g, c⟩ :: r) K ⟨tm, bx, nt, live⟩ := by
  refine po_q hg ?_ h
  simp only [qf, hx, hy, pI]
  show some (PV.d (.v (.int .i64 (IntKind.wrap .i64 (a - b))))) = some (PV.d (.v (.int .i64 n)))
  have e : IntKind.wrap .i64 (a - b) = n := by rw [hn, IntKind.wrap_i64]; omega
  rw [e]
theorem po_mul (hg : gd g tm = some true) (hx : ev tm x = .d (pI a)) (hy : ev tm y = .d (pI b)) (hn : a * b = n) (h1 : -9223372036854775808 ≤ n ∧ n ≤ 9223372036854775807) (h : po E r K ⟨up d (.d (pI n)) tm, bx, nt, live⟩) : po E (⟨some d, .bin .mul false x y, g, c⟩ :: r) K ⟨tm, bx, nt, live⟩ := by
  refine po_q hg ?_ h
  simp only [qf, hx, hy, pI]
  show some (PV.d (.v (.int .i64 (IntKind.wrap .i64 (a * b))))) = some (PV.d (.v (.int .i64 n)))
  have e : IntKind.wrap .i64 (a * b) = n := by rw [hn, IntKind.wrap_i64]; omega
  rw [e]
end
/-- a row that may be empty grows -/
theorem OwnL.pushA {nt nt' t : Nat} {live : List Nat} {a b : List PC} {rows : List (List PC)} {e : List PC} (h : OwnL nt live (a ++ .sl t rows :: b)) (ht : t = 1 ∧ rows = [] ∨ 2 ≤ t) (hn : nt ≤ nt') (he : ownedL e = true) (hd : (toksL e).Nodup) (hm : ∀ t ∈ toksL e, nt ≤ t ∧ t < nt') (hnt : 2 ≤ nt') :
    OwnL (nt' + 1) (nt' :: (toksL e ++ live).filter (· != t)) (a ++ .sl nt' (rows ++ [e]) :: b) := by
  rcases ht with ⟨rfl, rfl⟩ | h2
  · exact h.push1 hn he hd hm hnt
  · exact h.push h2 hn he hd hm hnt
theorem OwnL.app {nt t : Nat} {live : List Nat} {a b : List PC} {rows : List (List PC)} (h : OwnL nt live (a ++ .sl t rows :: b)) (ht : t = 1 ∧ rows = [] ∨ 2 ≤ t) (l : List Nat) : t = 1 ∨ t ∈ l ++ live := by
  rcases ht with ht | h2
  · exact .inl ht.1
  · refine .inr (List.mem_append.2 (.inr (h.mem t ?_).1))
    rw [toksL_append]; simp [toksL, PC.toks, h2]
theorem OwnL.nt {nt nt' : Nat} {live live' : List Nat} {cs : List PC} (h : OwnL nt live cs) (hn : nt ≤ nt') (hl : ∀ t ∈ live, t ∈ live') : OwnL nt' live' cs := h.mono hn fun t ht _ => hl t ht
/-- a result that is a whole box -/
theorem ress_box {tm : Nat → PV} {bx : List (List PC)} {nt : Nat} {live : List Nat} {n t p : Nat} {cs : List PC} (ht : tm t = .ref p 0) (hb : bx[p]? = some cs) (hn : cs.length = n) : ressM ⟨tm, bx, nt, live⟩ [.cell true n t] = some [.ag cs] := by
  simp only [ressM, resM, ht, hb, Nat.zero_add, List.drop_zero, ldv, hn, Nat.le_refl, if_true]
  rw [← hn, List.take_length]
end Go.Proofs.YtpknmldpdoadgaaDoor

/- Bodies of functions in the small language. Written by a program. -/
namespace Go.Proofs.YtpknmldpdoadgaaDoor
set_option maxRecDepth 100000
def m_s_Join : M := .seq (.ops [⟨some 2, .box (.t 0), none, []⟩,
  ⟨some 3, .box (.t 1), none, []⟩,
  ⟨some 4, .zero [.int .i64 0, .int .i64 0, .int .i64 0, .slice none 0 0, .int .i64 0, .slice none 0 0], none, []⟩])
 (.seq (.seq (.ops [⟨some 6, .load true 6 (.t 2), none, []⟩,
  ⟨some 7, .call 20 [.t 6], none, [.f 1]⟩,
  ⟨some 8, .not (.t 7), none, []⟩,
  ⟨some 9, .mv (.t 8), none, []⟩,
  ⟨some 10, .load true 6 (.t 3), some (9, false), []⟩,
  ⟨some 11, .call 20 [.t 10], some (9, false), [.f 1]⟩,
  ⟨some 12, .not (.t 11), some (9, false), []⟩,
  ⟨some 13, .pick (.t 9) (.c (.bool true)) (.t 12), none, []⟩])
 (.cond (.t 13) (.seq (.ops [⟨some 14, .build [.int .i64 0, .int .i64 0, .int .i64 0, .slice none 0 0, .int .i64 0, .slice none 0 0] [], none, []⟩,
  ⟨none, .store 6 (.t 4) (.t 14), none, []⟩])
 (.ret))
 (.skip)))
 (.seq (.ops [⟨some 15, .load true 6 (.t 2), none, []⟩,
  ⟨some 16, .load true 6 (.t 3), none, []⟩,
  ⟨some 17, .call 21 [.t 15, .t 16], none, [.f 1]⟩,
  ⟨some 5, .zero [.int .i64 0, .int .i64 0, .int .i64 0, .slice none 0 0, .int .i64 0, .slice none 0 0], none, []⟩,
  ⟨none, .store 6 (.t 5) (.t 17), none, []⟩])
 (.seq (.seq (.ops [⟨some 18, .load true 6 (.t 5), none, []⟩,
  ⟨some 19, .call 20 [.t 18], none, [.f 1]⟩,
  ⟨some 20, .not (.t 19), none, []⟩])
 (.cond (.t 20) (.seq (.ops [⟨some 21, .build [.int .i64 0, .int .i64 0, .int .i64 0, .slice none 0 0, .int .i64 0, .slice none 0 0] [], none, []⟩,
  ⟨none, .store 6 (.t 4) (.t 21), none, []⟩])
 (.ret))
 (.skip)))
 (.seq (.ops [⟨some 22, .load true 6 (.t 5), none, []⟩,
  ⟨none, .store 6 (.t 4) (.t 22), none, []⟩])
 (.ret)))))
theorem lk_s_Join : look Tryd.prog 6 = some (23, m_s_Join, [.cell true 6 4]) := by kernel_rfl
def m_i_Join : M := .seq (.ops [⟨some 2, .box (.t 0), none, []⟩,
  ⟨some 3, .box (.t 1), none, []⟩,
  ⟨some 4, .zero [.int .i64 0, .int .i64 0, .int .i64 0, .slice none 0 0, .int .i64 0, .slice none 0 0], none, []⟩])
 (.seq (.seq (.ops [⟨some 5, .load true 6 (.t 2), none, []⟩,
  ⟨some 6, .call 24 [.t 5], none, [.f 1]⟩,
  ⟨some 7, .not (.t 6), none, []⟩,
  ⟨some 8, .mv (.t 7), none, []⟩,
  ⟨some 9, .load true 6 (.t 3), some (8, false), []⟩,
  ⟨some 10, .call 24 [.t 9], some (8, false), [.f 1]⟩,
  ⟨some 11, .not (.t 10), some (8, false), []⟩,
  ⟨some 12, .pick (.t 8) (.c (.bool true)) (.t 11), none, []⟩])
 (.cond (.t 12) (.seq (.ops [⟨some 13, .build [.int .i64 0, .int .i64 0, .int .i64 0, .slice none 0 0, .int .i64 0, .slice none 0 0] [], none, []⟩,
  ⟨none, .store 6 (.t 4) (.t 13), none, []⟩])
 (.ret))
 (.skip)))
 (.seq (.ops [⟨some 14, .load true 6 (.t 2), none, []⟩,
  ⟨some 15, .load true 6 (.t 3), none, []⟩,
  ⟨some 16, .call 26 [.t 14, .t 15], none, [.f 1]⟩,
  ⟨some 17, .call 25 [.t 16], none, [.f 1]⟩,
  ⟨none, .store 6 (.t 4) (.t 17), none, []⟩])
 (.ret)))
theorem lk_i_Join : look Tryd.prog 8 = some (18, m_i_Join, [.cell true 6 4]) := by kernel_rfl
def m_s_l15Join : M := .seq (.ops [⟨some 2, .box (.t 0), none, []⟩,
  ⟨some 3, .box (.t 1), none, []⟩,
  ⟨some 4, .zero [.int .i64 0, .int .i64 0, .int .i64 0, .slice none 0 0, .int .i64 0, .slice none 0 0], none, []⟩])
 (.seq (.ops [⟨some 7, .fld 0 (.t 2), none, []⟩,
  ⟨some 8, .load false 1 (.t 7), none, []⟩,
  ⟨some 9, .bin .eql false (.t 8) (.c (.int .i64 3)), none, []⟩,
  ⟨some 10, .mv (.t 9), none, []⟩,
  ⟨some 11, .fld 0 (.t 2), some (10, false), []⟩,
  ⟨some 12, .load false 1 (.t 11), some (10, false), []⟩,
  ⟨some 13, .bin .eql false (.t 12) (.c (.int .i64 4)), some (10, false), []⟩,
  ⟨some 14, .pick (.t 10) (.c (.bool true)) (.t 13), none, []⟩,
  ⟨some 15, .mv (.t 14), none, []⟩,
  ⟨some 16, .fld 0 (.t 3), some (15, true), []⟩,
  ⟨some 17, .load false 1 (.t 16), some (15, true), []⟩,
  ⟨some 18, .bin .eql false (.t 17) (.c (.int .i64 3)), some (15, true), []⟩,
  ⟨some 19, .mv (.t 18), some (15, true), []⟩,
  ⟨some 20, .fld 0 (.t 3), some (19, false), []⟩,
  ⟨some 21, .load false 1 (.t 20), some (19, false), []⟩,
  ⟨some 22, .bin .eql false (.t 21) (.c (.int .i64 4)), some (19, false), []⟩,
  ⟨some 23, .pick (.t 19) (.c (.bool true)) (.t 22), some (15, true), []⟩,
  ⟨some 24, .pick (.t 15) (.t 23) (.c (.bool false)), none, []⟩,
  ⟨some 5, .mv (.t 24), none, []⟩])
 (.seq (.block 0 (.seq (.ops [⟨some 26, .load true 6 (.t 2), none, []⟩,
  ⟨some 27, .load true 6 (.t 3), none, []⟩,
  ⟨some 28, .call 43 [.t 26, .t 27], none, [.f 1]⟩,
  ⟨some 25, .mv (.t 28), none, []⟩])
 (.cond (.t 25) (.seq (.ops [⟨some 29, .load true 6 (.t 2), none, []⟩,
  ⟨some 30, .call 44 [.t 29], none, [.f 1]⟩,
  ⟨none, .store 6 (.t 4) (.t 30), none, []⟩])
 (.ret))
 (.seq (.ops [⟨some 32, .mv (.t 5), none, []⟩,
  ⟨some 33, .mv (.t 32), none, []⟩,
  ⟨some 34, .fld 0 (.t 2), some (33, true), []⟩,
  ⟨some 35, .load false 1 (.t 34), some (33, true), []⟩,
  ⟨some 36, .fld 0 (.t 3), some (33, true), []⟩,
  ⟨some 37, .load false 1 (.t 36), some (33, true), []⟩,
  ⟨some 38, .bin .neq false (.t 35) (.t 37), some (33, true), []⟩,
  ⟨some 39, .pick (.t 33) (.t 38) (.c (.bool false)), none, []⟩,
  ⟨some 31, .mv (.t 39), none, []⟩])
 (.cond (.t 31) (.seq (.ops [⟨some 40, .build [.int .i64 0, .int .i64 0, .int .i64 0, .slice none 0 0, .int .i64 0, .slice none 0 0] [(0, 1, .c (.int .i64 4))], none, []⟩,
  ⟨none, .store 6 (.t 4) (.t 40), none, []⟩])
 (.ret))
 (.seq (.ops [⟨some 42, .fld 0 (.t 2), none, []⟩,
  ⟨some 43, .load false 1 (.t 42), none, []⟩,
  ⟨some 44, .fld 0 (.t 3), none, []⟩,
  ⟨some 45, .load false 1 (.t 44), none, []⟩,
  ⟨some 46, .bin .neq false (.t 43) (.t 45), none, []⟩,
  ⟨some 41, .mv (.t 46), none, []⟩])
 (.cond (.t 41) (.seq (.ops [⟨some 47, .build [.int .i64 0, .int .i64 0, .int .i64 0, .slice none 0 0, .int .i64 0, .slice none 0 0] [], none, []⟩,
  ⟨none, .store 6 (.t 4) (.t 47), none, []⟩])
 (.ret))
 (.seq (.ops [⟨some 49, .fld 0 (.t 2), none, []⟩,
  ⟨some 50, .load false 1 (.t 49), none, []⟩,
  ⟨some 51, .bin .eql false (.t 50) (.c (.int .i64 8)), none, []⟩,
  ⟨some 48, .mv (.t 51), none, []⟩])
 (.cond (.t 48) (.seq (.ops [⟨some 52, .load true 6 (.t 2), none, []⟩,
  ⟨some 53, .load true 6 (.t 3), none, []⟩,
  ⟨some 54, .call 45 [.t 52, .t 53], none, [.f 1]⟩,
  ⟨none, .store 6 (.t 4) (.t 54), none, []⟩])
 (.ret))
 (.seq (.ops [⟨some 56, .fld 0 (.t 2), none, []⟩,
  ⟨some 57, .load false 1 (.t 56), none, []⟩,
  ⟨some 58, .bin .eql false (.t 57) (.c (.int .i64 3)), none, []⟩,
  ⟨some 59, .mv (.t 58), none, []⟩,
  ⟨some 60, .fld 0 (.t 2), some (59, false), []⟩,
  ⟨some 61, .load false 1 (.t 60), some (59, false), []⟩,
  ⟨some 62, .bin .eql false (.t 61) (.c (.int .i64 5)), some (59, false), []⟩,
  ⟨some 63, .pick (.t 59) (.c (.bool true)) (.t 62), none, []⟩,
  ⟨some 64, .mv (.t 63), none, []⟩,
  ⟨some 65, .fld 0 (.t 2), some (64, false), []⟩,
  ⟨some 66, .load false 1 (.t 65), some (64, false), []⟩,
  ⟨some 67, .bin .eql false (.t 66) (.c (.int .i64 6)), some (64, false), []⟩,
  ⟨some 68, .pick (.t 64) (.c (.bool true)) (.t 67), none, []⟩,
  ⟨some 69, .mv (.t 68), none, []⟩,
  ⟨some 70, .fld 0 (.t 2), some (69, false), []⟩,
  ⟨some 71, .load false 1 (.t 70), some (69, false), []⟩,
  ⟨some 72, .bin .eql false (.t 71) (.c (.int .i64 7)), some (69, false), []⟩,
  ⟨some 73, .pick (.t 69) (.c (.bool true)) (.t 72), none, []⟩,
  ⟨some 55, .mv (.t 73), none, []⟩])
 (.cond (.t 55) (.seq (.ops [⟨some 74, .load true 6 (.t 2), none, []⟩,
  ⟨some 75, .call 44 [.t 74], none, [.f 1]⟩,
  ⟨some 6, .zero [.int .i64 0, .int .i64 0, .int .i64 0, .slice none 0 0, .int .i64 0, .slice none 0 0], none, []⟩,
  ⟨none, .store 6 (.t 6) (.t 75), none, []⟩])
 (.seq (.seq (.ops [⟨some 76, .fld 1 (.t 3), none, []⟩,
  ⟨some 77, .load false 1 (.t 76), none, []⟩,
  ⟨some 78, .fld 1 (.t 6), none, []⟩,
  ⟨some 79, .load false 1 (.t 78), none, []⟩,
  ⟨some 80, .bin .lss false (.t 77) (.t 79), none, []⟩])
 (.cond (.t 80) (.ops [⟨some 81, .fld 1 (.t 3), none, []⟩,
  ⟨some 82, .load false 1 (.t 81), none, []⟩,
  ⟨some 83, .fld 1 (.t 6), none, []⟩,
  ⟨none, .store 1 (.t 83) (.t 82), none, []⟩])
 (.skip)))
 (.seq (.seq (.ops [⟨some 84, .fld 2 (.t 3), none, []⟩,
  ⟨some 85, .load false 1 (.t 84), none, []⟩,
  ⟨some 86, .fld 2 (.t 6), none, []⟩,
  ⟨some 87, .load false 1 (.t 86), none, []⟩,
  ⟨some 88, .bin .gtr false (.t 85) (.t 87), none, []⟩])
 (.cond (.t 88) (.ops [⟨some 89, .fld 2 (.t 3), none, []⟩,
  ⟨some 90, .load false 1 (.t 89), none, []⟩,
  ⟨some 91, .fld 2 (.t 6), none, []⟩,
  ⟨none, .store 1 (.t 91) (.t 90), none, []⟩])
 (.skip)))
 (.seq (.seq (.ops [⟨some 92, .fld 0 (.t 2), none, []⟩,
  ⟨some 93, .load false 1 (.t 92), none, []⟩,
  ⟨some 94, .bin .eql false (.t 93) (.c (.int .i64 7)), none, []⟩])
 (.cond (.t 94) (.ops [⟨some 95, .fld 5 (.t 2), none, []⟩,
  ⟨some 96, .load false 1 (.t 95), none, []⟩,
  ⟨some 97, .ix 6 (.t 96) (.c (.int .i64 0)), none, []⟩,
  ⟨some 98, .load true 6 (.t 97), none, []⟩,
  ⟨some 99, .fld 5 (.t 3), none, []⟩,
  ⟨some 100, .load false 1 (.t 99), none, []⟩,
  ⟨some 101, .ix 6 (.t 100) (.c (.int .i64 0)), none, []⟩,
  ⟨some 102, .load true 6 (.t 101), none, []⟩,
  ⟨some 103, .call 6 [.t 98, .t 102], none, [.f 0]⟩,
  ⟨some 104, .lit 6 [.t 103], none, []⟩,
  ⟨some 105, .fld 5 (.t 6), none, []⟩,
  ⟨none, .store 1 (.t 105) (.t 104), none, []⟩])
 (.skip)))
 (.seq (.ops [⟨some 106, .load true 6 (.t 6), none, []⟩,
  ⟨none, .store 6 (.t 4) (.t 106), none, []⟩])
 (.ret))))))
 (.skip))))))))))))
 (.seq (.ops [⟨some 107, .build [.int .i64 0, .int .i64 0, .int .i64 0, .slice none 0 0, .int .i64 0, .slice none 0 0] [], none, []⟩,
  ⟨none, .store 6 (.t 4) (.t 107), none, []⟩])
 (.ret))))
theorem lk_s_l15Join : look Tryd.prog 21 = some (108, m_s_l15Join, [.cell true 6 4]) := by kernel_rfl
def m_i_checkedShape : M := .seq (.ops [⟨some 1, .box (.t 0), none, []⟩,
  ⟨some 2, .zero [.int .i64 0, .int .i64 0, .int .i64 0, .slice none 0 0, .int .i64 0, .slice none 0 0], none, []⟩])
 (.seq (.seq (.ops [⟨some 3, .load true 6 (.t 1), none, []⟩,
  ⟨some 4, .call 24 [.t 3], none, [.f 1]⟩,
  ⟨some 5, .not (.t 4), none, []⟩])
 (.cond (.t 5) (.seq (.ops [⟨some 6, .build [.int .i64 0, .int .i64 0, .int .i64 0, .slice none 0 0, .int .i64 0, .slice none 0 0] [], none, []⟩,
  ⟨none, .store 6 (.t 2) (.t 6), none, []⟩])
 (.ret))
 (.skip)))
 (.seq (.ops [⟨some 7, .load true 6 (.t 1), none, []⟩,
  ⟨some 8, .call 47 [.t 7], none, [.f 1]⟩,
  ⟨none, .store 6 (.t 2) (.t 8), none, []⟩])
 (.ret)))
theorem lk_i_checkedShape : look Tryd.prog 25 = some (9, m_i_checkedShape, [.cell true 6 2]) := by kernel_rfl
def m_i_joined : M := .seq (.ops [⟨some 2, .box (.t 0), none, []⟩,
  ⟨some 3, .box (.t 1), none, []⟩,
  ⟨some 4, .zero [.int .i64 0, .int .i64 0, .int .i64 0, .slice none 0 0, .int .i64 0, .slice none 0 0], none, []⟩])
 (.seq (.block 0 (.seq (.ops [⟨some 7, .load true 6 (.t 2), none, []⟩,
  ⟨some 8, .load true 6 (.t 3), none, []⟩,
  ⟨some 9, .call 48 [.t 7, .t 8], none, [.f 1]⟩,
  ⟨some 6, .mv (.t 9), none, []⟩])
 (.cond (.t 6) (.seq (.ops [⟨some 10, .load true 6 (.t 2), none, []⟩,
  ⟨none, .store 6 (.t 4) (.t 10), none, []⟩])
 (.ret))
 (.seq (.ops [⟨some 12, .fld 0 (.t 2), none, []⟩,
  ⟨some 13, .load false 1 (.t 12), none, []⟩,
  ⟨some 14, .fld 0 (.t 3), none, []⟩,
  ⟨some 15, .load false 1 (.t 14), none, []⟩,
  ⟨some 16, .bin .eql false (.t 13) (.t 15), none, []⟩,
  ⟨some 17, .mv (.t 16), none, []⟩,
  ⟨some 18, .fld 0 (.t 2), some (17, true), []⟩,
  ⟨some 19, .load false 1 (.t 18), some (17, true), []⟩,
  ⟨some 20, .call 49 [.t 19], some (17, true), [.f 1]⟩,
  ⟨some 21, .pick (.t 17) (.t 20) (.c (.bool false)), none, []⟩,
  ⟨some 11, .mv (.t 21), none, []⟩])
 (.cond (.t 11) (.seq (.ops [⟨some 22, .fld 0 (.t 2), none, []⟩,
  ⟨some 23, .load false 1 (.t 22), none, []⟩,
  ⟨some 24, .fld 1 (.t 2), none, []⟩,
  ⟨some 25, .load false 1 (.t 24), none, []⟩,
  ⟨some 26, .fld 1 (.t 3), none, []⟩,
  ⟨some 27, .load false 1 (.t 26), none, []⟩,
  ⟨some 28, .minmax false (.t 25) (.t 27), none, []⟩,
  ⟨some 29, .fld 2 (.t 2), none, []⟩,
  ⟨some 30, .load false 1 (.t 29), none, []⟩,
  ⟨some 31, .fld 2 (.t 3), none, []⟩,
  ⟨some 32, .load false 1 (.t 31), none, []⟩,
  ⟨some 33, .minmax true (.t 30) (.t 32), none, []⟩,
  ⟨some 34, .build [.int .i64 0, .int .i64 0, .int .i64 0, .slice none 0 0, .int .i64 0, .slice none 0 0] [(0, 1, .t 23), (1, 1, .t 28), (2, 1, .t 33)], none, []⟩,
  ⟨some 5, .zero [.int .i64 0, .int .i64 0, .int .i64 0, .slice none 0 0, .int .i64 0, .slice none 0 0], none, []⟩,
  ⟨none, .store 6 (.t 5) (.t 34), none, []⟩])
 (.seq (.seq (.ops [⟨some 35, .fld 0 (.t 2), none, []⟩,
  ⟨some 36, .load false 1 (.t 35), none, []⟩,
  ⟨some 37, .bin .eql false (.t 36) (.c (.int .i64 7)), none, []⟩])
 (.cond (.t 37) (.ops [⟨some 38, .fld 5 (.t 2), none, []⟩,
  ⟨some 39, .load false 1 (.t 38), none, []⟩,
  ⟨some 40, .ix 6 (.t 39) (.c (.int .i64 0)), none, []⟩,
  ⟨some 41, .load true 6 (.t 40), none, []⟩,
  ⟨some 42, .fld 5 (.t 3), none, []⟩,
  ⟨some 43, .load false 1 (.t 42), none, []⟩,
  ⟨some 44, .ix 6 (.t 43) (.c (.int .i64 0)), none, []⟩,
  ⟨some 45, .load true 6 (.t 44), none, []⟩,
  ⟨some 46, .call 8 [.t 41, .t 45], none, [.f 0]⟩,
  ⟨some 47, .lit 6 [.t 46], none, []⟩,
  ⟨some 48, .fld 5 (.t 5), none, []⟩,
  ⟨none, .store 1 (.t 48) (.t 47), none, []⟩])
 (.skip)))
 (.seq (.ops [⟨some 49, .load true 6 (.t 5), none, []⟩,
  ⟨none, .store 6 (.t 4) (.t 49), none, []⟩])
 (.ret))))
 (.seq (.ops [⟨some 51, .fld 0 (.t 2), none, []⟩,
  ⟨some 52, .load false 1 (.t 51), none, []⟩,
  ⟨some 53, .call 50 [.t 52], none, [.f 1]⟩,
  ⟨some 54, .mv (.t 53), none, []⟩,
  ⟨some 55, .fld 0 (.t 3), some (54, true), []⟩,
  ⟨some 56, .load false 1 (.t 55), some (54, true), []⟩,
  ⟨some 57, .call 50 [.t 56], some (54, true), [.f 1]⟩,
  ⟨some 58, .pick (.t 54) (.t 57) (.c (.bool false)), none, []⟩,
  ⟨some 50, .mv (.t 58), none, []⟩])
 (.cond (.t 50) (.seq (.ops [⟨some 59, .build [.int .i64 0, .int .i64 0, .int .i64 0, .slice none 0 0, .int .i64 0, .slice none 0 0] [(0, 1, .c (.int .i64 4))], none, []⟩,
  ⟨none, .store 6 (.t 4) (.t 59), none, []⟩])
 (.ret))
 (.seq (.ops [⟨some 61, .fld 0 (.t 2), none, []⟩,
  ⟨some 62, .load false 1 (.t 61), none, []⟩,
  ⟨some 63, .bin .eql false (.t 62) (.c (.int .i64 8)), none, []⟩,
  ⟨some 64, .mv (.t 63), none, []⟩,
  ⟨some 65, .fld 0 (.t 3), some (64, true), []⟩,
  ⟨some 66, .load false 1 (.t 65), some (64, true), []⟩,
  ⟨some 67, .bin .eql false (.t 66) (.c (.int .i64 8)), some (64, true), []⟩,
  ⟨some 68, .pick (.t 64) (.t 67) (.c (.bool false)), none, []⟩,
  ⟨some 60, .mv (.t 68), none, []⟩])
 (.cond (.t 60) (.seq (.ops [⟨some 69, .load true 6 (.t 2), none, []⟩,
  ⟨some 70, .load true 6 (.t 3), none, []⟩,
  ⟨some 71, .call 51 [.t 69, .t 70], none, [.f 1]⟩,
  ⟨none, .store 6 (.t 4) (.t 71), none, []⟩])
 (.ret))
 (.skip))))))))))
 (.seq (.ops [⟨some 72, .build [.int .i64 0, .int .i64 0, .int .i64 0, .slice none 0 0, .int .i64 0, .slice none 0 0] [], none, []⟩,
  ⟨none, .store 6 (.t 4) (.t 72), none, []⟩])
 (.ret)))
theorem lk_i_joined : look Tryd.prog 26 = some (73, m_i_joined, [.cell true 6 4]) := by kernel_rfl
def m_s_l15Copy : M := .seq (.ops [⟨some 1, .box (.t 0), none, []⟩,
  ⟨some 2, .zero [.int .i64 0, .int .i64 0, .int .i64 0, .slice none 0 0, .int .i64 0, .slice none 0 0], none, []⟩])
 (.seq (.ops [⟨some 5, .load true 6 (.t 1), none, []⟩,
  ⟨some 3, .zero [.int .i64 0, .int .i64 0, .int .i64 0, .slice none 0 0, .int .i64 0, .slice none 0 0], none, []⟩,
  ⟨none, .store 6 (.t 3) (.t 5), none, []⟩])
 (.seq (.ops [⟨some 6, .lit 1 [], none, []⟩,
  ⟨some 7, .fld 3 (.t 1), none, []⟩,
  ⟨some 8, .load false 1 (.t 7), none, []⟩,
  ⟨some 9, .app 1 (.t 6) (.t 8), none, []⟩,
  ⟨some 10, .fld 3 (.t 3), none, []⟩,
  ⟨none, .store 1 (.t 10) (.t 9), none, []⟩])
 (.seq (.ops [⟨some 11, .lit 6 [], none, []⟩,
  ⟨some 12, .fld 5 (.t 3), none, []⟩,
  ⟨none, .store 1 (.t 12) (.t 11), none, []⟩])
 (.seq (.seq (.ops [⟨some 4, .mv (.c (.int .i64 0)), none, []⟩])
 (.block 0 (.loop (.seq (.seq (.ops [⟨some 13, .mv (.t 4), none, []⟩,
  ⟨some 14, .fld 5 (.t 1), none, []⟩,
  ⟨some 15, .load false 1 (.t 14), none, []⟩,
  ⟨some 16, .len (.t 15), none, []⟩,
  ⟨some 17, .bin .lss false (.t 13) (.t 16), none, []⟩])
 (.cond (.t 17) (.skip)
 (.exit 0)))
 (.seq (.block 1 (.ops [⟨some 20, .fld 5 (.t 3), none, []⟩,
  ⟨some 21, .load false 1 (.t 20), none, []⟩,
  ⟨some 22, .fld 5 (.t 1), none, []⟩,
  ⟨some 23, .load false 1 (.t 22), none, []⟩,
  ⟨some 24, .mv (.t 4), none, []⟩,
  ⟨some 25, .ix 6 (.t 23) (.t 24), none, []⟩,
  ⟨some 26, .load true 6 (.t 25), none, []⟩,
  ⟨some 27, .call 44 [.t 26], none, []⟩,
  ⟨some 28, .litq 6 [.t 27], none, []⟩,
  ⟨some 29, .app 6 (.t 21) (.t 28), none, []⟩,
  ⟨some 30, .fld 5 (.t 3), none, []⟩,
  ⟨none, .store 1 (.t 30) (.t 29), none, []⟩]))
 (.ops [⟨some 18, .mv (.t 4), none, []⟩,
  ⟨some 19, .bin .add false (.t 18) (.c (.int .i64 1)), none, []⟩,
  ⟨some 4, .mv (.t 19), none, []⟩]))))))
 (.seq (.ops [⟨some 31, .load true 6 (.t 3), none, []⟩,
  ⟨none, .store 6 (.t 2) (.t 31), none, []⟩])
 (.ret))))))
theorem lk_s_l15Copy : look Tryd.prog 44 = some (32, m_s_l15Copy, [.cell true 6 2]) := by kernel_rfl
def m_s_l15Maps : M := .seq (.ops [⟨some 2, .box (.t 0), none, []⟩,
  ⟨some 3, .box (.t 1), none, []⟩,
  ⟨some 4, .zero [.int .i64 0, .int .i64 0, .int .i64 0, .slice none 0 0, .int .i64 0, .slice none 0 0], none, []⟩])
 (.seq (.ops [⟨some 10, .build [.int .i64 0, .int .i64 0, .int .i64 0, .slice none 0 0, .int .i64 0, .slice none 0 0] [(0, 1, .c (.int .i64 8))], none, []⟩,
  ⟨some 5, .zero [.int .i64 0, .int .i64 0, .int .i64 0, .slice none 0 0, .int .i64 0, .slice none 0 0], none, []⟩,
  ⟨none, .store 6 (.t 5) (.t 10), none, []⟩])
 (.seq (.ops [⟨some 12, .fld 3 (.t 2), none, []⟩,
  ⟨some 13, .load false 1 (.t 12), none, []⟩,
  ⟨some 15, .fld 3 (.t 3), none, []⟩,
  ⟨some 16, .load false 1 (.t 15), none, []⟩,
  ⟨some 11, .lit 1 [], none, []⟩,
  ⟨some 14, .app 1 (.t 11) (.t 13), none, []⟩,
  ⟨some 17, .app 1 (.t 14) (.t 16), none, []⟩,
  ⟨some 6, .mv (.t 17), none, []⟩])
 (.seq (.seq (.ops [⟨some 7, .mv (.c (.int .i64 0)), none, []⟩])
 (.block 0 (.loop (.seq (.seq (.ops [⟨some 18, .mv (.t 7), none, []⟩,
  ⟨some 19, .fld 3 (.t 2), none, []⟩,
  ⟨some 20, .load false 1 (.t 19), none, []⟩,
  ⟨some 21, .len (.t 20), none, []⟩,
  ⟨some 22, .bin .lss false (.t 18) (.t 21), none, []⟩])
 (.cond (.t 22) (.skip)
 (.exit 0)))
 (.seq (.block 1 (.seq (.ops [⟨some 25, .load true 6 (.t 2), none, []⟩,
  ⟨some 26, .load true 6 (.t 3), none, []⟩,
  ⟨some 27, .fld 3 (.t 2), none, []⟩,
  ⟨some 28, .load false 1 (.t 27), none, []⟩,
  ⟨some 29, .mv (.t 7), none, []⟩,
  ⟨some 30, .ix 1 (.t 28) (.t 29), none, []⟩,
  ⟨some 31, .load false 1 (.t 30), none, []⟩,
  ⟨some 32, .call 62 [.t 25, .t 26, .t 31], none, [.f 0]⟩])
 (.cond (.t 32) (.ops [⟨some 33, .fld 3 (.t 5), none, []⟩,
  ⟨some 34, .load false 1 (.t 33), none, []⟩,
  ⟨some 35, .fld 3 (.t 2), none, []⟩,
  ⟨some 36, .load false 1 (.t 35), none, []⟩,
  ⟨some 37, .mv (.t 7), none, []⟩,
  ⟨some 38, .ix 1 (.t 36) (.t 37), none, []⟩,
  ⟨some 39, .load false 1 (.t 38), none, []⟩,
  ⟨some 40, .litq 1 [.t 39], none, []⟩,
  ⟨some 41, .app 1 (.t 34) (.t 40), none, []⟩,
  ⟨some 42, .fld 3 (.t 5), none, []⟩,
  ⟨none, .store 1 (.t 42) (.t 41), none, []⟩])
 (.skip))))
 (.ops [⟨some 23, .mv (.t 7), none, []⟩,
  ⟨some 24, .bin .add false (.t 23) (.c (.int .i64 1)), none, []⟩,
  ⟨some 7, .mv (.t 24), none, []⟩]))))))
 (.seq (.ops [⟨some 43, .fld 3 (.t 5), none, []⟩,
  ⟨some 44, .load false 1 (.t 43), none, []⟩,
  ⟨some 45, .len (.t 44), none, []⟩,
  ⟨some 46, .fld 4 (.t 5), none, []⟩,
  ⟨none, .store 1 (.t 46) (.t 45), none, []⟩])
 (.seq (.seq (.ops [⟨some 8, .mv (.c (.int .i64 0)), none, []⟩])
 (.block 2 (.loop (.seq (.seq (.ops [⟨some 47, .mv (.t 8), none, []⟩,
  ⟨some 48, .mv (.t 6), none, []⟩,
  ⟨some 49, .len (.t 48), none, []⟩,
  ⟨some 50, .bin .lss false (.t 47) (.t 49), none, []⟩])
 (.cond (.t 50) (.skip)
 (.exit 2)))
 (.seq (.block 3 (.seq (.ops [⟨some 53, .fld 3 (.t 5), none, []⟩,
  ⟨some 54, .load false 1 (.t 53), none, []⟩,
  ⟨some 55, .mv (.t 6), none, []⟩,
  ⟨some 56, .mv (.t 8), none, []⟩,
  ⟨some 57, .ix 1 (.t 55) (.t 56), none, []⟩,
  ⟨some 58, .load false 1 (.t 57), none, []⟩,
  ⟨some 59, .call 63 [.t 54, .t 58], none, [.f 0]⟩,
  ⟨some 60, .bin .lss false (.t 59) (.c (.int .i64 0)), none, []⟩])
 (.cond (.t 60) (.ops [⟨some 61, .fld 3 (.t 5), none, []⟩,
  ⟨some 62, .load false 1 (.t 61), none, []⟩,
  ⟨some 63, .mv (.t 6), none, []⟩,
  ⟨some 64, .mv (.t 8), none, []⟩,
  ⟨some 65, .ix 1 (.t 63) (.t 64), none, []⟩,
  ⟨some 66, .load false 1 (.t 65), none, []⟩,
  ⟨some 67, .litq 1 [.t 66], none, []⟩,
  ⟨some 68, .app 1 (.t 62) (.t 67), none, []⟩,
  ⟨some 69, .fld 3 (.t 5), none, []⟩,
  ⟨none, .store 1 (.t 69) (.t 68), none, []⟩])
 (.skip))))
 (.ops [⟨some 51, .mv (.t 8), none, []⟩,
  ⟨some 52, .bin .add false (.t 51) (.c (.int .i64 1)), none, []⟩,
  ⟨some 8, .mv (.t 52), none, []⟩]))))))
 (.seq (.seq (.ops [⟨some 9, .mv (.c (.int .i64 0)), none, []⟩])
 (.block 4 (.loop (.seq (.seq (.ops [⟨some 70, .mv (.t 9), none, []⟩,
  ⟨some 71, .fld 3 (.t 5), none, []⟩,
  ⟨some 72, .load false 1 (.t 71), none, []⟩,
  ⟨some 73, .len (.t 72), none, []⟩,
  ⟨some 74, .bin .lss false (.t 70) (.t 73), none, []⟩])
 (.cond (.t 74) (.skip)
 (.exit 4)))
 (.seq (.block 5 (.ops [⟨some 77, .fld 5 (.t 5), none, []⟩,
  ⟨some 78, .load false 1 (.t 77), none, []⟩,
  ⟨some 79, .load true 6 (.t 2), none, []⟩,
  ⟨some 80, .load true 6 (.t 3), none, []⟩,
  ⟨some 81, .fld 3 (.t 5), none, []⟩,
  ⟨some 82, .load false 1 (.t 81), none, []⟩,
  ⟨some 83, .mv (.t 9), none, []⟩,
  ⟨some 84, .ix 1 (.t 82) (.t 83), none, []⟩,
  ⟨some 85, .load false 1 (.t 84), none, []⟩,
  ⟨some 86, .call 64 [.t 79, .t 80, .t 85], none, []⟩,
  ⟨some 87, .litq 6 [.t 86], none, []⟩,
  ⟨some 88, .app 6 (.t 78) (.t 87), none, []⟩,
  ⟨some 89, .fld 5 (.t 5), none, []⟩,
  ⟨none, .store 1 (.t 89) (.t 88), none, []⟩]))
 (.ops [⟨some 75, .mv (.t 9), none, []⟩,
  ⟨some 76, .bin .add false (.t 75) (.c (.int .i64 1)), none, []⟩,
  ⟨some 9, .mv (.t 76), none, []⟩]))))))
 (.seq (.ops [⟨some 90, .load true 6 (.t 5), none, []⟩,
  ⟨none, .store 6 (.t 4) (.t 90), none, []⟩])
 (.ret))))))))
theorem lk_s_l15Maps : look Tryd.prog 45 = some (91, m_s_l15Maps, [.cell true 6 4]) := by kernel_rfl
def m_i_ownShape : M := .seq (.ops [⟨some 1, .box (.t 0), none, []⟩,
  ⟨some 2, .zero [.int .i64 0, .int .i64 0, .int .i64 0, .slice none 0 0, .int .i64 0, .slice none 0 0], none, []⟩])
 (.seq (.ops [⟨some 6, .fld 3 (.t 1), none, []⟩,
  ⟨some 7, .load false 1 (.t 6), none, []⟩,
  ⟨some 8, .call 68 [.t 7], none, [.f 1]⟩,
  ⟨some 9, .fld 3 (.t 1), none, []⟩,
  ⟨none, .store 1 (.t 9) (.t 8), none, []⟩])
 (.seq (.ops [⟨some 10, .lit 6 [], none, []⟩,
  ⟨some 3, .mv (.t 10), none, []⟩])
 (.seq (.seq (.ops [⟨some 11, .fld 5 (.t 1), none, []⟩,
  ⟨some 12, .load false 1 (.t 11), none, []⟩,
  ⟨some 13, .len (.t 12), none, []⟩,
  ⟨some 14, .mv (.c (.int .i64 0)), none, []⟩])
 (.block 0 (.loop (.seq (.ops [⟨some 15, .bin .lss false (.t 14) (.t 13), none, []⟩])
 (.seq (.cond (.t 15) (.skip)
 (.exit 0))
 (.seq (.block 1 (.seq (.ops [⟨some 16, .ix 6 (.t 12) (.t 14), none, []⟩,
  ⟨some 17, .load true 6 (.t 16), none, []⟩,
  ⟨some 5, .zero [.int .i64 0, .int .i64 0, .int .i64 0, .slice none 0 0, .int .i64 0, .slice none 0 0], none, []⟩,
  ⟨none, .store 6 (.t 5) (.t 17), none, []⟩])
 (.ops [⟨some 18, .mv (.t 3), none, []⟩,
  ⟨some 19, .load true 6 (.t 5), none, []⟩,
  ⟨some 20, .call 47 [.t 19], none, [.f 1]⟩,
  ⟨some 21, .lit 6 [.t 20], none, []⟩,
  ⟨some 22, .app 6 (.t 18) (.t 21), none, []⟩,
  ⟨some 3, .mv (.t 22), none, []⟩])))
 (.ops [⟨some 23, .bin .add false (.t 14) (.c (.int .i64 1)), none, []⟩,
  ⟨some 14, .mv (.t 23), none, []⟩])))))))
 (.seq (.ops [⟨some 24, .mv (.t 3), none, []⟩,
  ⟨some 25, .fld 5 (.t 1), none, []⟩,
  ⟨none, .store 1 (.t 25) (.t 24), none, []⟩])
 (.seq (.ops [⟨some 26, .load true 6 (.t 1), none, []⟩,
  ⟨none, .store 6 (.t 2) (.t 26), none, []⟩])
 (.ret))))))
theorem lk_i_ownShape : look Tryd.prog 47 = some (27, m_i_ownShape, [.cell true 6 2]) := by kernel_rfl
def m_i_hasBounds : M := .seq (.ops [⟨some 2, .mv (.c (.bool false)), none, []⟩])
 (.seq (.ops [⟨some 3, .mv (.t 0), none, []⟩,
  ⟨some 4, .bin .eql false (.t 3) (.c (.int .i64 3)), none, []⟩,
  ⟨some 5, .mv (.t 4), none, []⟩,
  ⟨some 6, .mv (.t 0), some (5, false), []⟩,
  ⟨some 7, .bin .eql false (.t 6) (.c (.int .i64 5)), some (5, false), []⟩,
  ⟨some 8, .pick (.t 5) (.c (.bool true)) (.t 7), none, []⟩,
  ⟨some 9, .mv (.t 8), none, []⟩,
  ⟨some 10, .mv (.t 0), some (9, false), []⟩,
  ⟨some 11, .bin .eql false (.t 10) (.c (.int .i64 6)), some (9, false), []⟩,
  ⟨some 12, .pick (.t 9) (.c (.bool true)) (.t 11), none, []⟩,
  ⟨some 13, .mv (.t 12), none, []⟩,
  ⟨some 14, .mv (.t 0), some (13, false), []⟩,
  ⟨some 15, .bin .eql false (.t 14) (.c (.int .i64 7)), some (13, false), []⟩,
  ⟨some 16, .pick (.t 13) (.c (.bool true)) (.t 15), none, []⟩,
  ⟨some 2, .mv (.t 16), none, []⟩])
 (.ret))
theorem lk_i_hasBounds : look Tryd.prog 49 = some (17, m_i_hasBounds, [.tm 2]) := by kernel_rfl
def m_i_isNumeric : M := .seq (.ops [⟨some 2, .mv (.c (.bool false)), none, []⟩])
 (.seq (.ops [⟨some 3, .mv (.t 0), none, []⟩,
  ⟨some 4, .bin .eql false (.t 3) (.c (.int .i64 3)), none, []⟩,
  ⟨some 5, .mv (.t 4), none, []⟩,
  ⟨some 6, .mv (.t 0), some (5, false), []⟩,
  ⟨some 7, .bin .eql false (.t 6) (.c (.int .i64 4)), some (5, false), []⟩,
  ⟨some 8, .pick (.t 5) (.c (.bool true)) (.t 7), none, []⟩,
  ⟨some 2, .mv (.t 8), none, []⟩])
 (.ret))
theorem lk_i_isNumeric : look Tryd.prog 50 = some (9, m_i_isNumeric, [.tm 2]) := by kernel_rfl
def m_i_joinedMaps : M := .seq (.ops [⟨some 2, .box (.t 0), none, []⟩,
  ⟨some 3, .box (.t 1), none, []⟩,
  ⟨some 4, .zero [.int .i64 0, .int .i64 0, .int .i64 0, .slice none 0 0, .int .i64 0, .slice none 0 0], none, []⟩])
 (.seq (.ops [⟨some 14, .build [.int .i64 0, .int .i64 0, .int .i64 0, .slice none 0 0, .int .i64 0, .slice none 0 0] [(0, 1, .c (.int .i64 8))], none, []⟩,
  ⟨some 5, .zero [.int .i64 0, .int .i64 0, .int .i64 0, .slice none 0 0, .int .i64 0, .slice none 0 0], none, []⟩,
  ⟨none, .store 6 (.t 5) (.t 14), none, []⟩])
 (.seq (.ops [⟨some 15, .mkfn 71 [.t 2, .t 3, .t 5], none, []⟩,
  ⟨some 6, .mv (.t 15), none, []⟩])
 (.seq (.seq (.ops [⟨some 16, .fld 3 (.t 2), none, []⟩,
  ⟨some 17, .load false 1 (.t 16), none, []⟩,
  ⟨some 18, .fld 4 (.t 2), none, []⟩,
  ⟨some 19, .load false 1 (.t 18), none, []⟩,
  ⟨some 20, .slc 1 (.t 17) none (some (.t 19)), none, []⟩,
  ⟨some 21, .len (.t 20), none, []⟩,
  ⟨some 22, .mv (.c (.int .i64 0)), none, []⟩])
 (.block 0 (.loop (.seq (.ops [⟨some 23, .bin .lss false (.t 22) (.t 21), none, []⟩])
 (.seq (.cond (.t 23) (.skip)
 (.exit 0))
 (.seq (.block 1 (.seq (.ops [⟨some 24, .ix 1 (.t 20) (.t 22), none, []⟩,
  ⟨some 25, .load false 1 (.t 24), none, []⟩,
  ⟨some 8, .mv (.t 25), none, []⟩])
 (.seq (.ops [⟨some 27, .load true 6 (.t 3), none, []⟩,
  ⟨some 28, .mv (.t 8), none, []⟩,
  ⟨some 29, .call 72 [.t 27, .t 28], none, [.f 1]⟩,
  ⟨some 26, .mv (.t 29), none, []⟩,
  ⟨some 30, .ext (.t 26) 0, none, []⟩,
  ⟨some 31, .ext (.t 26) 1, none, []⟩,
  ⟨some 32, .ext (.t 26) 2, none, []⟩,
  ⟨some 9, .zero [.int .i64 0, .int .i64 0, .int .i64 0, .slice none 0 0, .int .i64 0, .slice none 0 0], none, []⟩,
  ⟨none, .store 6 (.t 9) (.t 30), none, []⟩,
  ⟨some 10, .mv (.t 31), none, []⟩,
  ⟨some 11, .mv (.t 32), none, []⟩])
 (.seq (.ops [⟨some 33, .mv (.t 10), none, []⟩])
 (.cond (.t 33) (.ops [⟨some 34, .mv (.t 6), none, []⟩,
  ⟨some 35, .mv (.t 8), none, []⟩,
  ⟨some 36, .callv (.t 34) [.t 35], none, [.f 1]⟩])
 (.skip))))))
 (.ops [⟨some 37, .bin .add false (.t 22) (.c (.int .i64 1)), none, []⟩,
  ⟨some 22, .mv (.t 37), none, []⟩])))))))
 (.seq (.ops [⟨some 38, .fld 3 (.t 5), none, []⟩,
  ⟨some 39, .load false 1 (.t 38), none, []⟩,
  ⟨some 40, .len (.t 39), none, []⟩,
  ⟨some 41, .fld 4 (.t 5), none, []⟩,
  ⟨none, .store 1 (.t 41) (.t 40), none, []⟩])
 (.seq (.seq (.ops [⟨some 42, .fld 3 (.t 2), none, []⟩,
  ⟨some 43, .load false 1 (.t 42), none, []⟩,
  ⟨some 44, .fld 3 (.t 3), none, []⟩,
  ⟨some 45, .load false 1 (.t 44), none, []⟩,
  ⟨some 46, .lit 1 [.t 43, .t 45], none, []⟩,
  ⟨some 47, .call 73 [.t 46], none, [.f 1]⟩,
  ⟨some 48, .len (.t 47), none, []⟩,
  ⟨some 49, .mv (.c (.int .i64 0)), none, []⟩])
 (.block 2 (.loop (.seq (.ops [⟨some 50, .bin .lss false (.t 49) (.t 48), none, []⟩])
 (.seq (.cond (.t 50) (.skip)
 (.exit 2))
 (.seq (.block 3 (.seq (.ops [⟨some 51, .ix 1 (.t 47) (.t 49), none, []⟩,
  ⟨some 52, .load false 1 (.t 51), none, []⟩,
  ⟨some 13, .mv (.t 52), none, []⟩])
 (.seq (.ops [⟨some 53, .fld 3 (.t 5), none, []⟩,
  ⟨some 54, .load false 1 (.t 53), none, []⟩,
  ⟨some 55, .mv (.t 13), none, []⟩,
  ⟨some 56, .call 74 [.t 54, .t 55], none, [.f 1]⟩,
  ⟨some 57, .not (.t 56), none, []⟩])
 (.cond (.t 57) (.ops [⟨some 58, .mv (.t 6), none, []⟩,
  ⟨some 59, .mv (.t 13), none, []⟩,
  ⟨some 60, .callv (.t 58) [.t 59], none, [.f 1]⟩])
 (.skip)))))
 (.ops [⟨some 61, .bin .add false (.t 49) (.c (.int .i64 1)), none, []⟩,
  ⟨some 49, .mv (.t 61), none, []⟩])))))))
 (.seq (.ops [⟨some 62, .load true 6 (.t 5), none, []⟩,
  ⟨none, .store 6 (.t 4) (.t 62), none, []⟩])
 (.ret)))))))
theorem lk_i_joinedMaps : look Tryd.prog 51 = some (63, m_i_joinedMaps, [.cell true 6 4]) := by kernel_rfl
def m_s_l15Both : M := .seq (.ops [⟨some 3, .box (.t 0), none, []⟩,
  ⟨some 4, .box (.t 1), none, []⟩,
  ⟨some 6, .mv (.c (.bool false)), none, []⟩])
 (.seq (.ops [⟨some 9, .fld 3 (.t 3), none, []⟩,
  ⟨some 10, .load false 1 (.t 9), none, []⟩,
  ⟨some 11, .mv (.t 2), none, []⟩,
  ⟨some 13, .fld 3 (.t 4), none, []⟩,
  ⟨some 14, .load false 1 (.t 13), none, []⟩,
  ⟨some 15, .mv (.t 2), none, []⟩,
  ⟨some 12, .call 63 [.t 10, .t 11], none, []⟩,
  ⟨some 16, .call 63 [.t 14, .t 15], none, [.f 0]⟩,
  ⟨some 7, .mv (.t 12), none, []⟩,
  ⟨some 8, .mv (.t 16), none, []⟩])
 (.seq (.ops [⟨some 17, .mv (.t 7), none, []⟩,
  ⟨some 18, .bin .geq false (.t 17) (.c (.int .i64 0)), none, []⟩,
  ⟨some 19, .mv (.t 18), none, []⟩,
  ⟨some 20, .mv (.t 8), some (19, true), []⟩,
  ⟨some 21, .bin .geq false (.t 20) (.c (.int .i64 0)), some (19, true), []⟩,
  ⟨some 22, .pick (.t 19) (.t 21) (.c (.bool false)), none, []⟩,
  ⟨some 23, .mv (.t 22), none, []⟩,
  ⟨some 24, .mv (.t 7), some (23, true), []⟩,
  ⟨some 25, .fld 4 (.t 3), some (23, true), []⟩,
  ⟨some 26, .load false 1 (.t 25), some (23, true), []⟩,
  ⟨some 27, .bin .lss false (.t 24) (.t 26), some (23, true), []⟩,
  ⟨some 28, .pick (.t 23) (.t 27) (.c (.bool false)), none, []⟩,
  ⟨some 29, .mv (.t 28), none, []⟩,
  ⟨some 30, .mv (.t 8), some (29, true), []⟩,
  ⟨some 31, .fld 4 (.t 4), some (29, true), []⟩,
  ⟨some 32, .load false 1 (.t 31), some (29, true), []⟩,
  ⟨some 33, .bin .lss false (.t 30) (.t 32), some (29, true), []⟩,
  ⟨some 34, .pick (.t 29) (.t 33) (.c (.bool false)), none, []⟩,
  ⟨some 6, .mv (.t 34), none, []⟩])
 (.ret)))
theorem lk_s_l15Both : look Tryd.prog 62 = some (35, m_s_l15Both, [.tm 6]) := by kernel_rfl
def m_s_l15Kid : M := .seq (.ops [⟨some 3, .box (.t 0), none, []⟩,
  ⟨some 4, .box (.t 1), none, []⟩,
  ⟨some 6, .zero [.int .i64 0, .int .i64 0, .int .i64 0, .slice none 0 0, .int .i64 0, .slice none 0 0], none, []⟩])
 (.seq (.ops [⟨some 9, .fld 3 (.t 3), none, []⟩,
  ⟨some 10, .load false 1 (.t 9), none, []⟩,
  ⟨some 11, .mv (.t 2), none, []⟩,
  ⟨some 13, .fld 3 (.t 4), none, []⟩,
  ⟨some 14, .load false 1 (.t 13), none, []⟩,
  ⟨some 15, .mv (.t 2), none, []⟩,
  ⟨some 12, .call 63 [.t 10, .t 11], none, []⟩,
  ⟨some 16, .call 63 [.t 14, .t 15], none, [.f 0]⟩,
  ⟨some 7, .mv (.t 12), none, []⟩,
  ⟨some 8, .mv (.t 16), none, []⟩])
 (.seq (.block 0 (.seq (.ops [⟨some 18, .mv (.t 7), none, []⟩,
  ⟨some 19, .bin .geq false (.t 18) (.c (.int .i64 0)), none, []⟩,
  ⟨some 20, .mv (.t 19), none, []⟩,
  ⟨some 21, .mv (.t 8), some (20, true), []⟩,
  ⟨some 22, .bin .geq false (.t 21) (.c (.int .i64 0)), some (20, true), []⟩,
  ⟨some 23, .pick (.t 20) (.t 22) (.c (.bool false)), none, []⟩,
  ⟨some 17, .mv (.t 23), none, []⟩])
 (.cond (.t 17) (.seq (.ops [⟨some 24, .fld 5 (.t 3), none, []⟩,
  ⟨some 25, .load false 1 (.t 24), none, []⟩,
  ⟨some 26, .mv (.t 7), none, []⟩,
  ⟨some 27, .ix 6 (.t 25) (.t 26), none, []⟩,
  ⟨some 28, .load true 6 (.t 27), none, []⟩,
  ⟨some 29, .fld 5 (.t 4), none, []⟩,
  ⟨some 30, .load false 1 (.t 29), none, []⟩,
  ⟨some 31, .mv (.t 8), none, []⟩,
  ⟨some 32, .ix 6 (.t 30) (.t 31), none, []⟩,
  ⟨some 33, .load true 6 (.t 32), none, []⟩,
  ⟨some 34, .call 6 [.t 28, .t 33], none, [.f 0]⟩,
  ⟨none, .store 6 (.t 6) (.t 34), none, []⟩])
 (.ret))
 (.seq (.ops [⟨some 36, .mv (.t 7), none, []⟩,
  ⟨some 37, .bin .geq false (.t 36) (.c (.int .i64 0)), none, []⟩,
  ⟨some 35, .mv (.t 37), none, []⟩])
 (.cond (.t 35) (.seq (.ops [⟨some 38, .fld 5 (.t 3), none, []⟩,
  ⟨some 39, .load false 1 (.t 38), none, []⟩,
  ⟨some 40, .mv (.t 7), none, []⟩,
  ⟨some 41, .ix 6 (.t 39) (.t 40), none, []⟩,
  ⟨some 42, .load true 6 (.t 41), none, []⟩,
  ⟨some 43, .call 44 [.t 42], none, [.f 1]⟩,
  ⟨none, .store 6 (.t 6) (.t 43), none, []⟩])
 (.ret))
 (.skip))))))
 (.seq (.ops [⟨some 44, .fld 5 (.t 4), none, []⟩,
  ⟨some 45, .load false 1 (.t 44), none, []⟩,
  ⟨some 46, .mv (.t 8), none, []⟩,
  ⟨some 47, .ix 6 (.t 45) (.t 46), none, []⟩,
  ⟨some 48, .load true 6 (.t 47), none, []⟩,
  ⟨some 49, .call 44 [.t 48], none, [.f 1]⟩,
  ⟨none, .store 6 (.t 6) (.t 49), none, []⟩])
 (.ret))))
theorem lk_s_l15Kid : look Tryd.prog 64 = some (50, m_s_l15Kid, [.cell true 6 6]) := by kernel_rfl
def m_slices_Clone_string_string : M := .seq (.ops [⟨some 2, .mv (.c (.slice none 0 0)), none, []⟩])
 (.seq (.seq (.ops [⟨some 3, .mv (.t 0), none, []⟩,
  ⟨some 4, .bin .eql false (.t 3) (.c (.slice none 0 0)), none, []⟩])
 (.cond (.t 4) (.seq (.ops [⟨some 2, .mv (.c (.slice none 0 0)), none, []⟩])
 (.ret))
 (.skip)))
 (.seq (.ops [⟨some 5, .lit 1 [], none, []⟩,
  ⟨some 6, .mv (.t 0), none, []⟩,
  ⟨some 7, .app 1 (.t 5) (.t 6), none, []⟩,
  ⟨some 2, .mv (.t 7), none, []⟩])
 (.ret)))
theorem lk_slices_Clone_string_string : look Tryd.prog 68 = some (8, m_slices_Clone_string_string, [.tm 2]) := by kernel_rfl
def m_i_joinedMaps_1 : M := .seq (.ops [⟨some 12, .load true 6 (.t 1), none, []⟩,
  ⟨some 13, .mv (.t 0), none, []⟩,
  ⟨some 14, .call 72 [.t 12, .t 13], none, [.f 1]⟩,
  ⟨some 11, .mv (.t 14), none, []⟩,
  ⟨some 15, .ext (.t 11) 0, none, []⟩,
  ⟨some 16, .ext (.t 11) 1, none, []⟩,
  ⟨some 17, .ext (.t 11) 2, none, []⟩,
  ⟨some 5, .zero [.int .i64 0, .int .i64 0, .int .i64 0, .slice none 0 0, .int .i64 0, .slice none 0 0], none, []⟩,
  ⟨none, .store 6 (.t 5) (.t 15), none, []⟩,
  ⟨some 6, .mv (.t 16), none, []⟩,
  ⟨some 7, .mv (.t 17), none, []⟩])
 (.seq (.ops [⟨some 19, .load true 6 (.t 2), none, []⟩,
  ⟨some 20, .mv (.t 0), none, []⟩,
  ⟨some 21, .call 72 [.t 19, .t 20], none, [.f 1]⟩,
  ⟨some 18, .mv (.t 21), none, []⟩,
  ⟨some 22, .ext (.t 18) 0, none, []⟩,
  ⟨some 23, .ext (.t 18) 1, none, []⟩,
  ⟨some 24, .ext (.t 18) 2, none, []⟩,
  ⟨some 8, .zero [.int .i64 0, .int .i64 0, .int .i64 0, .slice none 0 0, .int .i64 0, .slice none 0 0], none, []⟩,
  ⟨none, .store 6 (.t 8) (.t 22), none, []⟩,
  ⟨some 9, .mv (.t 23), none, []⟩,
  ⟨some 10, .mv (.t 24), none, []⟩])
 (.seq (.block 0 (.seq (.ops [⟨some 26, .mv (.t 7), none, []⟩,
  ⟨some 27, .mv (.t 26), none, []⟩,
  ⟨some 28, .mv (.t 10), some (27, true), []⟩,
  ⟨some 29, .pick (.t 27) (.t 28) (.c (.bool false)), none, []⟩,
  ⟨some 25, .mv (.t 29), none, []⟩])
 (.cond (.t 25) (.ops [⟨some 30, .load true 6 (.t 5), none, []⟩,
  ⟨some 31, .load true 6 (.t 8), none, []⟩,
  ⟨some 32, .call 8 [.t 30, .t 31], none, [.f 1]⟩,
  ⟨none, .store 6 (.t 5) (.t 32), none, []⟩])
 (.seq (.ops [⟨some 34, .mv (.t 10), none, []⟩,
  ⟨some 33, .mv (.t 34), none, []⟩])
 (.cond (.t 33) (.ops [⟨some 35, .load true 6 (.t 8), none, []⟩,
  ⟨none, .store 6 (.t 5) (.t 35), none, []⟩])
 (.skip))))))
 (.ops [⟨some 36, .fld 3 (.t 3), none, []⟩,
  ⟨some 37, .load false 1 (.t 36), none, []⟩,
  ⟨some 38, .mv (.t 0), none, []⟩,
  ⟨some 39, .litq 1 [.t 38], none, []⟩,
  ⟨some 41, .fld 5 (.t 3), none, []⟩,
  ⟨some 42, .load false 1 (.t 41), none, []⟩,
  ⟨some 43, .load true 6 (.t 5), none, []⟩,
  ⟨some 44, .litq 6 [.t 43], none, []⟩,
  ⟨some 40, .app 1 (.t 37) (.t 39), none, []⟩,
  ⟨some 46, .fld 3 (.t 3), none, []⟩,
  ⟨some 45, .app 6 (.t 42) (.t 44), none, []⟩,
  ⟨none, .store 1 (.t 46) (.t 40), none, []⟩,
  ⟨some 47, .fld 5 (.t 3), none, []⟩,
  ⟨none, .store 1 (.t 47) (.t 45), none, []⟩])))
theorem lk_i_joinedMaps_1 : look Tryd.prog 71 = some (48, m_i_joinedMaps_1, []) := by kernel_rfl
def m_i_Shape_field : M := .seq (.ops [⟨some 2, .box (.t 0), none, []⟩,
  ⟨some 4, .zero [.int .i64 0, .int .i64 0, .int .i64 0, .slice none 0 0, .int .i64 0, .slice none 0 0], none, []⟩,
  ⟨some 5, .mv (.c (.bool false)), none, []⟩,
  ⟨some 6, .mv (.c (.bool false)), none, []⟩])
 (.seq (.ops [⟨some 8, .fld 3 (.t 2), none, []⟩,
  ⟨some 9, .load false 1 (.t 8), none, []⟩,
  ⟨some 10, .mv (.t 1), none, []⟩,
  ⟨some 11, .call 86 [.t 9, .t 10], none, [.f 1]⟩,
  ⟨some 7, .mv (.t 11), none, []⟩])
 (.seq (.seq (.ops [⟨some 12, .mv (.t 7), none, []⟩,
  ⟨some 13, .bin .lss false (.t 12) (.c (.int .i64 0)), none, []⟩])
 (.cond (.t 13) (.seq (.ops [⟨some 14, .build [.int .i64 0, .int .i64 0, .int .i64 0, .slice none 0 0, .int .i64 0, .slice none 0 0] [], none, []⟩,
  ⟨none, .store 6 (.t 4) (.t 14), none, []⟩,
  ⟨some 5, .mv (.c (.bool false)), none, []⟩,
  ⟨some 6, .mv (.c (.bool false)), none, []⟩])
 (.ret))
 (.skip)))
 (.seq (.ops [⟨some 15, .fld 5 (.t 2), none, []⟩,
  ⟨some 16, .load false 1 (.t 15), none, []⟩,
  ⟨some 17, .mv (.t 7), none, []⟩,
  ⟨some 18, .ix 6 (.t 16) (.t 17), none, []⟩,
  ⟨some 19, .load true 6 (.t 18), none, []⟩,
  ⟨some 20, .mv (.t 7), none, []⟩,
  ⟨some 21, .fld 4 (.t 2), none, []⟩,
  ⟨some 22, .load false 1 (.t 21), none, []⟩,
  ⟨some 23, .bin .lss false (.t 20) (.t 22), none, []⟩,
  ⟨none, .store 6 (.t 4) (.t 19), none, [.t 21]⟩,
  ⟨some 5, .mv (.t 23), none, []⟩,
  ⟨some 6, .mv (.c (.bool true)), none, []⟩])
 (.ret))))
theorem lk_i_Shape_field : look Tryd.prog 72 = some (24, m_i_Shape_field, [.cell true 6 4, .tm 5, .tm 6]) := by kernel_rfl
end Go.Proofs.YtpknmldpdoadgaaDoor

/- spec.l15Copy on values without memory. -/
namespace Go.Proofs.YtpknmldpdoadgaaDoor
open Go.RowKit
variable {T : World → Prop} {hT : Low ngl T}

def zSh : List PC := [pI 0, pI 0, pI 0, .sl 1 [], pI 0, .sl 1 []]
/-- the loop of l15Copy behind i rounds -/
def CpI (x : Sh) (m : Nat) (s : St) : Prop := ∃ (i tr : Nat) (rows : List (List PC)), i ≤ x.kids.length ∧ m = x.kids.length - i ∧ has s.tm [(1, .ref 0 0), (2, .ref 1 0), (3, .ref 2 0), (4, .d (pI i))] ∧
  s.bx = [shC x, zSh, shO x (.sl 3 (pSr x.keys)) (.sl tr rows)] ∧ erLL rows = shK (x.kids.take i) ∧ 2 ≤ tr ∧ 2 ≤ s.nt ∧ OwnL s.nt s.live (shO x (.sl 3 (pSr x.keys)) (.sl tr rows))

theorem shO_tok {x : Sh} {ks : List (List UInt8)} {tk tr : Nat} (h1 : 2 ≤ tk) (h2 : 2 ≤ tr) (rows : List (List PC)) : toksL (shO x (.sl tk (pSr ks)) (.sl tr rows)) = tk :: tr :: toksLL rows := by
  simp only [shO, toksL, toks_sl2 h1, toks_sl2 h2, pSr_tok, List.append_nil]; rfl
theorem shO_own {x : Sh} {ks : List (List UInt8)} {tk tr : Nat} (h1 : 2 ≤ tk) (h2 : 2 ≤ tr) (rows : List (List PC)) : ownedL (shO x (.sl tk (pSr ks)) (.sl tr rows)) = ownedLL rows := by
  simp only [shO, ownedL, owned_sl2 h1, owned_sl2 h2, pSr_own, Bool.and_true, Bool.true_and]
  rfl
theorem copy_step {n : Nat} (ih : ∀ x : Sh, x.nodes ≤ n → x.bulk ≤ 1048576 → FnO (env T hT) 44 [.ag (shC x)] (.ag (shC x))) (x : Sh) (hn : x.nodes ≤ n + 1) (hb : x.bulk ≤ 1048576) (hkl : x.keys.length ≤ 1048576) (hkk : x.kids.length ≤ 1048576)
    (hkid : ∀ (j : Nat) (h : j < x.kids.length), x.kids[j].nodes ≤ n ∧ x.kids[j].bulk ≤ 1048576) : FnO (env T hT) 44 [.ag (shC x)] (.ag (shC x)) := by
  refine fn_of (look_env lk_s_l15Copy) (by show 1 ≤ 32; decide) fun B hB => ?_
  unfold m_s_l15Copy
  refine mw_seq (mw_ops ?_)
  refine po_box rfl ?_
  refine po_zero ?_
  refine po_nil ?_
  refine mw_seq (mw_ops ?_)
  refine po_q rfl rfl ?_
  refine po_zero ?_
  refine po_store rfl rfl rfl ⟨rfl, Nat.le_of_ble_eq_true rfl⟩ rfl ?_
  refine po_nil ?_
  refine mw_seq (mw_ops ?_)
  refine po_lit rfl ?_
  iterate 2 (refine po_q rfl rfl ?_)
  refine po_app (t := 2) (es := []) (ds := pSr x.keys) rfl rfl (.inr (by decide)) (by rw [pSr_len]; simp; omega) (pSr_wid _) (by simp) ?_
  refine po_q rfl rfl ?_
  refine po_store rfl rfl rfl ⟨rfl, Nat.le_of_ble_eq_true rfl⟩ rfl ?_
  refine po_nil ?_
  refine mw_seq (mw_ops ?_)
  refine po_lit rfl ?_
  refine po_q rfl rfl ?_
  refine po_store rfl rfl rfl ⟨rfl, Nat.le_of_ble_eq_true rfl⟩ rfl ?_
  refine po_nil ?_
  refine mw_cut (fun s => ∃ m, CpI x m s ∧ m = 0) ?_ ?_
  · refine mw_seq (mw_ops ?_)
    refine po_q rfl rfl ?_
    refine po_nil ?_
    refine mw_block ?_
    refine mw_while (CpI x) x.kids.length ⟨0, 4, [], Nat.zero_le _, by simp, ⟨rfl, rfl, rfl, rfl, trivial⟩, rfl, rfl, by decide, by show 2 ≤ 5; decide, ?_⟩ ?_
    · exact ⟨by rw [shO_own (by decide) (by decide)]; rfl, by rw [shO_tok (by decide) (by decide)]; show [3, 4].Nodup; decide, by rw [shO_tok (by decide) (by decide)]; show ∀ t ∈ [3, 4], t ∈ [4, 3] ∧ t < 5; decide⟩
    · rintro m tm bx nt live ⟨i, tr, rows, hi, rfl, ht, hbx, hr, h2, hnt, hO⟩
      obtain ⟨tm0, rfl⟩ := has_ups ht
      simp only at hbx hnt hO; subst hbx
      refine mw_seq (mw_seq (mw_ops ?_))
      iterate 4 (refine po_q rfl rfl ?_)
      refine po_b rfl rfl (fun b hb' => ?_)
      refine po_nil ?_
      have hlen : (shK x.kids).length = x.kids.length := shK_len _
      refine mw_cond rfl (fun hc => ?_) (fun hc => ?_)
      · have hlt : i < x.kids.length := by
          subst hb'; have := of_decide_eq_true hc; rw [hlen] at this; omega
        refine mw_skip ?_
        refine mw_seq (mw_block (mw_ops ?_))
        iterate 5 (refine po_q rfl rfl ?_)
        refine po_ix (es := shK x.kids) (e := shC x.kids[i]) rfl rfl rfl ⟨by omega, by rw [Int.toNat_natCast]; exact shK_get hlt⟩ rfl ?_
        refine po_q rfl rfl ?_
        refine po_own (args := [.ag (shC x.kids[i])]) (congrArg (fun l => some [PV.ag l]) (shC_er _)) (ih _ (hkid i hlt).1 (hkid i hlt).2) ?_
        rintro (_ | cs | _ | _ | _ | _) nt2 hx hnd hmem hnt2 hown <;> try exact hown.elim
        · simp [PV.dat] at hx
        simp only [PV.dat, Option.some.injEq, PV.ag.injEq] at hx
        have hcs : cs.length = 6 := by
          have := congrArg List.length hx
          rw [erL_map] at this; simpa [shC] using this
        obtain ⟨c0, c1, c2, c3, c4, c5, rfl⟩ := six hcs
        refine po_q rfl rfl ?_
        have hrl := erLL_len hr
        rw [shK_len, List.length_take] at hrl
        refine po_app (t := tr) (es := rows) (ds := [[c0, c1, c2, c3, c4, c5]]) rfl rfl (.inr ?_) (by rw [List.length_singleton]; omega) (by simp) (erLL_wid hr (shK_wid _)) ?_
        · exact List.mem_append.2 (.inr (hO.mem tr (by rw [shO_tok (by decide) h2]; simp)).1)
        refine po_q rfl rfl ?_
        refine po_store rfl rfl rfl ⟨rfl, Nat.le_of_ble_eq_true rfl⟩ rfl ?_
        refine po_nil ?_
        refine mw_ops ?_
        iterate 3 (refine po_q rfl rfl ?_)
        refine po_nil ?_
        refine ⟨x.kids.length - (i + 1), by omega, i + 1, nt2, rows ++ [[c0, c1, c2, c3, c4, c5]], hlt, rfl, ⟨rfl, rfl, rfl, ?_, trivial⟩, rfl, ?_, by omega, by show 2 ≤ nt2 + 1; omega, ?_⟩
        · show PV.d (.v (.int .i64 (IntKind.wrap .i64 ((i : Int) + 1)))) = _
          rw [wrap_lt (by omega) (by omega)]; rfl
        · rw [erLL_append, hr, shK_take hlt, ← hx]; rfl
        · exact hO.push (a := [_, _, _, _, _]) (b := []) h2 (by omega) hown hnd hmem (by omega)
      · have hge : i = x.kids.length := by
          subst hb'; have := of_decide_eq_false hc; rw [hlen] at this; omega
        refine mw_exit ?_
        exact ⟨0, ⟨i, tr, rows, hi, by omega, ⟨rfl, rfl, rfl, rfl, trivial⟩, rfl, hr, h2, hnt, hO⟩, rfl⟩
  · rintro tm bx nt live ⟨m, ⟨i, tr, rows, hi, rfl, ht, hbx, hr, h2, hnt, hO⟩, hm⟩
    obtain ⟨tm0, rfl⟩ := has_ups ht
    simp only at hbx hnt hO; subst hbx
    refine mw_seq (mw_ops ?_)
    refine po_q rfl rfl ?_
    refine po_store rfl rfl rfl ⟨rfl, Nat.le_of_ble_eq_true rfl⟩ rfl ?_
    refine po_nil ?_
    refine mw_ret ⟨.inr rfl, _, rfl, ?_⟩
    have hie : i = x.kids.length := by omega
    rw [hie, List.take_length] at hr
    refine ⟨congrArg (fun l => some (PV.ag l)) (shO_er (x := x) (by simp only [PC.er, pSr_er]; rfl) (by simp only [PC.er, hr])), hO.nd, fun t ht => (hO.mem t ht).1, hO.own⟩
theorem copy_fn : ∀ (n : Nat) (x : Sh), x.nodes ≤ n → x.bulk ≤ 1048576 → FnO (env T hT) 44 [.ag (shC x)] (.ag (shC x))
  | 0, x, hn, _ => by obtain ⟨k, l, h, ks, m, kids⟩ := x; simp [Sh.nodes] at hn
  | n + 1, x, hn, hb => by
    obtain ⟨k, l, h, ks, m, kids⟩ := x
    have hb' := hb
    simp only [Sh.bulk] at hb'
    refine copy_step (copy_fn n) _ hn hb (by show ks.length ≤ _; omega) (by show kids.length ≤ _; omega) fun j hj => ?_
    have hj' : j < kids.length := hj
    have h1 := Sh.nodes_get kids j hj'
    simp only [Sh.nodes] at hn
    exact ⟨by show kids[j].nodes ≤ n; omega, Sh.bulk_get (by omega) j hj'⟩
end Go.Proofs.YtpknmldpdoadgaaDoor

/- The join of two shapes. No program in sight. -/
namespace Go.Proofs.YtpknmldpdoadgaaDoor
open Go.RowKit

def numK (k : Int) : Bool := decide (k = 3) || decide (k = 4)
def bdK (k : Int) : Bool := decide (k = 3) || (decide (k = 5) || (decide (k = 6) || decide (k = 7)))
/-- a key has to be there by a shape -/
def mustIn (b : Sh) (k : List UInt8) : Bool := decide (0 ≤ ixF b.keys k 0) && decide (ixF b.keys k 0 < b.must)
def jKeys1 (a b : Sh) : List (List UInt8) := (a.keys.take a.must.toNat).filter (mustIn b)
def addK (acc : List (List UInt8)) : List (List UInt8) → List (List UInt8)
  | [] => acc
  | k :: ks => addK (if k ∈ acc then acc else acc ++ [k]) ks
def jKeys (a b : Sh) : List (List UInt8) := addK (jKeys1 a b) (a.keys ++ b.keys)
def kidAt (a : Sh) (k : List UInt8) : Sh := a.kids.getD (ixF a.keys k 0).toNat shNil
def jKid (f : Sh → Sh → Sh) (a b : Sh) (k : List UInt8) : Sh :=
  if 0 ≤ ixF a.keys k 0 then (if 0 ≤ ixF b.keys k 0 then f (kidAt a k) (kidAt b k) else kidAt a k) else kidAt b k
def joinMaps (f : Sh → Sh → Sh) (a b : Sh) : Sh := .mk 8 0 0 (jKeys a b) (jKeys1 a b).length ((jKeys a b).map (jKid f a b))
def join1 (f : Sh → Sh → Sh) (a b : Sh) : Sh :=
  if Sh.same a b = true then a
  else if a.kind = b.kind ∧ bdK a.kind = true then .mk a.kind (min a.low b.low) (max a.high b.high) [] 0 (if a.kind = 7 then [f (a.kids.headD shNil) (b.kids.headD shNil)] else [])
  else if (numK a.kind && numK b.kind) = true then .mk 4 0 0 [] 0 []
  else if a.kind = 8 ∧ b.kind = 8 then joinMaps f a b
  else shNil
/-- the join, or any -/
def joinS : Nat → Sh → Sh → Sh
  | 0, _, _ => shNil
  | n + 1, a, b => if (a.ok && b.ok) = true then (if (join1 (joinS n) a b).ok = true then join1 (joinS n) a b else shNil) else shNil

theorem addK_snoc (acc : List (List UInt8)) : ∀ (ks : List (List UInt8)) (k : List UInt8), addK acc (ks ++ [k]) = if k ∈ addK acc ks then addK acc ks else addK acc ks ++ [k] := by
  intro ks
  induction ks generalizing acc with
  | nil => intro k; rfl
  | cons x r ih => intro k; simp only [List.cons_append, addK]; exact ih _ k
theorem addK_take {acc ks : List (List UInt8)} {j : Nat} (h : j < ks.length) : addK acc (ks.take (j + 1)) = if ks[j] ∈ addK acc (ks.take j) then addK acc (ks.take j) else addK acc (ks.take j) ++ [ks[j]] := by
  rw [List.take_succ_eq_append_getElem h, addK_snoc]
theorem addK_len (acc : List (List UInt8)) : ∀ ks : List (List UInt8), (addK acc ks).length ≤ acc.length + ks.length := by
  intro ks
  induction ks generalizing acc with
  | nil => simp [addK]
  | cons x r ih =>
    simp only [addK, List.length_cons]
    by_cases h : x ∈ acc
    · rw [if_pos h]; have := ih acc; omega
    · rw [if_neg h]; have := ih (acc ++ [x]); simp only [List.length_append, List.length_cons, List.length_nil] at this; omega
theorem sh_self_kind {k l hi m : Int} {ks : List (List UInt8)} {kids : List Sh} (h : Sh.self (.mk k l hi ks m kids) = true) : 0 ≤ k ∧ k ≤ 9 := by
  unfold Sh.self at h; simp only at h
  by_cases h8 : k = 8
  · omega
  rw [if_neg h8] at h
  by_cases h3 : k = 3 ∨ k = 5 ∨ k = 6
  · omega
  rw [if_neg h3] at h
  by_cases h7 : k = 7
  · omega
  rw [if_neg h7] at h
  by_cases h9 : k = 9
  · omega
  rw [if_neg h9] at h
  by_cases h0 : k = 0 ∨ k = 1 ∨ k = 2 ∨ k = 4
  · omega
  rw [if_neg h0] at h; cases h
/-- of kinds 3, 5, 6, 7: nothing but bounds and the part of a list -/
theorem sh_self_bd {k l hi m : Int} {ks : List (List UInt8)} {kids : List Sh} (h : Sh.self (.mk k l hi ks m kids) = true) (hk : bdK k = true) : ks = [] ∧ m = 0 ∧ (k ≠ 7 → kids = []) ∧ (k = 7 → ∃ kid, kids = [kid]) := by
  unfold bdK at hk; simp only [Bool.or_eq_true, decide_eq_true_eq] at hk
  by_cases h7 : k = 7
  · subst h7
    obtain ⟨kid, hkid⟩ := sh_self7 h
    unfold Sh.self at h; simp at h
    exact ⟨h.1, h.2.1, fun e => absurd rfl e, fun _ => ⟨kid, hkid⟩⟩
  · have h3 : k = 3 ∨ k = 5 ∨ k = 6 := by omega
    unfold Sh.self at h; simp only at h
    rw [if_neg (by omega), if_pos h3] at h
    simp only [Bool.and_eq_true, decide_eq_true_eq] at h
    exact ⟨h.1, h.2.1, fun _ => h.2.2, fun e => absurd e h7⟩
/-- two right shapes of kind 4 are one -/
theorem sh_self_four {l hi m l' hi' m' : Int} {ks ks' : List (List UInt8)} {kids kids' : List Sh} (h : Sh.self (.mk 4 l hi ks m kids) = true) (h' : Sh.self (.mk 4 l' hi' ks' m' kids') = true) : Sh.mk 4 l hi ks m kids = Sh.mk 4 l' hi' ks' m' kids' := by
  unfold Sh.self at h h'; simp at h h'
  obtain ⟨rfl, rfl, rfl, rfl, rfl⟩ := h
  obtain ⟨rfl, rfl, rfl, rfl, rfl⟩ := h'
  rfl
end Go.Proofs.YtpknmldpdoadgaaDoor

/- How much there is in a right shape. No program in sight. -/
namespace Go.Proofs.YtpknmldpdoadgaaDoor
open Go.RowKit

theorem ssBulk_le : ∀ ks : List (List UInt8), (∀ k ∈ ks, k.length ≤ 100) → ssBulk ks ≤ 100 * ks.length
  | [], _ => by simp [ssBulk]
  | k :: ks, h => by
    have h1 := h k (by simp)
    have h2 := ssBulk_le ks (fun x hx => h x (by simp [hx]))
    simp only [ssBulk, List.length_cons]; omega
theorem keysOk_len {ks : List (List UInt8)} (h : keysOk ks = true) : ∀ k ∈ ks, k.length ≤ 100 := by
  unfold keysOk at h; simp only [Bool.and_eq_true, List.all_eq_true] at h
  intro k hk; have := h.1 k hk; unfold keyOk at this; simp only [Bool.and_eq_true, decide_eq_true_eq] at this; exact this.1
theorem sh_self_nokeys {k l hi m : Int} {ks : List (List UInt8)} {kids : List Sh} (h : Sh.self (.mk k l hi ks m kids) = true) (h8 : k ≠ 8) : ks = [] ∧ m = 0 := by
  unfold Sh.self at h; simp only at h
  rw [if_neg h8] at h
  by_cases h3 : k = 3 ∨ k = 5 ∨ k = 6
  · rw [if_pos h3] at h; simp only [Bool.and_eq_true, decide_eq_true_eq] at h; exact ⟨h.1, h.2.1⟩
  rw [if_neg h3] at h
  by_cases h7 : k = 7
  · rw [if_pos h7] at h; simp only [Bool.and_eq_true, decide_eq_true_eq] at h; exact ⟨h.1, h.2.1⟩
  rw [if_neg h7] at h
  by_cases h9 : k = 9
  · rw [if_pos h9] at h; simp only [Bool.and_eq_true, decide_eq_true_eq] at h; exact ⟨h.2.2.1, h.2.2.2.1⟩
  rw [if_neg h9] at h
  by_cases h0 : k = 0 ∨ k = 1 ∨ k = 2 ∨ k = 4
  · rw [if_pos h0] at h; simp only [Bool.and_eq_true, decide_eq_true_eq] at h; exact ⟨h.2.2.1, h.2.2.2.1⟩
  rw [if_neg h0] at h; cases h
theorem sh_self_load {k l hi m : Int} {ks : List (List UInt8)} {kids : List Sh} (h : Sh.self (.mk k l hi ks m kids) = true) : ks.length + ssBulk ks ≤ 101 * kids.length := by
  by_cases h8 : k = 8
  · subst h8
    obtain ⟨h1, h2, _⟩ := sh_self8 h
    have := ssBulk_le ks (keysOk_len h1); omega
  · obtain ⟨rfl, _⟩ := sh_self_nokeys h h8
    simp [ssBulk]
mutual
theorem Sh.right_bulk : ∀ (d : Int) (x : Sh), Sh.right d x = true → x.bulk + 102 ≤ 102 * x.nodes
  | d, .mk k l hi ks m kids, h => by
    simp only [Sh.right, Bool.and_eq_true] at h
    have h1 := Sh.rights_bulk (d - 1) kids h.1
    have h2 := sh_self_load h.2.2
    simp only [Sh.bulk, Sh.nodes]; omega
theorem Sh.rights_bulk : ∀ (d : Int) (xs : List Sh), Sh.rights d xs = true → Sh.bulks xs + 102 * xs.length ≤ 102 * Sh.nodess xs
  | _, [], _ => by simp [Sh.bulks, Sh.nodess]
  | d, x :: xs, h => by
    simp only [Sh.rights, Bool.and_eq_true] at h
    have h1 := Sh.right_bulk d x h.1
    have h2 := Sh.rights_bulk d xs h.2
    simp only [Sh.bulks, Sh.nodess, List.length_cons]; omega
end
theorem Sh.ok_bulk {x : Sh} (h : x.ok = true) : x.bulk ≤ 10200 ∧ x.nodes ≤ 100 := by
  unfold Sh.ok at h; simp only [Bool.and_eq_true, decide_eq_true_eq] at h
  have := Sh.right_bulk 8 x h.1; omega
end Go.Proofs.YtpknmldpdoadgaaDoor

/- Plain facts on UTF-8: a sign by its bytes, a text by its signs. No program in sight. -/
namespace Go.Proofs.YtpknmldpdoadgaaDoor
open Go.RowKit Go.Lib

/-- the bytes of a sign; none where a number is no sign -/
def utf (n : Nat) : List UInt8 :=
  if 1114111 < n ∨ (55296 ≤ n ∧ n ≤ 57343) then []
  else if n < 128 then [byteOf n]
  else if n < 2048 then [byteOf (192 + n / 64), byteOf (128 + n % 64)]
  else if n < 65536 then [byteOf (224 + n / 4096), byteOf (128 + n / 64 % 64), byteOf (128 + n % 64)]
  else [byteOf (240 + n / 262144), byteOf (128 + n / 4096 % 64), byteOf (128 + n / 64 % 64), byteOf (128 + n % 64)]
/-- how many bytes, and what the first one holds -/
def many (b : Nat) : Nat × Nat :=
  if b < 128 then (1, b) else if 192 ≤ b ∧ b ≤ 223 then (2, b % 32) else if 224 ≤ b ∧ b ≤ 239 then (3, b % 16) else if 240 ≤ b ∧ b ≤ 247 then (4, b % 8) else (0, 0)
def sgnV (n : Nat) (l : List UInt8) : Nat := l.foldl (fun n b => n * 64 + b.toNat % 64) n
/-- the sign that stands ahead, and its width -/
def sgn (l : List UInt8) : Option (Nat × Nat) :=
  if l = [] ∨ ((decodeL l).1 = 65533 ∧ (decodeL l).2 = 1) then none else some (decodeL l)

theorem byteOf_eq {m : Nat} {b : UInt8} : byteOf m = b ↔ m % 256 = b.toNat := by
  rw [← UInt8.toNat_inj, byteOf_toNat]
theorem many_cases (b : Nat) : (b < 128 ∧ many b = (1, b)) ∨ (192 ≤ b ∧ b ≤ 223 ∧ many b = (2, b % 32)) ∨ (224 ≤ b ∧ b ≤ 239 ∧ many b = (3, b % 16)) ∨ (240 ≤ b ∧ b ≤ 247 ∧ many b = (4, b % 8)) ∨ ((128 ≤ b ∧ b < 192 ∨ 248 ≤ b) ∧ many b = (0, 0)) := by
  unfold many
  by_cases h1 : b < 128
  · simp [h1]
  by_cases h2 : 192 ≤ b ∧ b ≤ 223
  · simp [h1, h2]
  by_cases h3 : 224 ≤ b ∧ b ≤ 239
  · rw [if_neg h1, if_neg h2, if_pos h3]; simp [h3]
  by_cases h4 : 240 ≤ b ∧ b ≤ 247
  · rw [if_neg h1, if_neg h2, if_neg h3, if_pos h4]; simp [h4]
  · rw [if_neg h1, if_neg h2, if_neg h3, if_neg h4]; right; right; right; right; exact ⟨by omega, rfl⟩

theorem utf_len (n : Nat) : (utf n).length ≤ 4 := by
  unfold utf; repeat' split
  all_goals simp

theorem sgn_pick {n b0 b1 b2 b3 v m : Nat} {u l : List UInt8} {p : Prop} [Decidable p] (hp : ¬ p) (c : Prop)
    (hy : c → decodeN n b0 b1 b2 b3 = (v, m) ∧ ¬ (v = 65533 ∧ m = 1) ∧ u = l) (hn : ¬ c → decodeN n b0 b1 b2 b3 = (65533, 1) ∧ u ≠ l) :
    (if (decodeN n b0 b1 b2 b3).1 = 65533 ∧ (decodeN n b0 b1 b2 b3).2 = 1 then none else some (decodeN n b0 b1 b2 b3)) = if p ∨ u ≠ l then none else some (v, m) := by
  by_cases hc : c
  · obtain ⟨h1, h2, h3⟩ := hy hc
    rw [h1, if_neg h2, if_neg]; intro h; rcases h with h | h
    · exact hp h
    · exact h h3
  · obtain ⟨h1, h3⟩ := hn hc
    rw [h1, if_pos ⟨rfl, rfl⟩, if_pos (.inr h3)]

theorem dec_short {n b0 b1 b2 b3 : Nat} (hb : 128 ≤ b0) (h : n < 2 ∨ (n < 3 ∧ 224 ≤ b0) ∨ (n < 4 ∧ 240 ≤ b0)) : decodeN n b0 b1 b2 b3 = (65533, 1) := by
  unfold decodeN; rw [if_neg (by omega), if_neg (by omega), if_neg (by omega), if_neg (by omega)]

theorem sgn_many (b0 : UInt8) (t : List UInt8) :
    sgn (b0 :: t) = if ((many b0.toNat).1 = 0 ∨ t.length + 1 < (many b0.toNat).1) ∨ utf (sgnV (many b0.toNat).2 (t.take ((many b0.toNat).1 - 1))) ≠ (b0 :: t).take (many b0.toNat).1 then none
      else some (sgnV (many b0.toNat).2 (t.take ((many b0.toNat).1 - 1)), (many b0.toNat).1) := by
  have hb0 := b0.toNat_lt
  unfold sgn
  rw [decodeL_N]
  simp only [List.cons_ne_nil, false_or, List.length_cons, List.getD_cons_zero]
  rcases many_cases b0.toNat with ⟨h, e⟩ | ⟨h1, h2, e⟩ | ⟨h1, h2, e⟩ | ⟨h1, h2, e⟩ | ⟨h, e⟩
  · rw [e]
    refine sgn_pick (by simp) True (fun _ => ⟨?_, by simp [sgnV]; omega, ?_⟩) (fun h => absurd trivial h)
    · rw [decodeN_ascii _ _ _ _ _ h]; simp [sgnV]
    · simp only [sgnV, List.take_zero, Nat.sub_self, List.foldl_nil, List.take_succ_cons]
      unfold utf; rw [if_neg (by omega), if_pos h, List.cons.injEq]; exact ⟨byteOf_eq.2 (by omega), rfl⟩
  · rw [e]
    match t with
    | [] => rw [dec_short (by omega) (by simp; try omega), if_pos ⟨rfl, rfl⟩, if_pos (by simp)]
    | b1 :: t =>
      have hb1 := b1.toNat_lt
      simp only [List.getD_cons_succ, List.getD_cons_zero, sgnV, Nat.reduceSub, List.take_succ_cons, List.take_zero, List.foldl_cons, List.foldl_nil, List.length_cons]
      refine sgn_pick (by omega) (b1.toNat / 64 = 2 ∧ 128 ≤ b0.toNat % 32 * 64 + b1.toNat % 64) (fun hc => ⟨?_, by omega, ?_⟩) (fun hc => ⟨?_, ?_⟩)
      · unfold decodeN; rw [if_neg (by omega), if_pos (by omega), if_pos (by omega)]
      · unfold utf; rw [if_neg (by omega), if_neg (by omega), if_pos (by omega), List.cons.injEq, List.cons.injEq]
        exact ⟨byteOf_eq.2 (by omega), byteOf_eq.2 (by omega), rfl⟩
      · unfold decodeN; rw [if_neg (by omega)]
        by_cases h : b1.toNat / 64 = 2
        · rw [if_pos (by omega), if_neg (by omega)]
        · rw [if_neg (by omega), if_neg (by omega), if_neg (by omega)]
      · unfold utf; rw [if_neg (by omega)]
        by_cases h : 128 ≤ b0.toNat % 32 * 64 + b1.toNat % 64
        · rw [if_neg (by omega), if_pos (by omega)]
          intro he; simp only [List.cons.injEq, byteOf_eq, and_true] at he; omega
        · rw [if_pos (by omega)]; simp
  · rw [e]
    match t with
    | [] => rw [dec_short (by omega) (by simp; try omega), if_pos ⟨rfl, rfl⟩, if_pos (by simp)]
    | [b1] => rw [dec_short (by omega) (by simp; try omega), if_pos ⟨rfl, rfl⟩, if_pos (by simp)]
    | b1 :: b2 :: t =>
      have hb1 := b1.toNat_lt
      have hb2 := b2.toNat_lt
      simp only [List.getD_cons_succ, List.getD_cons_zero, sgnV, Nat.reduceSub, List.take_succ_cons, List.take_zero, List.foldl_cons, List.foldl_nil, List.length_cons]
      obtain ⟨v, hv⟩ : ∃ v, (b0.toNat % 16 * 64 + b1.toNat % 64) * 64 + b2.toNat % 64 = v := ⟨_, rfl⟩
      refine sgn_pick (by omega) (b1.toNat / 64 = 2 ∧ b2.toNat / 64 = 2 ∧ 2048 ≤ v ∧ ¬ (55296 ≤ v ∧ v ≤ 57343)) (fun hc => ⟨?_, by omega, ?_⟩) (fun hc => ⟨?_, ?_⟩)
      · rw [hv]; unfold decodeN; rw [if_neg (by omega), if_neg (by omega), if_pos (by omega), if_pos (by omega)]; simp; omega
      · rw [hv]; unfold utf; rw [if_neg (by omega), if_neg (by omega), if_neg (by omega), if_pos (by omega)]; simp only [List.cons.injEq, and_true]
        exact ⟨byteOf_eq.2 (by omega), byteOf_eq.2 (by omega), byteOf_eq.2 (by omega)⟩
      · unfold decodeN; rw [if_neg (by omega), if_neg (by omega)]
        by_cases h : b1.toNat / 64 = 2 ∧ b2.toNat / 64 = 2
        · rw [if_pos (by omega), if_neg (by omega)]
        · rw [if_neg (by omega), if_neg (by omega)]
      · rw [hv]; unfold utf
        by_cases h : 55296 ≤ v ∧ v ≤ 57343
        · rw [if_pos (by omega)]; simp
        by_cases h : 2048 ≤ v
        · rw [if_neg (by omega), if_neg (by omega), if_neg (by omega), if_pos (by omega)]
          intro he; simp only [List.cons.injEq, byteOf_eq, and_true] at he; omega
        · rw [if_neg (by omega)]; split
          · simp
          · rw [if_pos (by omega)]; simp
  · rw [e]
    match t with
    | [] => rw [dec_short (by omega) (by simp; try omega), if_pos ⟨rfl, rfl⟩, if_pos (by simp)]
    | [b1] => rw [dec_short (by omega) (by simp; try omega), if_pos ⟨rfl, rfl⟩, if_pos (by simp)]
    | [b1, b2] => rw [dec_short (by omega) (by simp; try omega), if_pos ⟨rfl, rfl⟩, if_pos (by simp)]
    | b1 :: b2 :: b3 :: t =>
      have hb1 := b1.toNat_lt
      have hb2 := b2.toNat_lt
      have hb3 := b3.toNat_lt
      simp only [List.getD_cons_succ, List.getD_cons_zero, sgnV, Nat.reduceSub, List.take_succ_cons, List.take_zero, List.foldl_cons, List.foldl_nil, List.length_cons]
      obtain ⟨v, hv⟩ : ∃ v, ((b0.toNat % 8 * 64 + b1.toNat % 64) * 64 + b2.toNat % 64) * 64 + b3.toNat % 64 = v := ⟨_, rfl⟩
      refine sgn_pick (by omega) (b1.toNat / 64 = 2 ∧ b2.toNat / 64 = 2 ∧ b3.toNat / 64 = 2 ∧ 65536 ≤ v ∧ v ≤ 1114111) (fun hc => ⟨?_, by omega, ?_⟩) (fun hc => ⟨?_, ?_⟩)
      · rw [hv]; unfold decodeN; rw [if_neg (by omega), if_neg (by omega), if_neg (by omega), if_pos (by omega), if_pos (by omega)]; simp; omega
      · rw [hv]; unfold utf; rw [if_neg (by omega), if_neg (by omega), if_neg (by omega), if_neg (by omega)]; simp only [List.cons.injEq, and_true]
        exact ⟨byteOf_eq.2 (by omega), byteOf_eq.2 (by omega), byteOf_eq.2 (by omega), byteOf_eq.2 (by omega)⟩
      · unfold decodeN; rw [if_neg (by omega), if_neg (by omega), if_neg (by omega)]
        by_cases h : b1.toNat / 64 = 2 ∧ b2.toNat / 64 = 2 ∧ b3.toNat / 64 = 2
        · rw [if_pos (by omega), if_neg (by omega)]
        · rw [if_neg (by omega)]
      · rw [hv]; unfold utf
        by_cases h : 1114111 < v ∨ (55296 ≤ v ∧ v ≤ 57343)
        · rw [if_pos (by omega)]; simp
        by_cases h : 65536 ≤ v
        · rw [if_neg (by omega), if_neg (by omega), if_neg (by omega), if_neg (by omega)]
          intro he; simp only [List.cons.injEq, byteOf_eq, and_true] at he; omega
        · rw [if_neg (by omega)]; split
          · simp
          split
          · simp
          · rw [if_pos (by omega)]; simp
  · rw [e, if_pos (by rw [decodeN_bad _ _ _ _ _ (by omega)]; simp), if_pos (by simp)]
theorem sgn_nil : sgn [] = none := rfl
theorem sgn_bd {l : List UInt8} {n m : Nat} (h : sgn l = some (n, m)) : n ≤ 1114111 ∧ 1 ≤ m ∧ m ≤ l.length := by
  unfold sgn at h; split at h
  · cases h
  · rename_i hc
    simp only [Option.some.injEq] at h
    have h1 := decodeL_rune l; have h2 := decodeL_width l; have h3 := decodeL_le l (fun e => hc (.inl e))
    rw [h] at h1 h2 h3; exact ⟨h1, h2, h3⟩
theorem validD_sgn (l : List UInt8) (hne : l ≠ []) : validD l = match sgn l with | none => false | some (_, m) => validD (l.drop m) := by
  rw [validD_step l hne]; unfold sgn
  by_cases h : (decodeL l).1 = 65533 ∧ (decodeL l).2 = 1
  · rw [if_pos h, if_pos (.inr h)]
  · rw [if_neg h, if_neg (by simp [hne, h])]
theorem many_bd (b : Nat) (hb : b < 256) : (many b).1 ≤ 4 ∧ (many b).2 < 256 := by
  rcases many_cases b with ⟨_, e⟩ | ⟨_, _, e⟩ | ⟨_, _, e⟩ | ⟨_, _, e⟩ | ⟨_, e⟩ <;> rw [e] <;> simp <;> omega
theorem sgnV_snoc (v : Nat) (t : List UInt8) (j : Nat) (h : j < t.length) : sgnV v (t.take (j + 1)) = sgnV v (t.take j) * 64 + t[j].toNat % 64 := by
  unfold sgnV; rw [take_snoc t j h, List.foldl_append]; rfl
theorem sgnV_lt (t : List UInt8) : ∀ v, sgnV v t < (v + 1) * 64 ^ t.length := by
  induction t with
  | nil => intro v; simp [sgnV]
  | cons b t ih =>
    intro v
    have h1 := ih (v * 64 + b.toNat % 64)
    have h2 : (v * 64 + b.toNat % 64 + 1) ≤ (v + 1) * 64 := by omega
    have h3 := Nat.mul_le_mul_right (64 ^ t.length) h2
    show sgnV (v * 64 + b.toNat % 64) t < _
    rw [List.length_cons, Nat.pow_succ, Nat.mul_comm (64 ^ t.length) 64, ← Nat.mul_assoc]; omega
theorem sgnV_bd (v : Nat) (t : List UInt8) (j : Nat) (hv : v < 256) (hj : j ≤ 3) : sgnV v (t.take j) < 67108864 := by
  have h1 := sgnV_lt (t.take j) v
  have h2 : (t.take j).length ≤ 3 := by rw [List.length_take]; omega
  have h3 : 64 ^ (t.take j).length ≤ 64 ^ 3 := Nat.pow_le_pow_right (by omega) h2
  have h4 : (v + 1) * 64 ^ (t.take j).length ≤ 256 * 64 ^ 3 := Nat.mul_le_mul (by omega) h3
  omega
/-- GetSign: the sign at a place and the place behind it -/
def signAt (l : List UInt8) (i : Int) : Int × Int :=
  if 0 ≤ i ∧ i < l.length then (match sgn (l.drop i.toNat) with | none => (-1, -1) | some (n, m) => ((n : Int), i + m)) else (-1, -1)
theorem signAt_far {l : List UInt8} {i : Int} (h : ¬ (0 ≤ i ∧ i < l.length)) : signAt l i = (-1, -1) := by unfold signAt; rw [if_neg h]
theorem signAt_none {l : List UInt8} {k : Nat} (h : sgn (l.drop k) = none) : signAt l k = (-1, -1) := by
  unfold signAt; split
  · rw [Int.toNat_natCast, h]
  · rfl
theorem signAt_some {l : List UInt8} {k n m : Nat} (hk : k < l.length) (h : sgn (l.drop k) = some (n, m)) : signAt l k = ((n : Int), (k : Int) + m) := by
  unfold signAt; rw [if_pos (by omega), Int.toNat_natCast, h]
end Go.Proofs.YtpknmldpdoadgaaDoor

/- Masks of integers of 64 bits and of bytes, as remainders. No program in sight. -/
namespace Go.Proofs.YtpknmldpdoadgaaDoor
open Go.RowKit

theorem mask_i64 (x : Int) (k : Nat) (hk : k ≤ 62) (m : Int) (hm : m = 2 ^ k - 1) : bits .and .i64 x m = x % 2 ^ k := by
  subst hm
  have hp : (2 : Nat) ^ k ≤ 2 ^ 62 := Nat.pow_le_pow_right (by omega) hk
  have h0 : (1 : Nat) ≤ 2 ^ k := Nat.one_le_two_pow
  have e : ((2 : Int) ^ k - 1) = ((2 ^ k - 1 : Nat) : Int) := by rw [Int.natCast_sub h0]; simp
  have hm : (BitVec.ofInt 64 ((2 : Int) ^ k - 1)).toNat = 2 ^ k - 1 := by
    rw [e, BitVec.ofInt_natCast, BitVec.toNat_ofNat]; exact Nat.mod_eq_of_lt (by omega)
  show IntKind.i64.wrap ((BitVec.ofInt 64 x &&& BitVec.ofInt 64 ((2 : Int) ^ k - 1)).toNat : Int) = _
  rw [BitVec.toNat_and, hm, Nat.and_two_pow_sub_one_eq_mod, BitVec.toNat_ofInt]
  have hd : ((2 ^ k : Nat) : Int) ∣ ((2 ^ 64 : Nat) : Int) := by
    have : (2 : Nat) ^ k ∣ 2 ^ 64 := Nat.pow_dvd_pow 2 (by omega)
    exact Int.natCast_dvd_natCast.2 this
  have h1 : (((x % ((2 ^ 64 : Nat) : Int)).toNat % 2 ^ k : Nat) : Int) = x % ((2 ^ k : Nat) : Int) := by
    rw [Int.natCast_emod, Int.toNat_of_nonneg (Int.emod_nonneg _ (by decide)), Int.emod_emod_of_dvd _ hd]
  rw [h1]
  have h2 : ((2 ^ k : Nat) : Int) = (2 : Int) ^ k := by simp
  have h3 : (0 : Int) < ((2 ^ k : Nat) : Int) := by omega
  have h4 := Int.emod_nonneg x (show ((2 ^ k : Nat) : Int) ≠ 0 by omega)
  have h5 := Int.emod_lt_of_pos x h3
  rw [← h2, IntKind.wrap_i64]
  omega
theorem m1 (x : Int) : bits .and .i64 x 1 = x % 2 := mask_i64 x 1 (by decide) 1 (by decide)
theorem m7 (x : Int) : bits .and .i64 x 7 = x % 8 := mask_i64 x 3 (by decide) 7 (by decide)
theorem m15 (x : Int) : bits .and .i64 x 15 = x % 16 := mask_i64 x 4 (by decide) 15 (by decide)
theorem m31 (x : Int) : bits .and .i64 x 31 = x % 32 := mask_i64 x 5 (by decide) 31 (by decide)
theorem m63 (x : Int) : bits .and .i64 x 63 = x % 64 := mask_i64 x 6 (by decide) 63 (by decide)
theorem m127 (x : Int) : bits .and .i64 x 127 = x % 128 := mask_i64 x 7 (by decide) 127 (by decide)
theorem m255 (x : Int) : bits .and .i64 x 255 = x % 256 := mask_i64 x 8 (by decide) 255 (by decide)
attribute [go_sem] m1 m7 m15 m31 m63 m127 m255
end Go.Proofs.YtpknmldpdoadgaaDoor

/- Whether a text is right: the contracts of PutSign, GetSign, Signs and TextOk of the reference. -/
namespace Go.Proofs.YtpknmldpdoadgaaDoor
open Go.RowKit Go.Lib

set_option maxRecDepth 10000 in
theorem l01Many_any (b : UInt8) (w : World) :
    Calls Tryd.prog 103 #[.int .i64 (b.toNat : Nat)] w fun e w' => e = .returned (.tuple #[.int .i64 ((many b.toNat).1 : Nat), .int .i64 ((many b.toNat).2 : Nat)]) ∧ w = w' := by
  have hb := b.toNat_lt
  generalize b.toNat = n at *
  have h0 : (0 : Int) ≤ n := by omega
  rcases many_cases n with ⟨h, e⟩ | ⟨h1, h2, e⟩ | ⟨h1, h2, e⟩ | ⟨h1, h2, e⟩ | ⟨h, e⟩
  · have H := Lib.hid e; clear e
    have n1 : ((n : Int) < 128) := by omega
    go_enter Tryd.func103, Tryd.ntmps103
    go_wp2
    go_ret2
    rw [H.out]; exact ⟨rfl, rfl⟩
  · have H := Lib.hid e; clear e
    have r1 : inR n 192 223 = true := inR_yes (by omega)
    have n1 : ¬ ((n : Int) < 128) := by omega
    clear h1 h2
    go_enter Tryd.func103, Tryd.ntmps103
    go_wp2_with (go_at_call 88; refine (l01In_any _ _ _ _).mono ?_; rintro e w' ⟨rfl, rfl⟩)
    go_ret2
    rw [H.out]; exact ⟨rfl, rfl⟩
  · have H := Lib.hid e; clear e
    have r1 : inR n 192 223 = false := inR_no (by omega)
    have r2 : inR n 224 239 = true := inR_yes (by omega)
    have n1 : ¬ ((n : Int) < 128) := by omega
    clear h1 h2
    go_enter Tryd.func103, Tryd.ntmps103
    go_wp2_with (go_at_call 88; refine (l01In_any _ _ _ _).mono ?_; rintro e w' ⟨rfl, rfl⟩)
    go_ret2
    rw [H.out]; exact ⟨rfl, rfl⟩
  · have H := Lib.hid e; clear e
    have r1 : inR n 192 223 = false := inR_no (by omega)
    have r2 : inR n 224 239 = false := inR_no (by omega)
    have r3 : inR n 240 247 = true := inR_yes (by omega)
    have n1 : ¬ ((n : Int) < 128) := by omega
    clear h1 h2
    go_enter Tryd.func103, Tryd.ntmps103
    go_wp2_with (go_at_call 88; refine (l01In_any _ _ _ _).mono ?_; rintro e w' ⟨rfl, rfl⟩)
    go_ret2
    rw [H.out]; exact ⟨rfl, rfl⟩
  · have H := Lib.hid e; clear e
    have r1 : inR n 192 223 = false := inR_no (by omega)
    have r2 : inR n 224 239 = false := inR_no (by omega)
    have r3 : inR n 240 247 = false := inR_no (by omega)
    have n1 : ¬ ((n : Int) < 128) := by omega
    clear h
    go_enter Tryd.func103, Tryd.ntmps103
    go_wp2_with (go_at_call 88; refine (l01In_any _ _ _ _).mono ?_; rintro e w' ⟨rfl, rfl⟩)
    go_ret2
    rw [H.out]; exact ⟨rfl, rfl⟩

/-- PutSign, of any number -/
def putSign (n : Int) : List UInt8 := if n < 0 then [] else utf n.toNat
theorem putSign_nat (n : Nat) : putSign n = utf n := by unfold putSign; rw [if_neg (by omega)]; simp
theorem putSign_far {n : Int} (h : ¬ (0 ≤ n ∧ n ≤ 1114111)) : putSign n = [] := by
  unfold putSign; by_cases h0 : n < 0
  · rw [if_pos h0]
  · rw [if_neg h0]; unfold utf; rw [if_pos (by omega)]
theorem putSign_sur {n : Int} (h : 55296 ≤ n ∧ n ≤ 57343) : putSign n = [] := by
  unfold putSign; rw [if_neg (by omega)]; unfold utf; rw [if_pos (by omega)]

set_option maxHeartbeats 400000 in
set_option maxRecDepth 10000 in
theorem putSign_spec (n : Int) (w : World) (hn : i64ok n) :
    Calls Tryd.prog 104 #[.int .i64 n] w fun e w' => e = .returned (.string ⟨(putSign n).toArray⟩) ∧ Below w.heap.size w w' := by
  obtain ⟨hn1, hn2⟩ := hn
  by_cases hr : 0 ≤ n ∧ n ≤ 1114111
  · have r1 : inR n 0 1114111 = true := inR_yes hr
    by_cases hs : 55296 ≤ n ∧ n ≤ 57343
    · have r2 : inR n 55296 57343 = true := inR_yes hs
      have H := Lib.hid (putSign_sur hs)
      clear hr hs
      go_enter Tryd.func104, Tryd.ntmps104
      go_wp2_with (go_at_call 88; refine (l01In_any _ _ _ _).mono ?_; rintro e w' ⟨rfl, rfl⟩)
      go_ret
      exact ⟨ret_str H.out.symm, Below.refl _ _⟩
    · have r2 : inR n 55296 57343 = false := inR_no hs
      obtain ⟨hr1, hr2⟩ := hr
      have hcv1 := fun b c w => conv1 (P := Tryd.prog) Tryd.underlying87 Tryd.underlying5 Tryd.underlying9 b c w
      have hcv2 := fun b c w => conv2 (P := Tryd.prog) Tryd.underlying87 Tryd.underlying5 Tryd.underlying9 b c w
      have hcv3 := fun b c w => conv3 (P := Tryd.prog) Tryd.underlying87 Tryd.underlying5 Tryd.underlying9 b c w
      have hcv4 := fun b c w => conv4 (P := Tryd.prog) Tryd.underlying87 Tryd.underlying5 Tryd.underlying9 b c w
      by_cases c1 : n < 128
      · have H : Hid (putSign n = [byteOf n.toNat]) := by
          show _ = _; unfold putSign; rw [if_neg (by omega)]; unfold utf; rw [if_neg (by omega), if_pos (by omega)]
        clear hs
        go_enter Tryd.func104, Tryd.ntmps104
        go_wp2_with (go_at_call 88; refine (l01In_any _ _ _ _).mono ?_; rintro e w' ⟨rfl, rfl⟩)
        go_ret
        exact ⟨ret_str H.out.symm, (Below.refl _ _).alloc (Nat.le_refl _) _⟩
      · by_cases c2 : n < 2048
        · have H : Hid (putSign n =  [byteOf (192 + n.toNat / 64), byteOf (128 + n.toNat % 64)]) := by
            show _ = _; unfold putSign; rw [if_neg (by omega)]; unfold utf; rw [if_neg (by omega), if_neg (by omega), if_pos (by omega)]
          clear hs
          go_enter Tryd.func104, Tryd.ntmps104
          go_wp2_with (go_at_call 88; refine (l01In_any _ _ _ _).mono ?_; rintro e w' ⟨rfl, rfl⟩)
          go_ret
          refine ⟨ret_str ?_, (Below.refl _ _).alloc (Nat.le_refl _) _⟩
          rw [H.out]; try rfl
          simp only [List.cons.injEq, and_true]
          exact ⟨congrArg byteOf (by omega), congrArg byteOf (by omega)⟩
        · by_cases c3 : n < 65536
          · have H : Hid (putSign n = [byteOf (224 + n.toNat / 4096), byteOf (128 + n.toNat / 64 % 64), byteOf (128 + n.toNat % 64)]) := by
              show _ = _; unfold putSign; rw [if_neg (by omega)]; unfold utf; rw [if_neg (by omega), if_neg (by omega), if_neg (by omega), if_pos (by omega)]
            clear hs
            go_enter Tryd.func104, Tryd.ntmps104
            go_wp2_with (go_at_call 88; refine (l01In_any _ _ _ _).mono ?_; rintro e w' ⟨rfl, rfl⟩)
            go_ret
            refine ⟨ret_str ?_, (Below.refl _ _).alloc (Nat.le_refl _) _⟩
            rw [H.out]; try rfl
            simp only [List.cons.injEq, and_true]
            exact ⟨congrArg byteOf (by omega), congrArg byteOf (by omega), congrArg byteOf (by omega)⟩
          · have H : Hid (putSign n = [byteOf (240 + n.toNat / 262144), byteOf (128 + n.toNat / 4096 % 64), byteOf (128 + n.toNat / 64 % 64), byteOf (128 + n.toNat % 64)]) := by
              show _ = _; unfold putSign; rw [if_neg (by omega)]; unfold utf; rw [if_neg (by omega), if_neg (by omega), if_neg (by omega), if_neg (by omega)]
            clear hs
            go_enter Tryd.func104, Tryd.ntmps104
            go_wp2_with (go_at_call 88; refine (l01In_any _ _ _ _).mono ?_; rintro e w' ⟨rfl, rfl⟩)
            go_ret
            refine ⟨ret_str ?_, (Below.refl _ _).alloc (Nat.le_refl _) _⟩
            rw [H.out]; try rfl
            simp only [List.cons.injEq, and_true]
            exact ⟨congrArg byteOf (by omega), congrArg byteOf (by omega), congrArg byteOf (by omega), congrArg byteOf (by omega)⟩
  · have r1 : inR n 0 1114111 = false := inR_no hr
    have H := Lib.hid (putSign_far hr)
    clear hr
    go_enter Tryd.func104, Tryd.ntmps104
    go_wp2_with (go_at_call 88; refine (l01In_any _ _ _ _).mono ?_; rintro e w' ⟨rfl, rfl⟩)
    go_ret
    exact ⟨ret_str H.out.symm, Below.refl _ _⟩

set_option maxHeartbeats 1000000 in
set_option maxRecDepth 10000 in
theorem getSign_spec (l : List UInt8) (i : Int) (w : World) (hi : i64ok i) (hl : l.length ≤ 4611686018427387904) :
    Calls Tryd.prog 101 #[.string ⟨l.toArray⟩, .int .i64 i] w fun e w' => e = .returned (.tuple #[.int .i64 (signAt l i).1, .int .i64 (signAt l i).2]) ∧ Below w.heap.size w w' := by
  obtain ⟨hi1, hi2⟩ := hi
  by_cases hr : 0 ≤ i ∧ i < l.length
  · obtain ⟨k, rfl⟩ : ∃ k : Nat, i = k := ⟨i.toNat, by omega⟩
    have hk : k < l.length := by omega
    have hk1 : (0 : Int) ≤ k := by omega
    have hk2 : (k : Int) < l.length := by omega
    have hS := sgn_many l[k] (l.drop (k + 1))
    rw [← List.drop_eq_getElem_cons hk] at hS
    have hbd := many_bd l[k].toNat l[k].toNat_lt
    obtain ⟨hbd1, hbd2⟩ := hbd
    have HC := Lib.hid (l01Many_any l[k])
    obtain ⟨m, hm⟩ : ∃ m, (many l[k].toNat).1 = m := ⟨_, rfl⟩
    obtain ⟨v0, hv⟩ : ∃ v, (many l[k].toNat).2 = v := ⟨_, rfl⟩
    rw [hm] at hbd1 hS
    rw [hv] at hbd2 hS
    have HC : Hid (∀ w, Calls Tryd.prog 103 #[.int .i64 (l[k].toNat : Nat)] w fun e w' => e = .returned (.tuple #[.int .i64 (m : Nat), .int .i64 (v0 : Nat)]) ∧ w = w') := by
      intro w; rw [← hm, ← hv]; exact HC.out w
    clear hm hv hr
    by_cases hA : m = 0 ∨ (l.drop (k + 1)).length + 1 < m
    · rw [if_pos (.inl hA)] at hS
      have H := Lib.hid (signAt_none hS)
      clear hS
      rw [List.length_drop] at hA
      by_cases hA0 : m = 0
      · subst hA0
        go_enter Tryd.func101, Tryd.ntmps101
        go_wp2_with (go_at_call 103; refine (HC.out _).mono ?_; rintro e w1 ⟨rfl, rfl⟩)
        go_ret2
        rw [H.out]; exact ⟨rfl, Below.refl _ _⟩
      · have hA1 : (l.length : Int) - k < m := by omega
        have hA2 : ((m : Int) == 0) = false := by simpa using hA0
        clear hA hA0
        go_enter Tryd.func101, Tryd.ntmps101
        go_wp2_with (go_at_call 103; refine (HC.out _).mono ?_; rintro e w1 ⟨rfl, rfl⟩)
        go_ret2
        rw [H.out]; exact ⟨rfl, Below.refl _ _⟩
    · have hA0 : 1 ≤ m := by omega
      have hA1 : k + m ≤ l.length := by rw [List.length_drop] at hA; omega
      have hA2 : ((m : Int) == 0) = false := by simp; omega
      have hA3 : ¬ (l.length : Int) - k < m := by omega
      have hle : ((l.drop (k + 1)).length : Nat) = l.length - (k + 1) := List.length_drop
      have HS := Lib.hid hS
      have HA := Lib.hid hA
      have HL := Lib.hid hle
      clear hA hS hle
      go_enter Tryd.func101, Tryd.ntmps101
      go_wp2_with (go_at_call 103; refine (HC.out _).mono ?_; rintro e w1 ⟨rfl, rfl⟩)
      go_loop [7, 8] (fun x i => ∃ (j : Nat), j + 1 ≤ m ∧ i = .int .i64 ((j + 1 : Nat) : Int) ∧ x = .int .i64 (sgnV v0 ((l.drop (k + 1)).take j))) (fun _ i => 5 - (RowKit.intOf i).toNat)
      case atStart => exact ⟨0, by omega, rfl, by simp [sgnV]⟩
      case round =>
        obtain ⟨j, hj, rfl, rfl⟩ := hrel
        by_cases hlt : j + 1 < m
        · have hjl : j < (l.drop (k + 1)).length := by have := HL.out; omega
          have HN := Lib.hid (sgnV_snoc v0 (l.drop (k + 1)) j hjl)
          have hb := sgnV_bd v0 (l.drop (k + 1)) j hbd2 (by omega)
          have hget : (l.drop (k + 1))[j] = l[k + (j + 1)]'(by have := HL.out; omega) := by rw [List.getElem_drop]; congr 1; omega
          rw [hget] at HN
          have hk4 : k + (j + 1) < l.length := by omega
          have e1 : ((k : Int) + (j + 1 : Nat)).toNat = k + (j + 1) := by omega
          obtain ⟨x, hx⟩ : ∃ x, sgnV v0 ((l.drop (k + 1)).take j) = x := ⟨_, rfl⟩
          rw [hx] at HN hb ⊢
          have HX := Lib.hid hx; clear hx
          go_wp2
          go_round
          case rel =>
            refine ⟨j + 1, by omega, by go_num, ?_⟩
            rw [HN.out]; go_num
          case measure => simp [RowKit.intOf] <;> omega
        · obtain rfl : m = j + 1 := by omega
          have hb := sgnV_bd v0 (l.drop (k + 1)) j hbd2 (by omega)
          have HS2 := HS.out
          have hpre : ¬ ((j + 1 = 0) ∨ (l.drop (k + 1)).length + 1 < j + 1) := HA.out
          simp only [hpre, false_or, Nat.add_sub_cancel] at HS2
          have HS2 := Lib.hid HS2
          clear hpre
          go_wp2
          obtain ⟨x, hx⟩ : ∃ x, sgnV v0 ((l.drop (k + 1)).take j) = x := ⟨_, rfl⟩
          rw [hx] at hb HS2
          have HX := Lib.hid hx
          simp only [hx]
          clear hx HS
          have hB := Below.refl w.heap.size w
          have z1 : IntKind.i64.wrap ((k : Int) + (↑j + 1)) = (k : Int) + (↑j + 1) := IntWalk.i64_in _ (by omega)
          have z2 : (0 : Int) ≤ (k : Int) + (↑j + 1) := by omega
          have z3 : (k : Int) ≤ (k : Int) + (↑j + 1) := by omega
          have z4 : (k : Int) + (↑j + 1) ≤ l.length := by omega
          have z5 : ((k : Int) + (↑j + 1)).toNat = k + (j + 1) := by omega
          have hxo : i64ok x := ⟨by omega, by omega⟩
          go_region_held3 (fun W => Below w.heap.size w W) (first | exact hB | exact hB.drew)
            (first | (go_at_call 104; refine (putSign_spec x _ hxo).mono ?_; rintro e w2 ⟨rfl, hb2⟩; replace hB := below2 (by first | exact hB | exact hB.drew) hb2 (Nat.le_refl _)))
          go_wp2
          · have he : (!putSign ↑x == List.take (j + 1) (List.drop k l)) = true := by assumption
            rw [putSign_nat] at he
            have h2 := HS2.out
            rw [if_pos (by simpa using he)] at h2
            go_ret2
            rw [signAt_none h2]; exact ⟨rfl, hB⟩
          · have he : (!putSign ↑x == List.take (j + 1) (List.drop k l)) = false := by assumption
            rw [putSign_nat] at he
            have h2 := HS2.out
            rw [if_neg (by simpa using he)] at h2
            go_ret2
            rw [signAt_some hk h2]; exact ⟨by simp, hB⟩
  · have H := Lib.hid (signAt_far hr)
    by_cases h0 : i < 0
    · clear hr
      go_enter Tryd.func101, Tryd.ntmps101
      go_wp2
      go_ret2
      rw [H.out]; exact ⟨rfl, Below.refl _ _⟩
    · have h1 : ¬ i < l.length := by omega
      clear hr
      go_enter Tryd.func101, Tryd.ntmps101
      go_wp2
      go_ret2
      rw [H.out]; exact ⟨rfl, Below.refl _ _⟩
end Go.Proofs.YtpknmldpdoadgaaDoor
