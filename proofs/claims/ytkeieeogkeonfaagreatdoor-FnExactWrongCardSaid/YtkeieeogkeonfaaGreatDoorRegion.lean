/- Steps through a region that draws its order, one named operation at a time; operations whose guard says no are passed over together. No program in sight. -/
import Derived.Test.YtkeieeogkeonfaaGreatDoorBase
import Derived.Deep.RegionHeld3
namespace Go.Proofs.YtkeieeogkeonfaaGreatDoor
open Go.RowKit

section
variable {P : Program} {ops : Array Oper} {Q : Exit → Act → World → Prop} {md : Region.Mode} {S : World → Prop}

/-- an operation that yields its value in every world that meets S is taken first -/
theorem takeW {i F fuel : Nat} {oi : Oper} {d : Option Tmp} {v : Value} {listed listed' : Array Bool} {a : Act} {w : World} (hi : ops[i]? = some oi) (hd : oi.dst = d) (hF : F = fuel + 1) (hl : listed.setIfInBounds i true = listed')
    (hs : Region.noSelect ops = true) (hf : Region.free md ops listed i = true) (hr : (Region.ready md ops listed).contains i = true)
    (hQ : ∀ c a w, Q (.panic c) (a.put d v) w → Q (.panic c) a w) (hw : Region.wanted oi (yielded ops a.tmps) = true) (hS : S w)
    (hv : ∀ w, S w → (execOp a.eval oi).run P w = .ok (.value v) w)
    (h : wpAnyH P md ops Q S fuel listed' (a.put d v) w) : wpAnyH P md ops Q S F listed a w := by
  subst hF hd hl
  exact wpAnyH_take hi hs hf hr hQ (.inl ⟨hw, hv⟩) hS h

/-- the operations i (with their temporaries d), each passed over -/
def skipFine (md : Region.Mode) (ops : Array Oper) : List (Nat × Tmp) → Array Bool → Array Value → Bool
  | [], _, _ => true
  | (i, d) :: r, listed, tmps => (match ops[i]? with | some o => decide (o.dst = some d) && !Region.wanted o (yielded ops tmps) | none => false) && (Region.free md ops listed i && ((Region.ready md ops listed).contains i &&
      skipFine md ops r (listed.setIfInBounds i true) (tmps.setIfInBounds d undef)))
def skipListed : List (Nat × Tmp) → Array Bool → Array Bool
  | [], listed => listed
  | (i, _) :: r, listed => skipListed r (listed.setIfInBounds i true)
def skipAct : List (Nat × Tmp) → Act → Act
  | [], a => a
  | (_, d) :: r, a => skipAct r { a with tmps := a.tmps.setIfInBounds d undef }
theorem takeS {w : World} (hs : Region.noSelect ops = true) (hQ : ∀ c a d w, Q (.panic c) (a.put (some d) undef) w → Q (.panic c) a w) (hS : S w) : ∀ (l : List (Nat × Tmp)) {F fuel : Nat} {listed listed' : Array Bool} {a : Act}, F = fuel + l.length → skipListed l listed = listed' →
    skipFine md ops l listed a.tmps = true → wpAnyH P md ops Q S fuel listed' (skipAct l a) w → wpAnyH P md ops Q S F listed a w
  | [], F, fuel, listed, listed', a, hF, hl, _, h => by subst hF hl; exact h
  | (i, d) :: r, F, fuel, listed, listed', a, hF, hl, hk, h => by
    subst hF hl
    simp only [skipFine, Bool.and_eq_true] at hk
    obtain ⟨h1, h2, h3, h4⟩ := hk
    cases ho : ops[i]? with
    | none => rw [ho] at h1; cases h1
    | some o =>
      rw [ho] at h1
      simp only [Bool.and_eq_true, decide_eq_true_eq, Bool.not_eq_true'] at h1
      obtain ⟨hd, hw⟩ := h1
      refine wpAnyH_take (fuel := fuel + r.length) (v := undef) ho hs h2 h3 (by rw [hd]; exact fun c a w => hQ c a d w) (.inr ⟨hw, rfl⟩) hS ?_
      rw [hd]
      exact takeS hs hQ hS r rfl rfl h4 h

/-- a call (or whatever may do more) comes up, it alone -/
theorem takeC {i F fuel : Nat} {oi : Oper} {d : Option Tmp} {listed listed' : Array Bool} {a : Act} {w : World} (hi : ops[i]? = some oi) (hd : oi.dst = d) (hF : F = fuel + 1) (hl : listed.setIfInBounds i true = listed')
    (hr : Region.ready md ops listed = [i]) (hw : Region.wanted oi (yielded ops a.tmps) = true)
    (h : ∀ K' : Act → World → Prop, Shut (∀ a w, S w → (S w → wpAnyH P md ops Q S fuel listed' a w) → K' a w) → Oper.wp P oi a w K' Q) : wpAnyH P md ops Q S F listed a w := by
  subst hF hl hd
  refine wpAnyH_ready hr (by simp) (AllReadyH.cons hi (fun K' hK => ?_) AllReadyH.nil)
  rw [if_pos hw]; exact h K' hK
end
end Go.Proofs.YtkeieeogkeonfaaGreatDoor
