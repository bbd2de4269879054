/- When a shape is right. No program in sight. -/
import Derived.Test.YtkeieeogkeonfaaGreatDoorData
import Derived.Lib.ValidLaws
namespace Go.Proofs.YtkeieeogkeonfaaGreatDoor
open Go.RowKit
open Go.Lib (validD)

def keyOk (k : List UInt8) : Bool := decide (k.length ≤ 100) && validD k
def keysOk (ks : List (List UInt8)) : Bool := ks.all keyOk && decide ks.Nodup
def Sh.fields (ks : List (List UInt8)) (m : Int) (n : Nat) : Bool := keysOk ks && (decide (n = ks.length) && (decide (0 ≤ m) && decide (m ≤ ks.length)))
/-- a shape is right but for its kids -/
def Sh.self : Sh → Bool
  | .mk k l h ks m kids =>
    if k = 8 then decide (l = 0) && (decide (h = 0) && Sh.fields ks m kids.length)
    else if k = 3 ∨ k = 5 ∨ k = 6 then decide (ks = []) && (decide (m = 0) && decide (kids = []))
    else if k = 7 then decide (ks = []) && (decide (m = 0) && decide (kids.length = 1))
    else if k = 9 then decide (l = 0) && (decide (h = 0) && (decide (ks = []) && (decide (m = 0) && decide (2 ≤ kids.length))))
    else if k = 0 ∨ k = 1 ∨ k = 2 ∨ k = 4 then decide (l = 0) && (decide (h = 0) && (decide (ks = []) && (decide (m = 0) && decide (kids = []))))
    else false
mutual
/-- right, at most so many kids deep -/
def Sh.right : Int → Sh → Bool
  | d, .mk k l h ks m kids => Sh.rights (d - 1) kids && (decide (0 ≤ d) && Sh.self (.mk k l h ks m kids))
def Sh.rights : Int → List Sh → Bool
  | _, [] => true
  | d, v :: vs => Sh.right d v && Sh.rights d vs
end
def Sh.ok (v : Sh) : Bool := Sh.right 8 v && decide (v.nodes ≤ 100)
theorem keysOk_snoc (ks : List (List UInt8)) (k : List UInt8) : keysOk (ks ++ [k]) = (keysOk ks && (keyOk k && decide (k ∉ ks))) := by
  unfold keysOk
  rw [List.all_append, Bool.eq_iff_iff]
  simp only [Bool.and_eq_true, decide_eq_true_eq, List.nodup_append, List.all_cons, List.all_nil, Bool.and_true]
  constructor
  · rintro ⟨⟨h1, h2⟩, h3, _, h4⟩; exact ⟨⟨h1, h3⟩, h2, fun h => h4 k h k (by simp) rfl⟩
  · rintro ⟨⟨h1, h3⟩, h2, h4⟩; exact ⟨⟨h1, h2⟩, h3, by simp, fun a ha b hb => by simp at hb; subst hb; intro e; subst e; exact h4 ha⟩
theorem keysOk_take {ks : List (List UInt8)} (k : Nat) (h : keysOk (ks.take k) = false) : keysOk ks = false := by
  cases hk : keysOk ks with
  | false => rfl
  | true =>
    rw [← List.take_append_drop k ks] at hk
    unfold keysOk at hk h
    simp only [List.all_append, Bool.and_eq_true, decide_eq_true_eq, List.nodup_append] at hk
    rw [hk.1.1, decide_eq_true hk.2.1] at h; simp at h
theorem Sh.rights_all : ∀ (d : Int) (vs : List Sh), Sh.rights d vs = vs.all (Sh.right d)
  | _, [] => rfl
  | d, v :: vs => by simp [Sh.rights, Sh.rights_all d vs]
end Go.Proofs.YtkeieeogkeonfaaGreatDoor
