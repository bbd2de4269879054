/- When a value is right. No program in sight. -/
import Derived.Test.YtkeieeogkeonfaaGreatDoorData
import Derived.Test.YtkeieeogkeonfaaGreatDoorRange
import Derived.Lib.ValidLaws
namespace Go.Proofs.YtkeieeogkeonfaaGreatDoor
open Go.RowKit
open Go.Lib (validD)

/-- so often times ten stays within 64 bits -/
def fitsN : Nat → Int → Bool
  | 0, _ => true
  | k + 1, n => inR (n * 10) (-9223372036854775808) 9223372036854775807 && fitsN k (n * 10)
def decOk (n e : Int) : Bool := (inR e (-20) 20 && (decide (e ≠ 0) && (inR n (-999999999999999999) 999999999999999999 && decide (Int.tmod n 10 ≠ 0)))) && !(decide (0 < e) && fitsN e.toNat n)
def V.kind : V → Int | .mk k _ _ _ _ => k
def V.num : V → Int | .mk _ n _ _ _ => n
def V.exp : V → Int | .mk _ _ e _ _ => e
def V.text : V → List UInt8 | .mk _ _ _ s _ => s
def V.kids : V → List V | .mk _ _ _ _ ks => ks
def isKeyK (k : Int) : Bool := decide (k = 5) || decide (k = 3)
/-- every other one -/
def odds {α : Type} : List α → List α
  | [] => []
  | [x] => [x]
  | x :: _ :: r => x :: odds r
theorem odds_length {α : Type} : ∀ l : List α, (odds l).length = (l.length + 1) / 2
  | [] => by simp [odds]
  | [x] => by simp [odds]
  | x :: y :: r => by simp only [odds, List.length_cons, odds_length r]; omega
theorem odds_get? {α : Type} : ∀ (l : List α) (j : Nat), (odds l)[j]? = l[2 * j]?
  | [], j => by simp [odds]
  | [x], 0 => rfl
  | [x], j + 1 => by simp [odds]
  | x :: y :: r, 0 => rfl
  | x :: y :: r, j + 1 => by simp only [odds, List.getElem?_cons_succ, odds_get? r j]; rw [show 2 * (j + 1) = 2 * j + 1 + 1 by omega]; simp
theorem odds_get {α : Type} (l : List α) (j : Nat) (h : 2 * j < l.length) : (odds l)[j]'(by rw [odds_length]; omega) = l[2 * j] := by
  have := odds_get? l j
  rw [List.getElem?_eq_getElem h, List.getElem?_eq_getElem (by rw [odds_length]; omega)] at this
  exact Option.some.inj this
/-- keys, no two alike -/
def uniq {α : Type} [DecidableEq α] (f : V → α) (ks : List V) : Bool := ks.all (fun x => isKeyK x.kind) && decide ((ks.map f).Nodup)
theorem uniq_snoc {α : Type} [DecidableEq α] (f : V → α) (ks : List V) (x : V) : uniq f (ks ++ [x]) = (uniq f ks && (isKeyK x.kind && decide (f x ∉ ks.map f))) := by
  unfold uniq
  rw [List.all_append, Bool.eq_iff_iff]
  simp only [Bool.and_eq_true, decide_eq_true_eq, List.map_append, List.map_cons, List.map_nil, List.nodup_append, List.all_cons, List.all_nil, Bool.and_true]
  constructor
  · rintro ⟨⟨h1, h2⟩, h3, _, h4⟩; exact ⟨⟨h1, h3⟩, h2, fun h => h4 _ h _ (by simp) rfl⟩
  · rintro ⟨⟨h1, h3⟩, h2, h4⟩; exact ⟨⟨h1, h2⟩, h3, by simp, fun a ha b hb => by simp at hb; subst hb; intro e; subst e; exact h4 ha⟩
theorem uniq_take {α : Type} [DecidableEq α] {f : V → α} {ks : List V} (k : Nat) (h : uniq f (ks.take k) = false) : uniq f ks = false := by
  cases hk : uniq f ks with
  | false => rfl
  | true =>
    rw [← List.take_append_drop k ks] at hk
    unfold uniq at hk h
    simp only [List.all_append, Bool.and_eq_true, decide_eq_true_eq, List.map_append, List.nodup_append] at hk
    rw [hk.1.1, decide_eq_true hk.2.1] at h; simp at h
def V.mark (x : V) : Int × Int × List UInt8 := (x.kind, x.num, x.text)
def pairsOk (xs : List V) : Bool := uniq V.mark (odds xs) && (decide (xs.length % 2 = 0) && decide (xs.length ≤ 300))
def pairsOkI (xs : List V) : Bool := uniq id (odds xs) && decide (xs.length % 2 = 0)
/-- a value is right but for its kids; q says of the kids of a map whether they are pairs -/
def V.selfBy (q : List V → Bool) : V → Bool
  | .mk k n e s kids =>
    if k = 0 ∨ k = 1 ∨ k = 2 then decide (n = 0) && (decide (e = 0) && (decide (s = []) && decide (kids = [])))
    else if k = 3 then decide (e = 0) && (decide (s = []) && decide (kids = []))
    else if k = 4 then decOk n e && (decide (s = []) && decide (kids = []))
    else if k = 5 then decide (n = 0) && (decide (e = 0) && (validD s && (decide (s.length ≤ 2000) && decide (kids = []))))
    else if k = 6 then decide (n = 0) && (decide (e = 0) && (decide (s.length ≤ 2000) && decide (kids = [])))
    else if k = 7 then decide (n = 0) && (decide (e = 0) && decide (s = []))
    else if k = 8 then decide (n = 0) && (decide (e = 0) && (decide (s = []) && q kids))
    else if k = 9 then inR n 0 1000000 && (decide (e = 0) && (decide (s = []) && decide (kids.length = 1)))
    else false
def V.self : V → Bool := V.selfBy pairsOk
def V.selfI : V → Bool := V.selfBy pairsOkI
mutual
/-- right, at most so many kids deep -/
def V.rightBy (q : List V → Bool) : Int → V → Bool
  | d, .mk k n e s kids => V.rightsBy q (d - 1) kids && (decide (0 ≤ d) && V.selfBy q (.mk k n e s kids))
def V.rightsBy (q : List V → Bool) : Int → List V → Bool
  | _, [] => true
  | d, v :: vs => V.rightBy q d v && V.rightsBy q d vs
end
theorem V.rightsBy_all (q : List V → Bool) : ∀ (d : Int) (vs : List V), V.rightsBy q d vs = vs.all (V.rightBy q d)
  | _, [] => rfl
  | d, v :: vs => by simp [V.rightsBy, V.rightsBy_all q d vs]
def V.ok (v : V) : Bool := V.rightBy pairsOk 12 v && decide (v.nodes ≤ 300)

theorem odds_mem {α : Type} : ∀ (l : List α) (x : α), x ∈ odds l → x ∈ l
  | [], x, h => by simp [odds] at h
  | [y], x, h => by simpa [odds] using h
  | a :: b :: r, x, h => by
    simp only [odds, List.mem_cons] at h ⊢
    rcases h with h | h
    · exact .inl h
    · exact .inr (.inr (odds_mem r x h))
theorem V.key_plain {q : List V → Bool} {d : Int} {x : V} (h : V.rightBy q d x = true) (hk : isKeyK x.kind = true) : x = .mk x.kind x.num 0 x.text [] := by
  obtain ⟨k, n, e, s, kids⟩ := x
  simp only [V.rightBy, Bool.and_eq_true, V.selfBy] at h
  simp only [V.kind, isKeyK, Bool.or_eq_true] at hk
  simp only [V.kind, V.num, V.text]
  rcases hk with hk | hk <;> obtain rfl := of_decide_eq_true hk
  · have := h.2.2; simp at this; simp [this]
  · have := h.2.2; simp at this; simp [this]
theorem pairs_same {q : List V → Bool} {d : Int} {xs : List V} (h : V.rightsBy q d xs = true) (hl : xs.length ≤ 300) : pairsOkI xs = pairsOk xs := by
  rw [V.rightsBy_all, List.all_eq_true] at h
  unfold pairsOkI pairsOk
  rw [decide_eq_true hl, Bool.and_true]
  congr 1
  have hm : ∀ x ∈ odds xs, V.rightBy q d x = true := fun x hx => h x (odds_mem _ _ hx)
  generalize odds xs = ks at hm
  unfold uniq
  rw [List.map_id]
  cases hk : ks.all (fun x => isKeyK x.kind) with
  | false => rfl
  | true =>
    rw [List.all_eq_true] at hk
    simp only [Bool.true_and]
    apply decide_eq_decide.2
    rw [List.Nodup, List.Nodup, List.pairwise_map]
    constructor
    · intro hp
      refine List.Pairwise.imp_of_mem (fun ha hb hne e => hne ?_) hp
      rw [V.key_plain (hm _ ha) (hk _ ha), V.key_plain (hm _ hb) (hk _ hb)]
      simp only [V.mark, Prod.mk.injEq] at e
      rw [e.1, e.2.1, e.2.2]
    · intro hp
      refine List.Pairwise.imp_of_mem (fun ha hb hne e => hne ?_) hp
      rw [e]
theorem V.kids_nodes (vs : List V) : vs.length ≤ V.nodess vs := by
  induction vs with
  | nil => simp
  | cons x xs ih => have := x.nodes_pos; simp only [V.nodess, List.length_cons]; omega
mutual
theorem V.right_same : ∀ (d : Int) (v : V), v.nodes ≤ 300 → V.rightBy pairsOkI d v = V.rightBy pairsOk d v
  | d, .mk k n e s kids, h => by
    have hn : V.nodess kids ≤ 300 := by simp only [V.nodes] at h; omega
    have hl : kids.length ≤ 300 := Nat.le_trans (V.kids_nodes kids) hn
    have h1 := V.rights_same (d - 1) kids hn
    simp only [V.rightBy]
    rw [h1]
    cases hr : V.rightsBy pairsOk (d - 1) kids with
    | false => rfl
    | true =>
      have := pairs_same hr hl
      simp only [V.selfBy, this]
theorem V.rights_same : ∀ (d : Int) (vs : List V), V.nodess vs ≤ 300 → V.rightsBy pairsOkI d vs = V.rightsBy pairsOk d vs
  | _, [], _ => rfl
  | d, v :: vs, h => by
    simp only [V.nodess] at h
    simp only [V.rightsBy, V.right_same d v (by omega), V.rights_same d vs (by omega)]
end
theorem V.ok_impl (v : V) : (V.rightBy pairsOkI 12 v && decide (v.nodes ≤ 300)) = v.ok := by
  unfold V.ok
  by_cases h : v.nodes ≤ 300
  · rw [V.right_same 12 v h]
  · rw [decide_eq_false h, Bool.and_false, Bool.and_false]
end Go.Proofs.YtkeieeogkeonfaaGreatDoor
