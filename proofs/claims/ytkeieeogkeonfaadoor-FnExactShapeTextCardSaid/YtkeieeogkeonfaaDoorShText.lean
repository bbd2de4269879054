/- The text of a shape. No program in sight. -/
import Derived.Test.YtkeieeogkeonfaaDoorShapeDef
import Derived.Lib.Join
import Derived.Lib.ItoaLen
namespace Go.Proofs.YtkeieeogkeonfaaDoor
open Go.RowKit

def sep2 : List UInt8 := [44, 32]
def hasBd (k : Int) : Bool := decide (k = 3) || (decide (k = 5) || (decide (k = 6) || decide (k = 7)))
def bnd (l h : Int) : List UInt8 := Lib.itoa l ++ ([46, 46] ++ Lib.itoa h)
def shWords : List (List UInt8) := [[97, 110, 121], [110, 117, 108, 108], [98, 111, 111, 108], [105, 110, 116], [110, 117, 109], [116, 101, 120, 116], [98, 121, 116, 101, 115], [108, 105, 115, 116], [109, 97, 112], [111, 110, 101]]
def shWord (k : Int) : List UInt8 := shWords.getD k.toNat []
def shMark (m : Int) (i : Nat) : List UInt8 := if m ≤ i then [63, 58, 32] else [58, 32]
def shWrap (k : Int) (ps : List (List UInt8)) : List UInt8 := if ps = [] ∧ k ≠ 8 then shWord k else shWord k ++ (40 :: (Lib.join ps sep2 ++ [41]))
mutual
def Sh.text : Sh → List UInt8
  | .mk k l h ks m kids => shWrap k ((if hasBd k then [bnd l h] else []) ++ Sh.texts k ks m 0 kids)
/-- the parts of kids from the i-th on -/
def Sh.texts (k : Int) (ks : List (List UInt8)) (m : Int) : Nat → List Sh → List (List UInt8)
  | _, [] => []
  | i, v :: vs => (if k = 8 then ks.getD i [] ++ (shMark m i ++ Sh.text v) else Sh.text v) :: Sh.texts k ks m (i + 1) vs
end
def Sh.part (k : Int) (ks : List (List UInt8)) (m : Int) (i : Nat) (v : Sh) : List UInt8 := if k = 8 then ks.getD i [] ++ (shMark m i ++ Sh.text v) else Sh.text v
theorem Sh.texts_length (k : Int) (ks : List (List UInt8)) (m : Int) : ∀ (i : Nat) (vs : List Sh), (Sh.texts k ks m i vs).length = vs.length
  | _, [] => rfl
  | i, v :: vs => by simp [Sh.texts, Sh.texts_length k ks m (i + 1) vs]
theorem Sh.texts_snoc (k : Int) (ks : List (List UInt8)) (m : Int) (v : Sh) : ∀ (i : Nat) (vs : List Sh), Sh.texts k ks m i (vs ++ [v]) = Sh.texts k ks m i vs ++ [Sh.part k ks m (i + vs.length) v]
  | i, [] => by simp [Sh.texts, Sh.part]
  | i, u :: vs => by simp only [List.cons_append, Sh.texts, Sh.texts_snoc k ks m v (i + 1) vs, List.length_cons]; rw [show i + 1 + vs.length = i + (vs.length + 1) by omega]
theorem Sh.texts_take (k : Int) (ks : List (List UInt8)) (m : Int) (vs : List Sh) (j : Nat) (h : j < vs.length) : Sh.texts k ks m 0 (vs.take (j + 1)) = Sh.texts k ks m 0 (vs.take j) ++ [Sh.part k ks m j vs[j]] := by
  rw [List.take_succ_eq_append_getElem h, Sh.texts_snoc, List.length_take, Nat.min_eq_left (by omega), Nat.zero_add]
theorem join_snoc (a : List UInt8) (ps : List (List UInt8)) (sep p : List UInt8) : Lib.join ((a :: ps) ++ [p]) sep = Lib.join (a :: ps) sep ++ (sep ++ p) := by
  induction ps generalizing a with
  | nil => simp [Lib.join, List.intercalate]
  | cons b ps ih =>
    have := ih b
    simp only [Lib.join, List.intercalate, List.cons_append, List.intersperse_cons_cons, List.flatten_cons, List.append_assoc] at this ⊢
    rw [this]
/-- the sum of lengths and separators -/
def lens2 : List (List UInt8) → Nat
  | [] => 0
  | p :: ps => p.length + 2 + lens2 ps
theorem lens2_append : ∀ a b : List (List UInt8), lens2 (a ++ b) = lens2 a + lens2 b
  | [], b => by simp [lens2]
  | p :: ps, b => by simp only [List.cons_append, lens2, lens2_append ps b]; omega
theorem join_le : ∀ ps : List (List UInt8), (Lib.join ps sep2).length ≤ lens2 ps
  | [] => by simp [Lib.join_nil]
  | [a] => by rw [Lib.join_one]; simp [lens2]
  | a :: b :: ps => by
    have := join_le (b :: ps)
    simp only [Lib.join, List.intercalate, List.intersperse_cons_cons, List.flatten_cons, List.length_append, lens2, sep2, List.length_cons, List.length_nil] at this ⊢
    omega
theorem shWord_len (k : Int) : (shWord k).length ≤ 5 := by
  unfold shWord
  by_cases h : k.toNat < 10
  · have : ∀ i : Fin 10, (shWords.getD i.val []).length ≤ 5 := by decide
    exact this ⟨_, h⟩
  · rw [List.getD_eq_getElem?_getD, List.getElem?_eq_none (by show 10 ≤ _; omega)]; simp
theorem shWrap_len (k : Int) (ps : List (List UInt8)) : (shWrap k ps).length ≤ 7 + lens2 ps := by
  have h1 := shWord_len k; have h2 := join_le ps
  unfold shWrap; split
  · omega
  · simp only [List.length_append, List.length_cons, List.length_nil]; omega
theorem bnd_len {l h : Int} (hl : i64ok l) (hh : i64ok h) : (bnd l h).length ≤ 44 := by
  have := Lib.itoa_length_le l hl.1 hl.2; have := Lib.itoa_length_le h hh.1 hh.2
  unfold bnd; simp only [List.length_append, List.length_cons, List.length_nil]; omega
theorem getD_ssBulk : ∀ (ks : List (List UInt8)) (i : Nat), (ks.getD i []).length + ssBulk (ks.drop (i + 1)) ≤ ssBulk (ks.drop i)
  | [], i => by simp [ssBulk]
  | a :: ks, 0 => by simp [ssBulk]
  | a :: ks, i + 1 => by simpa using getD_ssBulk ks i
mutual
theorem Sh.text_len : ∀ x : Sh, x.wf → (Sh.text x).length + 12 ≤ 65 * x.nodes + x.bulk
  | .mk k l h ks m kids, hw => by
    have h1 := Sh.texts_len k ks m 0 kids hw.2.2.2.2.2.2
    have h2 := shWrap_len k ((if hasBd k then [bnd l h] else []) ++ Sh.texts k ks m 0 kids)
    have h3 := bnd_len hw.2.1 hw.2.2.1
    rw [lens2_append] at h2
    have h4 : lens2 (if hasBd k then [bnd l h] else []) ≤ 46 := by split <;> simp [lens2] <;> omega
    simp only [Sh.text, Sh.nodes, Sh.bulk]
    simp only [List.drop_zero] at h1
    omega
theorem Sh.texts_len (k : Int) (ks : List (List UInt8)) (m : Int) : ∀ (i : Nat) (vs : List Sh), Sh.wfs vs → lens2 (Sh.texts k ks m i vs) ≤ 65 * Sh.nodess vs + Sh.bulks vs + ssBulk (ks.drop i)
  | _, [], _ => by simp [Sh.texts, lens2]
  | i, v :: vs, hw => by
    have h1 := Sh.text_len v hw.1
    have h2 := Sh.texts_len k ks m (i + 1) vs hw.2
    have h3 := getD_ssBulk ks i
    have h4 := v.nodes_pos
    have h5 : (shMark m i).length ≤ 3 := by unfold shMark; split <;> simp
    have h6 : (if k = 8 then ks.getD i [] ++ (shMark m i ++ Sh.text v) else Sh.text v).length ≤ (ks.getD i []).length + (3 + (Sh.text v).length) := by
      split
      · simp only [List.length_append]; omega
      · omega
    simp only [Sh.texts, lens2, Sh.nodess, Sh.bulks]
    omega
end
/-- the text of a shape that is right -/
def Sh.shown (x : Sh) : List UInt8 := if x.ok then Sh.text x else []
end Go.Proofs.YtkeieeogkeonfaaDoor
