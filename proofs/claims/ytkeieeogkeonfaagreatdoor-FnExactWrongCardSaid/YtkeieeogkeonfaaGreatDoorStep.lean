/- An append to a row of the call's own inside a region that draws its order. No program in sight. -/
import Derived.Test.YtkeieeogkeonfaaGreatDoorOwn
import Derived.Deep.AppendLies
namespace Go.Proofs.YtkeieeogkeonfaaGreatDoor
open Go.RowKit

theorem step_appR {P : Program} {ops : Array Oper} {o : Oper} {a : Act} {w : World} {K : Act → World → Prop} {Q : Exit → Act → World → Prop} {E : Prop} {t e : TypeId} {bytes : Nat} {s x : Operand} {v : Value} {xs ys : List Value}
    (T : ElemTy P t e 1 bytes) (hgd : o.guard = none) (ho : o.op = .call { callee := .builtin .append, args := #[s, x], argTypes := #[t, t] })
    (B : Nat) (hown : OwnR w B e v xs) (hs : a.eval s = v) (ad : Addr) (c : Nat) (hx : a.eval x = .slice (some ad) ys.length c)
    (hnews : ∀ j u, ys[j]? = some u → w.cell? (ad.add j) = some u) (h1 : ∀ u ∈ ys, u.oneCell' = true) (hy : 0 < ys.length)
    (h63 : xs.length + ys.length ≤ 4294967296) (hby : bytes ≤ 32768) (hB : B ≤ w.heap.size)
    (h : ∀ v' w', OwnR w' B e v' (xs ++ ys) → w.grownBy w' v.ownBlock → K (a.put o.dst v') w') :
    if Region.wanted o (yielded ops a.tmps) = true then Oper.wp P o a w K Q else E := by
  obtain ⟨i, z, h1', h2, h3, h4, h5⟩ := T.info
  refine step_append_lies w hgd s x t ho B e i z 1 bytes T.under h1' h2 h3 h4 h5 T.pos v xs.length xs hs hown ad ys.length c ys hx (by simp) hnews h1 hy (by unfold maxLen; omega)
    (Nat.le_trans (Nat.mul_le_mul h63 hby) (by decide)) hB w.heap.size rfl ?_
  intro g cap w' h1 h2 h3 h4
  refine h _ w' ?_ h2
  unfold OwnR
  rw [List.length_append]; exact h1
theorem step_appB {P : Program} {ops : Array Oper} {o : Oper} {a : Act} {w : World} {K : Act → World → Prop} {Q : Exit → Act → World → Prop} {E : Prop} {t u8 : TypeId} {s x : Operand} {v : Value} {l r : List UInt8}
    (T : ElemTy P t u8 1 1) (hgd : o.guard = none) (ho : o.op = .call { callee := .builtin .append, args := #[s, x], argTypes := #[t, t] })
    (B : Nat) (hown : OwnB w B u8 v l) (hs : a.eval s = v) (ad : Addr) (c : Nat) (hx : a.eval x = .slice (some ad) r.length c)
    (hnews : ∀ j u, (r.map fun b => Value.int .u8 ((b.toNat : Nat) : Int))[j]? = some u → w.cell? (ad.add j) = some u) (hy : 0 < r.length)
    (h63 : l.length + r.length ≤ 4294967296) (hB : B ≤ w.heap.size)
    (h : ∀ v' w', OwnB w' B u8 v' (l ++ r) → w.grownBy w' v.ownBlock → v' ≠ .slice none 0 0 → K (a.put o.dst v') w') :
    if Region.wanted o (yielded ops a.tmps) = true then Oper.wp P o a w K Q else E := by
  obtain ⟨i, z, h1', h2, h3, h4, h5⟩ := T.info
  refine step_append_lies w hgd s x t ho B u8 i z 1 1 T.under h1' h2 h3 h4 h5 T.pos v l.length _ hs hown ad r.length c (r.map fun b => Value.int .u8 ((b.toNat : Nat) : Int)) hx (by simp) hnews (bytes_one r) hy (by unfold maxLen; omega)
    (Nat.le_trans (Nat.mul_le_mul h63 (by decide : 1 ≤ 32768)) (by decide)) hB w.heap.size rfl ?_
  intro g cap w' h1 h2 h3 h4
  refine h _ w' ?_ h2 (by simp)
  unfold OwnB
  rw [List.length_append, List.map_append]; exact h1
theorem cell_one_of {w : World} {u : Value} {e : TypeId} : ∀ j x, [u][j]? = some x → (w.alloc (.cells #[u] e)).cell? ((⟨w.heap.size, 0, none⟩ : Addr).add j) = some x := by
  intro j x hj
  match j with
  | 0 => simp at hj; subst hj; simp [Addr.add]
  | j + 1 => simp at hj
end Go.Proofs.YtkeieeogkeonfaaGreatDoor
