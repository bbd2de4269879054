/- Own rows of texts. -/
import Derived.Test.YtkeieeogkeonfaaGreatDoorOwn
import Derived.Test.YtkeieeogkeonfaaGreatDoorFind
namespace Go.Proofs.YtkeieeogkeonfaaGreatDoor
open Go.RowKit

theorem tyStr : ElemTy Tryz.prog 25 9 1 16 := ElemTy.mk' (z := .string ⟨#[]⟩) Tryz.underlying25 (by kernel_rfl) rfl (by decide)
def strV (l : List UInt8) : Value := .string ⟨l.toArray⟩
theorem OwnR.strRow {w : World} {B e : Nat} {v : Value} {ls : List (List UInt8)} (h : OwnR w B e v (ls.map strV)) : StrRow w v ls := by
  obtain ⟨a, c, rfl⟩ := h.any
  refine ⟨a, c, by simp, fun hne => ?_⟩
  rcases h.form with ⟨_, h2⟩ | ⟨g, c', h2, _⟩
  · simp at h2; exact absurd h2 hne
  · simp only [Value.slice.injEq] at h2
    obtain ⟨rfl, _, rfl⟩ := h2
    refine ⟨g, 0, rfl, fun k hk => ?_⟩
    have := h.cells g rfl k (strV ls[k]) (by simp [hk])
    rwa [add_plain] at this
end Go.Proofs.YtkeieeogkeonfaaGreatDoor
