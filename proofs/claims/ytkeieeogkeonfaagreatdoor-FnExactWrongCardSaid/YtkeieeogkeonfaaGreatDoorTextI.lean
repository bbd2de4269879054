/- Whether a text is right: the contract of TextOk of the program. -/
import Derived.Test.YtkeieeogkeonfaaGreatDoorTextS
import Derived.Test.YtkeieeogkeonfaaGreatDoorShelf
namespace Go.Proofs.YtkeieeogkeonfaaGreatDoor
open Go.RowKit
open Go.Lib (validD)

/-- the two tables of UTF-8 hold what they should -/
def Tabs (w : World) : Prop := Lib.Utf8Tabs 0 1 w
theorem Tabs.below {w w' : World} (h : Tabs w) (hb : Below w.heap.size w w') : Tabs w' := Utf8Tabs_below h hb
theorem Tabs.lt {w : World} (h : Tabs w) : 0 < w.heap.size ∧ 1 < w.heap.size := by
  have key : ∀ {b o : Nat} {v : Value}, w.cell? ⟨b, o, none⟩ = some v → b < w.heap.size := by
    intro b o v h; apply Classical.byContradiction; intro hn
    simp [World.cell?, Array.getElem?_eq_none (Nat.le_of_not_lt hn)] at h
  exact ⟨key (h.1 0 (by decide)), key (h.2 0 (by decide)).1⟩
theorem Tabs.below' {B : Nat} {w w' : World} (h : Tabs w) (hb : Below B w w') (h1 : 0 < B) (h2 : 1 < B) : Tabs w' := by
  refine ⟨fun c hc => ?_, fun i hi => ?_⟩
  · rw [hb.cell (p := ⟨_, _, none⟩) h1]; exact h.1 c hc
  · rw [hb.cell (p := ⟨_, _, none⟩) h2, hb.cell (p := ⟨_, _, none⟩) h2]; exact h.2 i hi
theorem Tabs.alloc {w : World} (h : Tabs w) (o : Obj) : Tabs (w.alloc o) := h.below ((Below.refl _ _).alloc (Nat.le_refl _) o)
theorem Tabs.drew {w : World} (h : Tabs w) : Tabs w.drew := h.below ((Below.refl _ _).drew)

theorem textOk_impl (l : List UInt8) (w : World) (hl : l.length ≤ 4294967295) (hT : Tabs w) :
    Calls Tryz.prog 73 #[.string ⟨l.toArray⟩] w fun e w' => e = .returned (.bool (validD l)) ∧ Below w.heap.size w w' := by
  have HC := Lib.hid (Tryz.utf8_ValidString ⟨l.toArray⟩ w (by simp [ByteArray.size]; omega) hT)
  go_enter Tryz.func73, Tryz.ntmps73
  go_wp2_with (go_at_call 90; refine HC.out.mono ?_; rintro e w1 ⟨rfl, hb1⟩)
  go_ret
  exact ⟨rfl, hb1⟩
end Go.Proofs.YtkeieeogkeonfaaGreatDoor
