/- The walk of FnExactPrefer. -/
import Derived.Test.YtflbcpfleejblaaDoorPrefer
import Derived.Test.YtflbcpfleejblaaDoorRead
import Derived.Deep.RegionHeld3
import Derived.StillTailTactics
namespace Go.Proofs.YtflbcpfleejblaaDoor
open Go.RowKit

theorem trod_ints {H : Type} {enc : TypeId × Value → H} {w : World} {base : Nat} {spare : Nat → Bool} {held : Bool} (fuel : Nat) (cs : List Value) (y : DataW H × List MemPlace) (h : DataW.trod enc Tryd.prog w base spare held fuel 34 cs = some y) :
    ∃ (ls : List Int) (v : Value), cs = [v] ∧ Rd w (dIs ls) [v] ∧ ls.length ≤ maxLen := by
  obtain ⟨xs, v, h1, h2, _, h4⟩ := trod_sl (f := dI) (ok := fun _ => True) Tryd.underlying34 (by kernel_rfl) (by decide) (fun _ => rfl) (fun n cs y _ h => by
    obtain ⟨l, rfl, _⟩ := trod_i64 Tryd.underlying3 h; exact ⟨l, by simp [Rd, dI, RepC], trivial⟩) h
  exact ⟨xs, v, h1, h2, h4⟩

set_option maxHeartbeats 1000000 in
set_option maxRecDepth 10000 in
theorem exactPrefer (s : List UInt8) (ns : List Int) (v : Value) (w : World) (hM : ∃ m : Int, w.cell? ⟨2, 0, none⟩ = some (.int .i64 m)) (hs : strok s) (hv : Rd w (dIs ns) [v] ∧ ns.length ≤ maxLen) :
    Calls Tryd.prog 4 #[.string ⟨s.toArray⟩, v] w fun e w' => e = .returned (.bool true) ∧ Below w.heap.size w w' := by
  obtain ⟨m, hm⟩ := hM
  obtain ⟨hv, hnl⟩ := hv
  have hmlt := cell_lt hm
  obtain ⟨a, c, rfl⟩ := Rd.sl_form hv
  rw [List.length_map]
  rw [List.length_map] at hv
  unfold strok at hs
  unfold maxLen at hnl
  by_cases h1 : s.length ≤ 1048576
  · by_cases h2 : ns.length ≤ 1048576
    · have d1 : ¬ (1048576 : Int) < s.length := by omega
      have d2 : ¬ (1048576 : Int) < ns.length := by omega
      have KV : Hid (∀ W, Below w.heap.size w W → Rd W (dIs ns) [.slice a ns.length c]) := fun W hb => hv.below hb
      have KM : Hid (∀ W, Below w.heap.size w W → W.cell? ⟨2, 0, none⟩ = some (.int .i64 m)) := fun W hb => by
        rw [hb.cell (p := ⟨_, _, none⟩) hmlt]; exact hm
      have hB := Below.refl w.heap.size w
      clear hv hm
      go_enter Tryd.func4, Tryd.ntmps4
      go_wp2_with fail
      refine (toIntS_any ns _ _ (KV.out _ hB) h2).mono ?_
      rintro e w1 ⟨v1, rfl, hb1, ho1⟩
      replace hB := below2 hB hb1 (Nat.le_refl _)
      go_wp2_with fail
      refine (prefer_spec s ns _ _ h1 ho1.rd h2).mono ?_
      rintro e w2 ⟨rfl, hb2⟩
      replace hB := below2 hB hb2 (Nat.le_refl _)
      go_wp2_with fail
      refine (toIntS_any ns _ _ (KV.out _ hB) h2).mono ?_
      rintro e w3 ⟨v3, rfl, hb3, ho3⟩
      replace hB := below2 hB hb3 (Nat.le_refl _)
      go_wp2_with fail
      refine (prefer_impl s ns _ m _ h1 ho3.rd h2 (KM.out _ hB)).mono ?_
      rintro e w4 ⟨rfl, hb4⟩
      replace hB := below2 hB hb4 (Nat.le_refl _)
      go_wp2_with fail
      refine (toIntS_any ns _ _ (KV.out _ hB) h2).mono ?_
      rintro e w5 ⟨v5, rfl, hb5, ho5⟩
      have H35 := (ho3.rd.below hb4).below hb5
      replace hB := below2 hB hb5 (Nat.le_refl _)
      go_wp2_with fail
      refine (eqIntS_any ns ns _ _ _ H35 ho5.rd (by omega) (by omega)).mono ?_
      simp only [decide_true]
      rintro e w6 ⟨rfl, hb6⟩
      go_wp2
      go_ret
      exact ⟨rfl, below2 hB hb6 (Nat.le_refl _)⟩
    · have d1 : ¬ (1048576 : Int) < s.length := by omega
      have d2 : (1048576 : Int) < ns.length := by omega
      go_enter Tryd.func4, Tryd.ntmps4
      go_wp2
      go_ret
      exact ⟨rfl, Below.refl _ _⟩
  · have d1 : (1048576 : Int) < s.length := by omega
    go_enter Tryd.func4, Tryd.ntmps4
    go_wp2
    go_ret
    exact ⟨rfl, Below.refl _ _⟩
end Go.Proofs.YtflbcpfleejblaaDoor
