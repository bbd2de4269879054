/- Lists of integers: how they are read, copied, compared; whether one is among them. -/
import Derived.Test.YtflbcpfleejblaaDoorData
import Derived.Test.YtflbcpfleejblaaDoorRows
import Derived.Test.YtflbcpfleejblaaDoorTree
import Derived.IntWalk
import Derived.OwnWalk
import Derived.Deep.QuietTactic
import Derived.BigQuiet
namespace Go.Proofs.YtflbcpfleejblaaDoor
open Go.RowKit

theorem Rd.ints {w : World} {ls : List Int} {v : Value} (h : Rd w (dIs ls) [v]) :
    ∃ a c, v = .slice a ls.length c ∧ (ls ≠ [] → ls.length ≤ c ∧ c ≤ maxLen ∧ ∃ b o, a = some ⟨b, o, none⟩ ∧ b < w.heap.size ∧ ∀ i (hi : i < ls.length), w.cell? ⟨b, o + i, none⟩ = some (.int .i64 ls[i])) := by
  obtain ⟨a, c, hv, h⟩ := Rd.slice h
  rw [List.length_map] at hv
  refine ⟨a, c, hv, fun hne => ?_⟩
  obtain ⟨_, h1, h2, b, o, ha, hb, hg⟩ := h (by simpa using hne)
  refine ⟨by simpa using h1, h2, b, o, ha, hb, fun i hi => ?_⟩
  obtain ⟨cs, _, hr, hc⟩ := hg i (by simpa using hi)
  simp only [List.getElem_map, dI, Rd, RepC] at hr
  subst hr
  have := hc 0 _ rfl
  simpa using this

theorem tyIs : ElemTy Tryd.prog 34 3 1 8 := ElemTy.mk' (z := .int .i64 0) Tryd.underlying34 (by kernel_rfl) rfl (by decide)

set_option maxHeartbeats 400000 in
theorem toIntS_any (ls : List Int) (v : Value) (w : World) (h : Rd w (dIs ls) [v]) (hlen : ls.length ≤ 1048576) :
    Calls Tryd.prog 15 #[v] w fun e w' => ∃ v', e = .returned v' ∧ Below w.heap.size w w' ∧ Own w.heap.size w' (dIs ls) [v'] := by
  obtain ⟨a, c, rfl, hg⟩ := h.ints
  obtain ⟨cs, hcs, hmk⟩ := run_mk tyIs ls.length (by omega) (by decide)
  have HCS := Lib.hid hcs; clear hcs
  go_enter Tryd.func15, Tryd.ntmps15
  go_wp2
  go_loopw [4] (fun i wr => ∃ (k : Nat), k ≤ ls.length ∧ i = .int .i64 k ∧ Part w.heap.size wr w.heap.size 1 ls.length ((ls.take k).map dI) ∧ Below w.heap.size w wr) (fun i _ => ls.length - (intOf i).toNat)
  case atStart => exact ⟨0, Nat.zero_le _, rfl, Part.start HCS.out, (Below.refl _ _).alloc (Nat.le_refl _) _⟩
  case round =>
    obtain ⟨k, hk, rfl, hp, hbel⟩ := hrel
    by_cases hk2 : k < ls.length
    · obtain ⟨_, _, b, o, rfl, hb, hcell⟩ := hg (by intro e; rw [e] at hk2; simp at hk2)
      have hc := hcell k hk2
      obtain ⟨hbc, _⟩ := bcell hbel
      clear hcell
      obtain ⟨⟨z, hz⟩, hfr⟩ := hp.there k (by omega)
      have hp2 := hp.put (d := dI ls[k]) (Below.refl _ wr) (Own.one _) rfl (by simp; omega) hbel.size
      have HS := Lib.hid (take_map_snoc dI ls k hk2)
      go_wp2
      go_roundw
      case rel => exact ⟨k + 1, by omega, by go_num, by rw [HS.out]; simpa [Nat.min_eq_left hk, setCells] using hp2, hbel.setCell (Nat.le_refl _) _⟩
      case measure => simp [intOf] <;> omega
    · obtain rfl : k = ls.length := by omega
      rw [List.take_length] at hp
      have ho := Part.own (ds := ls.map dI) (n := 1) (c := ls.length) (by simpa using hp) (by decide) ⟨by simp, by unfold maxLen; omega⟩
      go_wp2
      go_ret
      exact ⟨_, rfl, hbel, by simpa [dIs] using ho⟩

set_option maxHeartbeats 400000 in
theorem eqIntS_any (la lb : List Int) (va vb : Value) (w : World) (h : Rd w (dIs la) [va]) (h2 : Rd w (dIs lb) [vb]) (hla : la.length ≤ 9223372036854775807) (hlb : lb.length ≤ 9223372036854775807) :
    Calls Tryd.prog 17 #[va, vb] w fun e w' => e = .returned (.bool (decide (la = lb))) ∧ Below w.heap.size w w' := by
  obtain ⟨a, c, rfl, hg⟩ := h.ints
  obtain ⟨a', c', rfl, hg'⟩ := h2.ints
  by_cases hlen : la.length = lb.length
  · go_enter Tryd.func17, Tryd.ntmps17
    go_wp2
    go_loopw [5] (fun i wr => ∃ (k : Nat), k ≤ lb.length ∧ i = .int .i64 k ∧ la.take k = lb.take k ∧ Below w.heap.size w wr) (fun i _ => lb.length - (intOf i).toNat)
    case atStart => exact ⟨0, Nat.zero_le _, rfl, by simp, Below.refl _ _⟩
    case round =>
      obtain ⟨k, hk, rfl, htk, hbel⟩ := hrel
      have HT := Lib.hid htk; clear htk
      by_cases hk2 : k < lb.length
      · have hk1 : k < la.length := by omega
        obtain ⟨_, _, b, o, rfl, hb, hcell⟩ := hg (by intro e; rw [e] at hk1; simp at hk1)
        obtain ⟨_, _, b', o', rfl, hb', hcell'⟩ := hg' (by intro e; rw [e] at hk2; simp at hk2)
        have hc := hcell k hk1
        have hc' := hcell' k hk2
        clear hcell hcell' hg hg'
        obtain ⟨hbc, _⟩ := bcell hbel
        have hi1 : (0 : Int) ≤ k := by omega
        have hi2 : (k : Int) < lb.length := by omega
        go_wp2
        go_quiet (fail)
        go_wp2
        · have hne : (!la[k] == lb[k]) = true := by assumption
          have hne' : ¬ la = lb := ne_of_get hk1 hk2 (by simpa using hne)
          go_ret
          exact ⟨by rw [decide_eq_false hne']; rfl, below_drewN hbel _⟩
        · have heq : (!la[k] == lb[k]) = false := by assumption
          go_roundw
          case rel => exact ⟨k + 1, by omega, by go_num, take_eq_snoc HT.out hk1 hk2 (by simpa using heq), below_drewN hbel _⟩
          case measure => simp [intOf] <;> omega
      · obtain rfl : k = lb.length := by omega
        have he : la = lb := by have := HT.out; rw [List.take_length, ← hlen, List.take_length] at this; exact this
        have H := Lib.hid (decide_eq_true he)
        clear he
        go_wp2
        go_ret
        exact ⟨by rw [H.out]; rfl, hbel⟩
  · have H := Lib.hid (decide_eq_false (show ¬ la = lb from fun e => hlen (by rw [e])))
    go_enter Tryd.func17, Tryd.ntmps17
    go_wp2
    go_ret
    exact ⟨by rw [H.out]; rfl, Below.refl _ _⟩


/-- the first place of n in a list whose first element has the place k, or -1 -/
def ixN : List Int → Int → Nat → Int
  | [], _, _ => -1
  | a :: r, n, k => if a = n then k else ixN r n (k + 1)
theorem ixN_mem : ∀ (ls : List Int) (s : Int) (k : Nat), (0 ≤ ixN ls s k) ↔ s ∈ ls
  | [], s, k => by simp [ixN]
  | a :: r, s, k => by
    unfold ixN; split
    · rename_i h; subst h; simp
    · rename_i h; rw [ixN_mem r s (k + 1)]; simp [Ne.symm h]

set_option maxHeartbeats 400000 in
theorem indexN_any (ls : List Int) (v : Value) (s : Int) (w : World) (h : Rd w (dIs ls) [v]) (hl : ls.length ≤ 9223372036854775807) :
    Calls Tryd.prog 80 #[v, .int .i64 s] w fun e w' => e = .returned (.int .i64 (ixN ls s 0)) ∧ w = w' := by
  obtain ⟨a, c, rfl, hg⟩ := h.ints
  obtain ⟨r, hr⟩ : ∃ r, ixN ls s 0 = r := ⟨_, rfl⟩
  rw [hr]
  go_enter Tryd.func80, Tryd.ntmps80
  go_wp2
  go_loop [8] (fun i => ∃ (k : Nat), k ≤ ls.length ∧ i = .int .i64 k ∧ ixN (ls.drop k) s k = r) (fun i => ls.length - (intOf i).toNat)
  case atStart => exact ⟨0, Nat.zero_le _, rfl, hr⟩
  case round =>
    obtain ⟨k, hk, rfl, hix⟩ := hrel
    have HX := Lib.hid hix; clear hix
    by_cases hk2 : k < ls.length
    · obtain ⟨_, _, b, o, rfl, hb, hcell⟩ := hg (by intro e; rw [e] at hk2; simp at hk2)
      have hc := hcell k hk2
      clear hcell hg
      have hi1 : (0 : Int) ≤ k := by omega
      have hi2 : (k : Int) < ls.length := by omega
      by_cases he : ls[k] = s
      · have hk3 : ixN (ls.drop k) s k = k := by rw [List.drop_eq_getElem_cons hk2, ixN, if_pos he]
        rw [HX.out] at hk3
        have HK := Lib.hid hk3
        have g : (s == ls[k]) = true := by simp [he]
        clear hk3 he
        go_wp2
        go_ret
        exact ⟨ret_int HK.out.symm, rfl⟩
      · have hk3 : ixN (ls.drop k) s k = ixN (ls.drop (k + 1)) s (k + 1) := by rw [List.drop_eq_getElem_cons hk2, ixN, if_neg he]
        have HK := Lib.hid hk3
        have g : (s == ls[k]) = false := by simp; exact fun e => he e.symm
        clear hk3 he
        go_wp2
        go_round
        case rel => exact ⟨k + 1, by omega, by go_num, by rw [← HK.out, HX.out]⟩
        case measure => simp [intOf] <;> omega
    · obtain rfl : k = ls.length := by omega
      have hk3 := HX.out
      rw [List.drop_length] at hk3
      go_wp2
      go_ret
      exact ⟨ret_int hk3, rfl⟩
theorem containsN_any (ls : List Int) (v : Value) (s : Int) (w : World) (h : Rd w (dIs ls) [v]) (hl : ls.length ≤ 9223372036854775807) :
    Calls Tryd.prog 47 #[v, .int .i64 s] w fun e w' => e = .returned (.bool (decide (s ∈ ls))) ∧ w = w' := by
  have HC := Lib.hid (indexN_any ls v s w h hl)
  have H := Lib.hid (show decide (s ∈ ls) = decide (0 ≤ ixN ls s 0) from decide_eq_decide.2 (ixN_mem ls s 0).symm)
  go_enter Tryd.func47, Tryd.ntmps47
  go_wp2_with (go_at_call 80; refine HC.out.mono ?_; rintro e w1 ⟨rfl, rfl⟩)
  go_ret
  exact ⟨by rw [H.out]; rfl, rfl⟩
end Go.Proofs.YtflbcpfleejblaaDoor
