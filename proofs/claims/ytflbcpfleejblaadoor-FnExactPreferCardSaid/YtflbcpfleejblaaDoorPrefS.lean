/- Contracts of the functions of the reference under Prefer. -/
import Derived.Test.YtflbcpfleejblaaDoorPref
import Derived.Test.YtflbcpfleejblaaDoorInts
import Derived.Test.YtflbcpfleejblaaDoorFormNames
import Derived.Deep.RegionHeld3
namespace Go.Proofs.YtflbcpfleejblaaDoor
open Go.RowKit

def look (s : List UInt8) : Int := ixF nameList s 0
theorem ixF_bd' : ∀ (ls : List (List UInt8)) (s : List UInt8) (k : Nat), ixF ls s k = -1 ∨ ((k : Int) ≤ ixF ls s k ∧ ixF ls s k < k + ls.length)
  | [], _, _ => .inl rfl
  | a :: r, s, k => by
    unfold ixF; split
    · right; simp; omega
    · rcases ixF_bd' r s (k + 1) with h | h
      · exact .inl h
      · right; simp at h ⊢; omega
theorem ixF_mem' : ∀ (ls : List (List UInt8)) (s : List UInt8) (k : Nat), 0 ≤ ixF ls s k → s ∈ ls
  | [], s, k, h => by simp [ixF] at h
  | a :: r, s, k, h => by
    unfold ixF at h; split at h
    · rename_i e; subst e; simp
    · exact List.mem_cons_of_mem _ (ixF_mem' r s (k + 1) h)
theorem look_bd (q : List UInt8) : -1 ≤ look q ∧ look q ≤ 6 := by
  have := ixF_bd' nameList q 0
  have hl : nameList.length = 7 := rfl
  unfold look; omega
theorem look_semi (q : List UInt8) (h : (59 : UInt8) ∈ q) : look q = -1 := by
  rcases ixF_bd' nameList q 0 with h1 | h1
  · exact h1
  · have hm := ixF_mem' nameList q 0 (by omega)
    have : ∀ p ∈ nameList, (59 : UInt8) ∉ p := by decide
    exact absurd h (this q hm)

theorem tyStr : ElemTy Tryd.prog 22 9 1 16 := ElemTy.mk' (z := .string ⟨#[]⟩) Tryd.underlying22 (by kernel_rfl) rfl (by decide)
def strV (l : List UInt8) : Value := .string ⟨l.toArray⟩
theorem OwnR.strRow {w : World} {B e : Nat} {v : Value} {ls : List (List UInt8)} (h : OwnR w B e v (ls.map strV)) : StrRow w v ls := by
  obtain ⟨a, c, rfl⟩ := h.any
  refine ⟨a, c, by simp, fun hne => ?_⟩
  rcases h.form with ⟨_, h2⟩ | ⟨g, c', h2, _⟩
  · simp at h2; exact absurd h2 hne
  · simp only [Value.slice.injEq] at h2
    obtain ⟨rfl, _, rfl⟩ := h2
    refine ⟨g, 0, rfl, fun k hk => ?_⟩
    have := h.cells g rfl k (strV ls[k]) (by simp [hk])
    rwa [add_plain] at this

set_option maxHeartbeats 1000000 in
set_option maxRecDepth 10000 in
theorem l16Parts_any (s : List UInt8) (w : World) (hl : s.length ≤ 1048576) :
    Calls Tryd.prog 43 #[.string ⟨s.toArray⟩] w fun e w' => (∃ v, e = .returned v ∧ StrRow w' v (parts 44 s)) ∧ Below w.heap.size w w' := by
  obtain ⟨all, hall⟩ : ∃ all, parts 44 s = all := ⟨_, rfl⟩
  have hlen := parts_len 44 s
  rw [hall] at hlen ⊢
  go_enter Tryd.func43, Tryd.ntmps43
  go_wp2
  go_loopw [3, 4, 5] (fun v f i wr => ∃ (j k : Nat) (ps : List (List UInt8)), j ≤ k ∧ k ≤ s.length ∧ f = .int .i64 j ∧ i = .int .i64 k ∧ OwnR wr w.heap.size 9 v (ps.map strV) ∧ ps ++ parts 44 (s.drop j) = all ∧ (44 : UInt8) ∉ (s.drop j).take (k - j) ∧ Below w.heap.size w wr) (fun _ _ i _ => s.length - (intOf i).toNat)
  case atStart => exact ⟨0, 0, [], Nat.le_refl _, Nat.zero_le _, rfl, rfl, OwnR.start, by simpa using hall, by simp, (Below.refl _ _).alloc (Nat.le_refl _) _⟩
  case round =>
    obtain ⟨j, k, ps, hjk, hk, rfl, rfl, hown, hps, hno, hbel⟩ := hrel
    have HPS := Lib.hid hps
    have HNO := Lib.hid hno
    have hpl : ps.length ≤ 1048577 := by have := congrArg List.length hps; rw [List.length_append] at this; omega
    clear hps hno hall
    have hsz := hbel.size
    obtain ⟨a, c, hv⟩ := hown.any
    subst hv
    obtain ⟨xs, hxs⟩ : ∃ xs, ps.map strV = xs := ⟨_, rfl⟩
    have hml : xs.length = ps.length := by rw [← hxs]; simp
    rw [hxs] at hown ⊢
    have HX := Lib.hid hxs
    have HML := Lib.hid hml
    have hxl : xs.length ≤ 1048577 := by omega
    clear hxs hml
    have i1 : (0 : Int) ≤ j := by omega
    have i2 : (j : Int) ≤ k := by omega
    have i3 : (k : Int) ≤ s.length := by omega
    by_cases hlt : k < s.length
    · have i4 : (k : Int) < s.length := by omega
      have htk : (s.drop j).take (k + 1 - j) = (s.drop j).take (k - j) ++ [s[k]] := by
        rw [show k + 1 - j = (k - j) + 1 by omega, List.take_succ_eq_append_getElem (by rw [List.length_drop]; omega)]
        congr 2; rw [List.getElem_drop]; congr 1; omega
      by_cases he : s[k] = 44
      · have g : ((s[k].toNat : Int) == 44) = true := by rw [he]; rfl
        have hsp : s.drop j = (s.drop j).take (k - j) ++ 44 :: s.drop (k + 1) := by
          have h1 := List.take_append_drop (k - j) (s.drop j)
          rw [List.drop_drop, show j + (k - j) = k by omega, List.drop_eq_getElem_cons hlt, he] at h1
          exact h1.symm
        have HP := Lib.hid (show (ps ++ [(s.drop j).take (k - j)]) ++ parts 44 (s.drop (k + 1)) = all by
          rw [← HPS.out, hsp, parts_cons 44 _ _ HNO.out, List.append_assoc, List.take_append_of_le_length (by rw [List.length_take, List.length_drop]; omega), List.take_take]; simp)
        clear hsp htk he
        go_wp2_with (at_builtin; refine wp_appR (ys := [.string ⟨((s.drop j).take (k - j)).toArray⟩]) tyStr rfl rfl w.heap.size (hown.alloc _) rfl ⟨wr.heap.size, 0, none⟩ 1 rfl (cell_one_new _ _ _) (by simp [Value.oneCell']) (by simp; omega) (by decide) (by simp; omega) ?_)
        intro v' w1 hown1 hgr _
        have hbel1 := OwnR.grown (hown.alloc _) (hbel.alloc hsz _) hgr (by simp; omega)
        clear hown hbel
        go_wp2
        go_roundw
        case rel => exact ⟨k + 1, k + 1, ps ++ [(s.drop j).take (k - j)], Nat.le_refl _, by omega, by go_num, by go_num, by rw [List.map_append, HX.out]; exact hown1, HP.out, by simp, hbel1⟩
        case measure => simp [intOf]; omega
      · have g : ((s[k].toNat : Int) == 44) = false := by
          simp only [beq_eq_false_iff_ne, ne_eq]; intro e; apply he; apply UInt8.toNat_inj.1; show _ = 44; omega
        have HN := Lib.hid (show (44 : UInt8) ∉ (s.drop j).take (k + 1 - j) by
          rw [htk, List.mem_append, not_or]; exact ⟨HNO.out, by simpa using fun e => he e.symm⟩)
        clear htk he
        go_wp2
        go_roundw
        case rel => exact ⟨j, k + 1, ps, by omega, by omega, rfl, by go_num, by rw [HX.out]; exact hown, HPS.out, HN.out, hbel⟩
        case measure => simp [intOf]; omega
    · obtain rfl : k = s.length := by omega
      have hno : (44 : UInt8) ∉ s.drop j := by have := HNO.out; rwa [List.take_of_length_le (by simp)] at this
      have HP := Lib.hid (show ps ++ [s.drop j] = all by rw [← HPS.out, parts_none 44 _ hno])
      clear hno
      go_wp2_with (at_builtin; refine wp_appR (ys := [.string ⟨(s.drop j).toArray⟩]) tyStr rfl rfl w.heap.size (hown.alloc _) rfl ⟨wr.heap.size, 0, none⟩ 1 rfl (cell_one_new _ _ _) (by simp [Value.oneCell']) (by simp; omega) (by decide) (by simp; omega) ?_)
      intro v' w1 hown1 hgr _
      have hbel1 := OwnR.grown (hown.alloc _) (hbel.alloc hsz _) hgr (by simp; omega)
      go_wp2
      go_ret
      refine ⟨⟨_, rfl, ?_⟩, hbel1⟩
      rw [← HP.out]
      exact OwnR.strRow (by rw [List.map_append, HX.out]; exact hown1)
end Go.Proofs.YtflbcpfleejblaaDoor
