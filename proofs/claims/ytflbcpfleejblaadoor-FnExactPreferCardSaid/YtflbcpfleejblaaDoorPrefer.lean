/- Contracts of Prefer, the program's and the reference's. -/
import Derived.Test.YtflbcpfleejblaaDoorPrefT
namespace Go.Proofs.YtflbcpfleejblaaDoor
open Go.RowKit

theorem parts_count (c : UInt8) : ∀ l : List UInt8, (parts c l).length = l.count c + 1
  | [] => by simp [parts]
  | b :: r => by
    have ih := parts_count c r
    unfold parts; split
    · rename_i h; subst h; simp [ih]
    · rename_i h
      split
      · rename_i p ps hp
        rw [hp] at ih
        rw [List.count_cons_of_ne h]; simpa using ih
      · rename_i hp; exact absurd hp (parts_ne c r)
theorem split44 (s : List UInt8) (m : Int) (w : World) (hl : s.length ≤ 1048576) (hm : w.cell? ⟨2, 0, none⟩ = some (.int .i64 m)) :
    Calls Tryd.prog 45 #[.string ⟨s.toArray⟩, .string ⟨#[44]⟩] w fun e w' => (∃ a c, e = .returned (.slice a (parts 44 s).length c) ∧ StrRow w' (.slice a (parts 44 s).length c) (parts 44 s)) ∧ Below w.heap.size w w' := by
  have h := Tryd.strings_Split ⟨s.toArray⟩ ⟨#[44]⟩ m w (by simp [ByteArray.size]; omega) hm (by decide)
  have hc : Lib.countB ⟨s.toArray⟩ ⟨#[44]⟩ = s.count 44 := Lib.count_one 44 s
  rw [hc, split_parts 44 _ s rfl] at h
  refine h.mono ?_
  rintro e w' ⟨rfl, rfl⟩
  refine ⟨⟨some ⟨w.heap.size, 0, none⟩, s.count 44 + 1, by rw [parts_count], ⟨_, _, rfl, fun _ => ⟨_, _, rfl, fun k hk => ?_⟩⟩⟩, (Below.refl _ _).alloc (Nat.le_refl _) _⟩
  rw [World.cell?_alloc_new]
  simp [hk]

set_option maxHeartbeats 1000000 in
set_option maxRecDepth 10000 in
theorem prefer_impl (s : List UInt8) (ns : List Int) (v : Value) (m : Int) (w : World) (hl : s.length ≤ 1048576) (hv : Rd w (dIs ns) [v]) (hnl : ns.length ≤ 1048576) (hm : w.cell? ⟨2, 0, none⟩ = some (.int .i64 m)) :
    Calls Tryd.prog 16 #[.string ⟨s.toArray⟩, v] w fun e w' => e = .returned (.int .i64 (pref look ns (parts 44 s) (-1) 0)) ∧ Below w.heap.size w w' := by
  have hmlt := cell_lt hm
  obtain ⟨r, hr⟩ : ∃ r, pref look ns (parts 44 s) (-1) 0 = r := ⟨_, rfl⟩
  have hpl := parts_len 44 s
  have hpe := parts_each 44 s
  have HS := Lib.hid (split44 s m w hl hm)
  rw [hr]
  obtain ⟨ps, hps⟩ : ∃ ps, parts 44 s = ps := ⟨_, rfl⟩
  rw [hps] at hr hpl hpe HS
  clear hps
  have HR := Lib.hid hr
  have HPE := Lib.hid hpe
  clear hr hpe
  go_enter Tryd.func16, Tryd.ntmps16
  go_wp2_with (go_at_call 45; refine HS.out.mono ?_; rintro e W0 ⟨⟨a, c, rfl, hrow⟩, hb0⟩)
  obtain ⟨a', c', he, hg⟩ := hrow
  simp only [Value.slice.injEq, true_and] at he
  obtain ⟨rfl, rfl⟩ := he
  have KM : Hid (∀ W, Below W0.heap.size W0 W → W.cell? ⟨2, 0, none⟩ = some (.int .i64 m)) := fun W hb => by
    rw [(below2 hb0 hb (Nat.le_refl _)).cell (p := ⟨_, _, none⟩) hmlt]; exact hm
  have KV : Hid (∀ W, Below W0.heap.size W0 W → Rd W (dIs ns) [v]) := fun W hb => hv.below (below2 hb0 hb (Nat.le_refl _))
  go_loopw [5, 6, 15] (fun b t i wr => ∃ (k : Nat) (best most : Int), k ≤ ps.length ∧ i = .int .i64 k ∧ b = .int .i64 best ∧ t = .int .i64 most ∧ pref look ns (ps.drop k) best most = r ∧ Below W0.heap.size W0 wr) (fun _ _ i _ => ps.length - (intOf i).toNat)
  case atStart => exact ⟨0, -1, 0, Nat.zero_le _, rfl, rfl, rfl, HR.out, Below.refl _ _⟩
  case round =>
    obtain ⟨k, best, most, hk, rfl, rfl, rfl, hpr, hbel⟩ := hrel
    have HP := Lib.hid hpr; clear hpr
    by_cases hlt : k < ps.length
    · obtain ⟨b, o, rfl, hcell⟩ := hg (by intro e; rw [e] at hlt; simp at hlt)
      have hc := hcell k hlt
      have hblt := cell_lt hc
      rw [← hbel.cell (p := ⟨b, o + k, none⟩) hblt] at hc
      clear hcell hg
      have hi1 : (0 : Int) ≤ k := by omega
      have hi2 : (k : Int) < ps.length := by omega
      have hq := HPE.out ps[k] (List.getElem_mem hlt)
      have HPF := Lib.hid (preference_any ps[k] m wr (by omega) (KM.out _ hbel))
      have hbd := wt_bd look look_bd ps[k]
      have hst : pref look ns (ps.drop k) best most = if (wt look ps[k]).1 < 0 then -1 else if most < (wt look ps[k]).2 ∧ (wt look ps[k]).1 ∈ ns then pref look ns (ps.drop (k + 1)) (wt look ps[k]).1 (wt look ps[k]).2 else pref look ns (ps.drop (k + 1)) best most := by
        rw [List.drop_eq_getElem_cons hlt]; rfl
      obtain ⟨x, hx⟩ : ∃ x, wt look ps[k] = x := ⟨_, rfl⟩
      rw [hx] at HPF hbd hst
      obtain ⟨f, n⟩ := x
      simp only at HPF hbd hst
      rw [HP.out] at hst
      clear hx HR
      obtain ⟨b1, b2, b3, b4⟩ := hbd
      by_cases hneg : f < 0
      · rw [if_pos hneg] at hst
        have HF := Lib.hid hst
        have hd : decide (0 ≤ f) = false := decide_eq_false (by omega)
        clear hst
        go_wp2_with (go_at_call 46; refine HPF.out.mono ?_; rw [hd]; rintro e w1 ⟨⟨f', n', rfl, _⟩, hb1⟩)
        go_ret
        exact ⟨ret_int HF.out.symm, below2 hb0 (below2 hbel hb1 (Nat.le_refl _)) (Nat.le_refl _)⟩
      · rw [if_neg hneg] at hst
        have hd : decide (0 ≤ f) = true := decide_eq_true (by omega)
        by_cases hgt : most < n
        · by_cases hin : f ∈ ns
          · rw [if_pos ⟨hgt, hin⟩] at hst
            have HF := Lib.hid hst
            have HI := Lib.hid (decide_eq_true hin)
            clear hst hin
            go_wp2_with (first | (go_at_call 46; refine HPF.out.mono ?_; rw [hd]; rintro e w1 ⟨⟨f', n', rfl, hfn⟩, hb1⟩; obtain ⟨rfl, rfl⟩ := hfn (by omega)) | (go_at_call 47; refine (containsN_any ns v _ _ (KV.out _ (below2 hbel hb1 (Nat.le_refl _))) (by omega)).mono ?_; rw [HI.out]; rintro e w2 ⟨rfl, rfl⟩))
            go_roundw
            case rel => exact ⟨k + 1, _, _, by omega, by go_num, rfl, rfl, HF.out.symm, below2 hbel hb1 (Nat.le_refl _)⟩
            case measure => simp [intOf]; omega
          · rw [if_neg (fun h => hin h.2)] at hst
            have HF := Lib.hid hst
            have HI := Lib.hid (decide_eq_false hin)
            clear hst hin
            go_wp2_with (first | (go_at_call 46; refine HPF.out.mono ?_; rw [hd]; rintro e w1 ⟨⟨f', n', rfl, hfn⟩, hb1⟩; obtain ⟨rfl, rfl⟩ := hfn (by omega)) | (go_at_call 47; refine (containsN_any ns v _ _ (KV.out _ (below2 hbel hb1 (Nat.le_refl _))) (by omega)).mono ?_; rw [HI.out]; rintro e w2 ⟨rfl, rfl⟩))
            go_roundw
            case rel => exact ⟨k + 1, _, _, by omega, by go_num, rfl, rfl, HF.out.symm, below2 hbel hb1 (Nat.le_refl _)⟩
            case measure => simp [intOf]; omega
        · rw [if_neg (fun h => hgt h.1)] at hst
          have HF := Lib.hid hst
          clear hst
          go_wp2_with (first | (go_at_call 46; refine HPF.out.mono ?_; rw [hd]; rintro e w1 ⟨⟨f', n', rfl, hfn⟩, hb1⟩; obtain ⟨rfl, rfl⟩ := hfn (by omega)))
          go_roundw
          case rel => exact ⟨k + 1, _, _, by omega, by go_num, rfl, rfl, HF.out.symm, below2 hbel hb1 (Nat.le_refl _)⟩
          case measure => simp [intOf]; omega
    · obtain rfl : k = ps.length := by omega
      have h1 := HP.out
      rw [List.drop_length] at h1
      have HF := Lib.hid (show best = r from h1)
      clear h1
      go_wp2
      go_ret
      exact ⟨ret_int HF.out, below2 hb0 hbel (Nat.le_refl _)⟩

set_option maxHeartbeats 1000000 in
set_option maxRecDepth 10000 in
theorem prefer_spec (s : List UInt8) (ns : List Int) (v : Value) (w : World) (hl : s.length ≤ 1048576) (hv : Rd w (dIs ns) [v]) (hnl : ns.length ≤ 1048576) :
    Calls Tryd.prog 14 #[.string ⟨s.toArray⟩, v] w fun e w' => e = .returned (.int .i64 (pref look ns (parts 44 s) (-1) 0)) ∧ Below w.heap.size w w' := by
  obtain ⟨r, hr⟩ : ∃ r, pref look ns (parts 44 s) (-1) 0 = r := ⟨_, rfl⟩
  have hpl := parts_len 44 s
  have hpe := parts_each 44 s
  have HS := Lib.hid (l16Parts_any s w hl)
  rw [hr]
  obtain ⟨ps, hps⟩ : ∃ ps, parts 44 s = ps := ⟨_, rfl⟩
  rw [hps] at hr hpl hpe HS
  clear hps
  have HR := Lib.hid hr
  have HPE := Lib.hid hpe
  clear hr hpe
  go_enter Tryd.func14, Tryd.ntmps14
  go_wp2_with (go_at_call 43; refine HS.out.mono ?_; rintro e W0 ⟨⟨u, rfl, hrow⟩, hb0⟩; obtain ⟨a, c, rfl, hg⟩ := hrow)
  have KV : Hid (∀ W, Below W0.heap.size W0 W → Rd W (dIs ns) [v]) := fun W hb => hv.below (below2 hb0 hb (Nat.le_refl _))
  go_loopw [5, 6, 8] (fun b t i wr => ∃ (k : Nat) (best most : Int), k ≤ ps.length ∧ i = .int .i64 k ∧ b = .int .i64 best ∧ t = .int .i64 most ∧ pref look ns (ps.drop k) best most = r ∧ Below W0.heap.size W0 wr) (fun _ _ i _ => ps.length - (intOf i).toNat)
  case atStart => exact ⟨0, -1, 0, Nat.zero_le _, rfl, rfl, rfl, HR.out, Below.refl _ _⟩
  case round =>
    obtain ⟨k, best, most, hk, rfl, rfl, rfl, hpr, hbel⟩ := hrel
    have HP := Lib.hid hpr; clear hpr
    by_cases hlt : k < ps.length
    · obtain ⟨b, o, rfl, hcell⟩ := hg (by intro e; rw [e] at hlt; simp at hlt)
      have hc := hcell k hlt
      have hblt := cell_lt hc
      rw [← hbel.cell (p := ⟨b, o + k, none⟩) hblt] at hc
      clear hcell hg
      have hi1 : (0 : Int) ≤ k := by omega
      have hi2 : (k : Int) < ps.length := by omega
      have hq := HPE.out ps[k] (List.getElem_mem hlt)
      have HPF := Lib.hid (l16Weight_any ps[k] wr (by omega))
      have hbd := wt_bd look look_bd ps[k]
      have hst : pref look ns (ps.drop k) best most = if (wt look ps[k]).1 < 0 then -1 else if most < (wt look ps[k]).2 ∧ (wt look ps[k]).1 ∈ ns then pref look ns (ps.drop (k + 1)) (wt look ps[k]).1 (wt look ps[k]).2 else pref look ns (ps.drop (k + 1)) best most := by
        rw [List.drop_eq_getElem_cons hlt]; rfl
      obtain ⟨x, hx⟩ : ∃ x, wt look ps[k] = x := ⟨_, rfl⟩
      rw [hx] at HPF hbd hst
      obtain ⟨f, n⟩ := x
      simp only at HPF hbd hst
      rw [HP.out] at hst
      clear hx HR
      obtain ⟨b1, b2, b3, b4⟩ := hbd
      by_cases hneg : f < 0
      · rw [if_pos hneg] at hst
        have HF := Lib.hid hst
        clear hst
        go_wp2_with (go_at_call 44; refine HPF.out.mono ?_; rintro e w1 ⟨rfl, hb1⟩)
        go_ret
        exact ⟨ret_int HF.out.symm, below2 hb0 (below2 hbel hb1 (Nat.le_refl _)) (Nat.le_refl _)⟩
      · rw [if_neg hneg] at hst
        have HST := Lib.hid hst
        clear hst
        go_wp2_with (go_at_call 44; refine HPF.out.mono ?_; rintro e w1 ⟨rfl, hb1⟩)
        have hbel1 := below2 hbel hb1 (Nat.le_refl _)
        have hvv := KV.out _ hbel1
        obtain ⟨na, nc, rfl, hng⟩ := hvv.ints
        go_loopw [11, 12] (fun t i wq => ∃ (j : Nat), j ≤ ns.length ∧ i = .int .i64 j ∧ t = .bool (decide (f ∈ ns.take j)) ∧ w1 = wq) (fun _ i _ => ns.length - (intOf i).toNat)
        case atStart => exact ⟨0, Nat.zero_le _, rfl, by simp, rfl⟩
        case round =>
          obtain ⟨j, hj, rfl, rfl, rfl⟩ := hrel
          by_cases hj2 : j < ns.length
          · obtain ⟨_, _, b2, o2, rfl, hb2, hcell2⟩ := hng (by intro e; rw [e] at hj2; simp at hj2)
            have hc2 := hcell2 j hj2
            clear hcell2 hng
            have hi3 : (0 : Int) ≤ j := by omega
            have hi4 : (j : Int) < ns.length := by omega
            have hsn : decide (f ∈ ns.take (j + 1)) = (decide (f ∈ ns.take j) || decide (ns[j] = f)) := by
              rw [List.take_succ_eq_append_getElem hj2, Bool.eq_iff_iff]; simp only [decide_eq_true_eq, Bool.or_eq_true, List.mem_append, List.mem_singleton]; exact or_congr Iff.rfl ⟨Eq.symm, Eq.symm⟩
            by_cases hin : f ∈ ns.take j
            · have HD := Lib.hid (decide_eq_true hin)
              have HN := Lib.hid (show decide (f ∈ ns.take (j + 1)) = true by rw [hsn, HD.out]; rfl)
              rw [HD.out]
              clear hin hsn
              go_wp2
              go_roundw
              case rel => exact ⟨j + 1, by omega, by go_num, by rw [HN.out], trivial⟩
              case measure => simp [intOf]; omega
            · have HD := Lib.hid (decide_eq_false hin)
              rw [HD.out]
              by_cases he : ns[j] = f
              · have g : (ns[j] == f) = true := by simp [he]
                have HN := Lib.hid (show decide (f ∈ ns.take (j + 1)) = true by rw [hsn, HD.out, decide_eq_true he]; rfl)
                clear hin hsn he
                go_wp2
                go_roundw
                case rel => exact ⟨j + 1, by omega, by go_num, by rw [HN.out], trivial⟩
                case measure => simp [intOf]; omega
              · have g : (ns[j] == f) = false := by simpa using he
                have HN := Lib.hid (show decide (f ∈ ns.take (j + 1)) = false by rw [hsn, HD.out, decide_eq_false he]; rfl)
                clear hin hsn he
                go_wp2
                go_roundw
                case rel => exact ⟨j + 1, by omega, by go_num, by rw [HN.out], trivial⟩
                case measure => simp [intOf]; omega
          · obtain rfl : j = ns.length := by omega
            rw [List.take_length]
            by_cases hin : f ∈ ns
            · rw [decide_eq_true hin]
              by_cases hgt : most < n
              · have HF := Lib.hid (show r = _ by rw [HST.out, if_pos ⟨hgt, hin⟩])
                clear hin
                go_wp2
                go_roundw
                case rel => exact ⟨k + 1, _, _, by omega, by go_num, rfl, rfl, HF.out.symm, hbel1⟩
                case measure => simp [intOf]; omega
              · have HF := Lib.hid (show r = _ by rw [HST.out, if_neg (fun h => hgt h.1)])
                clear hin
                go_wp2
                go_roundw
                case rel => exact ⟨k + 1, _, _, by omega, by go_num, rfl, rfl, HF.out.symm, hbel1⟩
                case measure => simp [intOf]; omega
            · rw [decide_eq_false hin]
              have HF := Lib.hid (show r = _ by rw [HST.out, if_neg (fun h => hin h.2)])
              clear hin
              go_wp2
              go_roundw
              case rel => exact ⟨k + 1, _, _, by omega, by go_num, rfl, rfl, HF.out.symm, hbel1⟩
              case measure => simp [intOf]; omega
    · obtain rfl : k = ps.length := by omega
      have h1 := HP.out
      rw [List.drop_length] at h1
      have HF := Lib.hid (show best = r from h1)
      clear h1
      go_wp2
      go_ret
      exact ⟨ret_int HF.out, below2 hb0 hbel (Nat.le_refl _)⟩
end Go.Proofs.YtflbcpfleejblaaDoor
