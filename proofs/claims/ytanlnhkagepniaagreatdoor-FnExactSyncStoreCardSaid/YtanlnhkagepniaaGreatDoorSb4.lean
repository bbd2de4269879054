/- Part 4 of a proof: PvG8, PvG9, ReadHead, ReadHead2, PvF4, PvF5, PvF6, PvF7, DecDef, PvF2M, ValueSz, ValueTo, ValueEq, ValueSame, ValueKids, Shelf, TextI, ValueNode, Region, Box, ValueIs, PvVokI, PvI1, PvH1M, PvH1, PvH4M -/
import Derived.Test.YtanlnhkagepniaaGreatDoorSb3
import Derived.Deep.QuietTactic
import Derived.BigQuiet
import Derived.Deep.RegionHeld3
import Derived.Lib.ItoaLen
import Derived.Test.YtanlnhkagepniaaGreatDoorChecked
import Derived.KernelRfl
import Derived.Test.YtanlnhkagepniaaGreatDoorRows
import Derived.IntWalk
import Derived.OwnWalk
import Derived.StillTailTactics
import Derived.Shelf.Unicode.ValidAny
import Derived.Shelf.Strings.Builder1
import Derived.Shelf.Strings.BuilderF
import Derived.Shelf.Strings.BuilderK
import Derived.Shelf.Strconv.Atoi
import Derived.Shelf.Strconv.Itoa0
import Derived.Shelf.Strconv.Itoa1
import Derived.Shelf.LaysM
import Derived.Shelf.Strconv.Itoa2
import Derived.Shelf.Strconv.Itoa3
import Derived.Shelf.Strconv.AtoiErrFast
import Derived.Shelf.Strconv.ParseIntEmpty
import Derived.Shelf.Strconv.AtoiFail
import Derived.Shelf.Strconv.Clone
import Derived.Shelf.Strconv.SyntaxError
import Derived.Shelf.LaysC
import Derived.Shelf.Strconv.ToError
import Derived.Shelf.Strconv.Lower
import Derived.Shelf.Strconv.ParseUint10
import Derived.Shelf.Strconv.ParseUint10Empty
import Derived.Shelf.Strconv.ParseUint10Any
import Derived.Shelf.Strconv.ParseInt10
import Derived.Shelf.Strconv.AtoiLong
import Derived.Shelf.Strconv.AtoiInnerAll
import Derived.Shelf.Strconv.RangeError
import Derived.Shelf.Strconv.ToErrorRange
import Derived.Shelf.Strconv.AtoiAll
import Derived.Test.YtanlnhkagepniaaGreatDoorProg
import Derived.RegionTactic
import Derived.ChangeAlike
namespace Go.Proofs.YtanlnhkagepniaaGreatDoor
open Go.RowKit
/- PvG8 -/
section
variable {T:World -> Prop} {hT:Low ngl T}
attribute [local irreducible] po mw pt
def GetR (s:List UInt8) (d left:Int) (i nt:Nat) (live:List Nat) (x:PV) (b:List (List PC)) (n:Nat) (l:List Nat):Prop:=∃ c' rest,b = c' :: rest /\ x.lw 0 /\ lwL 0 c' /\ ∃ left',c' = [pS s,pI left'] /\ GotV s d left i nt live x left' n l
theorem zcp {s:List UInt8} {d left left' next:Int} {i nt n:Nat} {live l:List Nat} {cs:List PC} {rest:List (List PC)} (h:GotV s d left i nt live (.tup [.ag cs,.d (pI next)]) left' n l):GetR s d left i nt live (.tup [.ag cs,.d (pI next)]) ([pS s,pI left'] :: rest) n l:=by
 refine ⟨_,_,rfl,?_,zdS s left',left',rfl,h⟩;obtain ⟨cs',next',e,_,hN,_⟩:=h;simp only [PV.tup.injEq,List.cons.injEq,PV.ag.injEq,and_true] at e;obtain ⟨rfl,_⟩:=e;exact zdx hN _
set_option maxHeartbeats 4000000 in
theorem get_g {s:List UInt8} (hs:s.length <= 2147483647) {d:Int} (hd:0 <= d /\ d <= 13) (hK:d <= 12 -> KidsG T hT s d):GetG T hT s d:=by
 intro i left nt live hi hl0 hl hnt
 have hgw:∀ (i k:Nat),1 <= k /\ k <= 8 -> i <= 4611686018427387904 -> FnV (env T hT) 209 [.d (pS s),.d (pI i),.d (pI k)] (.tup [.d (pI (gwz s i k)),.d (pB (decide (i + k <= s.length)))]):=fun i k hk hi => by
  rw [<- gwV_eq]; exact zjo s i k hk hi (by omega)
 refine za1 (R:=GetR s d left i nt live) (zag zjj) (by show 3 <= 211; decide) fun B hB => ?_
 unfold m_s_l06Get;refine mP ?_;refine mO ?_;(iterate 4 refine mS ?_);refine zaJ (n:=left - 1) rfl rfl rfl rfl (by omega) ?_;(iterate 2 refine mS ?_);refine zap (p:=0) (o':=1) (cs:=[pI (left - 1)]) (z:=[pS s,pI left]) rfl rfl rfl ⟨rfl,Nat.le_of_ble_eq_true rfl⟩ rfl ?_;refine zac ?_;refine zaa ?_;refine zaq (fun st => has st.tm [(0,.ref 0 0),(1,.d (pI i)),(2,.d (pI d)),(6,.ref 1 0),(37,.d (pB (decide (left = 0 \/ d > 12 \/ i ≥ s.length))))] /\ st.bx = [[pS s,pI (left - 1)],fV 0 0 0 []] /\ st.nt = nt /\ st.live = live) ?_ ?_
 ·refine zad ?_
  (iterate 4 refine mS ?_);by_cases c1:left = 0
  ·refine zak rfl rfl (decide_eq_true (show left - 1 < 0 by omega)) ?_
   refine mS ?_
   iterate 2 (refine zah rfl ?_)
   (iterate 2 refine mS ?_)
   iterate 7 (refine zah rfl ?_)
   refine mN ?_;exact ⟨⟨rfl,rfl,rfl,rfl,by rw [decide_eq_true (.inl c1)]; rfl,trivial⟩,rfl,rfl,rfl⟩
  refine zam rfl rfl (decide_eq_false (show ¬ left - 1 < 0 by omega)) ?_;(iterate 2 refine mS ?_);by_cases c2:d > 12
  ·refine zak rfl rfl (decide_eq_true c2) ?_
   (iterate 2 refine mS ?_)
   iterate 7 (refine zah rfl ?_)
   refine mN ?_;exact ⟨⟨rfl,rfl,rfl,rfl,by rw [decide_eq_true (.inr (.inl c2))]; rfl,trivial⟩,rfl,rfl,rfl⟩
  refine zam rfl rfl (decide_eq_false c2) ?_;(iterate 7 refine mS ?_);refine po_q (v:=.d (pI s.length)) rfl rfl ?_;by_cases c3:i ≥ s.length
  ·refine zak rfl rfl (decide_eq_true (show (i:Int) ≥ s.length by omega)) ?_
   refine mN ?_;exact ⟨⟨rfl,rfl,rfl,rfl,by rw [decide_eq_true (.inr (.inr c3))]; rfl,trivial⟩,rfl,rfl,rfl⟩
  ·refine zam rfl rfl (decide_eq_false (show ¬ (i:Int) ≥ s.length by omega)) ?_
   refine mN ?_;exact ⟨⟨rfl,rfl,rfl,rfl,by rw [decide_eq_false (by omega)]; rfl,trivial⟩,rfl,rfl,rfl⟩
 rintro tm bx n1 l1 ⟨ht,rfl,rfl,rfl⟩;obtain ⟨tm0,rfl⟩:=zaj ht;clear ht;refine zeD (p:=left = 0 \/ d > 12 \/ i ≥ s.length) rfl (fun hc => ?_) (fun hc => ?_)
 ·refine mQ ?_
  refine zaA (p:=1) (cs:=fV 0 0 0 []) rfl rfl rfl rfl rfl rfl ?_;refine mN ?_;refine zab ⟨.inr rfl,[.ag (fV 0 0 0 []),.d (pI (-1))],rfl,zcp ⟨_,_,rfl,rfl,zcs _ _ _ _ _ _,(fun t ht => by rw [zdH] at ht; cases ht),fun t ht _ _ => ht,Nat.le_refl _,by omega,.inl rfl,fun v h1 h2 h3 h4 => ?_⟩⟩;exfalso;have hnp:=v.nodes_pos
  have h2':0 <= 12 - d:=by
   obtain ⟨k,n,e,x,kids⟩:=v;simp only [V.rightBy,Bool.and_eq_true,decide_eq_true_eq] at h2;exact h2.2.1
  obtain ⟨b,t0,_,_,he⟩:=zgJ h2 (by
   obtain ⟨k,n,e,x,kids⟩:=v
   have:=V.kids_nodes kids
   simp only [V.nodes] at h3;show kids.length <= 300
   omega) (by obtain ⟨k,n,e,x,kids⟩:=v; exact h1.2.1)
  rw [he] at h4
  have:=h4.lt
  omega
 refine zae ?_;have hil:i < s.length:=by omega
 have hl1:1 <= left:=by omega
 have hd12:d <= 12:=by omega
 have hK:=hK hd12;have HC:=hdC (d:=d) hl hil;have hbt:=(s[i]).toNat_lt;refine mO ?_;(iterate 5 refine mS ?_);refine zbT (k:=i) rfl rfl rfl rfl (List.getElem?_eq_getElem hil) ?_;refine zcn (n:=((s[i]).toNat:Int)) rfl rfl (by rw [IntKind.wrap_i64]; omega) ?_;refine mN ?_;refine mQ ?_;refine zau (n:=((i + 1:Nat):Int)) rfl rfl rfl (by omega) (by omega) ?_;refine mN ?_;generalize s[i].toNat = bb at HC hbt;refine zej (fun st => has st.tm [(0,.ref 0 0),(1,.d (pI ((i + 1:Nat):Int))),(2,.d (pI d)),(6,.ref 1 0),(8,.d (pI bb))] /\ st.bx = [[pS s,pI (left - 1)],fV 0 0 0 []] /\ st.nt = n1 /\ st.live = l1) ⟨⟨rfl,rfl,rfl,rfl,rfl,trivial⟩,rfl,rfl,rfl⟩ (fun tm bx n2 l2 hh => ?_);obtain ⟨ht,hbx,hn,hlv⟩:=hh;obtain ⟨tm1,rfl⟩:=zaj ht;simp only at hbx hn hlv; subst hbx; subst hn; subst hlv
 clear ht;have hz:lwL 0 [pS s,pI (left - 1)]:=zdS s (left - 1);have live0:∀ t ∈ l2,2 <= t -> t < n2 -> t ∈ l2:=fun t ht _ _ => ht
 refine zaa (zai ?_);refine mQ ?_;by_cases k:(bb:Int) < 128
 ·refine zak rfl rfl (decide_eq_true k) ?_
  refine mN ?_;refine mwT ?_;refine mQ ?_;refine zaf rfl (int_fn ((bb:Int))) ?_;refine mS ?_;refine zaA (p:=1) (cs:=vC (.mk 3 ((bb:Int)) 0 [] [])) rfl rfl rfl rfl rfl rfl ?_;refine mN ?_;refine zab ⟨.inr rfl,[.ag (vC (.mk 3 ((bb:Int)) 0 [] [])),.d (pI ((i + 1:Nat):Int))],rfl,zcp (zdT HC (zi2 _) rfl rfl rfl (by simp [V.nodes,V.nodess]) ⟨by unfold i64ok; omega,by unfold i64ok; omega,by unfold i64ok; omega,by unfold strok; simp,by simp,trivial⟩ (by omega) (by simp only [V.bulk,V.bulks,List.length_nil]; omega) hl1 (Nat.le_refl _) live0 fun v t0 h1 hM hA => ?_)⟩
  cases hM <;> first | (exfalso; omega) | exact ⟨rfl,rfl⟩
 refine zam rfl rfl (decide_eq_false k) ?_;refine mN ?_;refine mwF ?_;refine mQ ?_;by_cases k:(bb:Int) < 144
 ·refine zak rfl rfl (decide_eq_true k) ?_
  refine mN ?_;refine mwT ?_;refine mQ ?_;refine mS ?_;refine mS ?_;refine zaJ (n:=(bb:Int) - 128) rfl rfl rfl rfl (by omega) ?_;refine zft (n:=2 * ((bb:Int) - 128)) rfl rfl rfl rfl (by omega) ?_;refine mS ?_;refine po_g rfl (FnG.lift1 (p:=0) (hK (i + 1) (left - 1) 8 (2 * ((bb:Int) - 128)) true n2 l2 (fun _ => by omega) (by omega) (by omega) (by omega) hnt (by omega) (by unfold i64ok; omega)) ⟨trivial,trivial,trivial,trivial,trivial,trivial⟩ hz rfl) ?_;rintro x _ n3 l3 ⟨c',rfl,left2,rfl,hGK⟩
  have hGV:=zfC (bb:=bb) (c:=0) hs HC (by omega) (by unfold i64ok; omega) hGK (fun v t0 h1 hM hA => by
   cases hM with
   | map n h kids hl => exact ⟨kids,rfl,by omega,hA,by simp,rfl⟩
   | _ => exfalso; omega)
  obtain ⟨cs,next,rfl,hc5,_⟩:=hGK;(iterate 2 refine mS ?_);refine zaA (p:=1) (cs:=cs) rfl rfl rfl hc5 rfl rfl ?_;refine mN ?_;exact zab ⟨.inr rfl,[.ag cs,.d (pI next)],zcY rfl rfl hc5 rfl,zcp hGV⟩
 refine zam rfl rfl (decide_eq_false k) ?_;refine mN ?_;refine mwF ?_;refine mQ ?_;by_cases k:(bb:Int) < 160
 ·refine zak rfl rfl (decide_eq_true k) ?_
  refine mN ?_;refine mwT ?_;refine mQ ?_;refine mS ?_;refine mS ?_;refine zaJ (n:=(bb:Int) - 144) rfl rfl rfl rfl (by omega) ?_;refine mS ?_;refine po_g rfl (FnG.lift1 (p:=0) (hK (i + 1) (left - 1) 7 ((bb:Int) - 144) true n2 l2 (fun _ => by omega) (by omega) (by omega) (by omega) hnt (by omega) (by unfold i64ok; omega)) ⟨trivial,trivial,trivial,trivial,trivial,trivial⟩ hz rfl) ?_;rintro x _ n3 l3 ⟨c',rfl,left2,rfl,hGK⟩
  have hGV:=zfC (bb:=bb) (c:=0) hs HC (by omega) (by unfold i64ok; omega) hGK (fun v t0 h1 hM hA => by
   cases hM with
   | list kids h => exact ⟨kids,rfl,by omega,hA,by simp,rfl⟩
   | _ => exfalso; omega)
  obtain ⟨cs,next,rfl,hc5,_⟩:=hGK;(iterate 2 refine mS ?_);refine zaA (p:=1) (cs:=cs) rfl rfl rfl hc5 rfl rfl ?_;refine mN ?_;exact zab ⟨.inr rfl,[.ag cs,.d (pI next)],zcY rfl rfl hc5 rfl,zcp hGV⟩
 refine zam rfl rfl (decide_eq_false k) ?_;refine mN ?_;refine mwF ?_;refine mQ ?_;by_cases k:(bb:Int) < 192
 ·refine zak rfl rfl (decide_eq_true k) ?_
  refine mN ?_;refine mwT ?_;refine mQ ?_;refine mS ?_;refine mS ?_;refine zaJ (n:=((bb - 160:Nat):Int)) rfl rfl rfl (by omega) (by omega) ?_
  have hGV:=zfD (bb:=bb) (nt:=n2) (live:=l2) (ok:=true) (many:=bb - 160) (i2:=i + 1) (c:=0) (kind:=5) hs HC (by omega) (by unfold i64ok; omega) hl1 (fun v t0 h1 hM hA => by
   cases hM with
   | text tx h => exact ⟨t0,rfl,by omega,hA,by simp,rfl⟩
   | _ => exfalso; omega) hil (fun _ => by omega)
  refine po_g rfl (FnG.lift1 (p:=0) (R:=fun x c' n l => c' = [pS s,pI (left - 1)] /\ n = n2 /\ l = l2 /\ x = strV s (i + 1) 5 (bb - 160) true) (str_g s (left - 1) (i + 1) 5 (bb - 160) true (by omega) (by omega) (by omega) n2 l2) ⟨trivial,trivial,trivial,trivial,trivial⟩ hz rfl) ?_;rintro x _ _ _ ⟨_,rfl,rfl,rfl,rfl,rfl⟩;obtain ⟨cs,next,hx,hc5,_⟩:=id hGV;rw [hx] at hGV ⊢;(iterate 2 refine mS ?_);refine zaA (p:=1) (cs:=cs) rfl rfl rfl hc5 rfl rfl ?_;refine mN ?_;exact zab ⟨.inr rfl,[.ag cs,.d (pI next)],zcY rfl rfl hc5 rfl,zcp hGV⟩
 refine zam rfl rfl (decide_eq_false k) ?_;refine mN ?_;refine mwF ?_;refine mQ ?_;by_cases k:(bb:Int) ≥ 224
 ·refine zak rfl rfl (decide_eq_true k) ?_
  refine mN ?_;refine mwT ?_;refine mQ ?_;refine zaJ (n:=(bb:Int) - 256) rfl rfl rfl rfl (by omega) ?_;refine zaf rfl (int_fn ((bb:Int) - 256)) ?_;refine mS ?_;refine zaA (p:=1) (cs:=vC (.mk 3 ((bb:Int) - 256) 0 [] [])) rfl rfl rfl rfl rfl rfl ?_;refine mN ?_;refine zab ⟨.inr rfl,[.ag (vC (.mk 3 ((bb:Int) - 256) 0 [] [])),.d (pI ((i + 1:Nat):Int))],rfl,zcp (zdT HC (zi2 _) rfl rfl rfl (by simp [V.nodes,V.nodess]) ⟨by unfold i64ok; omega,by unfold i64ok; omega,by unfold i64ok; omega,by unfold strok; simp,by simp,trivial⟩ (by omega) (by simp only [V.bulk,V.bulks,List.length_nil]; omega) hl1 (Nat.le_refl _) live0 fun v t0 h1 hM hA => ?_)⟩
  cases hM <;> first | (exfalso; omega) | exact ⟨rfl,rfl⟩
 refine zam rfl rfl (decide_eq_false k) ?_;refine mN ?_;refine mwF ?_;refine mQ ?_;by_cases k:(bb:Int) = 192
 ·refine zak rfl rfl (decide_eq_true k) ?_
  refine mN ?_;refine mwT ?_;refine mQ ?_;refine mS ?_;refine zaA (p:=1) (cs:=fV 0 0 0 []) rfl rfl rfl rfl rfl rfl ?_;refine mN ?_;refine zab ⟨.inr rfl,[.ag (fV 0 0 0 []),.d (pI ((i + 1:Nat):Int))],rfl,zcp (zdT HC (fV_er 0 0 0 []) rfl rfl rfl (by simp [V.nodes,V.nodess]) ⟨by unfold i64ok; omega,by unfold i64ok; omega,by unfold i64ok; omega,by unfold strok; simp,by simp,trivial⟩ (by omega) (by simp only [V.bulk,V.bulks,List.length_nil]; omega) hl1 (Nat.le_refl _) live0 fun v t0 h1 hM hA => ?_)⟩
  cases hM <;> first | (exfalso; omega) | exact ⟨rfl,rfl⟩
 refine zam rfl rfl (decide_eq_false k) ?_;refine mN ?_;refine mwF ?_;refine mQ ?_;by_cases k4:(bb:Int) = 194
 ·refine zak rfl rfl (decide_eq_true k4) ?_
  refine mS ?_
  iterate 2 (refine zah rfl ?_)
  refine mN ?_;refine mwT ?_;refine mQ ?_;refine zaJ (n:=1) rfl rfl rfl (by omega) (by omega) ?_;refine mS ?_;refine mS ?_;refine zaA (p:=1) (cs:=fV 1 0 0 []) rfl rfl rfl rfl rfl rfl ?_;refine mN ?_;refine zab ⟨.inr rfl,[.ag (fV 1 0 0 []),.d (pI ((i + 1:Nat):Int))],rfl,zcp (zdT HC (fV_er 1 0 0 []) rfl rfl rfl (by simp [V.nodes,V.nodess]) ⟨by unfold i64ok; omega,by unfold i64ok; omega,by unfold i64ok; omega,by unfold strok; simp,by simp,trivial⟩ (by omega) (by simp only [V.bulk,V.bulks,List.length_nil]; omega) hl1 (Nat.le_refl _) live0 fun v t0 h1 hM hA => ?_)⟩
  cases hM <;> first | (exfalso; omega) | exact ⟨rfl,rfl⟩
 refine zam rfl rfl (decide_eq_false k4) ?_;(iterate 2 refine mS ?_);by_cases k5:(bb:Int) = 195
 ·refine zak rfl rfl (decide_eq_true k5) ?_
  refine mN ?_;refine mwT ?_;refine mQ ?_;refine zaJ (n:=2) rfl rfl rfl (by omega) (by omega) ?_;refine mS ?_;refine mS ?_;refine zaA (p:=1) (cs:=fV 2 0 0 []) rfl rfl rfl rfl rfl rfl ?_;refine mN ?_;refine zab ⟨.inr rfl,[.ag (fV 2 0 0 []),.d (pI ((i + 1:Nat):Int))],rfl,zcp (zdT HC (fV_er 2 0 0 []) rfl rfl rfl (by simp [V.nodes,V.nodess]) ⟨by unfold i64ok; omega,by unfold i64ok; omega,by unfold i64ok; omega,by unfold strok; simp,by simp,trivial⟩ (by omega) (by simp only [V.bulk,V.bulks,List.length_nil]; omega) hl1 (Nat.le_refl _) live0 fun v t0 h1 hM hA => ?_)⟩
  cases hM <;> first | (exfalso; omega) | exact ⟨rfl,rfl⟩
 refine zam rfl rfl (decide_eq_false k5) ?_;refine mN ?_;refine mwF ?_;refine zej (fun st => has st.tm [(0,.ref 0 0),(1,.d (pI ((i + 1:Nat):Int))),(2,.d (pI d)),(6,.ref 1 0),(8,.d (pI bb))] /\ st.bx = [[pS s,pI (left - 1)],fV 0 0 0 []] /\ st.nt = n2 /\ st.live = l2) ⟨⟨rfl,rfl,rfl,rfl,rfl,trivial⟩,rfl,rfl,rfl⟩ (fun tm bx n2' l2' hh => ?_);obtain ⟨ht,hbx,hn,hlv⟩:=hh;obtain ⟨tm2,rfl⟩:=zaj ht;simp only at hbx hn hlv; subst hbx; subst hn; subst hlv
 clear ht;refine mQ ?_;refine zaf rfl (zdk bb 204 211) ?_;by_cases k6:(204:Int) <= bb /\ (bb:Int) <= 211
 ·rw [decide_eq_true k6]
  refine mN ?_;refine mwT ?_;refine mO ?_;(iterate 3 refine mS ?_);have hGV:=gotV_wide (nt:=n2') (live:=l2') HC (by omega) hl1 hil;refine po_g rfl (FnG.lift1 (p:=0) (R:=fun x c' n l => c' = [pS s,pI (left - 1)] /\ n = n2' + 1 /\ l = n2' :: l2' /\ x = wideV s (i + 1) bb) (wide_g s (left - 1) (i + 1) bb hbt (by omega) (by omega) n2' l2') ⟨trivial,trivial,trivial⟩ hz rfl) ?_;rintro x _ _ _ ⟨_,rfl,rfl,rfl,rfl,rfl⟩;obtain ⟨cs,next,hx,hc5,_⟩:=id hGV;rw [hx] at hGV ⊢;(iterate 2 refine mS ?_);refine zaA (p:=1) (cs:=cs) rfl rfl rfl hc5 rfl rfl ?_;refine mN ?_;exact zab ⟨.inr rfl,[.ag cs,.d (pI next)],zcY rfl rfl hc5 rfl,zcp hGV⟩
 rw [decide_eq_false k6];refine mN ?_;refine mwF ?_;refine mQ ?_;by_cases k7:(bb:Int) = 199
 ·refine zak rfl rfl (decide_eq_true k7) ?_
  refine mN ?_;refine mwT ?_;refine mO ?_;(iterate 3 refine mS ?_)
  obtain rfl:bb = 199:=by omega
  refine po_g rfl (FnG.lift1 (p:=0) (ext_g hs (by omega) hK (i + 1) (left - 1) n2' l2' (by omega) (by omega) (by omega) hnt) ⟨trivial,trivial,trivial⟩ hz rfl) ?_;rintro x _ n3 l3 ⟨c',rfl,left2,rfl,hGX⟩;have hGV:=gotV_ext HC hGX;obtain ⟨cs,next,rfl,hc5,_⟩:=hGX;(iterate 2 refine mS ?_);refine zaA (p:=1) (cs:=cs) rfl rfl rfl hc5 rfl rfl ?_;refine mN ?_;exact zab ⟨.inr rfl,[.ag cs,.d (pI next)],zcY rfl rfl hc5 rfl,zcp hGV⟩
 refine zam rfl rfl (decide_eq_false k7) ?_;refine mN ?_;refine mwF ?_;refine zae ?_;refine mO ?_;(iterate 5 refine mS ?_);refine zaf (args:=[.d (pS s),.d (pI ((i + 1:Nat):Int)),.d (pI ((1:Nat):Int))]) rfl (hgw (i + 1) 1 (by decide) (by omega)) ?_;refine mN ?_;refine mO ?_;(iterate 5 refine mS ?_);refine zaf (args:=[.d (pS s),.d (pI ((i + 1:Nat):Int)),.d (pI ((2:Nat):Int))]) rfl (hgw (i + 1) 2 (by decide) (by omega)) ?_;refine mN ?_
 obtain ⟨m1,hm1,hm1b⟩:∃ m1:Nat,gwz s (i + 1) 1 = m1 /\ m1 < 256:=by
  have:=zdw s (i + 1) 1 (by decide)
  unfold gwz;split
  ·exact ⟨(gwN s (i + 1) 1).toNat,by omega,by omega⟩
  ·exact ⟨0,rfl,by omega⟩
 obtain ⟨m2,hm2,hm2b⟩:∃ m2:Nat,gwz s (i + 1) 2 = m2 /\ m2 < 65536:=by
  have:=zdw s (i + 1) 2 (by decide)
  unfold gwz;split
  ·exact ⟨(gwN s (i + 1) 2).toNat,by omega,by omega⟩
  ·exact ⟨0,rfl,by omega⟩
 rw [hm1,hm2]
 have one:∀ {l t0:List UInt8},l.length < 256 -> t0 = be 1 l.length ++ l -> At s (i + 1) t0 -> l.length = m1 /\ At s (i + 1 + 1) l /\ t0.length = 1 + l.length /\ decide (i + 1 + 1 <= s.length) = true:=by
  rintro l t0 hl rfl hA;have h1:=hA.app.1;have h2:=hA.app.2;have h3:=h1.len (by omega);rw [zal] at h2 h3;have h4:=h1.gw_id (by omega) (by omega);rw [zf9 h3,h4] at hm1;exact ⟨by omega,h2,by rw [List.length_append,zal],decide_eq_true h3⟩
 have two:∀ {n:Nat} {l t0:List UInt8},n < 65536 -> t0 = be 2 n ++ l -> At s (i + 1) t0 -> n = m2 /\ At s (i + 1 + 2) l /\ t0.length = 2 + l.length /\ decide (i + 1 + 2 <= s.length) = true:=by
  rintro n l t0 hl rfl hA;have h1:=hA.app.1;have h2:=hA.app.2;have h3:=h1.len (by omega);rw [zal] at h2 h3;have h4:=h1.gw_id (by omega) (by omega);rw [zf9 h3,h4] at hm2;exact ⟨by omega,h2,by rw [List.length_append,zal],decide_eq_true h3⟩
 refine zej (fun st => has st.tm [(0,.ref 0 0),(1,.d (pI ((i + 1:Nat):Int))),(2,.d (pI d)),(6,.ref 1 0),(8,.d (pI bb)),(9,.d (pI m1)),(10,.d (pB (decide (i + 1 + 1 <= s.length)))),(11,.d (pI m2)),(12,.d (pB (decide (i + 1 + 2 <= s.length))))] /\ st.bx = [[pS s,pI (left - 1)],fV 0 0 0 []] /\ st.nt = n2' /\ st.live = l2') ⟨⟨rfl,rfl,rfl,rfl,rfl,rfl,rfl,rfl,rfl,trivial⟩,rfl,rfl,rfl⟩ (fun tm bx n2 l2 hh => ?_);obtain ⟨ht,hbx,hn,hlv⟩:=hh;obtain ⟨tm3,rfl⟩:=zaj ht;simp only at hbx hn hlv; subst hbx; subst hn; subst hlv
 clear ht;have live0:∀ t ∈ l2,2 <= t -> t < n2 -> t ∈ l2:=fun t ht _ _ => ht
 generalize hk1:decide (i + 1 + 1 <= s.length) = ok1 at one;generalize hk2:decide (i + 1 + 2 <= s.length) = ok2 at two;have of1:ok1 = true -> i + 1 + 1 <= s.length:=fun h => of_decide_eq_true (hk1.trans h)
 have of2:ok2 = true -> i + 1 + 2 <= s.length:=fun h => of_decide_eq_true (hk2.trans h)
 refine zaa (zaa (zad ?_));refine mN ?_;refine zai (zaa (zad ?_));by_cases q217:(bb:Int) = 217
 ·refine zak rfl rfl (decide_eq_true q217) ?_
  refine mN ?_;refine mwT ?_;refine mQ ?_;refine mS ?_;refine zau (n:=((i + 1 + 1:Nat):Int)) rfl rfl rfl (by omega) (by omega) ?_;refine mS ?_;refine mS ?_
  have hGV:=zfD (bb:=bb) (nt:=n2) (live:=l2) (ok:=ok1) (many:=m1) (i2:=i + 1 + 1) (c:=1) (kind:=5) hs HC (by omega) (by unfold i64ok; omega) hl1 (fun v t0 h1 hM hA => by
   cases hM with
   | text1 tx h =>
    obtain ⟨e1,e2,e3,e4⟩:=one (l:=tx) h.2 rfl hA
    exact ⟨tx,rfl,e1,e2,e3,e4⟩
   | _ => exfalso; omega) hil (of1)
  refine po_g rfl (FnG.lift1 (p:=0) (R:=fun x c' n l => c' = [pS s,pI (left - 1)] /\ n = n2 /\ l = l2 /\ x = strV s (i + 1 + 1) 5 (m1) ok1) (str_g s (left - 1) (i + 1 + 1) 5 (m1) ok1 (by omega) (by omega) (by omega) n2 l2) ⟨trivial,trivial,trivial,trivial,trivial⟩ hz rfl) ?_;rintro x _ _ _ ⟨_,rfl,rfl,rfl,rfl,rfl⟩;obtain ⟨cs,next,hx,hc5,_⟩:=id hGV;rw [hx] at hGV ⊢;(iterate 2 refine mS ?_);refine zaA (p:=1) (cs:=cs) rfl rfl rfl hc5 rfl rfl ?_;refine mN ?_;exact zab ⟨.inr rfl,[.ag cs,.d (pI next)],zcY rfl rfl hc5 rfl,zcp hGV⟩
 refine zam rfl rfl (decide_eq_false q217) ?_;refine mN ?_;refine mwF ?_;refine mO ?_;by_cases q218:(bb:Int) = 218
 ·refine zak rfl rfl (decide_eq_true q218) ?_
  refine mN ?_;refine mwT ?_;refine mQ ?_;refine mS ?_;refine zau (n:=((i + 1 + 2:Nat):Int)) rfl rfl rfl (by omega) (by omega) ?_;refine mS ?_;refine mS ?_
  have hGV:=zfD (bb:=bb) (nt:=n2) (live:=l2) (ok:=ok2) (many:=m2) (i2:=i + 1 + 2) (c:=2) (kind:=5) hs HC (by omega) (by unfold i64ok; omega) hl1 (fun v t0 h1 hM hA => by
   cases hM with
   | text2 tx h =>
    obtain ⟨e1,e2,e3,e4⟩:=two (l:=tx) (by omega) rfl hA
    exact ⟨tx,rfl,e1,e2,e3,e4⟩
   | _ => exfalso; omega) hil (of2)
  refine po_g rfl (FnG.lift1 (p:=0) (R:=fun x c' n l => c' = [pS s,pI (left - 1)] /\ n = n2 /\ l = l2 /\ x = strV s (i + 1 + 2) 5 (m2) ok2) (str_g s (left - 1) (i + 1 + 2) 5 (m2) ok2 (by omega) (by omega) (by omega) n2 l2) ⟨trivial,trivial,trivial,trivial,trivial⟩ hz rfl) ?_;rintro x _ _ _ ⟨_,rfl,rfl,rfl,rfl,rfl⟩;obtain ⟨cs,next,hx,hc5,_⟩:=id hGV;rw [hx] at hGV ⊢;(iterate 2 refine mS ?_);refine zaA (p:=1) (cs:=cs) rfl rfl rfl hc5 rfl rfl ?_;refine mN ?_;exact zab ⟨.inr rfl,[.ag cs,.d (pI next)],zcY rfl rfl hc5 rfl,zcp hGV⟩
 refine zam rfl rfl (decide_eq_false q218) ?_;refine mN ?_;refine mwF ?_;refine mO ?_;by_cases q196:(bb:Int) = 196
 ·refine zak rfl rfl (decide_eq_true q196) ?_
  refine mN ?_;refine mwT ?_;refine mQ ?_;refine mS ?_;refine zau (n:=((i + 1 + 1:Nat):Int)) rfl rfl rfl (by omega) (by omega) ?_;refine mS ?_;refine mS ?_
  have hGV:=zfD (bb:=bb) (nt:=n2) (live:=l2) (ok:=ok1) (many:=m1) (i2:=i + 1 + 1) (c:=1) (kind:=6) hs HC (by omega) (by unfold i64ok; omega) hl1 (fun v t0 h1 hM hA => by
   cases hM with
   | bytes1 tx h =>
    obtain ⟨e1,e2,e3,e4⟩:=one (l:=tx) h rfl hA
    exact ⟨tx,rfl,e1,e2,e3,e4⟩
   | _ => exfalso; omega) hil (of1)
  refine po_g rfl (FnG.lift1 (p:=0) (R:=fun x c' n l => c' = [pS s,pI (left - 1)] /\ n = n2 /\ l = l2 /\ x = strV s (i + 1 + 1) 6 (m1) ok1) (str_g s (left - 1) (i + 1 + 1) 6 (m1) ok1 (by omega) (by omega) (by omega) n2 l2) ⟨trivial,trivial,trivial,trivial,trivial⟩ hz rfl) ?_;rintro x _ _ _ ⟨_,rfl,rfl,rfl,rfl,rfl⟩;obtain ⟨cs,next,hx,hc5,_⟩:=id hGV;rw [hx] at hGV ⊢;(iterate 2 refine mS ?_);refine zaA (p:=1) (cs:=cs) rfl rfl rfl hc5 rfl rfl ?_;refine mN ?_;exact zab ⟨.inr rfl,[.ag cs,.d (pI next)],zcY rfl rfl hc5 rfl,zcp hGV⟩
 refine zam rfl rfl (decide_eq_false q196) ?_;refine mN ?_;refine mwF ?_;refine mO ?_;by_cases q197:(bb:Int) = 197
 ·refine zak rfl rfl (decide_eq_true q197) ?_
  refine mN ?_;refine mwT ?_;refine mQ ?_;refine mS ?_;refine zau (n:=((i + 1 + 2:Nat):Int)) rfl rfl rfl (by omega) (by omega) ?_;refine mS ?_;refine mS ?_
  have hGV:=zfD (bb:=bb) (nt:=n2) (live:=l2) (ok:=ok2) (many:=m2) (i2:=i + 1 + 2) (c:=2) (kind:=6) hs HC (by omega) (by unfold i64ok; omega) hl1 (fun v t0 h1 hM hA => by
   cases hM with
   | bytes2 tx h =>
    obtain ⟨e1,e2,e3,e4⟩:=two (l:=tx) (by omega) rfl hA
    exact ⟨tx,rfl,e1,e2,e3,e4⟩
   | _ => exfalso; omega) hil (of2)
  refine po_g rfl (FnG.lift1 (p:=0) (R:=fun x c' n l => c' = [pS s,pI (left - 1)] /\ n = n2 /\ l = l2 /\ x = strV s (i + 1 + 2) 6 (m2) ok2) (str_g s (left - 1) (i + 1 + 2) 6 (m2) ok2 (by omega) (by omega) (by omega) n2 l2) ⟨trivial,trivial,trivial,trivial,trivial⟩ hz rfl) ?_;rintro x _ _ _ ⟨_,rfl,rfl,rfl,rfl,rfl⟩;obtain ⟨cs,next,hx,hc5,_⟩:=id hGV;rw [hx] at hGV ⊢;(iterate 2 refine mS ?_);refine zaA (p:=1) (cs:=cs) rfl rfl rfl hc5 rfl rfl ?_;refine mN ?_;exact zab ⟨.inr rfl,[.ag cs,.d (pI next)],zcY rfl rfl hc5 rfl,zcp hGV⟩
 refine zam rfl rfl (decide_eq_false q197) ?_;refine mN ?_;refine mwF ?_;refine mO ?_;by_cases q220:(bb:Int) = 220
 ·refine zak rfl rfl (decide_eq_true q220) ?_
  refine mN ?_;refine mwT ?_;refine mQ ?_;refine mS ?_;refine zau (n:=((i + 1 + 2:Nat):Int)) rfl rfl rfl (by omega) (by omega) ?_;refine mS ?_;refine mS ?_;refine mS ?_;refine po_g rfl (FnG.lift1 (p:=0) (hK (i + 1 + 2) (left - 1) 7 ((m2:Int)) ok2 n2 l2 (of2) (by omega) (by omega) (by omega) hnt (by omega) (by unfold i64ok; omega)) ⟨trivial,trivial,trivial,trivial,trivial,trivial⟩ hz rfl) ?_;rintro x _ n3 l3 ⟨c',rfl,left2,rfl,hGK⟩
  have hGV:=zfC (bb:=bb) (c:=2) hs HC (by omega) (by unfold i64ok; omega) hGK (fun v t0 h1 hM hA => by
   cases hM with
   | list2 ks h =>
    obtain ⟨e1,e2,e3,e4⟩:=two (l:=msgs ks) (by omega) rfl hA
    exact ⟨ks,rfl,by omega,e2,e3,e4⟩
   | _ => exfalso; omega)
  obtain ⟨cs,next,rfl,hc5,_⟩:=hGK;(iterate 2 refine mS ?_);refine zaA (p:=1) (cs:=cs) rfl rfl rfl hc5 rfl rfl ?_;refine mN ?_;exact zab ⟨.inr rfl,[.ag cs,.d (pI next)],zcY rfl rfl hc5 rfl,zcp hGV⟩
 refine zam rfl rfl (decide_eq_false q220) ?_;refine mN ?_;refine mwF ?_;refine mO ?_;by_cases q222:(bb:Int) = 222
 ·refine zak rfl rfl (decide_eq_true q222) ?_
  refine mN ?_;refine mwT ?_;refine mQ ?_;refine mS ?_;refine zau (n:=((i + 1 + 2:Nat):Int)) rfl rfl rfl (by omega) (by omega) ?_;refine mS ?_;refine zft (n:=2 * (m2:Int)) rfl rfl rfl rfl (by omega) ?_;refine mS ?_;refine mS ?_;refine po_g rfl (FnG.lift1 (p:=0) (hK (i + 1 + 2) (left - 1) 8 (2 * (m2:Int)) ok2 n2 l2 (of2) (by omega) (by omega) (by omega) hnt (by omega) (by unfold i64ok; omega)) ⟨trivial,trivial,trivial,trivial,trivial,trivial⟩ hz rfl) ?_;rintro x _ n3 l3 ⟨c',rfl,left2,rfl,hGK⟩
  have hGV:=zfC (bb:=bb) (c:=2) hs HC (by omega) (by unfold i64ok; omega) hGK (fun v t0 h1 hM hA => by
   cases hM with
   | map2 n h ks hl =>
    obtain ⟨e1,e2,e3,e4⟩:=two (l:=msgs ks) (by omega) rfl hA
    exact ⟨ks,rfl,by omega,e2,e3,e4⟩
   | _ => exfalso; omega)
  obtain ⟨cs,next,rfl,hc5,_⟩:=hGK;(iterate 2 refine mS ?_);refine zaA (p:=1) (cs:=cs) rfl rfl rfl hc5 rfl rfl ?_;refine mN ?_;exact zab ⟨.inr rfl,[.ag cs,.d (pI next)],zcY rfl rfl hc5 rfl,zcp hGV⟩
 refine zam rfl rfl (decide_eq_false q222) ?_;refine mN ?_;refine mwF ?_;refine zae ?_;refine mQ ?_;refine zaA (p:=1) (cs:=fV 0 0 0 []) rfl rfl rfl rfl rfl rfl ?_;refine mN ?_;refine zab ⟨.inr rfl,[.ag (fV 0 0 0 []),.d (pI (-1))],rfl,zcp (zgL HC (Nat.le_refl _) live0 (by omega) (fun v t0 h1 hM hA => ?_) _ _ _ _)⟩
 cases hM <;> (exfalso; omega)
end
/- PvG9 -/
section
variable {T:World -> Prop} {hT:Low ngl T}
attribute [local irreducible] po mw pt
theorem getG_all {s:List UInt8} (hs:s.length <= 2147483647):∀ n:Nat,n <= 13 -> GetG T hT s ((13 - n:Nat):Int)
 | 0,_ => get_g hs (by omega) fun h => by omega
 | n + 1,h => by
  refine get_g hs (by omega) fun _ => kids_g hs (by omega) ?_
  rw [show ((13 - (n + 1):Nat):Int) + 1 = ((13 - n:Nat):Int) by omega];exact getG_all hs n (by omega)
def GmR (s:List UInt8) (i:Int) (nt:Nat) (live:List Nat) (x:PV) (nt':Nat) (live':List Nat):Prop :=
 ∃ (cs:List PC) (next:Int),x = .tup [.ag cs,.d (pI next)] /\ cs.length = 5 /\ NewL nt nt' cs /\ (∀ t ∈ toksL cs,t ∈ live') /\ (∀ t ∈ live,2 <= t -> t < nt -> t ∈ live') /\ nt <= nt' /\
 ((next = -1 /\ erL cs = vC (.mk 0 0 0 [] []) /\ ∀ v:V,v.wf -> v.ok = true -> 0 <= i -> ¬ At s i.toNat (msg v)) \/
  ∃ (k:Nat) (v:V),i = k /\ v.wf /\ v.ok = true /\ At s k (msg v) /\ next = ((k + (msg v).length:Nat):Int) /\ k + (msg v).length <= s.length /\ erL cs = vC v /\ ∀ v':V,v'.wf -> v'.ok = true -> At s k (msg v') -> v' = v)
theorem zho {s:List UInt8} {i j:Nat} {l:List UInt8} (h:l = (s.drop i).take (j - i)):At s i l:=⟨(s.drop i).drop (j - i),by rw [h,List.take_append_drop]⟩
theorem ok_nodes {v:V} (h:v.ok = true):(v.nodes:Int) <= 300:=by
 unfold V.ok at h; simp only [Bool.and_eq_true,decide_eq_true_eq] at h; omega
theorem zgM {v:V} (h:v.ok = true):v.rightBy pairsOk (12 - 0) = true:=by
 unfold V.ok at h; simp only [Bool.and_eq_true] at h; exact h.1
theorem zjq {v:V} (hw:v.wf) (h:v.ok = true):0 < (msg v).length:=by
 obtain ⟨b,t,_,_,e⟩:=zgJ (zgM h) (V.ok_len h) (by obtain ⟨k,n,e,s,kids⟩:=v; exact hw.2.1);rw [e]; simp
theorem strEq (a b:List UInt8):((ByteArray.mk a.toArray).toList == (ByteArray.mk b.toArray).toList) = decide (a = b):=by
 rw [ByteArray.toList_eq,ByteArray.toList_eq];show (a == b) = decide (a = b);by_cases h:a = b
 ·subst h; simp
 ·simp [h]
theorem po_ne {E:Env} {K:St -> Prop} {tm:Nat -> PV} {bx:List (List PC)} {nt d:Nat} {live:List Nat} {r:List MOpr} {g:Option (Nat × Bool)} {c:List X} {x y:X} {la lb:List UInt8} {f:Bool} (hg:gd g tm = some true) (hx:ev tm x = .d (pS la)) (hy:ev tm y = .d (pS lb)) (h:po E r K ⟨up d (.d (pB (decide (la ≠ lb)))) tm,bx,nt,live⟩):po E (⟨some d,.bin .neq f x y,g,c⟩ :: r) K ⟨tm,bx,nt,live⟩:=by
 refine po_q hg ?_ h;simp only [qf,hx,hy,pS];show some (PV.d (.v (.bool (!((ByteArray.mk la.toArray).toList == (ByteArray.mk lb.toArray).toList))))) = _;rw [strEq];by_cases h:la = lb
 ·rw [decide_eq_true h,decide_eq_false (fun hn => hn h)]; rfl
 ·rw [decide_eq_false h,decide_eq_true h]; rfl
set_option maxHeartbeats 1000000 in
theorem getMsg_g {s:List UInt8} (hs:s.length <= 2147483647) (i:Int) (nt:Nat) (live:List Nat) (hnt:2 <= nt) :
  FnG (env T hT) 119 [.d (pS s),.d (pI i)] [] nt live (fun x _ n l => x.lw 0 /\ GmR s i nt live x n l):=by
 have hput:=fun v hw hb => zir (T:=T) (hT:=hT) v hw hb
 refine za1 (zag zji) (by show 2 <= 41; decide) fun B hB => ?_
 unfold m_s_GetMsg;refine mP ?_;refine zaa ?_;refine zaq (fun st => has st.tm [(0,.d (pS s)),(1,.d (pI i)),(4,.ref 0 0),(16,.d (pB (decide (i < 0 \/ i ≥ s.length))))] /\ st.bx = [fV 0 0 0 []] /\ st.nt = nt /\ st.live = live) ?_ ?_
 ·refine zad ?_
  refine mS ?_;by_cases c1:i < 0
  ·refine zak rfl rfl (decide_eq_true c1) ?_
   refine mS ?_
   iterate 4 (refine zah rfl ?_)
   refine mN ?_;exact ⟨⟨rfl,rfl,rfl,by rw [decide_eq_true (.inl c1)]; rfl,trivial⟩,rfl,rfl,rfl⟩
  ·refine zam rfl rfl (decide_eq_false c1) ?_
   (iterate 3 refine mS ?_);refine po_q (v:=.d (pI s.length)) rfl rfl ?_;refine po_b rfl rfl (fun b hb => ?_);refine mN ?_
   have:decide (i < 0 \/ i ≥ s.length) = b:=by rw [hb]; exact decide_eq_decide.2 ⟨fun h => h.resolve_left c1,.inr⟩
   exact ⟨⟨rfl,rfl,rfl,by rw [this]; rfl,trivial⟩,rfl,rfl,rfl⟩
 rintro tm bx n1 l1 ⟨ht,rfl,rfl,rfl⟩;obtain ⟨tm0,rfl⟩:=zaj ht;clear ht
 have hfl:∀ (n2:Nat) (l2:List Nat),n1 <= n2 -> (∀ t ∈ l1,2 <= t -> t < n1 -> t ∈ l2) -> (∀ v:V,v.wf -> v.ok = true -> 0 <= i -> ¬ At s i.toNat (msg v)) -> GmR s i n1 l1 (.tup [.ag (fV 0 0 0 []),.d (pI (-1))]) n2 l2:=fun n2 l2 h1 h2 h3 =>
  ⟨_,_,rfl,rfl,zcs _ _ _ _ _ _,(fun t ht => by rw [zdH] at ht; cases ht),h2,h1,.inl ⟨rfl,rfl,h3⟩⟩
 refine zeD (p:=i < 0 \/ i ≥ s.length) rfl (fun hc => ?_) (fun hc => ?_)
 ·refine mQ ?_
  refine zaA (p:=0) (cs:=fV 0 0 0 []) rfl rfl rfl rfl rfl rfl ?_;refine mN ?_;refine zab ⟨.inr rfl,[.ag (fV 0 0 0 []),.d (pI (-1))],rfl,zdx (zcs _ _ _ _ 0 0) _,hfl _ _ (Nat.le_refl _) (fun t ht _ _ => ht) fun v h1 h2 h3 h4 => ?_⟩
  have:=zjq h1 h2
  obtain ⟨r,hr⟩:=h4;rw [List.drop_of_length_le (by omega)] at hr
  have:=congrArg List.length hr
  simp only [List.length_nil,List.length_append] at this; omega
 obtain ⟨k,rfl⟩:=Int.eq_ofNat_of_zero_le (show 0 <= i by omega);have hk:k < s.length:=by omega
 refine zae ?_;refine mO ?_;(iterate 2 refine mS ?_);refine mN ?_;refine mO ?_;(iterate 2 refine mS ?_);refine po_g rfl (FnG.lift1 (p:=1) (by have:=getG_all (T:=T) (hT:=hT) hs 13 (by omega) k 300 n1 l1 (by omega) (by omega) (by omega) hnt; exact this) (args:=[.d (pI k),.d (pI 0)]) ⟨trivial,trivial,trivial⟩ (zdS s 300) rfl) ?_;rintro x _ n2 l2 ⟨c',rfl,left2,rfl,cs,next,rfl,hc5,hnew,hctk,hlv,hn2,_,hres,hcomp⟩
 have hcomp:∀ v:V,v.wf -> v.ok = true -> At s k (msg v) -> next = ((k + (msg v).length:Nat):Int) /\ erL cs = vC v:=fun v h1 h2 h3 => by
  obtain ⟨q1,q2,_⟩:=hcomp v h1 (zgM h2) (ok_nodes h2) h3;exact ⟨q1,q2⟩
 (iterate 3 refine mS ?_);refine zco (cs:=cs) rfl hc5 rfl rfl ?_;refine mS ?_;refine zac ?_;refine zaa ?_
 obtain ⟨f,hf⟩:∃ f:Bool,f = true ↔ ¬ ∃ v:V,v.wf /\ v.ok = true /\ At s k (msg v):=by
  by_cases h:∃ v:V,v.wf /\ v.ok = true /\ At s k (msg v)
  ·exact ⟨false,by simp only [h,not_true]; decide⟩
  ·exact ⟨true,by simp only [h,not_false_iff]⟩
 refine zaq (fun st => has st.tm [(4,.ref 0 0),(7,.ref 2 0),(8,.d (pI next)),(37,.d (pB f))] /\ (∃ c',st.bx = [fV 0 0 0 [],c',cs]) /\ st.nt = n2 /\ st.live = l2) ?_ ?_
 ·refine zad ?_
  refine mS ?_
  rcases hres with hnx | ⟨j,u,hnx,he,huw,hkj,hjs,hub,_⟩
  ·refine zak rfl rfl (decide_eq_true (show next < 0 by omega)) ?_
   refine mS ?_
   iterate 7 (refine zah rfl ?_)
   refine mN ?_;refine ⟨⟨rfl,rfl,rfl,?_,trivial⟩,⟨_,rfl⟩,rfl,rfl⟩
   have:f = true:=hf.2 (by
    rintro ⟨v,h1,h2,h3⟩
    have:=(hcomp v h1 h2 h3).1
    omega)
   rw [this]; rfl
  ·refine zam rfl rfl (decide_eq_false (show ¬ next < 0 by omega)) ?_
   refine mS ?_;refine zdl (p:=2) (cs:=cs) rfl rfl rfl hc5 ?_;(iterate 3 refine mS ?_);refine zaU (a:=k) (b:=j) (rs:=(s.drop k).take (j - k)) rfl rfl (zax rfl rfl) (zax rfl hnx) (by omega) rfl ?_;refine zaD (b:=true) (args:=[.ag (vC u)]) rfl (fun _ => zg3 he) (fun _ => hput u huw (by omega)) ?_;refine po_ne (la:=msgTop u) (lb:=(s.drop k).take (j - k)) rfl rfl rfl ?_;refine mN ?_;refine ⟨⟨rfl,rfl,rfl,?_,trivial⟩,⟨_,rfl⟩,rfl,rfl⟩
   have hiff:(msgTop u ≠ (s.drop k).take (j - k)) ↔ ¬ ∃ v:V,v.wf /\ v.ok = true /\ At s k (msg v):=by
    constructor
    ·rintro hne ⟨v,h1,h2,h3⟩
     obtain ⟨q1,q2⟩:=hcomp v h1 h2 h3;have huv:u = v:=zhn (he.symm.trans q2);subst huv
     apply hne
     unfold msgTop;rw [if_pos h2,show j - k = (msg u).length by omega,h3.take]
    ·intro hno heq
     apply hno
     by_cases hok:u.ok = true
     ·refine ⟨u,huw,hok,?_⟩
      unfold msgTop at heq;rw [if_pos hok] at heq;exact zho heq
     ·exfalso
      unfold msgTop at heq;rw [if_neg hok] at heq
      have:=congrArg List.length heq
      rw [List.length_take,List.length_drop,List.length_nil] at this;omega
   have:decide (msgTop u ≠ (s.drop k).take (j - k)) = f:=by rw [Bool.eq_iff_iff,decide_eq_true_iff,hiff,hf]
   rw [<- this]; rfl
 rintro tm bx n3 l3 ⟨ht,⟨c',rfl⟩,rfl,rfl⟩;obtain ⟨tm1,rfl⟩:=zaj ht;clear ht;refine zbw (t:=f) rfl (fun hno => ?_) (fun hyes => ?_)
 ·have hno:=hf.1 hno
  refine mQ ?_;refine zaA (p:=0) (cs:=fV 0 0 0 []) rfl rfl rfl rfl rfl rfl ?_;refine mN ?_;exact zab ⟨.inr rfl,[.ag (fV 0 0 0 []),.d (pI (-1))],rfl,zdx (zcs _ _ _ _ 0 0) _,hfl _ _ hn2 hlv fun v h1 h2 h3 h4 => hno ⟨v,h1,h2,h4⟩⟩
 ·obtain ⟨v,h1,h2,h3⟩:∃ v:V,v.wf /\ v.ok = true /\ At s k (msg v):=Classical.byContradiction fun h => by rw [hf.2 h] at hyes; cases hyes
  obtain ⟨q1,q2⟩:=hcomp v h1 h2 h3;refine zae ?_;refine mO ?_;refine zdl (p:=2) (cs:=cs) rfl rfl rfl hc5 ?_;refine mS ?_;refine zaA (p:=0) (cs:=cs) rfl rfl rfl hc5 rfl rfl ?_;refine mN ?_;exact zab ⟨.inr rfl,[.ag cs,.d (pI next)],zcY rfl rfl hc5 rfl,zdx hnew _,cs,next,rfl,hc5,hnew,hctk,hlv,hn2,.inr ⟨k,v,rfl,h1,h2,h3,q1,h3.len (by omega),q2,fun v' r1 r2 r3 => zhn ((hcomp v' r1 r2 r3).2.symm.trans q2)⟩⟩
end
/- ReadHead -/
section
theorem anyHd_lt {l:List UInt8} {j:Nat} (hj:j < l.length) (h:l[j].toNat % 32 < 24):anyHd l j = some (l[j].toNat / 32,l[j].toNat % 32,j + 1):=by
 unfold anyHd; rw [List.getElem?_eq_getElem hj]; simp only; rw [if_pos h]
theorem anyHd_gt {l:List UInt8} {j:Nat} (hj:j < l.length) (h:27 < l[j].toNat % 32):anyHd l j = none:=by
 unfold anyHd; rw [List.getElem?_eq_getElem hj]; simp only; rw [if_neg (by omega),if_pos h]
theorem zgN {l:List UInt8} {j k:Nat} (hj:j < l.length) (h:l[j].toNat % 32 = 24 + k) (hk:k <= 3) (hl:l.length < j + 1 + 2 ^ k):anyHd l j = none:=by
 unfold anyHd; rw [List.getElem?_eq_getElem hj]; simp only; rw [h,if_neg (by omega),if_neg (by omega),Nat.add_sub_cancel_left,if_pos hl]
theorem zhp {l:List UInt8} {j k:Nat} (hj:j < l.length) (h:l[j].toNat % 32 = 24 + k) (hk:k <= 3) (hl:j + 1 + 2 ^ k <= l.length):anyHd l j = some (l[j].toNat / 32,valBE ((l.drop (j + 1)).take (2 ^ k)),j + 1 + 2 ^ k):=by
 unfold anyHd; rw [List.getElem?_eq_getElem hj]; simp only; rw [h,if_neg (by omega),if_neg (by omega),Nat.add_sub_cancel_left,if_neg (by omega)]
theorem zhq (l:List UInt8) (s k:Nat) (h:s + k < l.length):valBE ((l.drop s).take (k + 1)) = valBE ((l.drop s).take k) * 256 + l[s + k].toNat:=by
 rw [zhi (l.drop s) k (by simp; omega),List.getElem_drop]
theorem zek (l:List UInt8) (j t:Nat) (h:j + (t + 1) < l.length):valBE ((l.drop (j + 1)).take (t + 1)) = valBE ((l.drop (j + 1)).take t) * 256 + l[j + (t + 1)].toNat:=by
 have:=zhq l (j + 1) t (by omega)
 rw [this]; congr 3; omega
theorem zgj (l:List UInt8) (j t:Nat) (h:t <= 7):valBE ((l.drop (j + 1)).take t) < 72057594037927936 :=
 Nat.lt_of_lt_of_le (zfy _) (Nat.le_trans (Nat.pow_le_pow_right (by decide) (show _ <= 7 by rw [List.length_take]; omega)) (by decide))
set_option maxHeartbeats 2000000 in
theorem zgk (l:List UInt8) (j k m:Nat) (w:World) (hj:j < l.length) (hm:m = 2 ^ k) (hk:k <= 3) (hq:l[j].toNat % 32 = 24 + k) (hl:l.length <= 9223372036854775000) :
  Calls Tryz.prog 160 #[.string ⟨l.toArray⟩,.int .i64 (j:Nat)] w fun e w' => e = .returned (.tuple #[.int .i64 (hM (anyHd l j)),.int .u64 (hN (anyHd l j)),.int .i64 (hX (anyHd l j))]) /\ Below w.heap.size w w':=by
 have hb:=l[j].toNat_lt;have p1:(0:Int) <= j:=by omega
 have p2:(j:Int) < l.length:=by omega
 have hmk:(k = 0 /\ m = 1) \/ (k = 1 /\ m = 2) \/ (k = 2 /\ m = 4) \/ (k = 3 /\ m = 8):=by
  have:k = 0 \/ k = 1 \/ k = 2 \/ k = 3:=by omega
  rcases this with rfl | rfl | rfl | rfl <;> simp_all
 by_cases hs:l.length < j + 1 + m
 ·have H:=Lib.hid (zgN hj hq hk (by rw [<- hm]; exact hs))
  rw [H.out];have HM:=Lib.hid hm;clear hm;generalize hqq:l[j].toNat = q at *;have hmr:(k = 0 /\ m = 1 /\ (q:Int) % 32 = 24) \/ (k = 1 /\ m = 2 /\ (q:Int) % 32 = 25) \/ (k = 2 /\ m = 4 /\ (q:Int) % 32 = 26) \/ (k = 3 /\ m = 8 /\ (q:Int) % 32 = 27):=by omega
  clear hmk hq
  rcases hmr with ⟨rfl,rfl,hr⟩ | ⟨rfl,rfl,hr⟩ | ⟨rfl,rfl,hr⟩ | ⟨rfl,rfl,hr⟩
  all_goals
   go_enter Tryz.func160,Tryz.ntmps160
   go_wp2
   go_quiet (fail)
   have hbel:=below_drewN (Below.refl w.heap.size w) nq;generalize w.drewN nq = w1 at *;have hsz:=hbel.size;go_wp2
   go_ret3
   exact ⟨by simp [hM,hN,hX],hbel.alloc hsz _⟩
 ·have H:=Lib.hid (zhp hj hq hk (by rw [<- hm]; omega))
  rw [H.out];have HM:=Lib.hid hm;rw [<- hm];clear hm;generalize hqq:l[j].toNat = q at *;have hmr:(k = 0 /\ m = 1 /\ (q:Int) % 32 = 24) \/ (k = 1 /\ m = 2 /\ (q:Int) % 32 = 25) \/ (k = 2 /\ m = 4 /\ (q:Int) % 32 = 26) \/ (k = 3 /\ m = 8 /\ (q:Int) % 32 = 27):=by omega
  clear hmk hq
  rcases hmr with ⟨rfl,rfl,hr⟩ | ⟨rfl,rfl,hr⟩ | ⟨rfl,rfl,hr⟩ | ⟨rfl,rfl,hr⟩
  ·go_enter Tryz.func160,Tryz.ntmps160
   go_wp2
   go_quiet (fail)
   have hbel:=below_drewN (Below.refl w.heap.size w) nq;generalize w.drewN nq = w1 at *;have hsz:=hbel.size;go_wp2;have HRR:=Lib.hid hr;clear hr p1 p2
   go_loopw [10,11] (fun n i wr => ∃ t:Nat,t <= 1 /\ i = .int .i64 ((t:Int) + 1) /\ n = .int .u64 (valBE ((l.drop (j + 1)).take t):Nat) /\ Below w.heap.size w wr) (fun _ i _ => (1 + 1 - intOf i).toNat)
   case atStart => exact ⟨0,by omega,rfl,rfl,hbel.alloc hsz _⟩
   case round =>
    obtain ⟨t,ht,rfl,rfl,hbel2⟩:=hrel;by_cases htm:t < 1
    ·have hlt:j + (t + 1) < l.length:=by omega
     have HS:=Lib.hid (zek l j t hlt);have hv7:=zgj l j t (by omega);have hby:=(l[j + (t + 1)]).toNat_lt;generalize hvv:valBE ((l.drop (j + 1)).take t) = v at *;clear hvv;generalize hbb:(l[j + (t + 1)]).toNat = bb at *;have p3:(j:Int) + (↑t + 1) < l.length:=by omega
     go_wp2;go_roundw
     case rel => exact ⟨t + 1,by omega,by go_num,by rw [HS.out]; go_num,hbel2⟩
     case measure => simp [intOf] <;> omega
    ·obtain rfl:t = 1:=by omega
     go_wp2
     go_ret3
     exact ⟨by simp [hM,hN,hX],hbel2⟩
  ·go_enter Tryz.func160,Tryz.ntmps160
   go_wp2
   go_quiet (fail)
   have hbel:=below_drewN (Below.refl w.heap.size w) nq;generalize w.drewN nq = w1 at *;have hsz:=hbel.size;go_wp2;have HRR:=Lib.hid hr;clear hr p1 p2
   go_loopw [10,11] (fun n i wr => ∃ t:Nat,t <= 2 /\ i = .int .i64 ((t:Int) + 1) /\ n = .int .u64 (valBE ((l.drop (j + 1)).take t):Nat) /\ Below w.heap.size w wr) (fun _ i _ => (2 + 1 - intOf i).toNat)
   case atStart => exact ⟨0,by omega,rfl,rfl,hbel.alloc hsz _⟩
   case round =>
    obtain ⟨t,ht,rfl,rfl,hbel2⟩:=hrel;by_cases htm:t < 2
    ·have hlt:j + (t + 1) < l.length:=by omega
     have HS:=Lib.hid (zek l j t hlt);have hv7:=zgj l j t (by omega);have hby:=(l[j + (t + 1)]).toNat_lt;generalize hvv:valBE ((l.drop (j + 1)).take t) = v at *;clear hvv;generalize hbb:(l[j + (t + 1)]).toNat = bb at *;have p3:(j:Int) + (↑t + 1) < l.length:=by omega
     go_wp2;go_roundw
     case rel => exact ⟨t + 1,by omega,by go_num,by rw [HS.out]; go_num,hbel2⟩
     case measure => simp [intOf] <;> omega
    ·obtain rfl:t = 2:=by omega
     go_wp2
     go_ret3
     exact ⟨by simp [hM,hN,hX],hbel2⟩
  ·go_enter Tryz.func160,Tryz.ntmps160
   go_wp2
   go_quiet (fail)
   have hbel:=below_drewN (Below.refl w.heap.size w) nq;generalize w.drewN nq = w1 at *;have hsz:=hbel.size;go_wp2;have HRR:=Lib.hid hr;clear hr p1 p2
   go_loopw [10,11] (fun n i wr => ∃ t:Nat,t <= 4 /\ i = .int .i64 ((t:Int) + 1) /\ n = .int .u64 (valBE ((l.drop (j + 1)).take t):Nat) /\ Below w.heap.size w wr) (fun _ i _ => (4 + 1 - intOf i).toNat)
   case atStart => exact ⟨0,by omega,rfl,rfl,hbel.alloc hsz _⟩
   case round =>
    obtain ⟨t,ht,rfl,rfl,hbel2⟩:=hrel;by_cases htm:t < 4
    ·have hlt:j + (t + 1) < l.length:=by omega
     have HS:=Lib.hid (zek l j t hlt);have hv7:=zgj l j t (by omega);have hby:=(l[j + (t + 1)]).toNat_lt;generalize hvv:valBE ((l.drop (j + 1)).take t) = v at *;clear hvv;generalize hbb:(l[j + (t + 1)]).toNat = bb at *;have p3:(j:Int) + (↑t + 1) < l.length:=by omega
     go_wp2;go_roundw
     case rel => exact ⟨t + 1,by omega,by go_num,by rw [HS.out]; go_num,hbel2⟩
     case measure => simp [intOf] <;> omega
    ·obtain rfl:t = 4:=by omega
     go_wp2
     go_ret3
     exact ⟨by simp [hM,hN,hX],hbel2⟩
  ·go_enter Tryz.func160,Tryz.ntmps160
   go_wp2
   go_quiet (fail)
   have hbel:=below_drewN (Below.refl w.heap.size w) nq;generalize w.drewN nq = w1 at *;have hsz:=hbel.size;go_wp2;have HRR:=Lib.hid hr;clear hr p1 p2
   go_loopw [10,11] (fun n i wr => ∃ t:Nat,t <= 8 /\ i = .int .i64 ((t:Int) + 1) /\ n = .int .u64 (valBE ((l.drop (j + 1)).take t):Nat) /\ Below w.heap.size w wr) (fun _ i _ => (8 + 1 - intOf i).toNat)
   case atStart => exact ⟨0,by omega,rfl,rfl,hbel.alloc hsz _⟩
   case round =>
    obtain ⟨t,ht,rfl,rfl,hbel2⟩:=hrel;by_cases htm:t < 8
    ·have hlt:j + (t + 1) < l.length:=by omega
     have HS:=Lib.hid (zek l j t hlt);have hv7:=zgj l j t (by omega);have hby:=(l[j + (t + 1)]).toNat_lt;generalize hvv:valBE ((l.drop (j + 1)).take t) = v at *;clear hvv;generalize hbb:(l[j + (t + 1)]).toNat = bb at *;have p3:(j:Int) + (↑t + 1) < l.length:=by omega
     go_wp2;go_roundw
     case rel => exact ⟨t + 1,by omega,by go_num,by rw [HS.out]; go_num,hbel2⟩
     case measure => simp [intOf] <;> omega
    ·obtain rfl:t = 8:=by omega
     go_wp2
     go_ret3
     exact ⟨by simp [hM,hN,hX],hbel2⟩
set_option maxHeartbeats 2000000 in
theorem zhr (l:List UInt8) (i:Int) (w:World) (hi:i64ok i) (hl:l.length <= 9223372036854775000) :
  Calls Tryz.prog 160 #[.string ⟨l.toArray⟩,.int .i64 i] w fun e w' => e = .returned (.tuple #[.int .i64 (hM (anyAt l i)),.int .u64 (hN (anyAt l i)),.int .i64 (hX (anyAt l i))]) /\ Below w.heap.size w w':=by
 by_cases h0:i < 0
 ·have HR:=Lib.hid (show anyAt l i = none by unfold anyAt; rw [if_pos h0])
  rw [HR.out]
  go_enter Tryz.func160,Tryz.ntmps160
  go_wp2
  go_ret3
  exact ⟨rfl,Below.refl _ _⟩
 ·obtain ⟨j,rfl⟩:=Int.eq_ofNat_of_zero_le (show 0 <= i by omega)
  have HR:=Lib.hid (show anyAt l (j:Nat) = anyHd l j by unfold anyAt; rw [if_neg h0]; rfl);rw [HR.out];by_cases hj:j < l.length
  ·have hb:=l[j].toNat_lt
   generalize hq:l[j].toNat = q at *;have HQ:=Lib.hid hq;have p1:(0:Int) <= j:=by omega
   have p2:(j:Int) < l.length:=by omega
   by_cases h24:q % 32 < 24
   ·have H:=Lib.hid (anyHd_lt hj (by rw [hq]; exact h24))
    rw [H.out,hq]
    go_enter Tryz.func160,Tryz.ntmps160
    go_wp2
    go_quiet (fail)
    go_wp2
    go_ret3
    exact ⟨by simp [hM,hN,hX],below_drewN (Below.refl _ _) _⟩
   ·by_cases h27:27 < q % 32
    ·have H:=Lib.hid (anyHd_gt hj (by rw [hq]; exact h27))
     rw [H.out]
     go_enter Tryz.func160,Tryz.ntmps160
     go_wp2
     go_quiet (fail)
     go_wp2
     go_ret3
     exact ⟨by simp [hM,hN,hX],below_drewN (Below.refl _ _) _⟩
    ·have hk:q % 32 = 24 \/ q % 32 = 25 \/ q % 32 = 26 \/ q % 32 = 27:=by omega
     rcases hk with hk | hk | hk | hk
     ·exact zgk l j 0 1 w hj rfl (by omega) (by rw [hq]; exact hk) hl
     ·exact zgk l j 1 2 w hj rfl (by omega) (by rw [hq]; exact hk) hl
     ·exact zgk l j 2 4 w hj rfl (by omega) (by rw [hq]; exact hk) hl
     ·exact zgk l j 3 8 w hj rfl (by omega) (by rw [hq]; exact hk) hl
  ·have H:=Lib.hid (show anyHd l j = none by unfold anyHd; rw [List.getElem?_eq_none (by omega)])
   rw [H.out]
   go_enter Tryz.func160,Tryz.ntmps160
   go_wp2
   go_ret3
   exact ⟨rfl,Below.refl _ _⟩
end
/- ReadHead2 -/
section
theorem ziD (l:List UInt8) (i:Int):getAt l i = match anyAt l i with | some (m,n,x) => if i.toNat + (hd m n).length = x then some (m,n,x) else none | none => none:=by
 unfold getAt anyAt getHd
 split <;> rfl
set_option maxHeartbeats 800000 in
theorem zd7 (l:List UInt8) (i:Int) (w:World) (hi:i64ok i) (hl:l.length <= 9223372036854775000) :
  Calls Tryz.prog 118 #[.string ⟨l.toArray⟩,.int .i64 i] w fun e w' => e = .returned (.tuple #[.int .i64 (hM (getAt l i)),.int .u64 (hN (getAt l i)),.int .i64 (hX (getAt l i))]) /\ Below w.heap.size w w':=by
 have hg:=ziD l i
 cases ha:anyAt l i with
 | none =>
  rw [ha] at hg;have HG:=Lib.hid hg;rw [HG.out]
  go_enter Tryz.func118,Tryz.ntmps118
  go_wp2_with (go_at_call 160; refine (zhr l i _ hi hl).mono ?_; rw [ha]; simp only [hM,hN,hX]; rintro e w1 ⟨rfl,hb1⟩)
  go_quiet (fail)
  go_wp2
  go_ret3
  exact ⟨rfl,below_drewN hb1 _⟩
 | some r =>
  obtain ⟨m,n,x⟩:=r;rw [ha] at hg;simp only at hg;have hi0:¬ i < 0:=by intro h; unfold anyAt at ha; rw [if_pos h] at ha; cases ha
  have haa:anyHd l i.toNat = some (m,n,x):=by unfold anyAt at ha; rw [if_neg hi0] at ha; exact ha
  obtain ⟨h1,h2,h3,h4,h5,h6,h7⟩:=zfQ haa;obtain ⟨j,rfl⟩:=Int.eq_ofNat_of_zero_le (show 0 <= i by omega);simp only [Int.toNat_natCast] at *;have p1:(0:Int) <= x:=by omega
  have p2:(j:Int) <= x:=by omega
  have p3:(x:Int) <= l.length:=by omega
  have HA:=Lib.hid ha;have HG:=Lib.hid hg;have H7:=Lib.hid h7;clear ha haa hi0 hg h7
  go_enter Tryz.func118,Tryz.ntmps118
  go_wp2_with (go_at_call 160; refine (zhr l j _ hi hl).mono ?_; rw [HA.out]; simp only [hM,hN,hX]; rintro e w1 ⟨rfl,hb1⟩)
  have hB:=hb1;have pd:decide ((x:Int) < 0) = false:=by simp
  have q1:(0:Int) <= m /\ (m:Int) <= 7:=by omega
  have q2:(0:Int) <= n /\ (n:Int) <= 18446744073709551615:=by omega
  go_region_held3 (fun W => Below w.heap.size w W) (first | exact hB | exact hB.drew)
   (first | (go_at_call 122; refine (zeB _ _ _ q1 q2).mono ?_; rintro e w2 ⟨rfl,hb2⟩; replace hB:=zaW (by first | exact hB | exact hB.drew) hb2 (Nat.le_refl _)))
  go_wp2
  ·have hne:(!hd m n == List.take (x - j) (List.drop j l)) = true:=by assumption
   have hne':¬ (j + (hd m n).length = x):=by rw [<- H7.out]; simpa using hne
   have hg:=HG.out;rw [if_neg hne'] at hg
   go_ret3
   exact ⟨by rw [hg]; rfl,hB⟩
  ·have heq:(!hd m n == List.take (x - j) (List.drop j l)) = false:=by assumption
   have heq':j + (hd m n).length = x:=by rw [<- H7.out]; simpa using heq
   have hg:=HG.out;rw [if_pos heq'] at hg
   go_ret3
   exact ⟨by rw [hg]; rfl,hB⟩
def sw (v:Nat):Int:=IntKind.i64.wrap (v:Nat)
theorem or_byte (v:Nat) (b:Nat) (hb:b < 256):bits .or .i64 (wrap64 (sw v * 256)) (b:Int) = sw (v * 256 + b):=by
 have e1:(BitVec.ofInt 64 (wrap64 (sw v * 256))).toNat = v * 256 % 18446744073709551616:=by
  rw [BitVec.toNat_ofInt]; unfold wrap64 sw; rw [IntKind.wrap_i64]; omega
 have e2:(BitVec.ofInt 64 (b:Int)).toNat = b:=by rw [BitVec.toNat_ofInt]; omega
 have e3:bits .or .i64 (wrap64 (sw v * 256)) (b:Int) = IntKind.i64.wrap ((BitVec.ofInt 64 (wrap64 (sw v * 256)) ||| BitVec.ofInt 64 (b:Int)).toNat:Nat):=rfl;rw [e3,BitVec.toNat_or,e1,e2,nat_join8 _ _ (by omega) hb];unfold sw;rw [IntKind.wrap_i64,IntKind.wrap_i64];omega
set_option maxHeartbeats 1600000 in
theorem zfc (l:List UInt8) (j k:Nat) (w:World) (hk:1 <= k /\ k <= 8) (hj:j <= l.length) (hl:l.length <= 9223372036854775000) :
  Calls Tryz.prog 166 #[.string ⟨l.toArray⟩,.int .i64 (j:Nat),.int .i64 (k:Nat)] w fun e w' =>
   e = .returned (if j + k <= l.length then .tuple #[.int .i64 (IntKind.i64.wrap (valBE ((l.drop j).take k):Nat)),.bool true] else .tuple #[.int .i64 0,.bool false]) /\ Below w.heap.size w w':=by
 have hin:inR k 1 8 = true:=zbi (by omega);obtain ⟨hk1,hk2⟩:=hk;by_cases h:j + k <= l.length
 ·rw [if_pos h]
  go_enter Tryz.func166,Tryz.ntmps166
  go_wp2_with (go_at_call 126; refine (zbV _ _ _ _).mono ?_; rintro e w' ⟨rfl,rfl⟩)
  go_loop [8,26] (fun n i => ∃ t:Nat,t <= k /\ i = .int .i64 (t:Nat) /\ n = .int .i64 (sw (valBE ((l.drop j).take t)))) (fun _ i => k - (intOf i).toNat)
  case atStart => exact ⟨0,by omega,rfl,rfl⟩
  case round =>
   obtain ⟨t,ht,rfl,rfl⟩:=hrel;by_cases htk:t < k
   ·have hlt:j + t < l.length:=by omega
    have HS:=Lib.hid (zhq l j t hlt);have hby:=(l[j + t]).toNat_lt;generalize hvv:valBE ((l.drop j).take t) = v at *;clear hvv;generalize hbb:(l[j + t]).toNat = bb at *;have p3:(j:Int) + ↑t < l.length:=by omega
    go_wp2
    go_round
    case rel => exact ⟨t + 1,by omega,by go_num,by rw [HS.out,or_byte v bb hby]⟩
    case measure => simp [intOf] <;> omega
   ·obtain rfl:t = k:=by omega
    go_wp2
    go_ret2
    exact ⟨rfl,Below.refl _ _⟩
 ·rw [if_neg h]
  go_enter Tryz.func166,Tryz.ntmps166
  go_wp2_with (go_at_call 126; refine (zbV _ _ _ _).mono ?_; rintro e w' ⟨rfl,rfl⟩)
  go_ret2
  exact ⟨rfl,Below.refl _ _⟩
end
/- PvF4 -/
section
open Go.Lib (validD)
variable {T:World -> Prop} {hT:Low ngl T}
attribute [local irreducible] po mw pt
theorem zdL {nt n1 n2 tk:Nat} {l1 l2:List Nat} {a b:List PC} {rows:List (List PC)} {cs:List PC} (hown:OwnL n1 l1 (a ++ .sl tk rows :: b)) (htk:tk = 1 /\ rows = [] \/ 2 <= tk) (hge:∀ t ∈ toksL (a ++ .sl tk rows :: b),nt <= t) (hnt:nt <= n1) (hn2:n1 <= n2) (h22:2 <= n2)
  (hnew:NewL n1 n2 cs) (hctk:∀ t ∈ toksL cs,t ∈ l2) (hlv2:∀ t ∈ l1,2 <= t -> t < n1 -> t ∈ l2) :
  OwnL (n2 + 2) ((n2 + 1) :: (n2 :: l2).filter (· != tk)) (a ++ .sl (n2 + 1) (rows ++ [cs]) :: b) /\ (∀ t ∈ toksL (a ++ .sl (n2 + 1) (rows ++ [cs]) :: b),nt <= t):=by
 constructor
 ·have h0:OwnL n1 (l1.filter (fun t => decide (t < n1))) (a ++ .sl tk rows :: b):=⟨hown.own,hown.nd,fun t ht => ⟨List.mem_filter.2 ⟨(hown.mem t ht).1,decide_eq_true (hown.mem t ht).2⟩,(hown.mem t ht).2⟩⟩
  have:=h0.pushA (nt':=n2 + 1) (e:=cs) htk (by omega) hnew.own hnew.nd (fun t ht => by have:=hnew.mem t ht; omega) (by omega)
  refine this.mono2 (by omega) fun t ht h22 hlt => ?_
  rcases List.mem_cons.1 ht with rfl | ht
  ·exact List.mem_cons_self ..
  ·obtain ⟨m1,m2⟩:=List.mem_filter.1 ht
   refine List.mem_cons_of_mem _ (List.mem_filter.2 ⟨?_,m2⟩)
   rcases List.mem_append.1 m1 with m1 | m1
   ·exact List.mem_cons_of_mem _ (hctk t m1)
   ·obtain ⟨m3,m4⟩:=List.mem_filter.1 m1
    exact List.mem_cons_of_mem _ (hlv2 t m3 h22 (of_decide_eq_true m4))
 ·intro t ht
  rw [zan,List.mem_append] at ht
  rcases ht with ht | ht
  ·exact hge t (by rw [zan]; exact List.mem_append.2 (.inl ht))
  ·rw [toksL,List.mem_append] at ht
   rcases ht with ht | ht
   ·rw [zaE (by omega),zbh] at ht
    rcases List.mem_cons.1 ht with rfl | ht
    ·omega
    ·rcases List.mem_append.1 ht with ht | ht
     ·rcases htk with ⟨_,rfl⟩ | h2
      ·cases ht
      ·refine hge t ?_
       rw [zan,toksL,zaE h2];exact List.mem_append.2 (.inr (List.mem_append.2 (.inl (List.mem_cons_of_mem _ ht))))
     ·have ht:t ∈ toksL cs:=by simpa [toksLL] using ht
      have:=hnew.mem t ht; omega
   ·exact hge t (by rw [zan,toksL]; exact List.mem_append.2 (.inr (List.mem_append.2 (.inr ht))))
theorem zgO {nt n1 n2 tk:Nat} {live l1 l2:List Nat} (htk:tk = 1 \/ nt <= tk) (hnt:nt <= n1) (hlv:∀ t ∈ live,2 <= t -> t < nt -> t ∈ l1) (hlv2:∀ t ∈ l1,2 <= t -> t < n1 -> t ∈ l2):∀ t ∈ live,2 <= t -> t < nt -> t ∈ (n2 + 1) :: (n2 :: l2).filter (· != tk):=fun t ht h22 hlt => by
 refine List.mem_cons_of_mem _ (List.mem_filter.2 ⟨List.mem_cons_of_mem _ (hlv2 t (hlv t ht h22 hlt) h22 (by omega)),?_⟩);simp only [bne_iff_ne,ne_eq]; omega
theorem tk_ge {nt tk:Nat} {a b:List PC} {rows:List (List PC)} (htk:tk = 1 /\ rows = [] \/ 2 <= tk) (hge:∀ t ∈ toksL (a ++ .sl tk rows :: b),nt <= t):tk = 1 \/ nt <= tk :=
 htk.imp (fun h => h.1) fun h => hge tk (by rw [zan,toksL,zaE h]; exact List.mem_append.2 (.inr (List.mem_append.2 (.inl (List.mem_cons_self ..)))))
theorem zcQ {nt:Nat} (hnt:2 <= nt) (live:List Nat):OwnL (nt + 1) (nt :: live) ([] ++ .sl nt [] :: []) /\ (∀ t ∈ toksL ([] ++ .sl nt [] :: []),nt <= t):=by
 have e:toksL ([] ++ .sl nt [] :: []) = [nt]:=by show PC.toks (.sl nt []) ++ [] = _; rw [zaE hnt]; rfl
 refine ⟨⟨by show (PC.owned (.sl nt []) && true) = true; rw [zb3 hnt]; rfl,by rw [e]; simp,fun t ht => ?_⟩,fun t ht => ?_⟩
 ·rw [e] at ht; simp at ht; subst ht; exact ⟨List.mem_cons_self ..,Nat.lt_succ_self _⟩
 ·rw [e] at ht; simp at ht; omega
theorem pS_new (n1 n2:Nat) (l:List UInt8):NewL n1 n2 [pS l]:=⟨rfl,List.nodup_nil,fun t ht => by cases ht⟩
theorem FnV.oldT3 {E:Env} {f:Nat} {args:List PV} {a b d:Value} (ha:a.oneCell' = true) (hb1:b.oneCell' = true) (hd1:d.oneCell' = true) (h:∀ (w:World) (C:Cx) (vs:List Value),(∀ b o,C.F b o -> b < w.heap.size) -> E.NG <= w.heap.size -> E.T w -> vs.length = args.length -> (∀ (j:Nat) (x:PV) (y:Value),args[j]? = some x -> vs[j]? = some y -> RpV C w x y) ->
  Calls E.P f vs.toArray w fun e w' => e = .returned (.tuple #[a,b,d]) /\ Below w.heap.size w w'):FnV E f args (.tup [.d (.v a),.d (.v b),.d (.v d)]):=by
 intro C w vs hI hnt hold hl hv;refine (h w C vs hI.fin hI.ng hI.t hl hv).mono ?_;rintro e w' ⟨rfl,hb⟩;have hF:Fix C w w':=.of (fun b o hF => World.cell?_of_block (a:=⟨b,o,none⟩) (hb.block b (hI.fin b o hF))) hb.block
 refine ⟨_,.tup [.d (.v a),.d (.v b),.d (.v d)],[],fun _ => False,C,rfl,rfl,⟨hI.nb,fun p cs hp => by simp at hp,fun p hp => by simp at hp,fun p hp => by simp at hp,fun p q hp => by simp at hp,fun t ht => ht.elim,fun t s b ht => ht.elim,fun b o h => Nat.lt_of_lt_of_le (hI.fin b o h) hb.size,Nat.le_trans hI.ng hb.size,E.low w w' hI.t hb.size (fun k hk => hb.block k (Nat.lt_of_lt_of_le hk hI.ng))⟩,
  ⟨hb.os,hb.tape,hb.output,hb.size,fun _ _ h => h,hF,fun k hk _ _ => hb.block k hk,⟨Nat.le_refl _,fun _ _ => rfl⟩,fun _ _ h => .inl h,fun t b ht => ht.elim,(fun p hp hp2 => by simp at hp2),⟨Nat.le_refl _,fun _ _ => ⟨rfl,rfl,rfl,rfl⟩⟩⟩,.tup _ [a,b,d] rfl ?_⟩
 intro j x y hx hy
 match j with
 | 0 => simp at hx hy; subst hx; subst hy; exact .d _ _ (.v a ha)
 | 1 => simp at hx hy; subst hx; subst hy; exact .d _ _ (.v b hb1)
 | 2 => simp at hx hy; subst hx; subst hy; exact .d _ _ (.v d hd1)
 | j + 3 => simp at hx
def hdV (r:Option (Nat × Nat × Nat)):PV:=.tup [.d (pI (hM r)),.d (.v (.int .u64 (hN r))),.d (pI (hX r))]
theorem ghead_fn (s:List UInt8) (i:Int) (hi:i64ok i) (hs:s.length <= 2147483647):FnV (env T hT) 118 [.d (pS s),.d (pI i)] (hdV (getAt s i)):=by
 refine FnV.oldT3 rfl rfl rfl fun w C vs hF _ _ hlen hv => ?_
 match vs,hlen with
 | [x,y],_ =>
  have h1:=zbM (hv 0 _ _ rfl rfl); have h2:=zbK (hv 1 _ _ rfl rfl)
  subst h1; subst h2
  exact zd7 s i w hi (by omega)
theorem zgP (s:List UInt8) (i:Nat):getAt s (i:Int) = getHd s i:=by unfold getAt; rw [if_neg (by omega)]; rfl
def cntOf (s:List UInt8) (i max:Nat):Option (Nat × Nat):=match getHd s i with
 | some (m,n,x) => if m = 4 /\ n <= max then some (n,x) else none
 | none => none
def cN:Option (Nat × Nat) -> Int | some (n,_) => n | none => 0
def cX:Option (Nat × Nat) -> Int | some (_,x) => x | none => -1
theorem cnt_fn (s:List UInt8) (i max:Nat) (hm:max <= 1000) (hi:i <= s.length) (hs:s.length <= 2147483647):FnV (env T hT) 60 [.d (pS s),.d (pI i),.d (pI max)] (.tup [.d (pI (cN (cntOf s i max))),.d (pI (cX (cntOf s i max)))]):=by
 have hg:=ghead_fn (T:=T) (hT:=hT) s i (by unfold i64ok; omega) hs;rw [zgP] at hg;refine zaC (zag zhN) (by show 3 <= 33; decide) fun B hB => ?_
 unfold m_s_l14Count;refine mP ?_;refine mO ?_;(iterate 2 refine mS ?_);refine zaf rfl hg ?_;refine mN ?_;refine zaa (zaa (zad ?_));unfold cntOf
 cases hr:getHd s i with
 | none =>
  refine mS ?_;refine zak rfl rfl rfl ?_;refine mS ?_
  iterate 2 (refine zah rfl ?_)
  (iterate 2 refine mS ?_)
  iterate 4 (refine zah rfl ?_)
  refine mN ?_;refine mwT ?_;refine mP ?_
  exact zab ⟨.inr rfl,_,rfl,rfl⟩
 | some r =>
  obtain ⟨m,n,x⟩:=r;obtain ⟨g1,g2,g3,g4,g5,g6⟩:=zb1 hr;refine mS ?_;refine zam rfl rfl (decide_eq_false (show ¬ ((x:Nat):Int) < 0 by omega)) ?_;(iterate 2 refine mS ?_);by_cases h4:m = 4
  case neg =>
   simp only;rw [if_neg (by omega)];refine zak rfl rfl (by show (!decide ((m:Int) = 4)) = true; rw [decide_eq_false (by omega)]; rfl) ?_;(iterate 2 refine mS ?_)
   iterate 4 (refine zah rfl ?_)
   refine mN ?_;refine mwT ?_;refine mP ?_;exact zab ⟨.inr rfl,_,rfl,rfl⟩
  refine zam rfl rfl (by show (!decide ((m:Int) = 4)) = false; rw [decide_eq_true (by omega)]; rfl) ?_;(iterate 4 refine mS ?_);refine zcn (n:=(max:Int)) rfl rfl (by rw [IntKind.wrap_u64]; omega) ?_;by_cases hn:n <= max
  ·simp only
   rw [if_pos ⟨h4,hn⟩];refine zam rfl rfl (decide_eq_false (show ¬ ((n:Nat):Int) > max by omega)) ?_;refine mN ?_;refine mwF ?_;refine zae ?_;refine mQ ?_;refine zcn (n:=(n:Int)) rfl rfl (by show IntKind.wrap .i64 ((n:Nat):Int) = _; rw [IntKind.wrap_i64]; omega) ?_;refine mN ?_;exact zab ⟨.inr rfl,_,rfl,rfl⟩
  ·simp only
   rw [if_neg (by omega)];refine zak rfl rfl (decide_eq_true (show ((n:Nat):Int) > max by omega)) ?_;refine mN ?_;refine mwT ?_;refine mP ?_;exact zab ⟨.inr rfl,_,rfl,rfl⟩
theorem cnt_at {s:List UInt8} {i k max:Nat} (hi:i <= s.length) (hk:k <= max) (hm:max <= 1000) (h:At s i (hd 4 k)):cntOf s i max = some (k,i + (hd 4 k).length):=by
 unfold cntOf;rw [zc5 (by decide) (by omega) hi h];simp only;rw [if_pos ⟨by decide,hk⟩]
theorem cnt_some {s:List UInt8} {i max n x:Nat} (h:cntOf s i max = some (n,x)):n <= max /\ i < x /\ x <= s.length:=by
 unfold cntOf at h
 split at h
 ·rename_i m n' x' hr
  split at h
  ·rename_i hc
   simp only [Option.some.injEq,Prod.mk.injEq] at h;obtain ⟨rfl,rfl⟩:=h;obtain ⟨g1,g2,g3,g4,g5,g6⟩:=zb1 hr;exact ⟨hc.2,g2,g3⟩
  ·cases h
 ·cases h
theorem nms_at {s:List UInt8} {i:Nat} {us:List (List UInt8)} (h:At s i (nmsT us)) (k:Nat) (hk:k < us.length):At s (i + (nmsT (us.take k)).length) (hd 3 us[k].length ++ us[k]):=by
 have e:us = us.take k ++ (us[k] :: us.drop (k + 1)):=by rw [<- List.drop_eq_getElem_cons hk,List.take_append_drop]
 rw [e,zfz] at h;have h2:=h.app.2;simp only [nmsT] at h2;exact h2.app.1
theorem zhU {s:List UInt8} {i:Nat} {us:List V} (h:At s i (msgs us)) (k:Nat) (hk:k < us.length):At s (i + (msgs (us.take k)).length) (msg us[k]):=by
 have e:us = us.take k ++ (us[k] :: us.drop (k + 1)):=by rw [<- List.drop_eq_getElem_cons hk,List.take_append_drop]
 rw [e,zeE] at h;have h2:=h.app.2;simp only [msgs] at h2;exact h2.app.1
end
/- PvF5 -/
section
open Go.Lib (validD)
variable {T:World -> Prop} {hT:Low ngl T}
attribute [local irreducible] po mw pt
def GmN (s:List UInt8) (i n nt:Nat) (live:List Nat) (x:PV) (nt':Nat) (live':List Nat):Prop :=
 ∃ (t:Nat) (ns:List (List UInt8)) (next:Int),x = .tup [.d (.sl t (pSr ns)),.d (pI next)] /\ 2 <= t /\ NewL nt nt' [.sl t (pSr ns)] /\ t ∈ live' /\ (∀ t ∈ live,2 <= t -> t < nt -> t ∈ live') /\ nt <= nt' /\ ns.length <= n /\ (∀ m ∈ ns,m.length <= s.length) /\
 (next = -1 \/ ∃ j:Nat,next = j /\ j <= s.length) /\ (∀ us:List (List UInt8),us.length = n -> (∀ u ∈ us,u.length <= 4294967295) -> At s i (nmsT us) -> ns = us /\ next = ((i + (nmsT us).length:Nat):Int))
def NmI (s:List UInt8) (i n nt:Nat) (live:List Nat) (m:Nat) (st:St):Prop:=∃ (k j t:Nat) (ns:List (List UInt8)),k <= n /\ m = n - k /\ has st.tm [(0,.d (pS s)),(1,.d (pI j)),(2,.d (pI n)),(8,.d (.sl t (pSr ns))),(9,.d (pI k))] /\ st.bx = [] /\
 2 <= t /\ OwnL st.nt st.live ([] ++ .sl t (pSr ns) :: []) /\ (∀ u ∈ toksL ([] ++ .sl t (pSr ns) :: []),nt <= u) /\ nt <= st.nt /\ (∀ t ∈ live,2 <= t -> t < nt -> t ∈ st.live) /\
 ns.length = k /\ j <= s.length /\ (∀ m ∈ ns,m.length <= s.length) /\ (∀ us:List (List UInt8),us.length = n -> (∀ u ∈ us,u.length <= 4294967295) -> At s i (nmsT us) -> us.take k = ns /\ j = i + (nmsT ns).length)
set_option maxHeartbeats 2000000 in
theorem names_g {s:List UInt8} (hs:s.length <= 2147483647) (i n nt:Nat) (live:List Nat) (hi:i <= s.length) (hn:n <= 1000) (hnt:2 <= nt) :
  FnG (env T hT) 61 [.d (pS s),.d (pI i),.d (pI n)] [] nt live (fun x _ n' l => x.lw 0 /\ GmN s i n nt live x n' l):=by
 refine za1 (zag zhO) (by show 3 <= 55; decide) fun B hB => ?_
 unfold m_s_l14Names;refine mP ?_;refine mO ?_;refine zat (es:=[]) rfl ?_;refine mN ?_;refine zaq (fun st => ∃ m,NmI s i n nt live m st /\ m = 0) ?_ ?_
 ·refine mP ?_
  refine zai ?_;refine zav (NmI s i n nt live) n ⟨0,i,nt,[],Nat.zero_le _,rfl,⟨rfl,rfl,rfl,rfl,rfl,trivial⟩,rfl,hnt,(zcQ hnt live).1,(zcQ hnt live).2,Nat.le_succ _,fun t ht _ _ => List.mem_cons_of_mem _ ht,rfl,hi,(fun m hm => by cases hm),fun us _ _ _ => ⟨by simp,by simp [nmsT]⟩⟩ ?_;rintro m tm bx n1 l1 ⟨k,j,t,ns,hk,rfl,ht,hbx,ht2,hown,hge,hn1,hlv,hnl,hj,hnb,hcp⟩;obtain ⟨tm0,rfl⟩:=zaj ht;simp only at hbx hown hn1 hlv; subst hbx
  clear ht;refine zaa (zaa (zad ?_));(iterate 2 refine mS ?_);refine po_b rfl rfl (fun b hb => ?_);refine zac ?_;refine zb4 (p:=(k:Int) < n) hb rfl (fun h _ => ?_) (fun h _ => ?_)
  ·have hkn:k < n:=by omega
   have hg:=ghead_fn (T:=T) (hT:=hT) s j (by unfold i64ok; omega) hs;rw [zgP] at hg
   have hstep:∀ us:List (List UInt8),us.length = n -> (∀ u ∈ us,u.length <= 4294967295) -> At s i (nmsT us) -> ∃ hku:k < us.length,us.take k = ns /\ j = i + (nmsT ns).length /\ getHd s j = some (3,us[k].length,j + (hd 3 us[k].length).length) /\ At s (j + (hd 3 us[k].length).length) us[k]:=by
    intro us h1 h2 h3;obtain ⟨e1,e2⟩:=hcp us h1 h2 h3;have hku:k < us.length:=by omega
    have hA:=nms_at h3 k hku;rw [e1,<- e2] at hA;have hul:=h2 _ (List.getElem_mem hku);exact ⟨hku,e1,e2,zc5 (by decide) (by omega) hj hA.app.1,hA.app.2⟩
   have hown0:NewL nt n1 [.sl t (pSr ns)]:=⟨hown.own,hown.nd,fun u hu => ⟨hge u hu,(hown.mem u hu).2⟩⟩;have htl:t ∈ l1:=(hown.mem t (by show t ∈ PC.toks (.sl t (pSr ns)) ++ []; rw [zaE ht2]; simp)).1;have hlw:PV.lw 0 (.tup [.d (.sl t (pSr ns)),.d (pI (-1))]):=⟨(zaZ hown0.own).1,trivial,trivial⟩
   have hfail:(∀ us:List (List UInt8),us.length = n -> (∀ u ∈ us,u.length <= 4294967295) -> ¬ At s i (nmsT us)) -> GmN s i n nt live (.tup [.d (.sl t (pSr ns)),.d (pI (-1))]) n1 l1:=fun hno =>
    ⟨t,ns,-1,rfl,ht2,hown0,htl,hlv,hn1,by omega,hnb,.inl rfl,fun us h1 h2 h3 => absurd h3 (hno us h1 h2)⟩
   refine zae ?_;refine zaa (zai (zaa (zad ?_)));(iterate 2 refine mS ?_);refine zaf rfl hg ?_;refine mN ?_;refine zaa (zaa (zad ?_))
   cases hr:getHd s j with
   | none =>
    have hF:=hfail fun us h1 h2 h3 => by
     obtain ⟨_,_,_,e,_⟩:=hstep us h1 h2 h3;rw [hr] at e; cases e
    refine mS ?_;refine zak rfl rfl rfl ?_;refine mS ?_
    iterate 2 (refine zah rfl ?_)
    (iterate 2 refine mS ?_)
    iterate 7 (refine zah rfl ?_)
    refine mN ?_;refine mwT ?_;refine mP ?_
    exact zab ⟨.inr rfl,[.d (.sl t (pSr ns)),.d (pI (-1))],rfl,hlw,hF⟩
   | some r =>
   obtain ⟨m,n',x⟩:=r;obtain ⟨g1,g2,g3,g4,g5,g6⟩:=zb1 hr;refine mS ?_;refine zam rfl rfl (decide_eq_false (show ¬ ((x:Nat):Int) < 0 by omega)) ?_;(iterate 2 refine mS ?_);by_cases h3:m = 3
   case neg =>
    have hF:=hfail fun us k1 k2 k3 => by
     obtain ⟨_,_,_,e,_⟩:=hstep us k1 k2 k3;rw [hr] at e;simp only [Option.some.injEq,Prod.mk.injEq] at e;exact h3 e.1
    refine zak rfl rfl (by show (!decide ((m:Int) = 3)) = true; rw [decide_eq_false (by omega)]; rfl) ?_;(iterate 2 refine mS ?_)
    iterate 7 (refine zah rfl ?_)
    refine mN ?_;refine mwT ?_;refine mP ?_;exact zab ⟨.inr rfl,[.d (.sl t (pSr ns)),.d (pI (-1))],rfl,hlw,hF⟩
   refine zam rfl rfl (by show (!decide ((m:Int) = 3)) = false; rw [decide_eq_true (by omega)]; rfl) ?_;(iterate 4 refine mS ?_);refine po_q (v:=.d (pI s.length)) rfl rfl ?_;refine mS ?_;refine zaJ (a:=(s.length:Int)) (b:=(x:Int)) (n:=(s.length:Int) - x) rfl rfl rfl rfl (by omega) ?_;refine zcn (n:=(s.length:Int) - x) rfl rfl (by rw [IntKind.wrap_u64]; omega) ?_;by_cases hle:x + n' <= s.length
   case neg =>
    have hF:=hfail fun us k1 k2 k3 => by
     obtain ⟨hku,e1,e2,e,hA⟩:=hstep us k1 k2 k3;rw [hr] at e;simp only [Option.some.injEq,Prod.mk.injEq] at e
     have:=hA.len (by omega)
     omega
    refine zak rfl rfl (decide_eq_true (show ((n':Nat):Int) > (s.length:Int) - x by omega)) ?_;refine mN ?_;refine mwT ?_;refine mP ?_;exact zab ⟨.inr rfl,[.d (.sl t (pSr ns)),.d (pI (-1))],rfl,hlw,hF⟩
   refine zam rfl rfl (decide_eq_false (show ¬ ((n':Nat):Int) > (s.length:Int) - x by omega)) ?_;refine mN ?_;refine mwF ?_;refine zae ?_;refine mO ?_;(iterate 2 refine mS ?_);refine zcn (n:=(n':Int)) rfl rfl (by show IntKind.wrap .i64 ((n':Nat):Int) = _; rw [IntKind.wrap_i64]; omega) ?_;refine zau (a:=(x:Int)) (b:=(n':Int)) (n:=((x + n':Nat):Int)) rfl rfl rfl (by omega) (by omega) ?_;refine mN ?_;refine zad ?_;(iterate 4 refine mS ?_);refine zaU (a:=x) (b:=x + n') (rs:=(s.drop x).take n') rfl rfl (zax (i:=(x:Int)) rfl rfl) (zax rfl rfl) (by omega) (by rw [show x + n' - x = n' by omega]) ?_;refine zat (es:=[[pS ((s.drop x).take n')]]) rfl ?_;refine zbP (t:=t) (t':=n1) (es:=pSr ns) (ds:=[[pS ((s.drop x).take n')]]) rfl rfl (.inr (List.mem_cons_of_mem _ htl)) (by simp only [List.length_singleton,za0]; omega) (fun e he => by simp only [List.mem_singleton] at he; subst he; rfl) (zcX ns) ?_
   refine mN ?_;refine zad ?_;refine mS ?_;refine zau (n:=((k + 1:Nat):Int)) rfl rfl rfl (by omega) (by omega) ?_;refine mN ?_;have hpush:pSr (ns ++ [(s.drop x).take n']) = pSr ns ++ [[pS ((s.drop x).take n')]]:=by unfold pSr; rw [List.map_append]; rfl
   obtain ⟨o1,o2⟩:=zdL (n2:=n1) (l2:=l1) hown (.inr ht2) hge hn1 (Nat.le_refl _) (by omega) (pS_new n1 n1 ((s.drop x).take n')) (fun t ht => by cases ht) (fun t ht _ _ => ht);rw [<- hpush] at o1 o2;refine ⟨n - (k + 1),by omega,k + 1,x + n',n1 + 1,ns ++ [(s.drop x).take n'],hkn,rfl,⟨rfl,rfl,rfl,by rw [hpush]; rfl,rfl,trivial⟩,rfl,by omega,o1,o2,Nat.le_succ_of_le (Nat.le_succ_of_le hn1),zgO (tk_ge (.inr ht2) hge) hn1 hlv (fun t ht _ _ => ht),by simp [hnl],hle,?_,fun us k1 k2 k3 => ?_⟩
   ·intro m hm
    rcases List.mem_append.1 hm with hm | hm
    ·exact hnb m hm
    ·simp only [List.mem_singleton] at hm; subst hm
     rw [List.length_take,List.length_drop]; omega
   ·obtain ⟨hku,e1,e2,e,hA⟩:=hstep us k1 k2 k3
    rw [hr] at e;simp only [Option.some.injEq,Prod.mk.injEq] at e;obtain ⟨_,e3,e4⟩:=e;have hT:=hA.take;rw [<- e4,<- e3] at hT;refine ⟨by rw [List.take_succ_eq_append_getElem hku,e1,hT],?_⟩;rw [hT,zfz,List.length_append];simp only [nmsT,List.length_append,List.length_nil];omega
  ·refine zaH ?_
   exact ⟨0,⟨k,j,t,ns,hk,by omega,⟨rfl,rfl,rfl,rfl,rfl,trivial⟩,rfl,ht2,hown,hge,hn1,hlv,hnl,hj,hnb,hcp⟩,rfl⟩
 rintro tm bx n1 l1 ⟨m,⟨k,j,t,ns,hk,hmk,ht,hbx,ht2,hown,hge,hn1,hlv,hnl,hj,hnb,hcp⟩,hm0⟩;obtain ⟨tm0,rfl⟩:=zaj ht;simp only at hbx hown hn1 hlv; subst hbx
 have hkn:k = n:=by omega
 subst hkn;have hown0:NewL nt n1 [.sl t (pSr ns)]:=⟨hown.own,hown.nd,fun u hu => ⟨hge u hu,(hown.mem u hu).2⟩⟩;have htl:t ∈ l1:=(hown.mem t (by show t ∈ PC.toks (.sl t (pSr ns)) ++ []; rw [zaE ht2]; simp)).1;refine mP ?_;refine zab ⟨.inr rfl,[.d (.sl t (pSr ns)),.d (pI j)],rfl,⟨(zaZ hown0.own).1,trivial,trivial⟩,t,ns,_,rfl,ht2,hown0,htl,hlv,hn1,by omega,hnb,.inr ⟨j,rfl,hj⟩,fun us k1 k2 k3 => ?_⟩;obtain ⟨e1,e2⟩:=hcp us k1 k2 k3;rw [List.take_of_length_le (by omega)] at e1;subst e1;exact ⟨rfl,by rw [e2]⟩
end
/- PvF6 -/
section
open Go.Lib (validD)
variable {T:World -> Prop} {hT:Low ngl T}
attribute [local irreducible] po mw pt
def GmT (s:List UInt8) (i n nt:Nat) (live:List Nat) (x:PV) (nt':Nat) (live':List Nat):Prop :=
 ∃ (t:Nat) (rows:List (List PC)) (vs:List V) (next:Int),x = .tup [.d (.sl t rows),.d (pI next)] /\ 2 <= t /\ erLL rows = vK vs /\ OwnL nt' live' ([] ++ .sl t rows :: []) /\ (∀ u ∈ toksL ([] ++ .sl t rows :: []),nt <= u) /\ (∀ t ∈ live,2 <= t -> t < nt -> t ∈ live') /\ nt <= nt' /\ vs.length <= n /\ (∀ v ∈ vs,v.wf /\ v.ok = true) /\
 (next = -1 \/ ∃ j:Nat,next = j /\ j <= s.length) /\ (∀ us:List V,us.length = n -> (∀ u ∈ us,u.wf /\ u.ok = true) -> At s i (msgs us) -> vs = us /\ next = ((i + (msgs us).length:Nat):Int))
def TbI (s:List UInt8) (i n nt:Nat) (live:List Nat) (m:Nat) (st:St):Prop:=∃ (k j t:Nat) (rows:List (List PC)) (vs:List V),k <= n /\ m = n - k /\ has st.tm [(0,.d (pS s)),(1,.d (pI j)),(2,.d (pI n)),(8,.d (.sl t rows)),(9,.d (pI k))] /\
 2 <= t /\ erLL rows = vK vs /\ OwnL st.nt st.live ([] ++ .sl t rows :: []) /\ (∀ u ∈ toksL ([] ++ .sl t rows :: []),nt <= u) /\ nt <= st.nt /\ (∀ t ∈ live,2 <= t -> t < nt -> t ∈ st.live) /\
 vs.length = k /\ j <= s.length /\ (∀ v ∈ vs,v.wf /\ v.ok = true) /\ (∀ us:List V,us.length = n -> (∀ u ∈ us,u.wf /\ u.ok = true) -> At s i (msgs us) -> us.take k = vs /\ j = i + (msgs vs).length)
theorem lw_row {nt' t:Nat} {live:List Nat} {rows:List (List PC)} (h:OwnL nt' live ([] ++ .sl t rows :: [])) (n:Int):PV.lw 0 (.tup [.d (.sl t rows),.d (pI n)]):=⟨(zaZ (n:=0) h.own).1,trivial,trivial⟩
set_option maxHeartbeats 2000000 in
theorem table_g {s:List UInt8} (hs:s.length <= 2147483647) (i n nt:Nat) (live:List Nat) (hi:i <= s.length) (hn:n <= 1000) (hnt:2 <= nt) :
  FnG (env T hT) 62 [.d (pS s),.d (pI i),.d (pI n)] [] nt live (fun x _ n' l => x.lw 0 /\ GmT s i n nt live x n' l):=by
 refine za1 (zag zhP) (by show 3 <= 34; decide) fun B hB => ?_
 unfold m_s_l14Table;refine mP ?_;refine mO ?_;refine zat (es:=[]) rfl ?_;refine mN ?_;refine zaq (fun st => ∃ m,TbI s i n nt live m st /\ m = 0) ?_ ?_
 ·refine mP ?_
  refine zai ?_;refine zav (TbI s i n nt live) n ⟨0,i,nt,[],[],Nat.zero_le _,rfl,⟨rfl,rfl,rfl,rfl,rfl,trivial⟩,hnt,rfl,(zcQ hnt live).1,(zcQ hnt live).2,Nat.le_succ _,fun t ht _ _ => List.mem_cons_of_mem _ ht,rfl,hi,(fun m hm => by cases hm),fun us _ _ _ => ⟨by simp,by simp [msgs]⟩⟩ ?_;rintro m tm bx n1 l1 ⟨k,j,t,rows,vs,hk,rfl,ht,ht2,hrows,hown,hge,hn1,hlv,hvl,hj,hvb,hcp⟩;obtain ⟨tm0,rfl⟩:=zaj ht;simp only at hown hn1 hlv;clear ht;refine zaa (zaa (zad ?_));(iterate 2 refine mS ?_);refine po_b rfl rfl (fun b hb => ?_);refine zac ?_;refine zb4 (p:=(k:Int) < n) hb rfl (fun h _ => ?_) (fun h _ => ?_)
  ·have hkn:k < n:=by omega
   have hg:=getMsg_g (T:=T) (hT:=hT) hs (j:Int) n1 l1 (by omega)
   have hstep:∀ us:List V,us.length = n -> (∀ u ∈ us,u.wf /\ u.ok = true) -> At s i (msgs us) -> ∃ hku:k < us.length,us.take k = vs /\ j = i + (msgs vs).length /\ At s j (msg us[k]):=by
    intro us h1 h2 h3;obtain ⟨e1,e2⟩:=hcp us h1 h2 h3;have hku:k < us.length:=by omega
    have hA:=zhU h3 k hku;rw [e1,<- e2] at hA;exact ⟨hku,e1,e2,hA⟩
   refine zae ?_;refine zaa (zai (zaa (zad ?_)));(iterate 2 refine mS ?_);refine po_g rfl (FnG.lift0 (bx:=bx) hg ⟨trivial,trivial,trivial⟩) ?_;rintro x b2 n2 l2 ⟨rfl,cs,next,rfl,hc5,hnew,hctk,hlv2,hn2,hres⟩;(iterate 3 refine mS ?_);refine zco (cs:=cs) rfl hc5 rfl rfl ?_;refine mS ?_;refine zac ?_;refine zaa (zaa (zad ?_));refine mS ?_;refine po_b rfl rfl (fun b3 hb3 => ?_);refine zac ?_;have hown2:OwnL n2 l2 ([] ++ .sl t rows :: []):=hown.mono2 hn2 hlv2;refine zb4 (p:=next < 0) hb3 rfl (fun h3 _ => ?_) (fun h3 _ => ?_)
   ·rcases hres with ⟨hnx,_,hno⟩ | ⟨k',v,_,_,_,_,hnx,_⟩
    case inr => omega
    refine mP ?_;refine zab ⟨.inr rfl,[.d (.sl t rows),.d (pI (-1))],rfl,lw_row hown2 _,t,rows,vs,-1,rfl,ht2,hrows,hown2,hge,(fun t ht h22 hlt => hlv2 t (hlv t ht h22 hlt) h22 (Nat.lt_of_lt_of_le hlt hn1)),Nat.le_trans hn1 hn2,by omega,hvb,.inl rfl,fun us k1 k2 k3 => ?_⟩;obtain ⟨hku,e1,e2,hA⟩:=hstep us k1 k2 k3;have hu:=k2 _ (List.getElem_mem hku);exact absurd hA (by have:=hno us[k] hu.1 hu.2 (by omega); rwa [Int.toNat_natCast] at this)
   ·rcases hres with ⟨hnx,_,_⟩ | ⟨j',v,hjj,hvw,hvo,hAt,hnx,hle,he,huniq⟩
    ·omega
    obtain rfl:j' = j:=by omega
    refine zae ?_;refine mQ ?_;refine zdl (p:=b2.length) (cs:=cs) rfl rfl (zbf b2 cs) hc5 ?_
    refine zat (es:=[cs]) (by
     show (if cs.length = 5 then some [cs] else none) = some [cs];rw [if_pos hc5]) ?_
    have hrl:rows.length = vs.length:=by rw [zdt hrows,zdv]
    refine zbP (t:=t) (t':=n2) (es:=rows) (ds:=[cs]) rfl rfl (.inr (List.mem_cons_of_mem _ (hown2.mem t (by show t ∈ PC.toks (.sl t rows) ++ []; rw [zaE ht2]; simp)).1)) (by simp only [List.length_singleton]; omega) (fun e he => by simp only [List.mem_singleton] at he; subst he; exact hc5) (fun e he => zhG hrows (vK_wid vs) e he) ?_;refine mN ?_;refine zad ?_;refine mN ?_;refine zad ?_;refine mS ?_;refine zau (n:=((k + 1:Nat):Int)) rfl rfl rfl (by omega) (by omega) ?_;refine mN ?_;obtain ⟨o1,o2⟩:=zdL (n2:=n2) (l2:=l2) hown (.inr ht2) hge hn1 hn2 (by omega) hnew hctk hlv2;refine ⟨n - (k + 1),by omega,k + 1,j' + (msg v).length,n2 + 1,rows ++ [cs],vs ++ [v],hkn,rfl,⟨rfl,by rw [<- hnx]; rfl,rfl,rfl,rfl,trivial⟩,by omega,?_,o1,o2,Nat.le_succ_of_le (Nat.le_succ_of_le (Nat.le_trans hn1 hn2)),zgO (tk_ge (.inr ht2) hge) hn1 hlv hlv2,by simp [hvl],hle,?_,fun us k1 k2 k3 => ?_⟩
    ·rw [zdR,hrows,zei,zei,List.map_append]; simp only [erLL,he]; rfl
    ·intro u hu
     rcases List.mem_append.1 hu with hu | hu
     ·exact hvb u hu
     ·simp only [List.mem_singleton] at hu; subst hu; exact ⟨hvw,hvo⟩
    ·obtain ⟨hku,e1,e2,hA⟩:=hstep us k1 k2 k3
     have hu:=k2 _ (List.getElem_mem hku);have huv:=huniq us[k] hu.1 hu.2 hA;refine ⟨by rw [List.take_succ_eq_append_getElem hku,e1,huv],?_⟩;rw [zeE,List.length_append];simp only [msgs,List.append_nil];omega
  ·refine zaH ?_
   exact ⟨0,⟨k,j,t,rows,vs,hk,by omega,⟨rfl,rfl,rfl,rfl,rfl,trivial⟩,ht2,hrows,hown,hge,hn1,hlv,hvl,hj,hvb,hcp⟩,rfl⟩
 rintro tm bx n1 l1 ⟨m,⟨k,j,t,rows,vs,hk,hmk,ht,ht2,hrows,hown,hge,hn1,hlv,hvl,hj,hvb,hcp⟩,hm0⟩;obtain ⟨tm0,rfl⟩:=zaj ht;simp only at hown hn1 hlv;have hkn:k = n:=by omega
 subst hkn;refine mP ?_;refine zab ⟨.inr rfl,[.d (.sl t rows),.d (pI j)],rfl,lw_row hown _,t,rows,vs,_,rfl,ht2,hrows,hown,hge,hlv,hn1,by omega,hvb,.inr ⟨j,rfl,hj⟩,fun us k1 k2 k3 => ?_⟩;obtain ⟨e1,e2⟩:=hcp us k1 k2 k3;rw [List.take_of_length_le (by omega)] at e1;subst e1;exact ⟨rfl,by rw [e2]⟩
end
/- PvF7 -/
section
open Go.Lib (validD)
variable {T:World -> Prop} {hT:Low ngl T}
attribute [local irreducible] po mw pt
def Good (s:List UInt8) (ns:List (List UInt8)) (vs:List V):Prop:=dictB ns vs = true /\ dictT ns vs = s /\ ∀ v ∈ vs,v.wf
theorem Good.at {s:List UInt8} {ns:List (List UInt8)} {vs:List V} (h:Good s ns vs):At s 0 (hd 4 ns.length) /\ At s (hd 4 ns.length).length (nmsT ns) /\ At s ((hd 4 ns.length).length + (nmsT ns).length) (hd 4 vs.length) /\ At s ((hd 4 ns.length).length + (nmsT ns).length + (hd 4 vs.length).length) (msgs vs) /\
  ns.length <= 100 /\ (∀ n ∈ ns,n.length <= 100) /\ vs.length <= 60 /\ (∀ v ∈ vs,v.wf /\ v.ok = true) /\ s.length <= 60000:=by
 obtain ⟨h1,rfl,h3⟩:=h;unfold dictB at h1;simp only [Bool.and_eq_true,decide_eq_true_eq] at h1;obtain ⟨⟨n,v⟩,hl⟩:=h1;obtain ⟨n1,n2⟩:=zhT n;obtain ⟨v1,v2⟩:=zhS v;have hA:At (dictT ns vs) 0 (hd 4 ns.length ++ nmsT ns ++ hd 4 vs.length ++ msgs vs):=⟨[],by simp [dictT]⟩;have a1:=hA.app.1.app.1.app;have a2:=hA.app.1.app.2;have a3:=hA.app.2;simp only [List.length_append,Nat.zero_add] at a1 a2 a3;exact ⟨a1.1,a1.2,a2,a3,n1,n2,v1,fun x hx => ⟨h3 x hx,v2 x hx⟩,hl⟩
def DictR (s:List UInt8) (nt:Nat) (live:List Nat) (x:PV) (nt':Nat) (live':List Nat):Prop :=
 ∃ (cs:List PC) (ok:Bool),x = .tup [.ag cs,.d (pB ok)] /\ cs.length = 2 /\ NewL nt nt' cs /\ (∀ t ∈ toksL cs,t ∈ live') /\ (∀ t ∈ live,2 <= t -> t < nt -> t ∈ live') /\ nt <= nt' /\
 ∃ (ns:List (List UInt8)) (vs:List V),erL cs = dC ns vs /\ (ok = true -> Good s ns vs) /\ (ok = false -> ns = [] /\ vs = []) /\ ∀ (ns':List (List UInt8)) (vs':List V),Good s ns' vs' -> ok = true /\ ns' = ns /\ vs' = vs
def d0:List PC:=[.sl 1 [],.sl 1 []]
theorem d0_new (a b:Nat):NewL a b d0:=⟨rfl,List.nodup_nil,fun t ht => by cases ht⟩
theorem zeZ {s:List UInt8} {nt nt':Nat} {live live':List Nat} (h:∀ (ns':List (List UInt8)) (vs':List V),¬ Good s ns' vs') (hl:∀ t ∈ live,2 <= t -> t < nt -> t ∈ live') (hn:nt <= nt'):PV.lw 0 (.tup [.ag d0,.d (pB false)]) /\ DictR s nt live (.tup [.ag d0,.d (pB false)]) nt' live' :=
 ⟨⟨zaZ (n:=0) (c:=d0) rfl,trivial,trivial⟩,d0,false,rfl,rfl,d0_new _ _,(fun t ht => by cases ht),hl,hn,[],[],rfl,(fun h => by cases h),fun _ => ⟨rfl,rfl⟩,fun ns' vs' h' => absurd h' (h ns' vs')⟩
set_option maxHeartbeats 2000000 in
theorem zec {s:List UInt8} (hs:s.length <= 2147483647) (nt:Nat) (live:List Nat) (hnt:2 <= nt) :
  FnG (env T hT) 14 [.d (pS s)] [] nt live (fun x _ n' l => x.lw 0 /\ DictR s nt live x n' l):=by
 have hcn:=fun i max (hm:max <= 1000) (hi:i <= s.length) => cnt_fn (T:=T) (hT:=hT) s i max hm hi hs
 refine za1 (zag zis) (by show 1 <= 63; decide) fun B hB => ?_
 unfold m_s_GetDict;refine mP ?_;refine mQ ?_;refine zaf (args:=[.d (pS s),.d (pI (0:Nat)),.d (pI (100:Nat))]) rfl (hcn 0 100 (by decide) (Nat.zero_le _)) ?_;refine mN ?_;refine zaa (zaa (zad ?_));refine mS ?_
 cases hr:cntOf s 0 100 with
 | none =>
  refine zak rfl rfl rfl ?_;refine mN ?_;refine mwT ?_;refine mQ ?_;refine zaA (p:=0) (cs:=d0) rfl rfl rfl rfl rfl rfl ?_;refine mN ?_;refine zab ⟨.inr rfl,[.ag d0,.d (pB false)],rfl,zeZ (fun ns' vs' h => ?_) (fun t ht _ _ => ht) (Nat.le_refl _)⟩;obtain ⟨g1,g2,g3,g4,g5,g6,g7,g8⟩:=h.at;rw [cnt_at (Nat.zero_le _) g5 (by decide) g1] at hr
  cases hr
 | some r =>
 obtain ⟨k1,x1⟩:=r;obtain ⟨q1,q2,q3⟩:=cnt_some hr
 have hc1:∀ ns' vs',Good s ns' vs' -> k1 = ns'.length /\ x1 = (hd 4 ns'.length).length:=fun ns' vs' h => by
  obtain ⟨g1,g2,g3,g4,g5,g6,g7,g8⟩:=h.at
  have:=cnt_at (Nat.zero_le _) g5 (by decide) g1
  rw [hr] at this;simp only [Option.some.injEq,Prod.mk.injEq] at this;omega
 refine zam rfl rfl (decide_eq_false (show ¬ ((x1:Nat):Int) < 0 by omega)) ?_;refine mN ?_;refine mwF ?_;refine zae ?_;refine mO ?_;(iterate 3 refine mS ?_);refine po_g rfl (FnG.lift0 (names_g (T:=T) (hT:=hT) hs x1 k1 nt live q3 (by omega) hnt) (args:=[.d (pS s),.d (pI x1),.d (pI k1)]) ⟨trivial,trivial,trivial,trivial⟩) ?_;rintro x _ n1 l1 ⟨rfl,t1,ns,next,rfl,ht1,hN1,htl1,hlv1,hn1,hnl,hnb,hnx,hcomp⟩
 have hc2:∀ ns' vs',Good s ns' vs' -> ns' = ns /\ next = (((hd 4 ns'.length).length + (nmsT ns').length:Nat):Int):=fun ns' vs' h => by
  obtain ⟨e1,e2⟩:=hc1 ns' vs' h;obtain ⟨g1,g2,g3,g4,g5,g6,g7,g8⟩:=h.at;obtain ⟨e3,e4⟩:=hcomp ns' (by omega) (fun u hu => Nat.le_trans (g6 u hu) (by decide)) (by rw [e2]; exact g2);exact ⟨e3.symm,by rw [e4,e2]⟩
 refine mN ?_;refine zaa (zaa (zad ?_));refine mS ?_;refine po_b rfl rfl (fun b hb => ?_);refine zac ?_;refine zb4 (p:=next < 0) hb rfl (fun h3 _ => ?_) (fun h3 _ => ?_)
 ·refine mQ ?_
  refine zaA (p:=0) (cs:=d0) rfl rfl rfl rfl rfl rfl ?_;refine mN ?_;exact zab ⟨.inr rfl,[.ag d0,.d (pB false)],rfl,zeZ (fun ns' vs' h => by have:=(hc2 ns' vs' h).2; omega) hlv1 hn1⟩
 obtain ⟨j,rfl,hj⟩:=hnx.resolve_left (by omega);refine zae ?_;refine mO ?_;(iterate 2 refine mS ?_);refine zaf (args:=[.d (pS s),.d (pI j),.d (pI (60:Nat))]) rfl (hcn j 60 (by decide) hj) ?_;refine mN ?_;refine zaa (zaa (zad ?_));refine mS ?_
 cases hr2:cntOf s j 60 with
 | none =>
  refine zak rfl rfl rfl ?_;refine mN ?_;refine mwT ?_;refine mQ ?_;refine zaA (p:=0) (cs:=d0) rfl rfl rfl rfl rfl rfl ?_;refine mN ?_;refine zab ⟨.inr rfl,[.ag d0,.d (pB false)],rfl,zeZ (fun ns' vs' h => ?_) hlv1 hn1⟩;obtain ⟨e1,e2⟩:=hc2 ns' vs' h;obtain ⟨g1,g2,g3,g4,g5,g6,g7,g8⟩:=h.at;rw [show (hd 4 ns'.length).length + (nmsT ns').length = j by omega] at g3;rw [cnt_at hj g7 (by decide) g3] at hr2
  cases hr2
 | some r =>
 obtain ⟨k2,x2⟩:=r;obtain ⟨p1,p2,p3⟩:=cnt_some hr2
 have hc3:∀ ns' vs',Good s ns' vs' -> ns' = ns /\ k2 = vs'.length /\ At s x2 (msgs vs'):=fun ns' vs' h => by
  obtain ⟨e1,e2⟩:=hc2 ns' vs' h;obtain ⟨g1,g2,g3,g4,g5,g6,g7,g8⟩:=h.at;rw [show (hd 4 ns'.length).length + (nmsT ns').length = j by omega] at g3 g4
  have:=cnt_at hj g7 (by decide) g3
  rw [hr2] at this;simp only [Option.some.injEq,Prod.mk.injEq] at this;exact ⟨e1,this.1,by rw [this.2]; exact g4⟩
 refine zam rfl rfl (decide_eq_false (show ¬ ((x2:Nat):Int) < 0 by omega)) ?_;refine mN ?_;refine mwF ?_;refine zae ?_;refine mO ?_;(iterate 3 refine mS ?_);refine po_g rfl (FnG.lift0 (table_g (T:=T) (hT:=hT) hs x2 k2 n1 l1 p3 (by omega) (by omega)) (args:=[.d (pS s),.d (pI x2),.d (pI k2)]) ⟨trivial,trivial,trivial,trivial⟩) ?_;rintro x _ n2 l2 ⟨rfl,t2,rows,vs,next2,rfl,ht2,hrows,hown2,hge2,hlv2,hn2,hvl,hvb,hnx2,hcomp2⟩
 have hc4:∀ ns' vs',Good s ns' vs' -> ns' = ns /\ vs' = vs /\ 0 <= next2:=fun ns' vs' h => by
  obtain ⟨e1,e2,e3⟩:=hc3 ns' vs' h;obtain ⟨g1,g2,g3,g4,g5,g6,g7,g8,_⟩:=h.at;obtain ⟨e4,e5⟩:=hcomp2 vs' e2.symm g8 e3;exact ⟨e1,e4.symm,by omega⟩
 refine mN ?_;refine mO ?_;(iterate 2 refine mS ?_);refine mS ?_;have hlen2:[PC.sl t1 (pSr ns),.sl t2 rows].length = 2:=rfl;refine zco (cs:=[.sl t1 (pSr ns),.sl t2 rows]) rfl hlen2 rfl rfl ?_;refine zac ?_
 have her:erL [PC.sl t1 (pSr ns),.sl t2 rows] = dC ns vs:=by
  show [PC.sl 0 (erLL (pSr ns)),.sl 0 (erLL rows)] = _;rw [zdG,hrows]; rfl
 have hDS:DSm ns vs:=⟨by omega,fun n hn => Nat.le_trans (hnb n hn) (by omega),by omega,fun v hv => (hvb v hv).1,fun v hv => Nat.le_trans (V.ok_bulk (hvb v hv).2) (by decide)⟩;have hok:=dictOk_fn (T:=T) (hT:=hT) ns vs hDS;have hpd:=zhm (T:=T) (hT:=hT) ns vs hDS;refine zaa ?_
 obtain ⟨f,hf⟩:∃ f:Bool,f = true ↔ ¬ (0 <= next2 /\ Good s ns vs):=by
  by_cases h:0 <= next2 /\ Good s ns vs
  ·exact ⟨false,by simp only [h]; decide⟩
  ·exact ⟨true,by simp only [h,not_false_iff]⟩
 refine zaq (fun st => has st.tm [(2,.ref 0 0),(10,.ref 1 0),(60,.d (pB f))] /\ st.bx = [d0,[PC.sl t1 (pSr ns),.sl t2 rows]] /\ st.nt = n2 /\ st.live = l2) ?_ ?_
 ·refine zad ?_
  refine mS ?_;by_cases h4:next2 < 0
  ·have hft:f = true:=hf.2 (by omega)
   subst hft;refine zak rfl rfl (decide_eq_true h4) ?_;refine mS ?_
   iterate 3 (refine zah rfl ?_)
   (iterate 2 refine mS ?_)
   iterate 4 (refine zah rfl ?_)
   refine mN ?_;exact ⟨⟨rfl,rfl,rfl,trivial⟩,rfl,rfl,rfl⟩
  refine zam rfl rfl (decide_eq_false h4) ?_;refine mS ?_;refine zdl (p:=1) (cs:=[.sl t1 (pSr ns),.sl t2 rows]) rfl rfl rfl hlen2 ?_;refine zaD (b:=true) (args:=[.ag (dC ns vs)]) rfl (fun _ => zg3 her) (fun _ => hok) ?_;(iterate 3 refine mS ?_)
  cases hdb:dictB ns vs with
  | false =>
   have hft:f = true:=hf.2 (fun h => by have:=h.2.1; rw [hdb] at this; cases this);subst hft
   iterate 4 (refine zah rfl ?_)
   refine mN ?_
   exact ⟨⟨rfl,rfl,rfl,trivial⟩,rfl,rfl,rfl⟩
  | true =>
  refine zdl (p:=1) (cs:=[.sl t1 (pSr ns),.sl t2 rows]) rfl rfl rfl hlen2 ?_;refine zaD (b:=true) (args:=[.ag (dC ns vs)]) rfl (fun _ => zg3 her) (fun _ => hpd) ?_;refine mS ?_;refine po_ne (la:=dictP ns vs) (lb:=s) rfl rfl rfl ?_;refine mN ?_
  have hp:dictP ns vs = dictT ns vs:=by
   unfold dictP; unfold dictB at hdb
   rw [if_pos (by simp only [Bool.and_eq_true] at hdb ⊢; exact hdb.1)]
  have:decide (dictP ns vs ≠ s) = f:=by
   rw [Bool.eq_iff_iff,decide_eq_true_iff,hf,hp]
   constructor
   ·intro h1 h2; exact h1 h2.2.2.1
   ·intro h1 h2; exact h1 ⟨by omega,hdb,h2,fun v hv => (hvb v hv).1⟩
  exact ⟨⟨rfl,rfl,by rw [<- this]; rfl,trivial⟩,rfl,rfl,rfl⟩
 rintro tm bx n3 l3 ⟨ht,hbx,hnn,hll⟩;obtain ⟨tm0,rfl⟩:=zaj ht;simp only at hbx hnn hll
 subst hbx; subst hnn; subst hll
 clear ht;refine zbw (t:=f) rfl (fun hc => ?_) (fun hc => ?_)
 ·refine mQ ?_
  refine zaA (p:=0) (cs:=d0) rfl rfl rfl rfl rfl rfl ?_;refine mN ?_;refine zab ⟨.inr rfl,[.ag d0,.d (pB false)],rfl,zeZ (fun ns' vs' h => ?_) (fun t ht h22 hlt => hlv2 t (hlv1 t ht h22 hlt) h22 (by omega)) (Nat.le_trans hn1 hn2)⟩;obtain ⟨e1,e2,e3⟩:=hc4 ns' vs' h
  subst e1; subst e2
  exact hf.1 hc ⟨e3,h⟩
 ·have hgood:0 <= next2 /\ Good s ns vs:=Classical.byContradiction fun h => by rw [hf.2 h] at hc; cases hc
  refine zae ?_;refine mO ?_;refine zdl (p:=1) (cs:=[.sl t1 (pSr ns),.sl t2 rows]) rfl rfl rfl hlen2 ?_;refine zaA (p:=0) (cs:=[.sl t1 (pSr ns),.sl t2 rows]) rfl rfl rfl hlen2 rfl rfl ?_;refine mN ?_;have hk1:toksL [PC.sl t1 (pSr ns),.sl t2 rows] = toksL [PC.sl t1 (pSr ns)] ++ toksL [PC.sl t2 rows]:=by simp only [toksL,List.append_nil]
  have hown:NewL nt n3 [PC.sl t1 (pSr ns),.sl t2 rows]:=by
   refine ⟨?_,?_,fun t ht => ?_⟩
   ·have a:=hN1.own; have b:=hown2.own
    simp only [List.nil_append,ownedL,Bool.and_true] at a b;simp only [ownedL,a,b,Bool.and_true]
   ·rw [hk1,List.nodup_append]
    refine ⟨hN1.nd,hown2.nd,fun a ha b hb e => ?_⟩
    have:=(hN1.mem a ha).2; have:=hge2 b hb; omega
   ·rw [hk1,List.mem_append] at ht
    rcases ht with ht | ht
    ·have:=hN1.mem t ht; omega
    ·have:=hge2 t ht; have:=(hown2.mem t ht).2; omega
  refine zab ⟨.inr rfl,[.ag [.sl t1 (pSr ns),.sl t2 rows],.d (pB true)],zcY rfl rfl hlen2 rfl,⟨zaZ hown.own,trivial,trivial⟩,_,true,rfl,rfl,hown,fun t ht => ?_,(fun t ht h22 hlt => hlv2 t (hlv1 t ht h22 hlt) h22 (by omega)),Nat.le_trans hn1 hn2,ns,vs,her,fun _ => hgood.2,(fun h => by cases h),fun ns' vs' h => ?_⟩
  ·rw [hk1,List.mem_append] at ht
   rcases ht with ht | ht
   ·have:t = t1:=by
     have h0:t ∈ PC.toks (.sl t1 (pSr ns)) ++ []:=ht;rw [zaE ht1,pSr_tok] at h0;simpa using h0
    subst this;exact hlv2 t htl1 ht1 (hN1.mem t ht).2
   ·exact (hown2.mem t ht).1
  ·obtain ⟨e1,e2,e3⟩:=hc4 ns' vs' h
   exact ⟨rfl,e1,e2⟩
end
/- DecDef -/
section
def decOn (u:Nat) (l:List UInt8):List UInt8:=if u = 0 then l else Lib.decDigits u ++ l
theorem decOn_step {u:Nat} (h:u ≠ 0) (l:List UInt8):decOn (u / 10) (UInt8.ofNat (48 + u % 10) :: l) = decOn u l:=by
 unfold decOn;rw [if_neg h];by_cases h1:u < 10
 ·rw [if_pos (by omega),Lib.decDigits_one h1,Nat.mod_eq_of_lt h1]; rfl
 ·rw [if_neg (by omega)]
  conv => rhs; rw [Lib.decDigits,dif_neg h1]
  simp
def digs:List UInt8:=[48,49,50,51,52,53,54,55,56,57]
theorem digs_piece:∀ d:Fin 10,(digs.drop d.val).take 1 = [UInt8.ofNat (48 + d.val)]:=by decide
theorem digs_at {d:Nat} (h:d < 10):(([48,49,50,51,52,53,54,55,56,57]:List UInt8).drop d).take 1 = [UInt8.ofNat (48 + d)]:=digs_piece ⟨d,h⟩
theorem tdivAbs (m:Int):(Int.tdiv m 10).natAbs = m.natAbs / 10:=by rw [Int.natAbs_tdiv]; rfl
theorem tmodAbs (m:Int):(Int.tmod m 10).natAbs = m.natAbs % 10:=by rw [Int.natAbs_tmod]; rfl
theorem zgQ {u:Nat} (h:u <= 9223372036854775808):(Lib.decDigits u).length <= 20:=by rw [Lib.decDigits_length]; exact Lib.nDigits_le20 u (by omega)
end
/- PvF2M -/
section
set_option maxRecDepth 100000
def m_i_GetDict:M:=.seq (.ops [qo 2 (.zero [.slice none 0 0,.slice none 0 0]),
 qo 3 (.mv (.c (.bool false)))])
 (.seq (.seq (.ops [qo 14 (.mv (.t 0)),
 qo 15 (.lens (.t 14)),
 qo 16 (.bin .gtr false (.t 15) (ci 60000))])
 (.cond (.t 16) (.seq (.ops [qo 17 (.build [.slice none 0 0,.slice none 0 0] []),
 ⟨none,.store 2 (.t 2) (.t 17),none,[]⟩,
 qo 3 (.mv (.c (.bool false)))])
 (.ret))
 (.skip)))
 (.seq (.ops [qo 18 (.build [.slice none 0 0,.slice none 0 0] []),
 qo 4 (.zero [.slice none 0 0,.slice none 0 0]),
 ⟨none,.store 2 (.t 4) (.t 18),none,[]⟩])
 (.seq (.ops [qo 19 (.mv (.t 0)),
 ⟨some 20,.build [.string ⟨[].toArray⟩,.int .i64 0,.bool false,.int .i64 0,.bool false] [(0,1,.t 19)],none,[]⟩,
 qo 21 (.box (.t 20)),
 qo 5 (.mv (.t 21))])
 (.seq (.ops [qo 23 (.mv (.t 5)),
 ⟨some 24,.call 65 [.t 23],none,[.f 1]⟩,
 qo 22 (.mv (.t 24)),
 qo 25 (.ext (.t 22) 0),
 qo 26 (.ext (.t 22) 1),
 qo 6 (.mv (.t 25)),
 qo 7 (.mv (.t 26))])
 (.seq (.block 0 (.loop (.seq (.seq (.ops [qo 27 (.mv (.t 7)),
 qo 28 (.bin .gtr false (.t 27) (.c (.int .u64 0))),
 qo 29 (.mv (.t 28)),
 ⟨some 30,.mv (.t 5),some (29,true),[]⟩,
 ⟨some 31,.nilc (.t 30),some (29,true),[]⟩,
 ⟨some 32,.fld 4 (.t 31),some (29,true),[]⟩,
 ⟨some 33,.load false 1 (.t 32),some (29,true),[]⟩,
 ⟨some 34,.not (.t 33),some (29,true),[]⟩,
 qo 35 (.pick (.t 29) (.t 34) (.c (.bool false)))])
 (.cond (.t 35) (.skip)
 (.exit 0)))
 (.seq (.block 1 (.seq (.ops [qo 39 (.mv (.t 5)),
 ⟨some 40,.call 65 [.t 39],none,[.f 1]⟩,
 qo 38 (.mv (.t 40)),
 qo 41 (.ext (.t 38) 0),
 qo 42 (.ext (.t 38) 1),
 qo 8 (.mv (.t 41)),
 qo 9 (.mv (.t 42))])
 (.ops [qo 43 (.fld 0 (.t 4)),
 qo 44 (.load false 1 (.t 43)),
 qo 45 (.mv (.t 5)),
 qo 46 (.mv (.t 9)),
 ⟨some 47,.call 66 [.t 45,.t 46],none,[.f 0,.t 43]⟩,
 qo 48 (.litq 1 [.t 47]),
 ⟨some 49,.app 1 (.t 44) (.t 48),none,[.f 0]⟩,
 qo 50 (.fld 0 (.t 4)),
 ⟨none,.store 1 (.t 50) (.t 49),none,[]⟩])))
 (.ops [qo 36 (.mv (.t 7)),
 qo 37 (.bin .sub false (.t 36) (.c (.int .u64 1))),
 qo 7 (.mv (.t 37))])))))
 (.seq (.ops [qo 52 (.mv (.t 5)),
 ⟨some 53,.call 65 [.t 52],none,[.f 1]⟩,
 qo 51 (.mv (.t 53)),
 qo 54 (.ext (.t 51) 0),
 qo 55 (.ext (.t 51) 1),
 qo 10 (.mv (.t 54)),
 qo 11 (.mv (.t 55))])
 (.seq (.block 2 (.loop (.seq (.seq (.ops [qo 56 (.mv (.t 11)),
 qo 57 (.bin .gtr false (.t 56) (.c (.int .u64 0))),
 qo 58 (.mv (.t 57)),
 ⟨some 59,.mv (.t 5),some (58,true),[]⟩,
 ⟨some 60,.nilc (.t 59),some (58,true),[]⟩,
 ⟨some 61,.fld 4 (.t 60),some (58,true),[]⟩,
 ⟨some 62,.load false 1 (.t 61),some (58,true),[]⟩,
 ⟨some 63,.not (.t 62),some (58,true),[]⟩,
 qo 64 (.pick (.t 58) (.t 63) (.c (.bool false)))])
 (.cond (.t 64) (.skip)
 (.exit 2)))
 (.seq (.block 3 (.seq (.ops [qo 68 (.mv (.t 0)),
 qo 69 (.mv (.t 5)),
 qo 70 (.nilc (.t 69)),
 qo 71 (.fld 1 (.t 70)),
 qo 72 (.load false 1 (.t 71)),
 ⟨some 73,.call 67 [.t 68,.t 72],none,[.f 1]⟩,
 qo 67 (.mv (.t 73)),
 qo 74 (.ext (.t 67) 0),
 qo 75 (.ext (.t 67) 1),
 ⟨some 12,.zero [.int .i64 0,.int .i64 0,.int .i64 0,.string ⟨[].toArray⟩,.slice none 0 0],none,[]⟩,
 ⟨none,.store 5 (.t 12) (.t 74),none,[]⟩,
 qo 13 (.mv (.t 75))])
 (.seq (.seq (.ops [qo 76 (.mv (.t 13)),
 qo 77 (.bin .lss false (.t 76) (ci 0))])
 (.cond (.t 77) (.seq (.ops [qo 78 (.mv (.t 5)),
 qo 79 (.nilc (.t 78)),
 qo 80 (.fld 4 (.t 79)),
 ⟨none,.store 1 (.t 80) (.c (.bool true)),none,[]⟩])
 (.exit 2))
 (.skip)))
 (.seq (.ops [qo 81 (.fld 1 (.t 4)),
 qo 82 (.load false 1 (.t 81)),
 qo 83 (.load true 5 (.t 12)),
 qo 84 (.lit 5 [.t 83]),
 ⟨some 85,.app 5 (.t 82) (.t 84),none,[.f 1]⟩,
 qo 86 (.fld 1 (.t 4)),
 ⟨none,.store 1 (.t 86) (.t 85),none,[]⟩])
 (.ops [qo 87 (.mv (.t 5)),
 qo 88 (.mv (.t 13)),
 qo 89 (.nilc (.t 87)),
 qo 90 (.fld 1 (.t 89)),
 ⟨none,.store 1 (.t 90) (.t 88),none,[]⟩])))))
 (.ops [qo 65 (.mv (.t 11)),
 qo 66 (.bin .sub false (.t 65) (.c (.int .u64 1))),
 qo 11 (.mv (.t 66))])))))
 (.seq (.seq (.ops [qo 91 (.mv (.t 5)),
 qo 92 (.nilc (.t 91)),
 qo 93 (.fld 4 (.t 92)),
 qo 94 (.load false 1 (.t 93)),
 qo 95 (.mv (.t 94)),
 ⟨some 96,.load true 2 (.t 4),some (95,false),[]⟩,
 ⟨some 97,.call 68 [.t 96],some (95,false),[.f 1]⟩,
 ⟨some 98,.not (.t 97),some (95,false),[]⟩,
 qo 99 (.pick (.t 95) (.c (.bool true)) (.t 98)),
 qo 100 (.mv (.t 99)),
 ⟨some 101,.load true 2 (.t 4),some (100,false),[]⟩,
 ⟨some 102,.call 69 [.t 101],some (100,false),[.f 1]⟩,
 ⟨some 103,.mv (.t 0),some (100,false),[]⟩,
 ⟨some 104,.bin .neq false (.t 102) (.t 103),some (100,false),[]⟩,
 qo 105 (.pick (.t 100) (.c (.bool true)) (.t 104))])
 (.cond (.t 105) (.seq (.ops [qo 106 (.build [.slice none 0 0,.slice none 0 0] []),
 ⟨none,.store 2 (.t 2) (.t 106),none,[]⟩,
 qo 3 (.mv (.c (.bool false)))])
 (.ret))
 (.skip)))
 (.seq (.ops [qo 107 (.load true 2 (.t 4)),
 ⟨none,.store 2 (.t 2) (.t 107),none,[]⟩,
 qo 3 (.mv (.c (.bool true)))])
 (.ret))))))))))
theorem ziE:look Tryz.prog 15 = some (108,m_i_GetDict,[.cell true 2 2,.tm 3]):=by kernel_rfl
def m_i_decoder_head:M:=.seq (.ops [qo 2 (.mv (ci 0)),
 qo 3 (.mv (.c (.int .u64 0)))])
 (.seq (.ops [qo 4 (.mv (.f 124))])
 (.seq (.seq (.ops [qo 8 (.mv (.t 0)),
 qo 9 (.nilc (.t 8)),
 qo 10 (.fld 2 (.t 9)),
 qo 11 (.load false 1 (.t 10))])
 (.cond (.t 11) (.ops [qo 4 (.mv (.f 125))])
 (.skip)))
 (.seq (.ops [qo 13 (.mv (.t 4)),
 qo 14 (.mv (.t 0)),
 qo 15 (.nilc (.t 14)),
 qo 16 (.fld 0 (.t 15)),
 qo 17 (.load false 1 (.t 16)),
 qo 18 (.mv (.t 0)),
 qo 19 (.nilc (.t 18)),
 qo 20 (.fld 1 (.t 19)),
 qo 21 (.load false 1 (.t 20)),
 ⟨some 22,.callv (.t 13) [.t 17,.t 21],none,[.f 0]⟩,
 qo 12 (.mv (.t 22)),
 qo 23 (.ext (.t 12) 0),
 qo 24 (.ext (.t 12) 1),
 qo 25 (.ext (.t 12) 2),
 qo 5 (.mv (.t 23)),
 qo 6 (.mv (.t 24)),
 qo 7 (.mv (.t 25))])
 (.seq (.seq (.ops [qo 26 (.mv (.t 0)),
 qo 27 (.nilc (.t 26)),
 qo 28 (.fld 4 (.t 27)),
 qo 29 (.load false 1 (.t 28)),
 qo 30 (.mv (.t 29)),
 ⟨some 31,.mv (.t 7),some (30,false),[]⟩,
 ⟨some 32,.bin .lss false (.t 31) (ci 0),some (30,false),[]⟩,
 qo 33 (.pick (.t 30) (.c (.bool true)) (.t 32))])
 (.cond (.t 33) (.seq (.ops [qo 34 (.mv (.t 0)),
 qo 35 (.nilc (.t 34)),
 qo 36 (.fld 4 (.t 35)),
 ⟨none,.store 1 (.t 36) (.c (.bool true)),none,[]⟩])
 (.seq (.ops [qo 2 (.mv (ci (-1))),
 qo 3 (.mv (.c (.int .u64 0)))])
 (.ret)))
 (.skip)))
 (.seq (.ops [qo 37 (.mv (.t 0)),
 qo 38 (.mv (.t 7)),
 qo 39 (.nilc (.t 37)),
 qo 40 (.fld 1 (.t 39)),
 ⟨none,.store 1 (.t 40) (.t 38),none,[]⟩])
 (.seq (.ops [qo 41 (.mv (.t 5)),
 qo 42 (.mv (.t 6)),
 qo 2 (.mv (.t 41)),
 qo 3 (.mv (.t 42))])
 (.ret)))))))
theorem zfR:look Tryz.prog 65 = some (43,m_i_decoder_head,[.tm 2,.tm 3]):=by kernel_rfl
def m_i_decoder_bytes:M:=.seq (.ops [⟨some 4,.mv (.c (.string ⟨[].toArray⟩)),none,[]⟩])
 (.seq (.seq (.ops [qo 6 (.mv (.t 0)),
 qo 7 (.nilc (.t 6)),
 qo 8 (.fld 4 (.t 7)),
 qo 9 (.load false 1 (.t 8)),
 qo 10 (.mv (.t 9)),
 ⟨some 11,.mv (.t 1),some (10,false),[]⟩,
 ⟨some 12,.mv (.t 0),some (10,false),[]⟩,
 ⟨some 13,.nilc (.t 12),some (10,false),[]⟩,
 ⟨some 14,.fld 0 (.t 13),some (10,false),[]⟩,
 ⟨some 15,.load false 1 (.t 14),some (10,false),[]⟩,
 ⟨some 16,.lens (.t 15),some (10,false),[]⟩,
 ⟨some 17,.mv (.t 0),some (10,false),[]⟩,
 ⟨some 18,.nilc (.t 17),some (10,false),[]⟩,
 ⟨some 19,.fld 1 (.t 18),some (10,false),[]⟩,
 ⟨some 20,.load false 1 (.t 19),some (10,false),[]⟩,
 ⟨some 21,.bin .sub false (.t 16) (.t 20),some (10,false),[]⟩,
 ⟨some 22,.conv .u64 (.t 21),some (10,false),[]⟩,
 ⟨some 23,.bin .gtr false (.t 11) (.t 22),some (10,false),[]⟩,
 qo 24 (.pick (.t 10) (.c (.bool true)) (.t 23))])
 (.cond (.t 24) (.seq (.ops [qo 25 (.mv (.t 0)),
 qo 26 (.nilc (.t 25)),
 qo 27 (.fld 4 (.t 26)),
 ⟨none,.store 1 (.t 27) (.c (.bool true)),none,[]⟩])
 (.seq (.ops [⟨some 4,.mv (.c (.string ⟨[].toArray⟩)),none,[]⟩])
 (.ret)))
 (.skip)))
 (.seq (.ops [qo 28 (.mv (.t 0)),
 qo 29 (.nilc (.t 28)),
 qo 30 (.fld 1 (.t 29)),
 qo 31 (.load false 1 (.t 30)),
 qo 5 (.mv (.t 31))])
 (.seq (.ops [qo 32 (.mv (.t 0)),
 qo 33 (.nilc (.t 32)),
 qo 34 (.fld 1 (.t 33)),
 qo 35 (.load false 1 (.t 34)),
 qo 36 (.mv (.t 1)),
 qo 37 (.conv .i64 (.t 36)),
 qo 38 (.bin .add false (.t 35) (.t 37)),
 qo 39 (.nilc (.t 32)),
 qo 40 (.fld 1 (.t 39)),
 ⟨none,.store 1 (.t 40) (.t 38),none,[]⟩])
 (.seq (.ops [qo 41 (.mv (.t 0)),
 qo 42 (.nilc (.t 41)),
 qo 43 (.fld 0 (.t 42)),
 qo 44 (.load false 1 (.t 43)),
 qo 45 (.mv (.t 5)),
 qo 46 (.mv (.t 0)),
 qo 47 (.nilc (.t 46)),
 qo 48 (.fld 1 (.t 47)),
 qo 49 (.load false 1 (.t 48)),
 qo 50 (.slcs (.t 44) (some (.t 45)) (some (.t 49))),
 qo 4 (.mv (.t 50))])
 (.ret)))))
theorem zfE:look Tryz.prog 66 = some (51,m_i_decoder_bytes,[.tm 4]):=by kernel_rfl
def m_i_DictOk:M:=.seq (.ops [qo 1 (.box (.t 0)),
 qo 2 (.mv (.c (.bool false)))])
 (.seq (.ops [qo 3 (.fld 0 (.t 1)),
 qo 4 (.load false 1 (.t 3)),
 ⟨some 5,.call 129 [.t 4],none,[.f 1]⟩,
 qo 6 (.mv (.t 5)),
 ⟨some 7,.fld 1 (.t 1),some (6,true),[]⟩,
 ⟨some 8,.load false 1 (.t 7),some (6,true),[]⟩,
 ⟨some 9,.call 130 [.t 8],some (6,true),[.f 1]⟩,
 qo 10 (.pick (.t 6) (.t 9) (.c (.bool false))),
 qo 11 (.mv (.t 10)),
 ⟨some 12,.load true 2 (.t 1),some (11,true),[]⟩,
 ⟨some 13,.call 69 [.t 12],some (11,true),[.f 1]⟩,
 ⟨some 14,.lens (.t 13),some (11,true),[]⟩,
 ⟨some 15,.bin .leq false (.t 14) (ci 60000),some (11,true),[]⟩,
 qo 16 (.pick (.t 11) (.t 15) (.c (.bool false))),
 qo 2 (.mv (.t 16))])
 (.ret))
theorem zjr:look Tryz.prog 68 = some (17,m_i_DictOk,[.tm 2]):=by kernel_rfl
def m_i_putDict:M:=.seq (.ops [qo 1 (.box (.t 0)),
 ⟨some 2,.mv (.c (.string ⟨[].toArray⟩)),none,[]⟩])
 (.seq (.ops [qo 3 (.zbld 152 5)])
 (.seq (.ops [qo 8 (.fld 0 (.t 1)),
 qo 9 (.load false 1 (.t 8)),
 qo 10 (.len (.t 9)),
 qo 11 (.conv .u64 (.t 10)),
 ⟨some 12,.call 132 [ci 4,.t 11],none,[.f 1]⟩,
 ⟨some 13,.call 131 [.t 3,.t 12],none,[.f 1]⟩])
 (.seq (.seq (.ops [qo 14 (.fld 0 (.t 1)),
 qo 15 (.load false 1 (.t 14)),
 qo 16 (.len (.t 15)),
 qo 17 (.mv (ci 0))])
 (.block 0 (.loop (.seq (.ops [qo 18 (.bin .lss false (.t 17) (.t 16))])
 (.seq (.cond (.t 18) (.skip)
 (.exit 0))
 (.seq (.block 1 (.seq (.ops [qo 19 (.ix 1 (.t 15) (.t 17)),
 qo 20 (.load false 1 (.t 19)),
 qo 5 (.mv (.t 20))])
 (.ops [qo 21 (.mv (.t 5)),
 qo 22 (.lens (.t 21)),
 qo 23 (.conv .u64 (.t 22)),
 ⟨some 24,.call 132 [ci 3,.t 23],none,[.f 1]⟩,
 qo 25 (.mv (.t 5)),
 qo 26 (.bin .add false (.t 24) (.t 25)),
 ⟨some 27,.call 131 [.t 3,.t 26],none,[.f 1]⟩])))
 (.ops [qo 28 (.bin .add false (.t 17) (ci 1)),
 qo 17 (.mv (.t 28))])))))))
 (.seq (.ops [qo 29 (.fld 1 (.t 1)),
 qo 30 (.load false 1 (.t 29)),
 qo 31 (.len (.t 30)),
 qo 32 (.conv .u64 (.t 31)),
 ⟨some 33,.call 132 [ci 4,.t 32],none,[.f 1]⟩,
 ⟨some 34,.call 131 [.t 3,.t 33],none,[.f 1]⟩])
 (.seq (.seq (.ops [qo 35 (.fld 1 (.t 1)),
 qo 36 (.load false 1 (.t 35)),
 qo 37 (.len (.t 36)),
 qo 38 (.mv (ci 0))])
 (.block 2 (.loop (.seq (.ops [qo 39 (.bin .lss false (.t 38) (.t 37))])
 (.seq (.cond (.t 39) (.skip)
 (.exit 2))
 (.seq (.block 3 (.seq (.ops [qo 40 (.ix 5 (.t 36) (.t 38)),
 qo 41 (.load true 5 (.t 40)),
 ⟨some 7,.zero [.int .i64 0,.int .i64 0,.int .i64 0,.string ⟨[].toArray⟩,.slice none 0 0],none,[]⟩,
 ⟨none,.store 5 (.t 7) (.t 41),none,[]⟩])
 (.ops [qo 42 (.load true 5 (.t 7)),
 ⟨some 43,.call 133 [.t 3,.t 42],none,[.f 1]⟩])))
 (.ops [qo 44 (.bin .add false (.t 38) (ci 1)),
 qo 38 (.mv (.t 44))])))))))
 (.seq (.ops [⟨some 45,.call 134 [.t 3],none,[.f 1]⟩,
 qo 2 (.mv (.t 45))])
 (.ret)))))))
theorem ziF:look Tryz.prog 69 = some (46,m_i_putDict,[.tm 2]):=by kernel_rfl
def m_i_NamesOk:M:=.seq (.ops [qo 2 (.mv (.c (.bool false)))])
 (.seq (.seq (.ops [qo 5 (.mv (.t 0)),
 qo 6 (.len (.t 5)),
 qo 7 (.mv (ci 0))])
 (.block 0 (.loop (.seq (.ops [qo 8 (.bin .lss false (.t 7) (.t 6))])
 (.seq (.cond (.t 8) (.skip)
 (.exit 0))
 (.seq (.block 1 (.seq (.ops [qo 9 (.mv (.t 7)),
 qo 10 (.ix 1 (.t 5) (.t 7)),
 qo 11 (.load false 1 (.t 10)),
 qo 3 (.mv (.t 9)),
 qo 4 (.mv (.t 11))])
 (.seq (.ops [qo 12 (.mv (.t 4)),
 qo 13 (.lens (.t 12)),
 qo 14 (.bin .gtr false (.t 13) (ci 100)),
 qo 15 (.mv (.t 14)),
 ⟨some 16,.mv (.t 4),some (15,false),[]⟩,
 ⟨some 17,.call 172 [.t 16],some (15,false),[.f 1]⟩,
 ⟨some 18,.not (.t 17),some (15,false),[]⟩,
 qo 19 (.pick (.t 15) (.c (.bool true)) (.t 18)),
 qo 20 (.mv (.t 19)),
 ⟨some 21,.mv (.t 3),some (20,false),[]⟩,
 ⟨some 22,.bin .geq false (.t 21) (ci 100),some (20,false),[]⟩,
 qo 23 (.pick (.t 20) (.c (.bool true)) (.t 22)),
 qo 24 (.mv (.t 23)),
 ⟨some 25,.mv (.t 0),some (24,false),[]⟩,
 ⟨some 26,.mv (.t 3),some (24,false),[]⟩,
 ⟨some 27,.slc 1 (.t 25) none (some (.t 26)),some (24,false),[]⟩,
 ⟨some 28,.mv (.t 4),some (24,false),[]⟩,
 ⟨some 29,.call 173 [.t 27,.t 28],some (24,false),[.f 1]⟩,
 qo 30 (.pick (.t 24) (.c (.bool true)) (.t 29))])
 (.cond (.t 30) (.seq (.ops [qo 2 (.mv (.c (.bool false)))])
 (.ret))
 (.skip)))))
 (.ops [qo 31 (.bin .add false (.t 7) (ci 1)),
 qo 7 (.mv (.t 31))])))))))
 (.seq (.ops [qo 2 (.mv (.c (.bool true)))])
 (.ret)))
theorem ziG:look Tryz.prog 129 = some (32,m_i_NamesOk,[.tm 2]):=by kernel_rfl
def m_i_TableOk:M:=.seq (.ops [qo 2 (.mv (.c (.bool false)))])
 (.seq (.seq (.ops [qo 6 (.mv (.t 0)),
 qo 7 (.len (.t 6)),
 qo 8 (.bin .gtr false (.t 7) (ci 60))])
 (.cond (.t 8) (.seq (.ops [qo 2 (.mv (.c (.bool false)))])
 (.ret))
 (.skip)))
 (.seq (.seq (.ops [qo 9 (.mv (.t 0)),
 qo 10 (.len (.t 9)),
 qo 11 (.mv (ci 0))])
 (.block 0 (.loop (.seq (.ops [qo 12 (.bin .lss false (.t 11) (.t 10))])
 (.seq (.cond (.t 12) (.skip)
 (.exit 0))
 (.seq (.block 1 (.seq (.ops [qo 13 (.mv (.t 11)),
 qo 14 (.ix 5 (.t 9) (.t 11)),
 qo 15 (.load true 5 (.t 14)),
 qo 3 (.zero [.int .i64 0]),
 ⟨some 4,.zero [.int .i64 0,.int .i64 0,.int .i64 0,.string ⟨[].toArray⟩,.slice none 0 0],none,[]⟩,
 ⟨none,.store 1 (.t 3) (.t 13),none,[]⟩,
 ⟨none,.store 5 (.t 4) (.t 15),none,[]⟩])
 (.seq (.seq (.ops [qo 16 (.load true 5 (.t 4)),
 ⟨some 17,.call 87 [.t 16],none,[.f 1]⟩,
 qo 18 (.not (.t 17))])
 (.cond (.t 18) (.seq (.ops [qo 2 (.mv (.c (.bool false)))])
 (.ret))
 (.skip)))
 (.seq (.ops [qo 5 (.zero [.bool false]),
 ⟨none,.store 1 (.t 5) (.c (.bool true)),none,[]⟩])
 (.seq (.ops [qo 19 (.load true 5 (.t 4)),
 qo 20 (.mkfn 175 [.t 5,.t 3]),
 ⟨some 21,.call 174 [.t 19,.t 20],none,[.f 1]⟩])
 (.seq (.ops [qo 22 (.load false 1 (.t 5)),
 qo 23 (.not (.t 22))])
 (.cond (.t 23) (.seq (.ops [qo 2 (.mv (.c (.bool false)))])
 (.ret))
 (.skip))))))))
 (.ops [qo 24 (.bin .add false (.t 11) (ci 1)),
 qo 11 (.mv (.t 24))])))))))
 (.seq (.ops [qo 2 (.mv (.c (.bool true)))])
 (.ret))))
theorem ziH:look Tryz.prog 130 = some (25,m_i_TableOk,[.tm 2]):=by kernel_rfl
def m_slices_Contains_impl_Names_string:M:=.seq (.ops [qo 4 (.mv (.c (.bool false)))])
 (.seq (.ops [qo 5 (.mv (.t 0)),
 qo 6 (.mv (.t 1)),
 ⟨some 7,.call 216 [.t 5,.t 6],none,[.f 1]⟩,
 qo 8 (.bin .geq false (.t 7) (ci 0)),
 qo 4 (.mv (.t 8))])
 (.ret))
theorem zcT:look Tryz.prog 173 = some (9,m_slices_Contains_impl_Names_string,[.tm 4]):=by kernel_rfl
def m_i_walk:M:=.seq (.ops [qo 2 (.box (.t 0))])
 (.seq (.ops [qo 6 (.mv (.t 1)),
 qo 7 (.load true 5 (.t 2)),
 ⟨some 8,.callv (.t 6) [.t 7],none,[.f 1]⟩])
 (.seq (.ops [qo 9 (.fld 4 (.t 2)),
 qo 10 (.load false 1 (.t 9)),
 qo 11 (.len (.t 10)),
 qo 12 (.mv (ci 0))])
 (.block 0 (.loop (.seq (.ops [qo 13 (.bin .lss false (.t 12) (.t 11))])
 (.seq (.cond (.t 13) (.skip)
 (.exit 0))
 (.seq (.block 1 (.seq (.ops [qo 14 (.ix 5 (.t 10) (.t 12)),
 qo 15 (.load true 5 (.t 14)),
 ⟨some 5,.zero [.int .i64 0,.int .i64 0,.int .i64 0,.string ⟨[].toArray⟩,.slice none 0 0],none,[]⟩,
 ⟨none,.store 5 (.t 5) (.t 15),none,[]⟩])
 (.ops [qo 16 (.load true 5 (.t 5)),
 qo 17 (.mv (.t 1)),
 ⟨some 18,.call 174 [.t 16,.t 17],none,[.f 1]⟩])))
 (.ops [qo 19 (.bin .add false (.t 12) (ci 1)),
 qo 12 (.mv (.t 19))]))))))))
theorem lk_i_walk:look Tryz.prog 174 = some (20,m_i_walk,[]):=by kernel_rfl
def m_i_TableOk_1:M:=.seq (.ops [qo 3 (.box (.t 0))])
 (.seq (.ops [qo 4 (.fld 0 (.t 3)),
 qo 5 (.load false 1 (.t 4)),
 qo 6 (.bin .eql false (.t 5) (ci 9)),
 qo 7 (.mv (.t 6)),
 ⟨some 8,.fld 1 (.t 3),some (7,true),[]⟩,
 ⟨some 9,.load false 1 (.t 8),some (7,true),[]⟩,
 ⟨some 10,.bin .eql false (.t 9) (ci 6),some (7,true),[]⟩,
 qo 11 (.pick (.t 7) (.t 10) (.c (.bool false)))])
 (.cond (.t 11) (.ops [qo 12 (.load false 1 (.t 1)),
 qo 13 (.mv (.t 12)),
 ⟨some 14,.load true 5 (.t 3),some (13,true),[]⟩,
 ⟨some 15,.call 176 [.t 14],some (13,true),[.f 0]⟩,
 qo 16 (.pick (.t 13) (.t 15) (.c (.bool false))),
 qo 17 (.mv (.t 16)),
 ⟨some 18,.fld 4 (.t 3),some (17,true),[]⟩,
 ⟨some 19,.load false 1 (.t 18),some (17,true),[]⟩,
 ⟨some 20,.ix 5 (.t 19) (ci 0),some (17,true),[]⟩,
 ⟨some 21,.fld 1 (.t 20),some (17,true),[]⟩,
 ⟨some 22,.load false 1 (.t 21),some (17,true),[]⟩,
 ⟨some 23,.load false 1 (.t 2),some (17,true),[]⟩,
 ⟨some 24,.bin .lss false (.t 22) (.t 23),some (17,true),[]⟩,
 qo 25 (.pick (.t 17) (.t 24) (.c (.bool false))),
 ⟨none,.store 1 (.t 1) (.t 25),none,[]⟩])
 (.skip)))
theorem zg4:look Tryz.prog 175 = some (26,m_i_TableOk_1,[]):=by kernel_rfl
def m_i_isRef:M:=.seq (.ops [qo 1 (.box (.t 0)),
 qo 2 (.mv (.c (.bool false)))])
 (.seq (.ops [qo 3 (.fld 4 (.t 1)),
 qo 4 (.load false 1 (.t 3)),
 qo 5 (.ix 5 (.t 4) (ci 0)),
 qo 6 (.fld 0 (.t 5)),
 qo 7 (.load false 1 (.t 6)),
 qo 8 (.bin .eql false (.t 7) (ci 3)),
 qo 9 (.mv (.t 8)),
 ⟨some 10,.fld 4 (.t 1),some (9,true),[]⟩,
 ⟨some 11,.load false 1 (.t 10),some (9,true),[]⟩,
 ⟨some 12,.ix 5 (.t 11) (ci 0),some (9,true),[]⟩,
 ⟨some 13,.fld 1 (.t 12),some (9,true),[]⟩,
 ⟨some 14,.load false 1 (.t 13),some (9,true),[]⟩,
 ⟨some 15,.bin .geq false (.t 14) (ci 0),some (9,true),[]⟩,
 qo 16 (.pick (.t 9) (.t 15) (.c (.bool false))),
 qo 2 (.mv (.t 16))])
 (.ret))
theorem lk_i_isRef:look Tryz.prog 176 = some (17,m_i_isRef,[.tm 2]):=by kernel_rfl
def m_slices_Index_impl_Names_string:M:=.seq (.ops [qo 4 (.mv (ci 0))])
 (.seq (.seq (.ops [qo 6 (.mv (.t 0)),
 qo 7 (.len (.t 6)),
 qo 8 (.mv (ci 0))])
 (.block 0 (.loop (.seq (.ops [qo 9 (.bin .lss false (.t 8) (.t 7))])
 (.seq (.cond (.t 9) (.skip)
 (.exit 0))
 (.seq (.block 1 (.seq (.ops [qo 10 (.mv (.t 8)),
 qo 5 (.mv (.t 10))])
 (.seq (.ops [qo 11 (.mv (.t 1)),
 qo 12 (.mv (.t 0)),
 qo 13 (.mv (.t 5)),
 qo 14 (.ix 1 (.t 12) (.t 13)),
 qo 15 (.load false 1 (.t 14)),
 qo 16 (.bin .eql false (.t 11) (.t 15))])
 (.cond (.t 16) (.seq (.ops [qo 17 (.mv (.t 5)),
 qo 4 (.mv (.t 17))])
 (.ret))
 (.skip)))))
 (.ops [qo 18 (.bin .add false (.t 8) (ci 1)),
 qo 8 (.mv (.t 18))])))))))
 (.seq (.ops [qo 4 (.mv (ci (-1)))])
 (.ret)))
theorem zc6:look Tryz.prog 216 = some (19,m_slices_Index_impl_Names_string,[.tm 4]):=by kernel_rfl
end
/- ValueSz -/
section
end
/- ValueTo -/
section
theorem V.own {B:Nat} {w:World} {k m e:Int} {s:List UInt8} {kids:List V} {v1:Value} (h:Own B w (.sl 5 (V.ds kids)) [v1]) :
  Own B w (V.d (.mk k m e s kids)) [.int .i64 k,.int .i64 m,.int .i64 e,.string ⟨s.toArray⟩,v1]:=by
 obtain ⟨fp,h1,h2,h3⟩:=h;refine ⟨fp,h1,h2,?_⟩;simp only [V.d,TreeC,TreeCs,dI,dS]
 exact ⟨[],fp,[_],_,by simp,rfl,rfl,⟨rfl,rfl⟩,[],fp,[_],_,by simp,rfl,rfl,⟨rfl,rfl⟩,[],fp,[_],_,by simp,rfl,rfl,⟨rfl,rfl⟩,
  [],fp,[_],_,by simp,rfl,rfl,⟨rfl,rfl⟩,fp,[],[_],[],by simp,rfl,rfl,by simpa only [TreeC] using h3,rfl,rfl⟩
end
/- ValueEq -/
section
theorem V.bulk_get {ls:List V} {m:Nat} (h:ls.length + V.bulks ls <= m) (k:Nat) (hk:k < ls.length):ls[k].bulk <= m:=by
 have h1:=V.bulks_snoc ls k hk; have h2:=V.bulks_take ls (k + 1); omega
theorem V.ne_mk {k m e k' m' e':Int} {s s':List UInt8} {kids kids':List V} (h:¬ (k = k' /\ m = m' /\ e = e' /\ s = s' /\ kids = kids')) :
  decide (V.mk k m e s kids = V.mk k' m' e' s' kids') = false:=decide_eq_false (by simpa using h)
end
/- ValueSame -/
section
def VSmA (n:Nat):Prop:=∀ (x y:V) (cs ds:List Value) (w:World),x.nodes <= n -> Rd w x.d cs -> Rd w y.d ds -> x.bulk <= 4294967295 -> y.bulk <= 4294967295 ->
 Calls Tryz.prog 93 #[.agg cs.toArray,.agg ds.toArray] w fun e w' => e = .returned (.bool (decide (x = y))) /\ Below w.heap.size w w'
def VSmB (n:Nat):Prop:=∀ (x y:List V) (va vb:Value) (w:World),V.nodess x <= n -> Rd w (.sl 5 (V.ds x)) [va] -> Rd w (.sl 5 (V.ds y)) [vb] -> x.length + V.bulks x <= 4294967295 -> y.length + V.bulks y <= 4294967295 ->
 Calls Tryz.prog 149 #[va,vb,.func (.func 93) #[] #[]] w fun e w' => e = .returned (.bool (decide (x = y))) /\ Below w.heap.size w w'
set_option maxHeartbeats 800000 in
theorem VSmB_of {n:Nat} (hA:VSmA n):VSmB n:=by
 intro la lb va vb w hn h h2 hla hlb;obtain ⟨a,c,rfl,hg⟩:=h.values;obtain ⟨a',c',rfl,hg'⟩:=h2.values;by_cases hlen:la.length = lb.length
 ·have hlt:((la.length:Int) != (lb.length:Int)) = false:=by simp [hlen]
  have HL:=Lib.hid hlen; clear hlen
  go_enter Tryz.func149,Tryz.ntmps149
  go_wp2
  go_loopw [17] (fun i wr => ∃ (k:Nat),k <= la.length /\ i = .int .i64 k /\ la.take k = lb.take k /\ Below w.heap.size w wr) (fun i _ => la.length - (intOf i).toNat)
  case atStart => exact ⟨0,Nat.zero_le _,rfl,by simp,Below.refl _ _⟩
  case round =>
   obtain ⟨k,hk,rfl,htk,hbel⟩:=hrel;have HT:=Lib.hid htk; clear htk
   by_cases hk1:k < la.length
   ·have hk2:k < lb.length:=by have:=HL.out; omega
    obtain ⟨_,_,b,o,rfl,hb,hcell⟩:=hg (by intro e; rw [e] at hk1; simp at hk1);obtain ⟨_,_,b',o',rfl,hb',hcell'⟩:=hg' (by intro e; rw [e] at hk2; simp at hk2);obtain ⟨v0,v1,v2,v3,v4,hr,c0,c1,c2,c3,c4⟩:=hcell k hk1;obtain ⟨x0,x1,x2,x3,x4,hs,d0,d1,d2,d3,d4⟩:=hcell' k hk2;obtain ⟨k1,k2,k3,s4,a6,n6,m6,hcs⟩:=V.form hr;obtain ⟨j1,j2,j3,t4,b6,p6,q6,hds⟩:=V.form hs;simp only [List.cons.injEq,and_true] at hcs hds;obtain ⟨rfl,rfl,rfl,rfl,rfl⟩:=hcs;obtain ⟨rfl,rfl,rfl,rfl,rfl⟩:=hds;clear hcell hcell' hg hg';obtain ⟨hbc,_⟩:=zdB hbel;have hsz:=hbel.size;have hi1:(0:Int) <= k:=by omega
    have hi2:(k:Int) < lb.length:=by omega
    have hi3:(k:Int) < la.length:=by omega
    have hz1:b < wr.heap.size:=by omega
    have hz2:b' < wr.heap.size:=by omega
    have hnk:=Nat.le_trans (V.nodes_get la k hk1) hn;have hr':=hr.below hbel;have hs':=hs.below hbel;have hA2:=(hbel.alloc hsz (.cells #[.int .i64 k1,.int .i64 k2,.int .i64 k3,.string ⟨s4.toArray⟩,.slice a6 n6 m6] 41)).alloc (by simp; omega) (.cells #[.int .i64 j1,.int .i64 j2,.int .i64 j3,.string ⟨t4.toArray⟩,.slice b6 p6 q6] 41);by_cases he:la[k] = lb[k]
    ·have hd:=Lib.hid (decide_eq_true he)
     have HE:=Lib.hid he;clear he
     go_wp2_with (go_at_call 93; refine (hA _ _ _ _ _ hnk ((hr'.alloc _).alloc _) ((hs'.alloc _).alloc _) (V.bulk_get hla k hk1) (V.bulk_get hlb k hk2)).mono ?_; rw [hd.out]; rintro e w1 ⟨rfl,hb1⟩)
     go_roundw
     case rel => exact ⟨k + 1,by omega,by go_num,zid HT.out hk1 hk2 HE.out,zaW hA2 hb1 (Nat.le_refl _)⟩
     case measure => simp [intOf] <;> omega
    ·have hd:=Lib.hid (decide_eq_false he)
     have HE:=Lib.hid (decide_eq_false (ne_of_get hk1 hk2 he));clear he
     go_wp2_with (go_at_call 93; refine (hA _ _ _ _ _ hnk ((hr'.alloc _).alloc _) ((hs'.alloc _).alloc _) (V.bulk_get hla k hk1) (V.bulk_get hlb k hk2)).mono ?_; rw [hd.out]; rintro e w1 ⟨rfl,hb1⟩)
     go_ret;exact ⟨by rw [HE.out]; rfl,zaW hA2 hb1 (Nat.le_refl _)⟩
   ·obtain rfl:k = la.length:=by omega
    have he:la = lb:=by have:=HT.out; rw [List.take_length,HL.out,List.take_length] at this; exact this
    have H:=Lib.hid (decide_eq_true he);clear he;go_wp2;go_ret;exact ⟨by rw [H.out]; rfl,hbel⟩
 ·have H:=Lib.hid (decide_eq_false (show ¬ la = lb from fun e => hlen (by rw [e])))
  go_enter Tryz.func149,Tryz.ntmps149
  go_wp2;go_ret;exact ⟨by rw [H.out]; rfl,Below.refl _ _⟩
set_option maxHeartbeats 800000 in
theorem VSmA_of {n:Nat} (hB:VSmB n):VSmA (n + 1):=by
 intro x y cs ds w hn h h2 hx hy;obtain ⟨k,m,q,s,kids,v1,rfl,rfl,hkids⟩:=V.lay h;obtain ⟨k',m',q',s',kids',v1',rfl,rfl,hkids'⟩:=V.lay h2;have hnk:V.nodess kids <= n:=by simp only [V.nodes] at hn; omega
 simp only [V.bulk] at hx hy;have hA:=((Below.refl w.heap.size w).alloc (Nat.le_refl _) (.cells #[.int .i64 k,.int .i64 m,.int .i64 q,.string ⟨s.toArray⟩,v1] 41)).alloc (by simp) (.cells #[.int .i64 k',.int .i64 m',.int .i64 q',.string ⟨s'.toArray⟩,v1'] 41);by_cases e1:k = k' /\ m = m' /\ q = q' /\ s = s'
 ·obtain ⟨rfl,rfl,rfl,rfl⟩:=e1
  go_enter Tryz.func93,Tryz.ntmps93
  go_wp2_with fail
  refine (hB _ _ _ _ _ hnk ((hkids.below hA)) (hkids'.below hA) (by omega) (by omega)).mono ?_;by_cases e4:kids = kids'
  ·subst e4
   rw [decide_eq_true rfl];rintro e w2 ⟨rfl,hb2⟩;go_wp2;go_ret;exact ⟨by simp,zaW hA hb2 (Nat.le_refl _)⟩
  ·have H:=Lib.hid (V.ne_mk (k:=k) (m:=m) (e:=q) (s:=s) (kids:=kids) (k':=k) (m':=m) (e':=q) (s':=s) (kids':=kids') (by simp [e4]))
   rw [decide_eq_false e4];rintro e w2 ⟨rfl,hb2⟩;clear e4;go_wp2;go_ret;exact ⟨by rw [H.out]; rfl,zaW hA hb2 (Nat.le_refl _)⟩
 ·have H:=Lib.hid (V.ne_mk (k:=k) (m:=m) (e:=q) (s:=s) (kids:=kids) (k':=k') (m':=m') (e':=q') (s':=s') (kids':=kids') (by rintro ⟨a,b,c,d,_⟩; exact e1 ⟨a,b,c,d⟩))
  have HA:=Lib.hid hA;by_cases c1:k = k'
  ·subst c1
   by_cases c2:m = m'
   ·subst c2
    by_cases c3:q = q'
    ·subst c3
     have c4:(s == s') = false:=by simpa using fun c => e1 ⟨rfl,rfl,rfl,c⟩
     clear e1
     go_enter Tryz.func93,Tryz.ntmps93
     go_wp2_with fail
     go_ret;exact ⟨by rw [H.out]; rfl,HA.out⟩
    ·clear e1
     have c4:(q == q') = false:=by simpa using c3
     go_enter Tryz.func93,Tryz.ntmps93
     go_wp2_with fail
     go_ret;exact ⟨by rw [H.out]; rfl,HA.out⟩
   ·clear e1
    have c4:(m == m') = false:=by simpa using c2
    go_enter Tryz.func93,Tryz.ntmps93
    go_wp2_with fail
    go_ret;exact ⟨by rw [H.out]; rfl,HA.out⟩
  ·clear e1
   have c4:(k == k') = false:=by simpa using c1
   go_enter Tryz.func93,Tryz.ntmps93
   go_wp2_with fail
   go_ret;exact ⟨by rw [H.out]; rfl,HA.out⟩
theorem VSm_all:∀ n,VSmA n
 | 0 => fun x y cs ds w hn => absurd x.nodes_pos (by omega)
 | n + 1 => VSmA_of (VSmB_of (VSm_all n))
theorem same_any (x y:V) (cs ds:List Value) (w:World) (h:Rd w x.d cs) (h2:Rd w y.d ds) (hx:x.bulk <= 4294967295) (hy:y.bulk <= 4294967295) :
  Calls Tryz.prog 93 #[.agg cs.toArray,.agg ds.toArray] w fun e w' => e = .returned (.bool (decide (x = y))) /\ Below w.heap.size w w':=VSm_all x.nodes x y cs ds w (Nat.le_refl _) h h2 hx hy
end
/- ValueKids -/
section
set_option maxHeartbeats 400000 in
theorem isKey_any (x:V) (cs:List Value) (w:World) (h:Rd w x.d cs) :
  Calls Tryz.prog 222 #[.agg cs.toArray] w fun e w' => e = .returned (.bool (isKeyK x.kind)) /\ Below w.heap.size w w':=by
 obtain ⟨k,m,e,s,kids,v1,rfl,rfl,hkids⟩:=V.lay h;have HA:=Lib.hid ((Below.refl w.heap.size w).alloc (Nat.le_refl _) (.cells #[.int .i64 k,.int .i64 m,.int .i64 e,.string ⟨s.toArray⟩,v1] 41));clear h hkids;show Calls _ _ _ _ fun e' w' => e' = .returned (.bool (isKeyK k)) /\ _
 by_cases h5:k = 5
 ·subst h5
  go_enter Tryz.func222,Tryz.ntmps222
  go_wp2;go_ret;exact ⟨rfl,HA.out⟩
 ·have g5:(k == 5) = false:=by simpa using h5
  have H:=Lib.hid (show isKeyK k = (k == 3) by unfold isKeyK; rw [decide_eq_false h5,Bool.false_or]; rfl)
  go_enter Tryz.func222,Tryz.ntmps222
  go_wp2;go_ret;exact ⟨by rw [H.out]; rfl,HA.out⟩
def V.kidsOk (k:Int) (kids:List V):Bool :=
 if k = 7 then true else if k = 9 then decide (kids.length = 1) else if k = 8 then pairsOkI kids else decide (kids = [])
theorem len0' (l:List V):((l.length:Int) == 0) = decide (l = []):=by
 cases l with
 | nil => rfl
 | cons a r => simp; omega
set_option maxHeartbeats 4000000 in
set_option maxRecDepth 10000 in
theorem zjs (x:V) (cs:List Value) (w:World) (h:Rd w x.d cs) (hbk:x.bulk <= 4294967295) :
  Calls Tryz.prog 190 #[.agg cs.toArray] w fun e w' => e = .returned (.bool (V.kidsOk x.kind x.kids)) /\ Below w.heap.size w w':=by
 obtain ⟨q,n,e,s,xs,v1,rfl,rfl,hkids⟩:=V.lay h;have hkb:xs.length + V.bulks xs <= 4294967295:=by simp only [V.bulk] at hbk; omega
 obtain ⟨a,c,rfl,hg⟩:=hkids.values;show Calls _ _ _ _ fun e' w' => e' = .returned (.bool (V.kidsOk q xs)) /\ _
 obtain ⟨ok,hok⟩:∃ ok,V.kidsOk q xs = ok:=⟨_,rfl⟩;rw [hok];have HOK:=Lib.hid hok; clear hok
 obtain ⟨W0,hW0⟩:∃ W0,W0 = w.alloc (.cells #[.int .i64 q,.int .i64 n,.int .i64 e,.string ⟨s.toArray⟩,.slice a xs.length c] 41):=⟨_,rfl⟩;have HW:=Lib.hid hW0;have hA0:Below w.heap.size w W0:=by rw [hW0]; exact (Below.refl _ _).alloc (Nat.le_refl _) _
 have hz:w.heap.size < W0.heap.size:=by rw [hW0]; simp
 have KB:Hid (∀ W,Below W0.heap.size W0 W -> W.cell? ⟨w.heap.size,0,none⟩ = some (.int .i64 q) /\ W.cell? ⟨w.heap.size,4,none⟩ = some (.slice a xs.length c)):=by
  intro W hb;obtain ⟨hc,_⟩:=zdB hb;simp only [hc _ _ hz]; subst hW0; simp
 clear hW0 h hkids hbk;obtain ⟨f0,f4⟩:=KB.out _ (Below.refl _ _);by_cases q7:q = 7
 ·subst q7
  have H:=Lib.hid (show ok = true by rw [<- HOK.out]; rfl)
  go_enter Tryz.func190,Tryz.ntmps190
  go_wp2;rw [<- HW.out];go_ret;exact ⟨by rw [H.out]; rfl,hA0⟩
 by_cases q9:q = 9
 ·subst q9
  have H:=Lib.hid (show ok = decide (xs.length = 1) by rw [<- HOK.out]; rfl)
  go_enter Tryz.func190,Tryz.ntmps190
  go_wp2;rw [<- HW.out];go_ret;exact ⟨by rw [H.out]; exact zba (by rw [Bool.eq_iff_iff]; simp; omega),hA0⟩
 by_cases q8:q = 8
 ·subst q8
  have HP:=Lib.hid (show ok = pairsOkI xs by rw [<- HOK.out]; rfl);obtain ⟨ks,hks⟩:∃ ks,odds xs = ks:=⟨_,rfl⟩;have hkl:ks.length = (xs.length + 1) / 2:=by rw [<- hks,zdQ]
  have HKG:Hid (∀ j (h1:2 * j < xs.length) (h2:j < ks.length),ks[j] = xs[2 * j]):=by
   intro j h1 h2; subst hks; exact odds_get xs j h1
  have HKS:=Lib.hid hks; clear hks
  clear q7 q9
  go_enter Tryz.func190,Tryz.ntmps190
  go_wp2;rw [<- HW.out]
  go_loopw [3] (fun i wr => ∃ (j k:Nat),k = 2 * j /\ j <= ks.length /\ i = .int .i64 k /\ uniq id (ks.take j) = true /\ Below W0.heap.size W0 wr) (fun i _ => xs.length + 1 - (intOf i).toNat)
  case atStart => exact ⟨0,0,rfl,Nat.zero_le _,rfl,by simp [uniq],Below.refl _ _⟩
  case round =>
   obtain ⟨j,k,hkj,hj,rfl,hu,hbel⟩:=hrel;have HKJ:=Lib.hid hkj;have HU:=Lib.hid hu; clear hu f0 f4
   obtain ⟨f0,f4⟩:=KB.out _ hbel;have hbw:=zaW hA0 hbel (Nat.le_refl _);by_cases hlt:k < xs.length
   ·have hjk:j < ks.length:=by omega
    have hkk:=HKG.out j (by omega) hjk;obtain ⟨_,_,b,o,rfl,hb,hcell⟩:=hg (by intro e; rw [e] at hlt; simp at hlt);have HC:=Lib.hid hcell;obtain ⟨v0,v1,v2,v3,v4,hr,d0,d1,d2,d3,d4⟩:=hcell k hlt;clear hcell;obtain ⟨k1,k2,k3,s4,a6,n6,m6,hcs⟩:=V.form hr;simp only [List.cons.injEq,and_true] at hcs;obtain ⟨rfl,rfl,rfl,rfl,rfl⟩:=hcs;have hbc:=(zdB hbw).1;rw [<- hbc _ _ hb] at d0 d1 d2 d3 d4;have HX:=Lib.hid (show ks[j] = xs[k] by rw [hkk]; subst hkj; rfl);have hi1:(0:Int) <= k:=by omega
    have hi3:(k:Int) < xs.length:=by omega
    have hbz:b < W0.heap.size:=by have:=hA0.size; omega
    have HD:Hid (∀ W,Below W0.heap.size W0 W -> W.cell? ⟨b,o + k * 5,none⟩ = some (.int .i64 k1) /\ W.cell? ⟨b,o + k * 5 + 1,none⟩ = some (.int .i64 k2) /\ W.cell? ⟨b,o + k * 5 + 2,none⟩ = some (.int .i64 k3) /\ W.cell? ⟨b,o + k * 5 + 3,none⟩ = some (.string ⟨s4.toArray⟩) /\ W.cell? ⟨b,o + k * 5 + 4,none⟩ = some (.slice a6 n6 m6)):=by
     intro W hW;have h1:=(zdB hW).1;have h2:=(zdB hbel).1;rw [h2 _ _ hbz] at d0 d1 d2 d3 d4;simp only [h1 _ _ hbz]; exact ⟨d0,d1,d2,d3,d4⟩
    have HK1:=Lib.hid (fun W (hW:Below W0.heap.size W0 W) => isKey_any xs[k] _ W (hr.below (zaW hA0 hW (Nat.le_refl _))));have HXR:=Lib.hid (fun W (hW:Below W0.heap.size W0 W) => (hr.below (zaW hA0 hW (Nat.le_refl _))));clear hbc hkk hkj hr
    cases hkey:isKeyK xs[k].kind with
    | true =>
     have HK:=Lib.hid hkey; clear hkey
     go_wp2_with (go_at_call 222; refine (HK1.out _ hbel).mono ?_; rw [HK.out]; rintro e w1 ⟨rfl,hb1⟩; have hbe1:=zaW hbel hb1 (Nat.le_refl _); clear d0 d1 d2 d3 d4 f0 f4; obtain ⟨f0,f4⟩:=KB.out _ hbe1)
     go_loopw [4] (fun i wr => ∃ (m r:Nat),r = 2 * m /\ m <= j /\ i = .int .i64 r /\ xs[k] ∉ ks.take m /\ Below W0.heap.size W0 wr) (fun i _ => k + 1 - (intOf i).toNat)
     case atStart => exact ⟨0,0,rfl,Nat.zero_le _,rfl,by simp,hbe1⟩
     case round =>
      obtain ⟨m,r,hrm,hm,rfl,hni,hbel2⟩:=hrel;have HRM:=Lib.hid hrm;have HNI:=Lib.hid hni; clear hni
      have hkj:=HKJ.out;have hbw2:=zaW hA0 hbel2 (Nat.le_refl _);clear f0 f4;obtain ⟨f0,f4⟩:=KB.out _ hbel2;by_cases hml:r < k
      ·have hrx:r < xs.length:=by omega
       have hmk:m < ks.length:=by omega
       have hmm:=HKG.out m (by omega) hmk;obtain ⟨u0,u1,u2,u3,u4,hr2,e0,e1,e2,e3,e4⟩:=HC.out r hrx;obtain ⟨y1,y2,y3,t4,b6,p6,r6,hcs2⟩:=V.form hr2;simp only [List.cons.injEq,and_true] at hcs2;obtain ⟨rfl,rfl,rfl,rfl,rfl⟩:=hcs2;have HY:=Lib.hid (show ks[m] = xs[r] by rw [hmm]; subst hrm; rfl)
       have HE:Hid (∀ W,Below W0.heap.size W0 W -> W.cell? ⟨b,o + r * 5,none⟩ = some (.int .i64 y1) /\ W.cell? ⟨b,o + r * 5 + 1,none⟩ = some (.int .i64 y2) /\ W.cell? ⟨b,o + r * 5 + 2,none⟩ = some (.int .i64 y3) /\ W.cell? ⟨b,o + r * 5 + 3,none⟩ = some (.string ⟨t4.toArray⟩) /\ W.cell? ⟨b,o + r * 5 + 4,none⟩ = some (.slice b6 p6 r6)):=by
        intro W hW;have h1:=(zdB (zaW hA0 hW (Nat.le_refl _))).1;simp only [h1 _ _ hb]; exact ⟨e0,e1,e2,e3,e4⟩
       have hj1:(0:Int) <= r:=by omega
       have hj3:(r:Int) < xs.length:=by omega
       have hj5:(r:Int) < k:=by omega
       have hm5:m < j:=by omega
       have hr5:r + 2 < k + 3:=by omega
       have HS:=Lib.hid (fun W (hW:Below W0.heap.size W0 W) => same_any xs[k] xs[r] _ _ W (HXR.out W hW) (hr2.below (zaW hA0 hW (Nat.le_refl _))) (V.bulk_get hkb k hlt) (V.bulk_get hkb r hrx));have hB:=hbel2;clear hmm hrm hkj e0 e1 e2 e3 e4 hr2 f0 f4;by_cases heq:xs[k] = xs[r]
       ·have HQ:=Lib.hid (decide_eq_true heq)
        have HF:=Lib.hid (show ok = false by
         rw [HP.out]; unfold pairsOkI; rw [HKS.out,zgI hjk (by
          rw [HX.out,List.map_id];exact List.mem_take_iff_getElem.2 ⟨m,by omega,by rw [HY.out,<- heq]; rfl⟩)]; rfl)
        clear heq
        go_wp2_with fail
        go_region_held3 (fun W => (W.cell? ⟨w.heap.size,0,none⟩ = some (.int .i64 8) /\ W.cell? ⟨w.heap.size,4,none⟩ = some (.slice (some ⟨b,o,none⟩) xs.length c)) /\ (W.cell? ⟨b,o + k * 5,none⟩ = some (.int .i64 k1) /\ W.cell? ⟨b,o + k * 5 + 1,none⟩ = some (.int .i64 k2) /\ W.cell? ⟨b,o + k * 5 + 2,none⟩ = some (.int .i64 k3) /\ W.cell? ⟨b,o + k * 5 + 3,none⟩ = some (.string ⟨s4.toArray⟩) /\ W.cell? ⟨b,o + k * 5 + 4,none⟩ = some (.slice a6 n6 m6)) /\ W.cell? ⟨b,o + r * 5,none⟩ = some (.int .i64 y1) /\ W.cell? ⟨b,o + r * 5 + 1,none⟩ = some (.int .i64 y2) /\ W.cell? ⟨b,o + r * 5 + 2,none⟩ = some (.int .i64 y3) /\ W.cell? ⟨b,o + r * 5 + 3,none⟩ = some (.string ⟨t4.toArray⟩) /\ W.cell? ⟨b,o + r * 5 + 4,none⟩ = some (.slice b6 p6 r6))
         (first | exact ⟨KB.out _ hB,HD.out _ hB,HE.out _ hB⟩ | exact ⟨KB.out _ hB.drew,HD.out _ hB.drew,HE.out _ hB.drew⟩)
         (first | (go_at_call 93; with_reducible refine (HS.out _ (by first | exact hB | exact hB.drew)).mono ?_; rw [HQ.out]; rintro e w2 ⟨rfl,hb2⟩; replace hB:=zaW (by first | exact hB | exact hB.drew) hb2 (Nat.le_refl _)))
        go_wp2;go_ret;exact ⟨by rw [HF.out]; rfl,zaW hA0 hB (Nat.le_refl _)⟩
       ·have HQ:=Lib.hid (decide_eq_false heq)
        have HM:Hid (xs[k] ∉ ks.take (m + 1)):=by
         show _ ∉ _;rw [List.take_succ_eq_append_getElem hmk,List.mem_append,HY.out];rintro (h | h)
         ·exact HNI.out h
         ·exact heq (by simpa using h)
        clear heq
        go_wp2_with fail
        go_region_held3 (fun W => (W.cell? ⟨w.heap.size,0,none⟩ = some (.int .i64 8) /\ W.cell? ⟨w.heap.size,4,none⟩ = some (.slice (some ⟨b,o,none⟩) xs.length c)) /\ (W.cell? ⟨b,o + k * 5,none⟩ = some (.int .i64 k1) /\ W.cell? ⟨b,o + k * 5 + 1,none⟩ = some (.int .i64 k2) /\ W.cell? ⟨b,o + k * 5 + 2,none⟩ = some (.int .i64 k3) /\ W.cell? ⟨b,o + k * 5 + 3,none⟩ = some (.string ⟨s4.toArray⟩) /\ W.cell? ⟨b,o + k * 5 + 4,none⟩ = some (.slice a6 n6 m6)) /\ W.cell? ⟨b,o + r * 5,none⟩ = some (.int .i64 y1) /\ W.cell? ⟨b,o + r * 5 + 1,none⟩ = some (.int .i64 y2) /\ W.cell? ⟨b,o + r * 5 + 2,none⟩ = some (.int .i64 y3) /\ W.cell? ⟨b,o + r * 5 + 3,none⟩ = some (.string ⟨t4.toArray⟩) /\ W.cell? ⟨b,o + r * 5 + 4,none⟩ = some (.slice b6 p6 r6))
         (first | exact ⟨KB.out _ hB,HD.out _ hB,HE.out _ hB⟩ | exact ⟨KB.out _ hB.drew,HD.out _ hB.drew,HE.out _ hB.drew⟩)
         (first | (go_at_call 93; with_reducible refine (HS.out _ (by first | exact hB | exact hB.drew)).mono ?_; rw [HQ.out]; rintro e w2 ⟨rfl,hb2⟩; replace hB:=zaW (by first | exact hB | exact hB.drew) hb2 (Nat.le_refl _)))
        go_wp2;go_roundw
        case rel => exact ⟨m + 1,r + 2,by have:=HRM.out; omega,by omega,by go_num,HM.out,hB⟩
        case measure => simp [intOf]; omega
      ·obtain rfl:m = j:=by omega
       have HM:Hid (uniq id (ks.take (m + 1)) = true):=zgH hjk HU.out (by rw [HX.out]; exact HK.out) (by rw [HX.out,List.map_id]; exact HNI.out);clear hrm hkj;go_wp2;go_roundw
       case rel => exact ⟨m + 1,k + 2,by have:=HKJ.out; omega,by omega,by go_num,HM.out,hbel2⟩
       case measure => simp [intOf]; omega
    | false =>
     have HK:=Lib.hid hkey;have HF:=Lib.hid (show ok = false by rw [HP.out]; unfold pairsOkI; rw [HKS.out,zin hjk (by rw [HX.out]; exact hkey)]; rfl);clear hkey
     go_wp2_with (go_at_call 222; refine (HK1.out _ hbel).mono ?_; rw [HK.out]; rintro e w1 ⟨rfl,hb1⟩)
     go_ret;exact ⟨by rw [HF.out]; rfl,zaW hbw hb1 (Nat.le_refl _)⟩
   ·obtain rfl:j = ks.length:=by omega
    clear hkj;have h1:=HU.out;rw [List.take_length] at h1;have HF:=Lib.hid (show ok = decide (xs.length % 2 = 0) by rw [HP.out]; unfold pairsOkI; rw [HKS.out,h1]; rfl);clear h1;go_wp2;go_ret;exact ⟨by rw [HF.out]; exact zba (by rw [Bool.eq_iff_iff]; simp <;> omega),hbw⟩
 ·have H:=Lib.hid (show ok = decide (xs = []) by rw [<- HOK.out]; unfold V.kidsOk; rw [if_neg q7,if_neg q9,if_neg q8])
  have g7:(q == 7) = false:=by simpa using q7
  have g8:(q == 8) = false:=by simpa using q8
  have g9:(q == 9) = false:=by simpa using q9
  go_enter Tryz.func190,Tryz.ntmps190
  go_wp2;rw [<- HW.out];go_ret;exact ⟨by rw [H.out,<- len0']; rfl,hA0⟩
end
end Go.Proofs.YtanlnhkagepniaaGreatDoor
/-
  DERIVED: THE SHELF's CONTRACTS AT THIS DUMP, IN PLAIN WORDS (tools/lay-plain.mjs out of 'TryzShelf.lean', which tools/lay-shelf.mjs wrote): THE SAME DECLARATIONS UNDER THE SAME NAMES: 'import', 'namespace', 'open', 'def', 'theorem' AND NOTHING ELSE: no command of the shelf's: FOR A HAND-IN. Each laying: the table of numbers ('.._ren') and one theorem, a field a fact of the dump's own or the kernel's comparison; each contract: ONE APPLICATION.
-/
namespace Go.Proofs
open Go.Shelf
def Tryz.lays172_ren:Go.Shelf.Ren:=⟨fun | 172 => 238 | 244 => 247 | 245 => 248 | 247 => 255 | 279 => 256 | 280 => 257 | 281 => 258 | 282 => 259 | 287 => 262 | 316 => 263 | 171 => 158 | 205 => 264 | 321 => 265 | 322 => 266 | 243 => 202 | 246 => 230 | 283 => 239 | 284 => 240 | 285 => 241 | 286 => 242 | 129 => 250 | 317 => 249 | 318 => 251 | 319 => 252 | 320 => 253 | 337 => 260 | 338 => 261 | n => n,fun | 9 => 9 | 3 => 3 | 75 => 154 | 76 => 155 | 4 => 4 | 5 => 5 | 167 => 249 | 37 => 150 | 0 => 0 | 85 => 250 | 2 => 2 | 168 => 252 | 53 => 98 | 175 => 256 | 46 => 190 | 210 => 259 | 127 => 201 | 145 => 266 | 143 => 264 | 21 => 21 | 171 => 235 | 173 => 238 | 212 => 244 | 51 => 180 | 20 => 20 | 213 => 245 | 232 => 261 | 233 => 262 | 80 => 158 | n => n,fun | 15 => 3 | 16 => 4 | 17 => 2 | 18 => 5 | 19 => 6 | n => n⟩
def Tryz.laysM246_ren:Go.Shelf.Ren:=⟨fun | 246 => 230 | 283 => 239 | 284 => 240 | 285 => 241 | 286 => 242 | 129 => 250 | 317 => 249 | 318 => 251 | 319 => 252 | 320 => 253 | 337 => 260 | 338 => 261 | n => n,fun | 2 => 2 | 3 => 3 | 9 => 9 | 4 => 4 | 171 => 235 | 0 => 0 | 53 => 98 | 37 => 150 | 5 => 5 | 173 => 238 | 212 => 244 | 51 => 180 | 20 => 20 | 213 => 245 | 46 => 190 | 232 => 261 | 233 => 262 | n => n,fun | 17 => 2 | 18 => 5 | 19 => 6 | n => n⟩
def Tryz.laysM243_ren:Go.Shelf.Ren:=⟨fun | 243 => 202 | 246 => 230 | 283 => 239 | 284 => 240 | 285 => 241 | 286 => 242 | 129 => 250 | 317 => 249 | 318 => 251 | 319 => 252 | 320 => 253 | 337 => 260 | 338 => 261 | n => n,fun | 3 => 3 | 9 => 9 | 2 => 2 | 4 => 4 | 171 => 235 | 0 => 0 | 53 => 98 | 37 => 150 | 5 => 5 | 173 => 238 | 212 => 244 | 51 => 180 | 20 => 20 | 213 => 245 | 46 => 190 | 232 => 261 | 233 => 262 | n => n,fun | 17 => 2 | 18 => 5 | 19 => 6 | n => n⟩
def Tryz.laysM171_ren:Go.Shelf.Ren:=⟨fun | 171 => 158 | 243 => 202 | 246 => 230 | 283 => 239 | 284 => 240 | 285 => 241 | 286 => 242 | 129 => 250 | 317 => 249 | 318 => 251 | 319 => 252 | 320 => 253 | 337 => 260 | 338 => 261 | n => n,fun | 3 => 3 | 9 => 9 | 2 => 2 | 4 => 4 | 171 => 235 | 0 => 0 | 53 => 98 | 37 => 150 | 5 => 5 | 173 => 238 | 212 => 244 | 51 => 180 | 20 => 20 | 213 => 245 | 46 => 190 | 232 => 261 | 233 => 262 | n => n,fun | 17 => 2 | 18 => 5 | 19 => 6 | n => n⟩
theorem Tryz.laysM171:Go.Proofs.LaysM.n171 Tryz.prog Tryz.laysM171_ren:={
 mixed:=by kernel_rfl
 f129:=Tryz.func250.trans (congrArg some (by kernel_rfl))
 f171:=Tryz.func158.trans (congrArg some (by kernel_rfl))
 f243:=Tryz.func202.trans (congrArg some (by kernel_rfl))
 f246:=Tryz.func230.trans (congrArg some (by kernel_rfl))
 f283:=Tryz.func239.trans (congrArg some (by kernel_rfl))
 f284:=Tryz.func240.trans (congrArg some (by kernel_rfl))
 f285:=Tryz.func241.trans (congrArg some (by kernel_rfl))
 f286:=Tryz.func242.trans (congrArg some (by kernel_rfl))
 f317:=Tryz.func249.trans (congrArg some (by kernel_rfl))
 f318:=Tryz.func251.trans (congrArg some (by kernel_rfl))
 f319:=Tryz.func252.trans (congrArg some (by kernel_rfl))
 f320:=Tryz.func253.trans (congrArg some (by kernel_rfl))
 f337:=Tryz.func260.trans (congrArg some (by kernel_rfl))
 f338:=Tryz.func261.trans (congrArg some (by kernel_rfl))
 t0:=Tryz.underlying0
 a0:=Tryz.isAgg0
 z0:=Tryz.sizeOf0
 v0:=Tryz.zeroValue0
 t2:=Tryz.underlying2
 a2:=Tryz.isAgg2
 z2:=Tryz.sizeOf2
 v2:=Tryz.zeroValue2
 t3:=Tryz.underlying3
 a3:=Tryz.isAgg3
 z3:=Tryz.sizeOf3
 v3:=Tryz.zeroValue3
 t4:=Tryz.underlying4
 a4:=Tryz.isAgg4
 z4:=Tryz.sizeOf4
 v4:=Tryz.zeroValue4
 t5:=Tryz.underlying5
 a5:=Tryz.isAgg5
 z5:=Tryz.sizeOf5
 v5:=Tryz.zeroValue5
 t9:=Tryz.underlying9
 a9:=Tryz.isAgg9
 z9:=Tryz.sizeOf9
 v9:=Tryz.zeroValue9
 t20:=Tryz.underlying20
 a20:=Tryz.isAgg20
 z20:=Tryz.sizeOf20
 v20:=Tryz.zeroValue20
 t37:=Tryz.underlying150
 a37:=Tryz.isAgg150
 z37:=Tryz.sizeOf150
 v37:=Tryz.zeroValue150
 t46:=Tryz.underlying190
 a46:=Tryz.isAgg190
 z46:=Tryz.sizeOf190
 v46:=Tryz.zeroValue190
 t51:=Tryz.underlying180
 a51:=Tryz.isAgg180
 z51:=Tryz.sizeOf180
 v51:=Tryz.zeroValue180
 t53:=Tryz.underlying98
 a53:=Tryz.isAgg98
 z53:=Tryz.sizeOf98
 v53:=Tryz.zeroValue98
 t171:=Tryz.underlying235
 a171:=Tryz.isAgg235
 z171:=Tryz.sizeOf235
 v171:=Tryz.zeroValue235
 t173:=Tryz.underlying238
 a173:=Tryz.isAgg238
 z173:=Tryz.sizeOf238
 v173:=Tryz.zeroValue238
 t212:=Tryz.underlying244
 a212:=Tryz.isAgg244
 z212:=Tryz.sizeOf244
 v212:=Tryz.zeroValue244
 t213:=Tryz.underlying245
 a213:=Tryz.isAgg245
 z213:=Tryz.sizeOf245
 t232:=Tryz.underlying261
 a232:=Tryz.isAgg261
 z232:=Tryz.sizeOf261
 v232:=Tryz.zeroValue261
 t233:=Tryz.underlying262
 a233:=Tryz.isAgg262
 z233:=Tryz.sizeOf262
 v233:=Tryz.zeroValue262
 g17:=by kernel_rfl
 g18:=by kernel_rfl
 g19:=by kernel_rfl
 i0:=by kernel_rfl
 i2:=by kernel_rfl
 i3:=by kernel_rfl
 i4:=by kernel_rfl
 i5:=by kernel_rfl
 i9:=by kernel_rfl
 i20:=by kernel_rfl
 i37:=by kernel_rfl
 i46:=by kernel_rfl
 i51:=by kernel_rfl
 i53:=by kernel_rfl
 i171:=by kernel_rfl
 i173:=by kernel_rfl
 i212:=by kernel_rfl
 i232:=by kernel_rfl
 i233:=by kernel_rfl
 m17:=by kernel_rfl
 m18:=by kernel_rfl
 m19:=by kernel_rfl }
open Go.RowKit Go.Sort Go.Lib in
theorem Tryz.strconv_Itoa (n : Int) (h0 : -9223372036854775808 ≤ n) (h1 : n ≤ 9223372036854775807) (w : World) (htab : Lib.TabIs Tryz.prog w "internal/strconv.uint64pow10" .u64 Lib.pow10Tab) :
  Calls Tryz.prog 158 #[.int .i64 n] w fun e w' => e = .returned (.string ⟨(Lib.itoa n).toArray⟩) /\ ∃ k os,w' = grow (w.drewN k) os:=Any.strconv_Itoa Tryz.laysM171 n h0 h1 w htab
def Tryz.laysC172_ren:Go.Shelf.Ren:=⟨fun | 172 => 238 | 244 => 247 | 245 => 248 | 247 => 255 | 279 => 256 | 280 => 257 | 281 => 258 | 282 => 259 | 287 => 262 | 316 => 263 | 171 => 158 | 205 => 264 | 321 => 265 | 322 => 266 | 243 => 202 | 246 => 230 | 283 => 239 | 284 => 240 | 285 => 241 | 286 => 242 | 129 => 250 | 317 => 249 | 318 => 251 | 319 => 252 | 320 => 253 | 337 => 260 | 338 => 261 | n => n,fun | 9 => 9 | 3 => 3 | 75 => 154 | 76 => 155 | 4 => 4 | 5 => 5 | 167 => 249 | 37 => 150 | 0 => 0 | 85 => 250 | 2 => 2 | 168 => 252 | 53 => 98 | 175 => 256 | 46 => 190 | 210 => 259 | 127 => 201 | 145 => 266 | 143 => 264 | 21 => 21 | 171 => 235 | 173 => 238 | 212 => 244 | 51 => 180 | 20 => 20 | 213 => 245 | 232 => 261 | 233 => 262 | 80 => 158 | n => n,fun | 15 => 3 | 16 => 4 | 17 => 2 | 18 => 5 | 19 => 6 | n => n⟩
theorem Tryz.laysC172:Go.Proofs.LaysC.n172 Tryz.prog Tryz.laysC172_ren:={
 mixed:=by kernel_rfl
 f129:=Tryz.func250.trans (congrArg some (by kernel_rfl))
 f171:=Tryz.func158.trans (congrArg some (by kernel_rfl))
 f172:=Tryz.func238.trans (congrArg some (by kernel_rfl))
 f205:=Tryz.func264.trans (congrArg some (by kernel_rfl))
 f243:=Tryz.func202.trans (congrArg some (by kernel_rfl))
 f244:=Tryz.func247.trans (congrArg some (by kernel_rfl))
 f245:=Tryz.func248.trans (congrArg some (by kernel_rfl))
 f246:=Tryz.func230.trans (congrArg some (by kernel_rfl))
 f247:=Tryz.func255.trans (congrArg some (by kernel_rfl))
 f279:=Tryz.func256.trans (congrArg some (by kernel_rfl))
 f280:=Tryz.func257.trans (congrArg some (by kernel_rfl))
 f281:=Tryz.func258.trans (congrArg some (by kernel_rfl))
 f282:=Tryz.func259.trans (congrArg some (by kernel_rfl))
 f283:=Tryz.func239.trans (congrArg some (by kernel_rfl))
 f284:=Tryz.func240.trans (congrArg some (by kernel_rfl))
 f285:=Tryz.func241.trans (congrArg some (by kernel_rfl))
 f286:=Tryz.func242.trans (congrArg some (by kernel_rfl))
 f287:=Tryz.func262.trans (congrArg some (by kernel_rfl))
 f316:=Tryz.func263.trans (congrArg some (by kernel_rfl))
 f317:=Tryz.func249.trans (congrArg some (by kernel_rfl))
 f318:=Tryz.func251.trans (congrArg some (by kernel_rfl))
 f319:=Tryz.func252.trans (congrArg some (by kernel_rfl))
 f320:=Tryz.func253.trans (congrArg some (by kernel_rfl))
 f321:=Tryz.func265.trans (congrArg some (by kernel_rfl))
 f322:=Tryz.func266.trans (congrArg some (by kernel_rfl))
 f337:=Tryz.func260.trans (congrArg some (by kernel_rfl))
 f338:=Tryz.func261.trans (congrArg some (by kernel_rfl))
 t0:=Tryz.underlying0
 a0:=Tryz.isAgg0
 z0:=Tryz.sizeOf0
 v0:=Tryz.zeroValue0
 t2:=Tryz.underlying2
 a2:=Tryz.isAgg2
 z2:=Tryz.sizeOf2
 v2:=Tryz.zeroValue2
 t3:=Tryz.underlying3
 a3:=Tryz.isAgg3
 z3:=Tryz.sizeOf3
 v3:=Tryz.zeroValue3
 t4:=Tryz.underlying4
 a4:=Tryz.isAgg4
 z4:=Tryz.sizeOf4
 v4:=Tryz.zeroValue4
 t5:=Tryz.underlying5
 a5:=Tryz.isAgg5
 z5:=Tryz.sizeOf5
 v5:=Tryz.zeroValue5
 t9:=Tryz.underlying9
 a9:=Tryz.isAgg9
 z9:=Tryz.sizeOf9
 v9:=Tryz.zeroValue9
 t20:=Tryz.underlying20
 a20:=Tryz.isAgg20
 z20:=Tryz.sizeOf20
 v20:=Tryz.zeroValue20
 t21:=Tryz.underlying21
 a21:=Tryz.isAgg21
 z21:=Tryz.sizeOf21
 v21:=Tryz.zeroValue21
 t37:=Tryz.underlying150
 a37:=Tryz.isAgg150
 z37:=Tryz.sizeOf150
 v37:=Tryz.zeroValue150
 t46:=Tryz.underlying190
 a46:=Tryz.isAgg190
 z46:=Tryz.sizeOf190
 v46:=Tryz.zeroValue190
 t51:=Tryz.underlying180
 a51:=Tryz.isAgg180
 z51:=Tryz.sizeOf180
 v51:=Tryz.zeroValue180
 t53:=Tryz.underlying98
 a53:=Tryz.isAgg98
 z53:=Tryz.sizeOf98
 v53:=Tryz.zeroValue98
 t75:=Tryz.underlying154
 a75:=Tryz.isAgg154
 z75:=Tryz.sizeOf154
 v75:=Tryz.zeroValue154
 t76:=Tryz.underlying155
 a76:=Tryz.isAgg155
 z76:=Tryz.sizeOf155
 v76:=Tryz.zeroValue155
 t85:=Tryz.underlying250
 a85:=Tryz.isAgg250
 z85:=Tryz.sizeOf250
 v85:=Tryz.zeroValue250
 t127:=Tryz.underlying201
 a127:=Tryz.isAgg201
 z127:=Tryz.sizeOf201
 v127:=Tryz.zeroValue201
 t143:=Tryz.underlying264
 a143:=Tryz.isAgg264
 z143:=Tryz.sizeOf264
 v143:=Tryz.zeroValue264
 t145:=Tryz.underlying266
 a145:=Tryz.isAgg266
 z145:=Tryz.sizeOf266
 v145:=Tryz.zeroValue266
 t167:=Tryz.underlying249
 a167:=Tryz.isAgg249
 z167:=Tryz.sizeOf249
 v167:=Tryz.zeroValue249
 t168:=Tryz.underlying252
 a168:=Tryz.isAgg252
 z168:=Tryz.sizeOf252
 v168:=Tryz.zeroValue252
 t171:=Tryz.underlying235
 a171:=Tryz.isAgg235
 z171:=Tryz.sizeOf235
 v171:=Tryz.zeroValue235
 t173:=Tryz.underlying238
 a173:=Tryz.isAgg238
 z173:=Tryz.sizeOf238
 v173:=Tryz.zeroValue238
 t175:=Tryz.underlying256
 a175:=Tryz.isAgg256
 z175:=Tryz.sizeOf256
 v175:=Tryz.zeroValue256
 t210:=Tryz.underlying259
 a210:=Tryz.isAgg259
 z210:=Tryz.sizeOf259
 v210:=Tryz.zeroValue259
 t212:=Tryz.underlying244
 a212:=Tryz.isAgg244
 z212:=Tryz.sizeOf244
 v212:=Tryz.zeroValue244
 t213:=Tryz.underlying245
 a213:=Tryz.isAgg245
 z213:=Tryz.sizeOf245
 t232:=Tryz.underlying261
 a232:=Tryz.isAgg261
 z232:=Tryz.sizeOf261
 v232:=Tryz.zeroValue261
 t233:=Tryz.underlying262
 a233:=Tryz.isAgg262
 z233:=Tryz.sizeOf262
 v233:=Tryz.zeroValue262
 g15:=by kernel_rfl
 g16:=by kernel_rfl
 g17:=by kernel_rfl
 g18:=by kernel_rfl
 g19:=by kernel_rfl
 t80:=Tryz.underlying158
 a80:=Tryz.isAgg158
 z80:=Tryz.sizeOf158
 v80:=Tryz.zeroValue158
 i0:=by kernel_rfl
 i2:=by kernel_rfl
 i3:=by kernel_rfl
 i4:=by kernel_rfl
 i5:=by kernel_rfl
 i9:=by kernel_rfl
 i20:=by kernel_rfl
 i21:=by kernel_rfl
 i37:=by kernel_rfl
 i46:=by kernel_rfl
 i51:=by kernel_rfl
 i53:=by kernel_rfl
 i75:=by kernel_rfl
 i76:=by kernel_rfl
 i80:=by kernel_rfl
 i85:=by kernel_rfl
 i127:=by kernel_rfl
 i143:=by kernel_rfl
 i145:=by kernel_rfl
 i167:=by kernel_rfl
 i168:=by kernel_rfl
 i171:=by kernel_rfl
 i173:=by kernel_rfl
 i175:=by kernel_rfl
 i210:=by kernel_rfl
 i212:=by kernel_rfl
 i232:=by kernel_rfl
 i233:=by kernel_rfl
 m15:=by kernel_rfl
 m16:=by kernel_rfl
 m17:=by kernel_rfl
 m18:=by kernel_rfl
 m19:=by kernel_rfl
 c0:=by kernel_rfl
 c2:=by kernel_rfl
 c3:=by kernel_rfl
 c4:=by kernel_rfl
 c5:=by kernel_rfl
 c9:=by kernel_rfl
 c20:=by kernel_rfl
 c21:=by kernel_rfl
 c37:=by kernel_rfl
 c46:=by kernel_rfl
 c51:=by kernel_rfl
 c53:=by kernel_rfl
 c75:=by kernel_rfl
 c76:=by kernel_rfl
 c80:=by kernel_rfl
 c85:=by kernel_rfl
 c127:=by kernel_rfl
 c143:=by kernel_rfl
 c145:=by kernel_rfl
 c167:=by kernel_rfl
 c168:=by kernel_rfl
 c171:=by kernel_rfl
 c173:=by kernel_rfl
 c175:=by kernel_rfl
 c210:=by kernel_rfl
 c212:=by kernel_rfl
 c213:=by kernel_rfl
 c232:=by kernel_rfl
 c233:=by kernel_rfl }
open Go.RowKit in
theorem Tryz.strconv_Atoi_ok (s:ByteArray) (hmax:s.size <= 9223372036854775806) (v:Int) (h:Lib.atoiAll s.data.toList = .ok v) (w:World) :
  Calls Tryz.prog 238 #[.string s] w fun e w' => e = .returned (.tuple #[.int .i64 v,.nilIface]) /\ (w' = w \/ ∃ t,w' = Lib.bytesWorld w 5 t):=Any.strconv_Atoi_ok Tryz.laysC172 s hmax v h w
open Go.RowKit in
theorem Tryz.strconv_Atoi_syntax (s:ByteArray) (hlim:s.size <= 281474976710656) (h:Lib.atoiAll s.data.toList =  Lib.NumEnd.syntax) (ev:Value) (w:World) (hv:w.cell? ⟨3,0,none⟩ = some ev) (hev:ev = .nilIface \/ ∃ te pe,ev = .iface te pe) :
  Calls Tryz.prog 238 #[.string s] w fun e w' => ∃ N,e = .returned (.tuple #[.int .i64 (0),.iface 252 (.pointer (some ⟨N,0,none⟩))]) /\ w.heap.size <= N /\ w'.heap[N]? = some (.cells #[.string ⟨#[65,116,111,105]⟩,.string s,ev] 259 (0,0)) /\ Below w.heap.size w w':=Any.strconv_Atoi_syntax Tryz.laysC172 s hlim h ev w hv hev
open Go.RowKit in
theorem Tryz.strconv_Atoi_range (s:ByteArray) (hlim:s.size <= 281474976710656) (h:Lib.atoiAll s.data.toList = .range) (ev:Value) (w:World) (hv:w.cell? ⟨4,0,none⟩ = some ev) (hev:ev = .nilIface \/ ∃ te pe,ev = .iface te pe) :
  Calls Tryz.prog 238 #[.string s] w fun e w' => ∃ N,e = .returned (.tuple #[.int .i64 (Lib.atoiSat s.data.toList),.iface 252 (.pointer (some ⟨N,0,none⟩))]) /\ w.heap.size <= N /\ w'.heap[N]? = some (.cells #[.string ⟨#[65,116,111,105]⟩,.string s,ev] 259 (0,0)) /\ Below w.heap.size w w':=Any.strconv_Atoi_range Tryz.laysC172 s hlim h ev w hv hev
def Tryz.laysValid_ren:Go.Shelf.Ren:=⟨fun | 196 => 215 | 259 => 233 | n => n,fun | 9 => 9 | 4 => 4 | 3 => 3 | 5 => 5 | 12 => 12 | 119 => 229 | 0 => 0 | 46 => 190 | 139 => 232 | 138 => 231 | 53 => 98 | n => n,fun | 3 => 0 | 4 => 1 | n => n⟩
theorem Tryz.laysValid:Go.Proofs.Lays.n196 Tryz.prog Tryz.laysValid_ren:={
 mixed:=by kernel_rfl
 f196:=Tryz.func215.trans (congrArg some (by kernel_rfl))
 f259:=Tryz.func233.trans (congrArg some (by kernel_rfl))
 t0:=Tryz.underlying0
 a0:=Tryz.isAgg0
 z0:=Tryz.sizeOf0
 v0:=Tryz.zeroValue0
 t3:=Tryz.underlying3
 a3:=Tryz.isAgg3
 z3:=Tryz.sizeOf3
 v3:=Tryz.zeroValue3
 t4:=Tryz.underlying4
 a4:=Tryz.isAgg4
 z4:=Tryz.sizeOf4
 v4:=Tryz.zeroValue4
 t5:=Tryz.underlying5
 a5:=Tryz.isAgg5
 z5:=Tryz.sizeOf5
 v5:=Tryz.zeroValue5
 t9:=Tryz.underlying9
 a9:=Tryz.isAgg9
 z9:=Tryz.sizeOf9
 v9:=Tryz.zeroValue9
 t12:=Tryz.underlying12
 a12:=Tryz.isAgg12
 z12:=Tryz.sizeOf12
 v12:=Tryz.zeroValue12
 t46:=Tryz.underlying190
 a46:=Tryz.isAgg190
 z46:=Tryz.sizeOf190
 v46:=Tryz.zeroValue190
 t53:=Tryz.underlying98
 a53:=Tryz.isAgg98
 z53:=Tryz.sizeOf98
 v53:=Tryz.zeroValue98
 t119:=Tryz.underlying229
 a119:=Tryz.isAgg229
 z119:=Tryz.sizeOf229
 t138:=Tryz.underlying231
 a138:=Tryz.isAgg231
 z138:=Tryz.sizeOf231
 v138:=Tryz.zeroValue231
 t139:=Tryz.underlying232
 a139:=Tryz.isAgg232
 z139:=Tryz.sizeOf232
 v139:=Tryz.zeroValue232
 g3:=by kernel_rfl
 g4:=by kernel_rfl }
open Go.RowKit Go.Lib in
theorem Tryz.utf8_ValidString (s:ByteArray) (w:World) (hs:s.size <= 9223372036854775807) (hT:Lib.Utf8Tabs 0 1 w) :
  Calls Tryz.prog 215 #[.string s] w fun e w' => e = .returned (.bool (Lib.validD s.data.toList)) /\ Below w.heap.size w w':=Any.utf8_ValidString Tryz.laysValid s w hs hT
end Go.Proofs
namespace Go.Proofs.YtanlnhkagepniaaGreatDoor
open Go.RowKit
/- TextI -/
section
open Go.Lib (validD)
def Tabs (w:World):Prop:=Lib.Utf8Tabs 0 1 w
theorem Tabs.below {w w':World} (h:Tabs w) (hb:Below w.heap.size w w'):Tabs w':=Utf8Tabs_below h hb
theorem Tabs.lt {w:World} (h:Tabs w):0 < w.heap.size /\ 1 < w.heap.size:=by
 have key:∀ {b o:Nat} {v:Value},w.cell? ⟨b,o,none⟩ = some v -> b < w.heap.size:=by
  intro b o v h; apply Classical.byContradiction; intro hn
  simp [World.cell?,Array.getElem?_eq_none (Nat.le_of_not_lt hn)] at h
 exact ⟨key (h.1 0 (by decide)),key (h.2 0 (by decide)).1⟩
theorem Tabs.below' {B:Nat} {w w':World} (h:Tabs w) (hb:Below B w w') (h1:0 < B) (h2:1 < B):Tabs w':=by
 refine ⟨fun c hc => ?_,fun i hi => ?_⟩
 ·rw [hb.cell (p:=⟨_,_,none⟩) h1]; exact h.1 c hc
 ·rw [hb.cell (p:=⟨_,_,none⟩) h2,hb.cell (p:=⟨_,_,none⟩) h2]; exact h.2 i hi
theorem zfd (l:List UInt8) (w:World) (hl:l.length <= 4294967295) (hT:Tabs w) :
  Calls Tryz.prog 172 #[.string ⟨l.toArray⟩] w fun e w' => e = .returned (.bool (validD l)) /\ Below w.heap.size w w':=by
 have HC:=Lib.hid (Tryz.utf8_ValidString ⟨l.toArray⟩ w (by simp [ByteArray.size]; omega) hT)
 go_enter Tryz.func172,Tryz.ntmps172
 go_wp2_with (go_at_call 215; refine HC.out.mono ?_; rintro e w1 ⟨rfl,hb1⟩)
 go_ret;exact ⟨rfl,hb1⟩
end
/- ValueNode -/
section
open Go.Lib (validD)
def V.node:V -> Bool
 | .mk k n e s _ =>
  if k = 0 \/ k = 1 \/ k = 2 \/ k = 7 \/ k = 8 then decide (n = 0) && (decide (e = 0) && decide (s = []))
  else if k = 3 then decide (e = 0) && decide (s = [])
  else if k = 4 then decOk n e && decide (s = [])
  else if k = 5 then decide (s.length <= 2000) && (validD s && (decide (n = 0) && decide (e = 0)))
  else if k = 6 then decide (s.length <= 2000) && (decide (n = 0) && decide (e = 0))
  else if k = 9 then inR n 0 1000000 && (decide (e = 0) && decide (s = []))
  else false
theorem V.selfI_node (x:V):x.selfI = (x.node && V.kidsOk x.kind x.kids):=by
 obtain ⟨k,n,e,s,kids⟩:=x;show V.selfBy pairsOkI _ = (_ && V.kidsOk k kids);unfold V.node V.kidsOk V.selfBy;by_cases h0:k = 0 \/ k = 1 \/ k = 2
 ·rcases h0 with rfl | rfl | rfl <;> simp [Bool.and_assoc]
 by_cases h3:k = 3
 ·subst h3; simp [Bool.and_assoc]
 by_cases h4:k = 4
 ·subst h4; simp [Bool.and_assoc]
 by_cases h5:k = 5
 ·subst h5
  show (decide (n = 0) && (decide (e = 0) && (validD s && (decide (s.length <= 2000) && decide (kids = []))))) = ((decide (s.length <= 2000) && (validD s && (decide (n = 0) && decide (e = 0)))) && decide (kids = []))
  cases decide (n = 0) <;> cases decide (e = 0) <;> cases validD s <;> cases decide (s.length <= 2000) <;> cases decide (kids = []) <;> rfl
 by_cases h6:k = 6
 ·subst h6
  show (decide (n = 0) && (decide (e = 0) && (decide (s.length <= 2000) && decide (kids = [])))) = ((decide (s.length <= 2000) && (decide (n = 0) && decide (e = 0))) && decide (kids = []))
  cases decide (n = 0) <;> cases decide (e = 0) <;> cases decide (s.length <= 2000) <;> cases decide (kids = []) <;> rfl
 by_cases h7:k = 7
 ·subst h7; simp
 by_cases h8:k = 8
 ·subst h8; simp [Bool.and_assoc]
 by_cases h9:k = 9
 ·subst h9; simp [Bool.and_assoc]
 ·have a0:k ≠ 0:=fun e => h0 (.inl e)
  have a1:k ≠ 1:=fun e => h0 (.inr (.inl e))
  have a2:k ≠ 2:=fun e => h0 (.inr (.inr e))
  simp [a0,a1,a2,h3,h4,h5,h6,h7,h8,h9]
set_option maxHeartbeats 4000000 in
set_option maxRecDepth 10000 in
theorem isNode_any (x:V) (cs:List Value) (w:World) (h:Rd w x.d cs) (hwf:x.wf) (hbk:x.bulk <= 4294967295) (hT:Tabs w) :
  Calls Tryz.prog 189 #[.agg cs.toArray] w fun e w' => e = .returned (.bool x.node) /\ Below w.heap.size w w':=by
 obtain ⟨k,n,e,s,kids,v1,rfl,rfl,hkids⟩:=V.lay h;obtain ⟨a1,c1,rfl⟩:=Rd.sl_form hkids;rw [V.ds_map,List.length_map] at h ⊢;have hsl:s.length <= 4294967295:=by simp only [V.bulk] at hbk; omega
 have HD:=Lib.hid (fun w1 (hb:Below w.heap.size w w1) => isDec_any _ _ w1 (h.below hb) hwf);clear h hkids hbk hwf;obtain ⟨ok,hok⟩:∃ ok,V.node (.mk k n e s kids) = ok:=⟨_,rfl⟩;rw [hok];have HOK:=Lib.hid hok; clear hok
 by_cases q0:k = 0
 ·subst q0
  go_enter Tryz.func189,Tryz.ntmps189
  go_wp2
  all_goals (go_ret; refine ⟨zba ?_,by first | exact ((Below.refl _ _).alloc (Nat.le_refl _) _).alloc (by simp) _ | exact below_drewN (((Below.refl _ _).alloc (Nat.le_refl _) _).alloc (by simp) _) _⟩; rw [<- HOK.out]; simp_all [V.node,isE])
 by_cases q1:k = 1
 ·subst q1
  go_enter Tryz.func189,Tryz.ntmps189
  go_wp2
  all_goals (go_ret; refine ⟨zba ?_,by first | exact ((Below.refl _ _).alloc (Nat.le_refl _) _).alloc (by simp) _ | exact below_drewN (((Below.refl _ _).alloc (Nat.le_refl _) _).alloc (by simp) _) _⟩; rw [<- HOK.out]; simp_all [V.node,isE])
 by_cases q2:k = 2
 ·subst q2
  go_enter Tryz.func189,Tryz.ntmps189
  go_wp2
  all_goals (go_ret; refine ⟨zba ?_,by first | exact ((Below.refl _ _).alloc (Nat.le_refl _) _).alloc (by simp) _ | exact below_drewN (((Below.refl _ _).alloc (Nat.le_refl _) _).alloc (by simp) _) _⟩; rw [<- HOK.out]; simp_all [V.node,isE])
 by_cases q7:k = 7
 ·subst q7
  go_enter Tryz.func189,Tryz.ntmps189
  go_wp2
  all_goals (go_ret; refine ⟨zba ?_,by first | exact ((Below.refl _ _).alloc (Nat.le_refl _) _).alloc (by simp) _ | exact below_drewN (((Below.refl _ _).alloc (Nat.le_refl _) _).alloc (by simp) _) _⟩; rw [<- HOK.out]; simp_all [V.node,isE])
 by_cases q8:k = 8
 ·subst q8
  go_enter Tryz.func189,Tryz.ntmps189
  go_wp2
  all_goals (go_ret; refine ⟨zba ?_,by first | exact ((Below.refl _ _).alloc (Nat.le_refl _) _).alloc (by simp) _ | exact below_drewN (((Below.refl _ _).alloc (Nat.le_refl _) _).alloc (by simp) _) _⟩; rw [<- HOK.out]; simp_all [V.node,isE])
 by_cases q3:k = 3
 ·subst q3
  go_enter Tryz.func189,Tryz.ntmps189
  go_wp2
  all_goals (go_ret; refine ⟨zba ?_,by first | exact ((Below.refl _ _).alloc (Nat.le_refl _) _).alloc (by simp) _ | exact below_drewN (((Below.refl _ _).alloc (Nat.le_refl _) _).alloc (by simp) _) _⟩; rw [<- HOK.out]; simp_all [V.node,isE])
 by_cases q9:k = 9
 ·subst q9
  by_cases g:0 <= n /\ n <= 1000000
  ·have H:=Lib.hid (show ok = (decide (e = 0) && decide (s = [])) by rw [<- HOK.out]; simp [V.node,zbi g])
   go_enter Tryz.func189,Tryz.ntmps189
   go_wp2
   all_goals (go_ret; refine ⟨zba ?_,by first | exact ((Below.refl _ _).alloc (Nat.le_refl _) _).alloc (by simp) _ | exact (((Below.refl _ _).alloc (Nat.le_refl _) _).alloc (by simp) _).setCell (by simp) _⟩; rw [H.out]; simp_all [isE])
  ·have H:=Lib.hid (show ok = false by rw [<- HOK.out]; simp [V.node,zcS g])
   have H2:=Lib.hid (zcS g)
   go_enter Tryz.func189,Tryz.ntmps189
   go_wp2_with (go_at_call 126; refine (zbV _ _ _ _).mono ?_; rw [H2.out]; rintro e1 w1 ⟨rfl,rfl⟩)
   all_goals (go_ret; exact ⟨by rw [H.out]; rfl,((Below.refl _ _).alloc (Nat.le_refl _) _).alloc (by simp) _⟩)
 by_cases q6:k = 6
 ·subst q6
  by_cases g:s.length <= 2000
  ·have H:=Lib.hid (show ok = (decide (n = 0) && decide (e = 0)) by rw [<- HOK.out]; simp [V.node,g])
   go_enter Tryz.func189,Tryz.ntmps189
   go_wp2
   all_goals (go_ret; refine ⟨zba ?_,by first | exact ((Below.refl _ _).alloc (Nat.le_refl _) _).alloc (by simp) _ | exact (((Below.refl _ _).alloc (Nat.le_refl _) _).alloc (by simp) _).setCell (by simp) _⟩; rw [H.out]; simp_all [])
  ·have H:=Lib.hid (show ok = false by rw [<- HOK.out]; simp [V.node,g])
   have g':(2000:Int) < s.length:=by omega
   go_enter Tryz.func189,Tryz.ntmps189
   go_wp2
   all_goals (go_ret; exact ⟨by rw [H.out]; rfl,((Below.refl _ _).alloc (Nat.le_refl _) _).alloc (by simp) _⟩)
 by_cases q5:k = 5
 ·subst q5
  by_cases g:s.length <= 2000
  ·have g':¬ (2000:Int) < s.length:=by omega
   have g2:=decide_eq_false g'
   cases hv:validD s with
   | true =>
    have HV:=Lib.hid hv;have H:=Lib.hid (show ok = (decide (n = 0) && decide (e = 0)) by rw [<- HOK.out]; simp [V.node,g,hv]);clear hv
    go_enter Tryz.func189,Tryz.ntmps189
    go_wp2_with (go_at_call 172; refine (zfd s _ hsl (hT.below (((Below.refl _ _).alloc (Nat.le_refl _) _).alloc (by simp) _))).mono ?_; rw [HV.out]; rintro e1 w1 ⟨rfl,hb1⟩; have C:=(zdB hb1).1; have F:=(zdB hb1).2; have hz1:=hb1.size; have z1:w.heap.size < w1.heap.size:=(by simp at hz1; omega); have z2:w.heap.size + 1 < w1.heap.size:=(by simp at hz1; omega); have f1:w1.cell? ⟨w.heap.size,1,none⟩ = some (.int .i64 n):=(by rw [C _ _ (by simp <;> omega)]; simp [go_sem]); have f2:w1.cell? ⟨w.heap.size,2,none⟩ = some (.int .i64 e):=(by rw [C _ _ (by simp <;> omega)]; simp [go_sem]); have f3:w1.cell? ⟨w.heap.size,3,none⟩ = some (.string ⟨s.toArray⟩):=(by rw [C _ _ (by simp <;> omega)]; simp [go_sem]); have p1:w1.cell? ⟨w.heap.size + 1,1,none⟩ = some (.int .i64 0):=(by rw [C _ _ (by simp <;> omega)]; simp [go_sem]); have p2:w1.cell? ⟨w.heap.size + 1,2,none⟩ = some (.int .i64 0):=(by rw [C _ _ (by simp <;> omega)]; simp [go_sem]); have p3:w1.cell? ⟨w.heap.size + 1,3,none⟩ = some (.string ⟨#[]⟩):=(by rw [C _ _ (by simp <;> omega)]; simp [go_sem]); have p9:w1.frozen? ⟨w.heap.size + 1,3,none⟩ = false:=(by rw [F _ _ (by simp <;> omega)]; simp [go_sem]); clear C F hz1)
    all_goals (go_ret; refine ⟨zba ?_,by first | exact (zaW (((Below.refl _ _).alloc (Nat.le_refl _) _).alloc (by simp) _) hb1 (Nat.le_refl _)).setCell (by simp) _ | exact zaW (((Below.refl _ _).alloc (Nat.le_refl _) _).alloc (by simp) _) hb1 (Nat.le_refl _)⟩; rw [H.out]; simp_all [])
   | false =>
    have HV:=Lib.hid hv;have H:=Lib.hid (show ok = false by rw [<- HOK.out]; simp [V.node,hv]);clear hv
    go_enter Tryz.func189,Tryz.ntmps189
    go_wp2_with (go_at_call 172; refine (zfd s _ hsl (hT.below (((Below.refl _ _).alloc (Nat.le_refl _) _).alloc (by simp) _))).mono ?_; rw [HV.out]; rintro e1 w1 ⟨rfl,hb1⟩)
    go_ret;exact ⟨by rw [H.out]; rfl,zaW (((Below.refl _ _).alloc (Nat.le_refl _) _).alloc (by simp) _) hb1 (Nat.le_refl _)⟩
  ·have H:=Lib.hid (show ok = false by rw [<- HOK.out]; simp [V.node,g])
   have g':(2000:Int) < s.length:=by omega
   go_enter Tryz.func189,Tryz.ntmps189
   go_wp2
   all_goals (go_ret; exact ⟨by rw [H.out]; rfl,((Below.refl _ _).alloc (Nat.le_refl _) _).alloc (by simp) _⟩)
 by_cases q4:k = 4
 ·subst q4
  cases hv:decOk n e with
  | true =>
   have HV:=Lib.hid (show decOk (V.num (.mk 4 n e s kids)) (V.exp (.mk 4 n e s kids)) = true from hv);have H:=Lib.hid (show ok = decide (s = []) by rw [<- HOK.out]; simp [V.node,hv]);clear hv
   go_enter Tryz.func189,Tryz.ntmps189
   go_wp2_with (go_at_call 221; refine (HD.out _ (((Below.refl _ _).alloc (Nat.le_refl _) _).alloc (by simp) _)).mono ?_; rw [HV.out]; rintro e1 w1 ⟨rfl,hb1⟩; have C:=(zdB hb1).1; have F:=(zdB hb1).2; have hz1:=hb1.size; have z1:w.heap.size < w1.heap.size:=(by simp at hz1; omega); have z2:w.heap.size + 1 < w1.heap.size:=(by simp at hz1; omega); have f1:w1.cell? ⟨w.heap.size,1,none⟩ = some (.int .i64 n):=(by rw [C _ _ (by simp <;> omega)]; simp [go_sem]); have f2:w1.cell? ⟨w.heap.size,2,none⟩ = some (.int .i64 e):=(by rw [C _ _ (by simp <;> omega)]; simp [go_sem]); have f3:w1.cell? ⟨w.heap.size,3,none⟩ = some (.string ⟨s.toArray⟩):=(by rw [C _ _ (by simp <;> omega)]; simp [go_sem]); have p1:w1.cell? ⟨w.heap.size + 1,1,none⟩ = some (.int .i64 0):=(by rw [C _ _ (by simp <;> omega)]; simp [go_sem]); have p2:w1.cell? ⟨w.heap.size + 1,2,none⟩ = some (.int .i64 0):=(by rw [C _ _ (by simp <;> omega)]; simp [go_sem]); have p3:w1.cell? ⟨w.heap.size + 1,3,none⟩ = some (.string ⟨#[]⟩):=(by rw [C _ _ (by simp <;> omega)]; simp [go_sem]); have p8:w1.frozen? ⟨w.heap.size + 1,1,none⟩ = false:=(by rw [F _ _ (by simp <;> omega)]; simp [go_sem]); have p9:w1.frozen? ⟨w.heap.size + 1,2,none⟩ = false:=(by rw [F _ _ (by simp <;> omega)]; simp [go_sem]); clear C F hz1)
   have hbel:Below w.heap.size w w1:=zaW (((Below.refl _ _).alloc (Nat.le_refl _) _).alloc (by simp) _) hb1 (Nat.le_refl _)
   go_region
   all_goals (go_wp2; go_ret; refine ⟨zba ?_,by first | exact ((hbel.setCell (by simp) _).setCell (by simp) _).drew | exact (hbel.setCell (by simp) _).setCell (by simp) _ | exact below_drewN ((hbel.setCell (by simp) _).setCell (by simp) _) _⟩; rw [H.out]; simp [isE])
  | false =>
   have HV:=Lib.hid (show decOk (V.num (.mk 4 n e s kids)) (V.exp (.mk 4 n e s kids)) = false from hv);have H:=Lib.hid (show ok = false by rw [<- HOK.out]; simp [V.node,hv]);clear hv
   go_enter Tryz.func189,Tryz.ntmps189
   go_wp2_with (go_at_call 221; refine (HD.out _ (((Below.refl _ _).alloc (Nat.le_refl _) _).alloc (by simp) _)).mono ?_; rw [HV.out]; rintro e1 w1 ⟨rfl,hb1⟩)
   go_ret;exact ⟨by rw [H.out]; rfl,zaW (((Below.refl _ _).alloc (Nat.le_refl _) _).alloc (by simp) _) hb1 (Nat.le_refl _)⟩
 have H:=Lib.hid (show ok = false by rw [<- HOK.out]; simp [V.node,q0,q1,q2,q3,q4,q5,q6,q7,q8,q9])
 go_enter Tryz.func189,Tryz.ntmps189
 go_wp2
 all_goals (go_ret; exact ⟨by rw [H.out]; rfl,((Below.refl _ _).alloc (Nat.le_refl _) _).alloc (by simp) _⟩)
end
/- Region -/
section
section
variable {P:Program} {ops:Array Oper} {Q:Exit -> Act -> World -> Prop} {md:Region.Mode} {S:World -> Prop}
theorem zdU {i F fuel:Nat} {oi:Oper} {d:Option Tmp} {v:Value} {listed listed':Array Bool} {a:Act} {w:World} (hi:ops[i]? = some oi) (hd:oi.dst = d) (hF:F = fuel + 1) (hl:listed.setIfInBounds i true = listed')
  (hs:Region.noSelect ops = true) (hf:Region.free md ops listed i = true) (hr:(Region.ready md ops listed).contains i = true)
  (hQ:∀ c a w,Q (.panic c) (a.put d v) w -> Q (.panic c) a w) (hw:Region.wanted oi (yielded ops a.tmps) = true) (hS:S w)
  (hv:∀ w,S w -> (execOp a.eval oi).run P w = .ok (.value v) w)
  (h:wpAnyH P md ops Q S fuel listed' (a.put d v) w):wpAnyH P md ops Q S F listed a w:=by
 subst hF hd hl
 exact wpAnyH_take hi hs hf hr hQ (.inl ⟨hw,hv⟩) hS h
def skipFine (md:Region.Mode) (ops:Array Oper):List (Nat × Tmp) -> Array Bool -> Array Value -> Bool
 | [],_,_ => true
 | (i,d) :: r,listed,tmps => (match ops[i]? with | some o => decide (o.dst = some d) && !Region.wanted o (yielded ops tmps) | none => false) && (Region.free md ops listed i && ((Region.ready md ops listed).contains i &&
   skipFine md ops r (listed.setIfInBounds i true) (tmps.setIfInBounds d undef)))
def skipListed:List (Nat × Tmp) -> Array Bool -> Array Bool
 | [],listed => listed
 | (i,_) :: r,listed => skipListed r (listed.setIfInBounds i true)
def skipAct:List (Nat × Tmp) -> Act -> Act
 | [],a => a
 | (_,d) :: r,a => skipAct r { a with tmps:=a.tmps.setIfInBounds d undef }
theorem takeS {w:World} (hs:Region.noSelect ops = true) (hQ:∀ c a d w,Q (.panic c) (a.put (some d) undef) w -> Q (.panic c) a w) (hS:S w):∀ (l:List (Nat × Tmp)) {F fuel:Nat} {listed listed':Array Bool} {a:Act},F = fuel + l.length -> skipListed l listed = listed' ->
  skipFine md ops l listed a.tmps = true -> wpAnyH P md ops Q S fuel listed' (skipAct l a) w -> wpAnyH P md ops Q S F listed a w
 | [],F,fuel,listed,listed',a,hF,hl,_,h => by subst hF hl; exact h
 | (i,d) :: r,F,fuel,listed,listed',a,hF,hl,hk,h => by
  subst hF hl
  simp only [skipFine,Bool.and_eq_true] at hk;obtain ⟨h1,h2,h3,h4⟩:=hk
  cases ho:ops[i]? with
  | none => rw [ho] at h1; cases h1
  | some o =>
   rw [ho] at h1;simp only [Bool.and_eq_true,decide_eq_true_eq,Bool.not_eq_true'] at h1;obtain ⟨hd,hw⟩:=h1;refine wpAnyH_take (fuel:=fuel + r.length) (v:=undef) ho hs h2 h3 (by rw [hd]; exact fun c a w => hQ c a d w) (.inr ⟨hw,rfl⟩) hS ?_;rw [hd];exact takeS hs hQ hS r rfl rfl h4 h
theorem takeC {i F fuel:Nat} {oi:Oper} {d:Option Tmp} {listed listed':Array Bool} {a:Act} {w:World} (hi:ops[i]? = some oi) (_hd:oi.dst = d) (hF:F = fuel + 1) (hl:listed.setIfInBounds i true = listed')
  (hr:Region.ready md ops listed = [i]) (hw:Region.wanted oi (yielded ops a.tmps) = true)
  (h:∀ K':Act -> World -> Prop,Shut (∀ a w,S w -> (S w -> wpAnyH P md ops Q S fuel listed' a w) -> K' a w) -> Oper.wp P oi a w K' Q):wpAnyH P md ops Q S F listed a w:=by
 subst hF hl _hd
 refine wpAnyH_ready hr (by simp) (AllReadyH.cons hi (fun K' hK => ?_) AllReadyH.nil);rw [if_pos hw]; exact h K' hK
end
end
/- Box -/
section
def intBox (w:World) (g:Nat) (n:Int):Prop:=w.heap[g]? = some (.cells #[.int .i64 n] 3 (0,0))
theorem intBox.cell {w:World} {g:Nat} {n:Int} (h:intBox w g n):w.cell? ⟨g,0,none⟩ = some (.int .i64 n):=cell_of_one h
theorem intBox.free {w:World} {g:Nat} {n:Int} (h:intBox w g n):w.frozen? ⟨g,0,none⟩ = false:=free_of_one h
theorem intBox.lt {w:World} {g:Nat} {n:Int} (h:intBox w g n):g < w.heap.size:=lt_of_block h
theorem intBox.below {w w':World} {g:Nat} {n:Int} (h:intBox w g n) (hb:Below w.heap.size w w'):intBox w' g n:=(hb.block g h.lt).trans h
theorem intBox.keep {S:Nat -> Prop} {w w':World} {g:Nat} {n:Int} (h:intBox w g n) (hk:Keep S w w') (hs:¬ S g):intBox w' g n:=(hk.block g h.lt hs).trans h
def GlobN (N:Nat):Prop:=0 < N /\ 1 < N
theorem Tabs.keep {S:Nat -> Prop} {w w':World} {N:Nat} (h:Tabs w) (hg:GlobN N) (hk:Keep S w w') (hN:N <= w.heap.size) (hs:∀ k,k < N -> ¬ S k):Tabs w':=h.below' (hk.below hN hs) hg.1 hg.2
end
/- ValueIs -/
section
open Go.Lib (validD)
def vGood (deep:Nat) (L:Int) (x:V):Bool:=V.rightBy pairsOkI (12 - deep) x && decide ((x.nodes:Int) <= L)
def vGoods (deep:Nat) (L:Int) (xs:List V):Bool:=V.rightsBy pairsOkI (12 - deep) xs && decide ((V.nodess xs:Int) <= L)
def VIsA (n:Nat):Prop:=∀ (x:V) (cs:List Value) (deep N g:Nat) (L:Int) (w:World),x.nodes <= n -> RdN N w x.d cs -> N <= g -> intBox w g L -> x.wf -> x.bulk <= 4294967295 -> Tabs w -> GlobN N -> deep <= 1000000 -> 0 <= L /\ L <= 1000 ->
 Calls Tryz.prog 143 #[.agg cs.toArray,.int .i64 deep,.pointer (some ⟨g,0,none⟩)] w fun e w' => e = .returned (.bool (vGood deep L x)) /\ (∃ L':Int,intBox w' g L' /\ (vGood deep L x = true -> L' = L - x.nodes)) /\ Keep (· = g) w w'
theorem vGood_no1 {deep:Nat} {L:Int} {x:V} (h:L - 1 < 0):vGood deep L x = false:=by
 have:=x.nodes_pos; unfold vGood; rw [decide_eq_false (by omega),Bool.and_false]
theorem vGood_no2 {deep:Nat} {L:Int} {x:V} (h:(12:Int) < deep):vGood deep L x = false:=by
 obtain ⟨k,m,e,s,kids⟩:=x;unfold vGood; simp only [V.rightBy]; rw [decide_eq_false (show ¬ (0:Int) <= 12 - deep by omega)]; simp
theorem V.nodess_ge:∀ xs:List V,xs.length <= V.nodess xs
 | [] => by simp
 | x :: xs => by have:=x.nodes_pos; have:=V.nodess_ge xs; simp only [V.nodess,List.length_cons]; omega
theorem vGood_no3 {deep:Nat} {L:Int} {k m e:Int} {s:List UInt8} {kids:List V} (h:L - 1 < kids.length):vGood deep L (.mk k m e s kids) = false:=by
 have:=V.nodess_ge kids; unfold vGood; rw [decide_eq_false (by simp only [V.nodes]; omega),Bool.and_false]
theorem ziI {deep:Nat} {L:Int} {x:V} (h:x.selfI = false):vGood deep L x = false:=by
 obtain ⟨k,m,e,s,kids⟩:=x;unfold vGood; simp only [V.rightBy]; rw [show V.selfBy pairsOkI (.mk k m e s kids) = false from h]; simp
theorem vGood_yes {deep:Nat} {L:Int} {k m e:Int} {s:List UInt8} {kids:List V} (h2:¬ (12:Int) < deep) (ho:V.selfI (.mk k m e s kids) = true) :
  vGood deep L (.mk k m e s kids) = vGoods (deep + 1) (L - 1) kids:=by
 unfold vGood vGoods; simp only [V.rightBy,V.nodes]
 rw [show V.selfBy pairsOkI (.mk k m e s kids) = true from ho,decide_eq_true (show (0:Int) <= 12 - deep by omega),show (12:Int) - deep - 1 = 12 - (deep + 1:Nat) by omega,Bool.and_true,Bool.and_true]
 congr 1; exact decide_eq_decide.2 (by omega)
def VIsC (n:Nat):Prop:=∀ (xs:List V) (va:Value) (deep N g bd bl:Nat) (L:Int) (w:World),V.nodess xs <= n -> RdN N w (.sl 5 (V.ds xs)) [va] -> N <= g -> intBox w g L -> intBox w bd deep -> bd ≠ g -> w.cell? ⟨bl,0,none⟩ = some (.pointer (some ⟨g,0,none⟩)) -> bl ≠ g ->
  V.wfs xs -> xs.length + V.bulks xs <= 4294967295 -> Tabs w -> GlobN N -> deep <= 1000 -> 0 <= L /\ L <= 1000 ->
 Calls Tryz.prog 191 #[va,.func (.func 192) #[] #[.pointer (some ⟨bd,0,none⟩),.pointer (some ⟨bl,0,none⟩)]] w fun e w' => e = .returned (.bool (!vGoods (deep + 1) L xs)) /\ (∃ L':Int,intBox w' g L' /\ (vGoods (deep + 1) L xs = true -> L' = L - V.nodess xs)) /\ Keep (· = g) w w'
set_option maxHeartbeats 4000000 in
set_option maxRecDepth 10000 in
theorem VIsA_of {n:Nat} (hC:VIsC n):VIsA (n + 1):=by
 intro x cs deep N g L w hn h hNg hbox hwf hbk hT hG hdeep hL;obtain ⟨k,m,e,s,kids,v2,hx,rfl,hkids⟩:=V.layS h;subst hx;have hnk:V.nodess kids <= n:=by simp only [V.nodes] at hn; omega
 obtain ⟨hL1,hL2⟩:=hL;obtain ⟨M,rfl⟩:∃ M,L = M + 1:=⟨L - 1,by omega⟩;have hglt:=hbox.lt;obtain ⟨a2,c2,rfl⟩:=Rd.sl_form (Rd.of hkids);simp only [V.ds_map,List.length_map] at h hkids ⊢;rw [<- V.ds_map] at hkids;have hfree:=hbox.free;have hcell:=hbox.cell;obtain ⟨W0,hW0⟩:∃ W0,W0 = ((((w.setCell ⟨g,0,none⟩ (.int .i64 M)).alloc (.cells #[.int .i64 k,.int .i64 m,.int .i64 e,.string ⟨s.toArray⟩,.slice a2 kids.length c2] 41)).alloc (.cells #[.int .i64 deep] 3)).alloc (.cells #[.pointer (some ⟨g,0,none⟩)] 167)):=⟨_,rfl⟩;have HW:=Lib.hid hW0;have hK0:Keep (· = g) w W0:=by rw [hW0]; exact (((Keep.setCell (S:=(· = g)) (p:=⟨g,0,none⟩) (Keep.refl _ _) (.inl rfl) _).alloc _).alloc _).alloc _
 have hb0:intBox W0 g M:=by
  rw [hW0]
  have:intBox (w.setCell ⟨g,0,none⟩ (.int .i64 M)) g M:=one_setCell hbox
  exact ((this.below ((Below.refl _ _).alloc (Nat.le_refl _) _)).below ((Below.refl _ _).alloc (Nat.le_refl _) _)).below ((Below.refl _ _).alloc (Nat.le_refl _) _)
 have hbd0:intBox W0 (w.heap.size + 1) deep:=by
  rw [hW0]; unfold intBox; rw [Below.heap_alloc _ _ _ (by simp [World.setCell])]
  have:=zbR ((w.setCell ⟨g,0,none⟩ (.int .i64 M)).alloc (.cells #[.int .i64 k,.int .i64 m,.int .i64 e,.string ⟨s.toArray⟩,.slice a2 kids.length c2] 41)) (.cells #[.int .i64 deep] 3)
  simpa [World.setCell] using this
 have hng:∀ k,k < N -> ¬ k = g:=by intro k hk e; omega
 have hN:N <= w.heap.size:=by omega
 have hss:(w.setCell ⟨g,0,none⟩ (.int .i64 M)).heap.size = w.heap.size:=by simp [World.setCell]
 have hsz:W0.heap.size = w.heap.size + 3:=by rw [hW0]; simp [hss]
 have s1:g < w.heap.size + 1:=by omega
 have s2:g < w.heap.size + 1 + 1:=by omega
 have s3:g < w.heap.size + 1 + 1 + 1:=by omega
 have q1:¬ g = w.heap.size:=by omega
 have q2:¬ g = w.heap.size + 1:=by omega
 have q3:¬ g = w.heap.size + 1 + 1:=by omega
 have KB:Hid (∀ W,Below W0.heap.size W0 W -> W.cell? ⟨w.heap.size,0,none⟩ = some (.int .i64 k) /\ W.cell? ⟨w.heap.size,1,none⟩ = some (.int .i64 m) /\ W.cell? ⟨w.heap.size,2,none⟩ = some (.int .i64 e) /\ W.cell? ⟨w.heap.size,3,none⟩ = some (.string ⟨s.toArray⟩) /\ W.cell? ⟨w.heap.size,4,none⟩ = some (.slice a2 kids.length c2) /\ W.cell? ⟨w.heap.size + 1,0,none⟩ = some (.int .i64 deep) /\ W.cell? ⟨w.heap.size + 1 + 1,0,none⟩ = some (.pointer (some ⟨g,0,none⟩)) /\ W.cell? ⟨g,0,none⟩ = some (.int .i64 M)):=by
  intro W hb;obtain ⟨hc,_⟩:=zdB hb;have z1:w.heap.size < W0.heap.size:=by omega
  have z2:w.heap.size + 1 < W0.heap.size:=by omega
  have z3:w.heap.size + 1 + 1 < W0.heap.size:=by omega
  have z4:g < W0.heap.size:=by omega
  simp only [hc _ _ z1,hc _ _ z2,hc _ _ z3,hc _ _ z4,hb0.cell];subst hW0;simp [go_sem,hss]
 have hT0:=Lib.hid (hT.keep hG hK0 hN hng);have HR:=Lib.hid (show ∀ W,Below W0.heap.size W0 W -> RdN N W (V.d (.mk k m e s kids)) [.int .i64 k,.int .i64 m,.int .i64 e,.string ⟨s.toArray⟩,.slice a2 kids.length c2] from fun W hb => (h.keep hK0 hN hng).below (hb.mono (by omega)));have HRk:=Lib.hid (show ∀ W,Below W0.heap.size W0 W -> RdN N W (.sl 5 (V.ds kids)) [.slice a2 kids.length c2] from fun W hb => (RdN.keep hkids hK0 hN hng).below (hb.mono (by omega)));have HF:=Lib.hid (fun W (hb:Below W0.heap.size W0 W) => isNode_any _ _ W (HR.out W hb).rd hwf hbk (hT0.out.below hb));have HQ:=Lib.hid (fun W (hb:Below W0.heap.size W0 W) => zjs _ _ W (HR.out W hb).rd hbk);clear h hkids hT hbox hW0 hng hss q1 q2 q3;by_cases qc1:M < 0
 ·have dqc1:=decide_eq_true qc1
  have H:=Lib.hid (vGood_no1 (deep:=deep) (L:=M + 1) (x:=.mk k m e s kids) (by omega))
  go_enter Tryz.func143,Tryz.ntmps143
  go_wp2;rw [<- HW.out];have hB:=Below.refl W0.heap.size W0;obtain ⟨p0,p1,p2,p3,p4,p6,p7,p8⟩:=KB.out _ hB
  go_quiet (fail)
  go_wp2;go_ret;exact ⟨by rw [H.out]; rfl,⟨M,hb0.below (by first | exact hB | exact hB.drew | exact Go.below_drewN hB _),fun h => by rw [H.out] at h; cases h⟩,hK0.then (by first | exact hB | exact hB.drew | exact Go.below_drewN hB _)⟩
 have dqc1:=decide_eq_false qc1;by_cases qc2:(12:Int) < deep
 ·have dqc2:=decide_eq_true qc2
  have H:=Lib.hid (vGood_no2 (L:=M + 1) (x:=.mk k m e s kids) qc2)
  go_enter Tryz.func143,Tryz.ntmps143
  go_wp2;rw [<- HW.out];have hB:=Below.refl W0.heap.size W0;obtain ⟨p0,p1,p2,p3,p4,p6,p7,p8⟩:=KB.out _ hB
  go_quiet (fail)
  go_wp2;go_ret;exact ⟨by rw [H.out]; rfl,⟨M,hb0.below (by first | exact hB | exact hB.drew | exact Go.below_drewN hB _),fun h => by rw [H.out] at h; cases h⟩,hK0.then (by first | exact hB | exact hB.drew | exact Go.below_drewN hB _)⟩
 have dqc2:=decide_eq_false qc2;by_cases qc3:M < kids.length
 ·have dqc3:=decide_eq_true qc3
  have H:=Lib.hid (vGood_no3 (deep:=deep) (L:=M + 1) (k:=k) (m:=m) (e:=e) (s:=s) (kids:=kids) (by omega))
  go_enter Tryz.func143,Tryz.ntmps143
  go_wp2;rw [<- HW.out];have hB:=Below.refl W0.heap.size W0;obtain ⟨p0,p1,p2,p3,p4,p6,p7,p8⟩:=KB.out _ hB
  go_quiet (fail)
  go_wp2;go_ret;exact ⟨by rw [H.out]; rfl,⟨M,hb0.below (by first | exact hB | exact hB.drew | exact Go.below_drewN hB _),fun h => by rw [H.out] at h; cases h⟩,hK0.then (by first | exact hB | exact hB.drew | exact Go.below_drewN hB _)⟩
 have dqc3:=decide_eq_false qc3;have HSN:=Lib.hid (V.selfI_node (.mk k m e s kids))
 cases hnode:V.node (.mk k m e s kids) with
 | false =>
  have HO:=Lib.hid hnode;have H:=Lib.hid (ziI (deep:=deep) (L:=M + 1) (x:=.mk k m e s kids) (by rw [HSN.out,hnode]; rfl));clear hnode
  go_enter Tryz.func143,Tryz.ntmps143
  go_wp2;rw [<- HW.out];have hB:=Below.refl W0.heap.size W0;refine wp_region_held_drew (S:=(fun W => W.cell? ⟨w.heap.size,0,none⟩ = some (.int .i64 k) /\ W.cell? ⟨w.heap.size,1,none⟩ = some (.int .i64 m) /\ W.cell? ⟨w.heap.size,2,none⟩ = some (.int .i64 e) /\ W.cell? ⟨w.heap.size,3,none⟩ = some (.string ⟨s.toArray⟩) /\ W.cell? ⟨w.heap.size,4,none⟩ = some (.slice a2 kids.length c2) /\ W.cell? ⟨w.heap.size + 1,0,none⟩ = some (.int .i64 deep) /\ W.cell? ⟨w.heap.size + 1 + 1,0,none⟩ = some (.pointer (some ⟨g,0,none⟩)) /\ W.cell? ⟨g,0,none⟩ = some (.int .i64 M))) (by kernel_rfl) ?_ (fun hHeld => ?_)
  ·((try dsimp only); (first | exact KB.out _ hB | exact KB.out _ hB.drew))
  refine zdU (i:=0) (fuel:=26) (d:=some 12) (v:=?vr0) (listed':=#[true,false,false,false,false,false,false,false,false,false,false,false,false,false,false,false,false,false,false,false,false,false,false,false,false,false,false]) rfl rfl (by kernel_rfl) (by kernel_rfl) (by kernel_rfl) (by kernel_rfl) (by kernel_rfl) (fun _ _ _ h => h) (by kernel_rfl) (by assumption) ?hr0 ?rr0
  case hr0 => (intro w hSw; (try dsimp only at hSw); go_simp; all_goals with_reducible rfl)
  simp only [Act.put,List.setIfInBounds_toArray,List.set_cons_zero,List.set_cons_succ];refine zdU (i:=1) (fuel:=25) (d:=some 13) (v:=?vr1) (listed':=#[true,true,false,false,false,false,false,false,false,false,false,false,false,false,false,false,false,false,false,false,false,false,false,false,false,false,false]) rfl rfl (by kernel_rfl) (by kernel_rfl) (by kernel_rfl) (by kernel_rfl) (by kernel_rfl) (fun _ _ _ h => h) (by kernel_rfl) (by assumption) ?hr1 ?rr1
  case hr1 => (intro w hSw; (try dsimp only at hSw); go_simp; all_goals with_reducible rfl)
  simp only [Act.put,List.setIfInBounds_toArray,List.set_cons_zero,List.set_cons_succ];refine zdU (i:=2) (fuel:=24) (d:=some 14) (v:=?vr2) (listed':=#[true,true,true,false,false,false,false,false,false,false,false,false,false,false,false,false,false,false,false,false,false,false,false,false,false,false,false]) rfl rfl (by kernel_rfl) (by kernel_rfl) (by kernel_rfl) (by kernel_rfl) (by kernel_rfl) (fun _ _ _ h => h) (by kernel_rfl) (by assumption) ?hr2 ?rr2
  case hr2 => (intro w hSw; (try dsimp only at hSw); go_simp; all_goals with_reducible rfl)
  simp only [Act.put,List.setIfInBounds_toArray,List.set_cons_zero,List.set_cons_succ];refine zdU (i:=3) (fuel:=23) (d:=some 15) (v:=?vr3) (listed':=#[true,true,true,true,false,false,false,false,false,false,false,false,false,false,false,false,false,false,false,false,false,false,false,false,false,false,false]) rfl rfl (by kernel_rfl) (by kernel_rfl) (by kernel_rfl) (by kernel_rfl) (by kernel_rfl) (fun _ _ _ h => h) (by kernel_rfl) (by assumption) ?hr3 ?rr3
  case hr3 => (intro w hSw; (try dsimp only at hSw); go_simp; all_goals with_reducible rfl)
  simp only [Act.put,List.setIfInBounds_toArray,List.set_cons_zero,List.set_cons_succ];refine zdU (i:=4) (fuel:=22) (d:=some 16) (v:=?vr4) (listed':=#[true,true,true,true,true,false,false,false,false,false,false,false,false,false,false,false,false,false,false,false,false,false,false,false,false,false,false]) rfl rfl (by kernel_rfl) (by kernel_rfl) (by kernel_rfl) (by kernel_rfl) (by kernel_rfl) (fun _ _ _ h => h) (by kernel_rfl) (by assumption) ?hr4 ?rr4
  case hr4 => (intro w hSw; (try dsimp only at hSw); go_simp; all_goals with_reducible rfl)
  simp only [Act.put,List.setIfInBounds_toArray,List.set_cons_zero,List.set_cons_succ];refine zdU (i:=5) (fuel:=21) (d:=some 17) (v:=?vr5) (listed':=#[true,true,true,true,true,true,false,false,false,false,false,false,false,false,false,false,false,false,false,false,false,false,false,false,false,false,false]) rfl rfl (by kernel_rfl) (by kernel_rfl) (by kernel_rfl) (by kernel_rfl) (by kernel_rfl) (fun _ _ _ h => h) (by kernel_rfl) (by assumption) ?hr5 ?rr5
  case hr5 => (intro w hSw; (try dsimp only at hSw); go_simp; all_goals with_reducible rfl)
  simp only [Act.put,List.setIfInBounds_toArray,List.set_cons_zero,List.set_cons_succ];refine zdU (i:=6) (fuel:=20) (d:=some 18) (v:=?vr6) (listed':=#[true,true,true,true,true,true,true,false,false,false,false,false,false,false,false,false,false,false,false,false,false,false,false,false,false,false,false]) rfl rfl (by kernel_rfl) (by kernel_rfl) (by kernel_rfl) (by kernel_rfl) (by kernel_rfl) (fun _ _ _ h => h) (by kernel_rfl) (by assumption) ?hr6 ?rr6
  case hr6 => (intro w hSw; (try dsimp only at hSw); go_simp; all_goals with_reducible rfl)
  simp only [Act.put,List.setIfInBounds_toArray,List.set_cons_zero,List.set_cons_succ];refine zdU (i:=7) (fuel:=19) (d:=some 19) (v:=?vr7) (listed':=#[true,true,true,true,true,true,true,true,false,false,false,false,false,false,false,false,false,false,false,false,false,false,false,false,false,false,false]) rfl rfl (by kernel_rfl) (by kernel_rfl) (by kernel_rfl) (by kernel_rfl) (by kernel_rfl) (fun _ _ _ h => h) (by kernel_rfl) (by assumption) ?hr7 ?rr7
  case hr7 => (intro w hSw; (try dsimp only at hSw); go_simp; all_goals with_reducible rfl)
  simp only [Act.put,List.setIfInBounds_toArray,List.set_cons_zero,List.set_cons_succ];refine zdU (i:=8) (fuel:=18) (d:=some 20) (v:=?vr8) (listed':=#[true,true,true,true,true,true,true,true,true,false,false,false,false,false,false,false,false,false,false,false,false,false,false,false,false,false,false]) rfl rfl (by kernel_rfl) (by kernel_rfl) (by kernel_rfl) (by kernel_rfl) (by kernel_rfl) (fun _ _ _ h => h) (by kernel_rfl) (by assumption) ?hr8 ?rr8
  case hr8 => (intro w hSw; (try dsimp only at hSw); go_simp; all_goals with_reducible rfl)
  simp only [Act.put,List.setIfInBounds_toArray,List.set_cons_zero,List.set_cons_succ];refine zdU (i:=9) (fuel:=17) (d:=some 21) (v:=?vr9) (listed':=#[true,true,true,true,true,true,true,true,true,true,false,false,false,false,false,false,false,false,false,false,false,false,false,false,false,false,false]) rfl rfl (by kernel_rfl) (by kernel_rfl) (by kernel_rfl) (by kernel_rfl) (by kernel_rfl) (fun _ _ _ h => h) (by kernel_rfl) (by assumption) ?hr9 ?rr9
  case hr9 => (intro w hSw; (try dsimp only at hSw); go_simp; all_goals with_reducible rfl)
  simp only [Act.put,List.setIfInBounds_toArray,List.set_cons_zero,List.set_cons_succ];refine zdU (i:=10) (fuel:=16) (d:=some 22) (v:=?vr10) (listed':=#[true,true,true,true,true,true,true,true,true,true,true,false,false,false,false,false,false,false,false,false,false,false,false,false,false,false,false]) rfl rfl (by kernel_rfl) (by kernel_rfl) (by kernel_rfl) (by kernel_rfl) (by kernel_rfl) (fun _ _ _ h => h) (by kernel_rfl) (by assumption) ?hr10 ?rr10
  case hr10 => (intro w hSw; (try dsimp only at hSw); go_simp; all_goals with_reducible rfl)
  simp only [Act.put,List.setIfInBounds_toArray,List.set_cons_zero,List.set_cons_succ];refine zdU (i:=11) (fuel:=15) (d:=some 23) (v:=?vr11) (listed':=#[true,true,true,true,true,true,true,true,true,true,true,true,false,false,false,false,false,false,false,false,false,false,false,false,false,false,false]) rfl rfl (by kernel_rfl) (by kernel_rfl) (by kernel_rfl) (by kernel_rfl) (by kernel_rfl) (fun _ _ _ h => h) (by kernel_rfl) (by assumption) ?hr11 ?rr11
  case hr11 => (intro w hSw; (try dsimp only at hSw); go_simp; all_goals with_reducible rfl)
  simp only [Act.put,List.setIfInBounds_toArray,List.set_cons_zero,List.set_cons_succ];refine zdU (i:=12) (fuel:=14) (d:=some 24) (v:=?vr12) (listed':=#[true,true,true,true,true,true,true,true,true,true,true,true,true,false,false,false,false,false,false,false,false,false,false,false,false,false,false]) rfl rfl (by kernel_rfl) (by kernel_rfl) (by kernel_rfl) (by kernel_rfl) (by kernel_rfl) (fun _ _ _ h => h) (by kernel_rfl) (by assumption) ?hr12 ?rr12
  case hr12 => (intro w hSw; (try dsimp only at hSw); go_simp; all_goals with_reducible rfl)
  simp only [Act.put,List.setIfInBounds_toArray,List.set_cons_zero,List.set_cons_succ];refine zdU (i:=13) (fuel:=13) (d:=some 25) (v:=?vr13) (listed':=#[true,true,true,true,true,true,true,true,true,true,true,true,true,true,false,false,false,false,false,false,false,false,false,false,false,false,false]) rfl rfl (by kernel_rfl) (by kernel_rfl) (by kernel_rfl) (by kernel_rfl) (by kernel_rfl) (fun _ _ _ h => h) (by kernel_rfl) (by assumption) ?hr13 ?rr13
  case hr13 => (intro w hSw; (try dsimp only at hSw); go_simp; all_goals with_reducible rfl)
  simp only [Act.put,List.setIfInBounds_toArray,List.set_cons_zero,List.set_cons_succ];refine zdU (i:=14) (fuel:=12) (d:=some 26) (v:=?vr14) (listed':=#[true,true,true,true,true,true,true,true,true,true,true,true,true,true,true,false,false,false,false,false,false,false,false,false,false,false,false]) rfl rfl (by kernel_rfl) (by kernel_rfl) (by kernel_rfl) (by kernel_rfl) (by kernel_rfl) (fun _ _ _ h => h) (by kernel_rfl) (by assumption) ?hr14 ?rr14
  case hr14 => (intro w hSw; (try dsimp only at hSw); go_simp; all_goals with_reducible rfl)
  simp only [Act.put,List.setIfInBounds_toArray,List.set_cons_zero,List.set_cons_succ];refine zdU (i:=15) (fuel:=11) (d:=some 27) (v:=?vr15) (listed':=#[true,true,true,true,true,true,true,true,true,true,true,true,true,true,true,true,false,false,false,false,false,false,false,false,false,false,false]) rfl rfl (by kernel_rfl) (by kernel_rfl) (by kernel_rfl) (by kernel_rfl) (by kernel_rfl) (fun _ _ _ h => h) (by kernel_rfl) (by assumption) ?hr15 ?rr15
  case hr15 => (intro w hSw; (try dsimp only at hSw); go_simp; all_goals with_reducible rfl)
  simp only [Act.put,List.setIfInBounds_toArray,List.set_cons_zero,List.set_cons_succ];refine zdU (i:=16) (fuel:=10) (d:=some 28) (v:=?vr16) (listed':=#[true,true,true,true,true,true,true,true,true,true,true,true,true,true,true,true,true,false,false,false,false,false,false,false,false,false,false]) rfl rfl (by kernel_rfl) (by kernel_rfl) (by kernel_rfl) (by kernel_rfl) (by kernel_rfl) (fun _ _ _ h => h) (by kernel_rfl) (by assumption) ?hr16 ?rr16
  case hr16 => (intro w hSw; (try dsimp only at hSw); go_simp; all_goals with_reducible rfl)
  simp only [Act.put,List.setIfInBounds_toArray,List.set_cons_zero,List.set_cons_succ];refine zdU (i:=17) (fuel:=9) (d:=some 29) (v:=?vr17) (listed':=#[true,true,true,true,true,true,true,true,true,true,true,true,true,true,true,true,true,true,false,false,false,false,false,false,false,false,false]) rfl rfl (by kernel_rfl) (by kernel_rfl) (by kernel_rfl) (by kernel_rfl) (by kernel_rfl) (fun _ _ _ h => h) (by kernel_rfl) (by assumption) ?hr17 ?rr17
  case hr17 => (intro w hSw; (try dsimp only at hSw); go_simp; all_goals with_reducible rfl)
  simp only [Act.put,List.setIfInBounds_toArray,List.set_cons_zero,List.set_cons_succ];refine zdU (i:=18) (fuel:=8) (d:=some 30) (v:=?vr18) (listed':=#[true,true,true,true,true,true,true,true,true,true,true,true,true,true,true,true,true,true,true,false,false,false,false,false,false,false,false]) rfl rfl (by kernel_rfl) (by kernel_rfl) (by kernel_rfl) (by kernel_rfl) (by kernel_rfl) (fun _ _ _ h => h) (by kernel_rfl) (by assumption) ?hr18 ?rr18
  case hr18 => (intro w hSw; (try dsimp only at hSw); go_simp; all_goals with_reducible rfl)
  simp only [Act.put,List.setIfInBounds_toArray,List.set_cons_zero,List.set_cons_succ];refine takeC (i:=19) (fuel:=7) (d:=some 31) (listed':=#[true,true,true,true,true,true,true,true,true,true,true,true,true,true,true,true,true,true,true,true,false,false,false,false,false,false,false]) rfl rfl (by kernel_rfl) (by kernel_rfl) (by kernel_rfl) (by kernel_rfl) (fun K hK => ?cr19)
  go_simp
  ((go_at_call 189; with_reducible refine (HF.out _ (by first | exact hB | exact hB.drew)).mono ?_; rw [HO.out]; rintro e1 w1 ⟨rfl,hb1⟩; replace hB:=zaW (by first | exact hB | exact hB.drew) hb1 (Nat.le_refl _)))
  go_wp2_with fail
  refine hK.out _ _ ?kr19 (fun hHeld => ?nr19)
  case kr19 => ((try dsimp only); (first | exact KB.out _ hB | exact KB.out _ hB.drew))
  clear hK K
  try simp only [skipAct,Act.put,List.setIfInBounds_toArray,List.set_cons_zero,List.set_cons_succ]
  refine zdU (i:=20) (fuel:=6) (d:=some 32) (v:=?vr20) (listed':=#[true,true,true,true,true,true,true,true,true,true,true,true,true,true,true,true,true,true,true,true,true,false,false,false,false,false,false]) rfl rfl (by kernel_rfl) (by kernel_rfl) (by kernel_rfl) (by kernel_rfl) (by kernel_rfl) (fun _ _ _ h => h) (by kernel_rfl) (by assumption) ?hr20 ?rr20
  case hr20 => (intro w hSw; (try dsimp only at hSw); go_simp; all_goals with_reducible rfl)
  simp only [Act.put,List.setIfInBounds_toArray,List.set_cons_zero,List.set_cons_succ];refine zdU (i:=21) (fuel:=5) (d:=some 33) (v:=?vr21) (listed':=#[true,true,true,true,true,true,true,true,true,true,true,true,true,true,true,true,true,true,true,true,true,true,false,false,false,false,false]) rfl rfl (by kernel_rfl) (by kernel_rfl) (by kernel_rfl) (by kernel_rfl) (by kernel_rfl) (fun _ _ _ h => h) (by kernel_rfl) (by assumption) ?hr21 ?rr21
  case hr21 => (intro w hSw; (try dsimp only at hSw); go_simp; all_goals with_reducible rfl)
  simp only [Act.put,List.setIfInBounds_toArray,List.set_cons_zero,List.set_cons_succ];refine zdU (i:=22) (fuel:=4) (d:=some 34) (v:=?vr22) (listed':=#[true,true,true,true,true,true,true,true,true,true,true,true,true,true,true,true,true,true,true,true,true,true,true,false,false,false,false]) rfl rfl (by kernel_rfl) (by kernel_rfl) (by kernel_rfl) (by kernel_rfl) (by kernel_rfl) (fun _ _ _ h => h) (by kernel_rfl) (by assumption) ?hr22 ?rr22
  case hr22 => (intro w hSw; (try dsimp only at hSw); go_simp; all_goals with_reducible rfl)
  simp only [Act.put,List.setIfInBounds_toArray,List.set_cons_zero,List.set_cons_succ];refine takeS (fuel:=1) (listed':=#[true,true,true,true,true,true,true,true,true,true,true,true,true,true,true,true,true,true,true,true,true,true,true,true,true,true,false]) (by kernel_rfl) (fun _ _ _ _ h => h) (by assumption) [(23,35),(24,36),(25,37)] (by kernel_rfl) (by kernel_rfl) (by kernel_rfl) ?_;simp only [skipAct,List.setIfInBounds_toArray,List.set_cons_zero,List.set_cons_succ];refine zdU (i:=26) (fuel:=0) (d:=some 38) (v:=?vr26) (listed':=#[true,true,true,true,true,true,true,true,true,true,true,true,true,true,true,true,true,true,true,true,true,true,true,true,true,true,true]) rfl rfl (by kernel_rfl) (by kernel_rfl) (by kernel_rfl) (by kernel_rfl) (by kernel_rfl) (fun _ _ _ h => h) (by kernel_rfl) (by assumption) ?hr26 ?rr26
  case hr26 => (intro w hSw; (try dsimp only at hSw); go_simp; all_goals with_reducible rfl)
  simp only [Act.put,List.setIfInBounds_toArray,List.set_cons_zero,List.set_cons_succ];refine wpAnyH_done (by kernel_rfl) ?_ _;go_wp2;go_ret
  exact ⟨by rw [H.out]; rfl,⟨M,hb0.below (by first | exact hB | exact hB.drew | exact Go.below_drewN hB _),fun h => by rw [H.out] at h; cases h⟩,hK0.then (by first | exact hB | exact hB.drew | exact Go.below_drewN hB _)⟩
 | true =>
  have HO:=Lib.hid hnode
  cases hkk:V.kidsOk k kids with
  | false =>
   have HKK:=Lib.hid (show V.kidsOk (V.kind (.mk k m e s kids)) (V.kids (.mk k m e s kids)) = false from hkk);have H:=Lib.hid (ziI (deep:=deep) (L:=M + 1) (x:=.mk k m e s kids) (by rw [HSN.out,hnode]; exact hkk));clear hnode hkk
   go_enter Tryz.func143,Tryz.ntmps143
   go_wp2;rw [<- HW.out];have hB:=Below.refl W0.heap.size W0
   go_region_held3 (fun W => W.cell? ⟨w.heap.size,0,none⟩ = some (.int .i64 k) /\ W.cell? ⟨w.heap.size,1,none⟩ = some (.int .i64 m) /\ W.cell? ⟨w.heap.size,2,none⟩ = some (.int .i64 e) /\ W.cell? ⟨w.heap.size,3,none⟩ = some (.string ⟨s.toArray⟩) /\ W.cell? ⟨w.heap.size,4,none⟩ = some (.slice a2 kids.length c2) /\ W.cell? ⟨w.heap.size + 1,0,none⟩ = some (.int .i64 deep) /\ W.cell? ⟨w.heap.size + 1 + 1,0,none⟩ = some (.pointer (some ⟨g,0,none⟩)) /\ W.cell? ⟨g,0,none⟩ = some (.int .i64 M))
    (first | exact KB.out _ hB | exact KB.out _ hB.drew)
    (first | (go_at_call 189; with_reducible refine (HF.out _ (by first | exact hB | exact hB.drew)).mono ?_; rw [HO.out]; rintro e1 w1 ⟨rfl,hb1⟩; replace hB:=zaW (by first | exact hB | exact hB.drew) hb1 (Nat.le_refl _)) | (go_at_call 190; with_reducible refine (HQ.out _ (by first | exact hB | exact hB.drew)).mono ?_; rw [HKK.out]; rintro e1 w1 ⟨rfl,hb1⟩; replace hB:=zaW (by first | exact hB | exact hB.drew) hb1 (Nat.le_refl _)))
   go_wp2;go_ret
   exact ⟨by rw [H.out]; rfl,⟨M,hb0.below (by first | exact hB | exact hB.drew | exact Go.below_drewN hB _),fun h => by rw [H.out] at h; cases h⟩,hK0.then (by first | exact hB | exact hB.drew | exact Go.below_drewN hB _)⟩
  | true =>
   have HKK:=Lib.hid (show V.kidsOk (V.kind (.mk k m e s kids)) (V.kids (.mk k m e s kids)) = true from hkk);have H0:=vGood_yes (L:=M + 1) qc2 (show V.selfI (.mk k m e s kids) = true by rw [HSN.out,hnode]; exact hkk);rw [show M + 1 - 1 = M by omega] at H0;have H:=Lib.hid H0;clear H0 hnode hkk
   go_enter Tryz.func143,Tryz.ntmps143
   go_wp2;rw [<- HW.out];have hB:=Below.refl W0.heap.size W0
   go_region_held3 (fun W => W.cell? ⟨w.heap.size,0,none⟩ = some (.int .i64 k) /\ W.cell? ⟨w.heap.size,1,none⟩ = some (.int .i64 m) /\ W.cell? ⟨w.heap.size,2,none⟩ = some (.int .i64 e) /\ W.cell? ⟨w.heap.size,3,none⟩ = some (.string ⟨s.toArray⟩) /\ W.cell? ⟨w.heap.size,4,none⟩ = some (.slice a2 kids.length c2) /\ W.cell? ⟨w.heap.size + 1,0,none⟩ = some (.int .i64 deep) /\ W.cell? ⟨w.heap.size + 1 + 1,0,none⟩ = some (.pointer (some ⟨g,0,none⟩)) /\ W.cell? ⟨g,0,none⟩ = some (.int .i64 M))
    (first | exact KB.out _ hB | exact KB.out _ hB.drew)
    (first | (go_at_call 189; with_reducible refine (HF.out _ (by first | exact hB | exact hB.drew)).mono ?_; rw [HO.out]; rintro e1 w1 ⟨rfl,hb1⟩; replace hB:=zaW (by first | exact hB | exact hB.drew) hb1 (Nat.le_refl _)) | (go_at_call 190; with_reducible refine (HQ.out _ (by first | exact hB | exact hB.drew)).mono ?_; rw [HKK.out]; rintro e1 w1 ⟨rfl,hb1⟩; replace hB:=zaW (by first | exact hB | exact hB.drew) hb1 (Nat.le_refl _)))
   obtain ⟨p0,p1,p2,p3,p4,p6,p7,p8⟩:=KB.out _ hB;have hkw:V.wfs kids:=hwf.2.2.2.2.2;have hkb:kids.length + V.bulks kids <= 4294967295:=by simp only [V.bulk] at hbk; omega
   have HCC:=Lib.hid (hC kids _ deep N g (w.heap.size + 1) (w.heap.size + 1 + 1) M _ hnk (HRk.out _ hB) hNg (hb0.below hB) (hbd0.below hB) (by omega) p7 (by omega) hkw hkb (hT0.out.below hB) hG (by omega) (by omega))
   go_wp2_with (go_at_call 191; refine HCC.out.mono ?_; rintro e1 w2 ⟨rfl,⟨L',hbx,hL'⟩,hk2⟩)
   go_ret;exact ⟨by rw [H.out]; simp,⟨L',hbx,fun hh => by rw [H.out] at hh; rw [hL' hh]; simp only [V.nodes]; omega⟩,(hK0.then hB).trans hk2⟩
set_option maxHeartbeats 800000 in
set_option maxRecDepth 10000 in
theorem ziJ {n:Nat} (hA:VIsA n) (x:V) (cs:List Value) (deep N g bd bl:Nat) (L:Int) (w:World) (hn:x.nodes <= n) (h:RdN N w x.d cs) (hNg:N <= g) (hbox:intBox w g L) (hbd:intBox w bd deep) (hbl:w.cell? ⟨bl,0,none⟩ = some (.pointer (some ⟨g,0,none⟩)))
  (hwf:x.wf) (hbk:x.bulk <= 4294967295) (hT:Tabs w) (hG:GlobN N) (hdeep:deep <= 1000) (hL:0 <= L /\ L <= 1000) :
  Calls Tryz.prog 192 #[.agg cs.toArray,.pointer (some ⟨bd,0,none⟩),.pointer (some ⟨bl,0,none⟩)] w fun e w' => e = .returned (.bool (!vGood (deep + 1) L x)) /\ (∃ L':Int,intBox w' g L' /\ (vGood (deep + 1) L x = true -> L' = L - x.nodes)) /\ Keep (· = g) w w':=by
 obtain ⟨k,m,e,s,a2,n2,c2,rfl⟩:=V.form h.rd;have hb1:=hbd.cell;have hz1:=hbd.lt;have hz2:bl < w.heap.size:=zhF hbl;have hN:N <= w.heap.size:=by have:=hbox.lt; omega
 have hal:Below w.heap.size w (w.alloc (.cells #[.int .i64 k,.int .i64 m,.int .i64 e,.string ⟨s.toArray⟩,.slice a2 n2 c2] 41)):=(Below.refl _ _).alloc (Nat.le_refl _) _;have HCC:=Lib.hid (hA x _ (deep + 1) N g L _ hn (h.below (hal.mono hN)) hNg (hbox.below hal) hwf hbk (hT.below hal) hG (by omega) hL)
 go_enter Tryz.func192,Tryz.ntmps192
 go_wp2_with (go_at_call 143; refine HCC.out.mono ?_; rintro e w1 ⟨rfl,hL',hk1⟩)
 go_ret;exact ⟨rfl,hL',(Keep.of_below hal).trans hk1⟩
theorem zjt (deep:Nat) (L:Int) (xs:List V) (k:Nat) (hk:k < xs.length) (h:vGoods deep L (xs.take k) = true) :
  vGoods deep L (xs.take (k + 1)) = vGood deep (L - V.nodess (xs.take k)) xs[k]:=by
 have hn:∀ (ls:List V) (x:V),V.nodess (ls ++ [x]) = V.nodess ls + x.nodes:=by
  intro ls x; induction ls with
  | nil => simp [V.nodess]
  | cons a ls ih => simp only [List.cons_append,V.nodess,ih]; omega
 unfold vGoods at h ⊢; unfold vGood
 rw [List.take_succ_eq_append_getElem hk,hn,V.rightsBy_all,List.all_append];rw [V.rightsBy_all] at h;simp only [Bool.and_eq_true,decide_eq_true_eq] at h;rw [h.1,Bool.true_and]
 congr 1
 ·simp
 ·exact decide_eq_decide.2 (by omega)
theorem vGoods_cut (deep:Nat) (L:Int) (xs:List V) (k:Nat) (h:vGoods deep L (xs.take k) = false):vGoods deep L xs = false:=by
 have hn:∀ (ls ms:List V),V.nodess (ls ++ ms) = V.nodess ls + V.nodess ms:=by
  intro ls ms; induction ls with
  | nil => simp [V.nodess]
  | cons a ls ih => simp only [List.cons_append,V.nodess,ih]; omega
 cases hk:vGoods deep L xs with
 | false => rfl
 | true =>
  exfalso;rw [<- List.take_append_drop k xs] at hk;unfold vGoods at h hk;rw [V.rightsBy_all,List.all_append,hn] at hk;rw [V.rightsBy_all] at h;simp only [Bool.and_eq_true,decide_eq_true_eq] at hk;rw [hk.1.1,decide_eq_true (by omega)] at h; cases h
set_option maxHeartbeats 1600000 in
set_option maxRecDepth 10000 in
theorem ziK {n:Nat} (hA:VIsA n) (xs:List V) (va:Value) (deep N g bd bl:Nat) (L:Int) (w:World) (hn:V.nodess xs <= n) (h:RdN N w (.sl 5 (V.ds xs)) [va]) (hNg:N <= g) (hbox:intBox w g L) (hbd:intBox w bd deep) (hbg:bd ≠ g) (hbl:w.cell? ⟨bl,0,none⟩ = some (.pointer (some ⟨g,0,none⟩))) (hlg:bl ≠ g)
  (hwf:V.wfs xs) (hbk:xs.length + V.bulks xs <= 4294967295) (hT:Tabs w) (hG:GlobN N) (hdeep:deep <= 1000) (hL:0 <= L /\ L <= 1000) :
  Calls Tryz.prog 223 #[va,.func (.func 192) #[] #[.pointer (some ⟨bd,0,none⟩),.pointer (some ⟨bl,0,none⟩)]] w fun e w' => (∃ r:Int,e = .returned (.int .i64 r) /\ decide (0 <= r) = !vGoods (deep + 1) L xs) /\ (∃ L':Int,intBox w' g L' /\ (vGoods (deep + 1) L xs = true -> L' = L - V.nodess xs)) /\ Keep (· = g) w w':=by
 have hN:N <= w.heap.size:=by have:=hbox.lt; omega
 have hng:∀ k,k < N -> ¬ k = g:=by intro k hk e; omega
 have hz1:=hbd.lt;have hz2:bl < w.heap.size:=zhF hbl;have hlen:xs.length <= 4294967295:=by omega
 obtain ⟨a,c,rfl,hg⟩:=RepC.values h;obtain ⟨ok,hok⟩:∃ ok,vGoods (deep + 1) L xs = ok:=⟨_,rfl⟩;rw [hok];have HOK:=Lib.hid hok; clear hok
 obtain ⟨hL1,hL2⟩:=hL
 go_enter Tryz.func223,Tryz.ntmps223
 go_wp2
 go_loopw [8] (fun i wr => ∃ (k:Nat),k <= xs.length /\ i = .int .i64 k /\ intBox wr g (L - V.nodess (xs.take k)) /\ vGoods (deep + 1) L (xs.take k) = true /\ Keep (· = g) w wr) (fun i _ => xs.length - (intOf i).toNat)
 case atStart => exact ⟨0,Nat.zero_le _,rfl,by simpa [V.nodess] using hbox,by simp [vGoods,V.rightsBy,V.nodess,hL1],Keep.refl _ _⟩
 case round =>
  obtain ⟨k,hk,rfl,hbx,hgd,hkp⟩:=hrel;have HGD:=Lib.hid hgd;have hle:(V.nodess (xs.take k):Int) <= L:=by unfold vGoods at hgd; simp only [Bool.and_eq_true,decide_eq_true_eq] at hgd; exact hgd.2
  clear hgd;by_cases hlt:k < xs.length
  ·obtain ⟨_,_,b,o,rfl,hb,hcell⟩:=hg (by intro e; rw [e] at hlt; simp at hlt)
   obtain ⟨v0,v1,v2,v3,v4,hr,d0,d1,d2,d3,d4⟩:=hcell k hlt;clear hcell hg;obtain ⟨k1,k2,k3,s4,a6,n6,m6,hcs⟩:=V.formS hr;simp only [List.cons.injEq,and_true] at hcs;obtain ⟨rfl,rfl,rfl,rfl,rfl⟩:=hcs;have hbN:b < w.heap.size:=by omega
   have hbg':=hng b hb;rw [<- hkp.cell hbN hbg'] at d0 d1 d2 d3 d4;have hi1:(0:Int) <= k:=by omega
   have hi3:(k:Int) < xs.length:=by omega
   have hnk:xs[k].nodes <= n:=Nat.le_trans (V.nodes_get xs k hlt) hn;have HC:=Lib.hid (ziJ hA xs[k] _ deep N g bd bl _ wr hnk (RdN.keep (N:=N) hr hkp hN hng) hNg hbx (hbd.keep hkp hbg) (by rw [hkp.cell hz2 hlg]; exact hbl) (V.wfs_get hwf k hlt) (V.bulk_get' hbk k hlt) (hT.keep hG hkp hN hng) hG hdeep (by omega));have HSN:=Lib.hid (zjt (deep + 1) L xs k hlt HGD.out)
   have hns:V.nodess (xs.take (k + 1)) = V.nodess (xs.take k) + xs[k].nodes:=by
    rw [List.take_succ_eq_append_getElem hlt]
    have hn:∀ (ls:List V) (x:V),V.nodess (ls ++ [x]) = V.nodess ls + x.nodes:=by
     intro ls x; induction ls with
     | nil => simp [V.nodess]
     | cons a ls ih => simp only [List.cons_append,V.nodess,ih]; omega
    exact hn _ _
   have HNS:=Lib.hid hns;clear hns hr hbx h hT hwf hbk hng hbox hbd hbl
   cases hgd:vGood (deep + 1) (L - V.nodess (xs.take k)) xs[k] with
   | true =>
    have HG:=Lib.hid hgd; clear hgd
    go_wp2_with (go_at_call 192; refine HC.out.mono ?_; rw [HG.out]; rintro e w1 ⟨rfl,⟨L',hbx1,hL'⟩,hk1⟩)
    go_roundw
    case rel => exact ⟨k + 1,by omega,by go_num,by rw [show L - (V.nodess (xs.take (k + 1)):Int) = L' by rw [hL' trivial,HNS.out]; omega]; exact hbx1,by rw [HSN.out,HG.out],hkp.trans hk1⟩
    case measure => simp [intOf]; omega
   | false =>
    have HG:=Lib.hid hgd; clear hgd
    have HF:=Lib.hid (show ok = false by rw [<- HOK.out]; exact vGoods_cut _ _ _ (k + 1) (by rw [HSN.out,HG.out]))
    go_wp2_with (go_at_call 192; refine HC.out.mono ?_; rw [HG.out]; rintro e w1 ⟨rfl,⟨L',hbx1,hL'⟩,hk1⟩)
    go_ret;exact ⟨⟨_,rfl,by rw [HF.out]; simp⟩,⟨L',hbx1,fun hh => by rw [HF.out] at hh; cases hh⟩,hkp.trans hk1⟩
  ·obtain rfl:k = xs.length:=by omega
   have h1:=HGD.out;rw [List.take_length] at h1 hbx;have HF:=Lib.hid (show ok = true by rw [<- HOK.out]; exact h1);clear h1;go_wp2;go_ret;exact ⟨⟨_,rfl,by rw [HF.out]; rfl⟩,⟨_,hbx,fun _ => rfl⟩,hkp⟩
set_option maxHeartbeats 400000 in
theorem VIsC_of {n:Nat} (hA:VIsA n):VIsC n:=by
 intro xs va deep N g bd bl L w hn h hNg hbox hbd hbg hbl hlg hwf hbk hT hG hdeep hL;have HC:=Lib.hid (ziK hA xs va deep N g bd bl L w hn h hNg hbox hbd hbg hbl hlg hwf hbk hT hG hdeep hL)
 go_enter Tryz.func191,Tryz.ntmps191
 go_wp2_with (go_at_call 223; refine HC.out.mono ?_; rintro e w1 ⟨⟨r,rfl,hr⟩,hL',hk1⟩; have HR:=Lib.hid hr; clear hr)
 go_ret;exact ⟨by rw [<- HR.out]; rfl,hL',hk1⟩
theorem VIs_all:∀ n,VIsA n
 | 0 => fun x cs deep N g L w hn => absurd x.nodes_pos (by omega)
 | n + 1 => VIsA_of (VIsC_of (VIs_all n))
set_option maxHeartbeats 400000 in
set_option maxRecDepth 10000 in
theorem ziL (x:V) (cs:List Value) (w:World) (h:Rd w x.d cs) (hwf:x.wf) (hbk:x.bulk <= 4294967295) (hT:Tabs w) :
  Calls Tryz.prog 87 #[.agg cs.toArray] w fun e w' => e = .returned (.bool x.ok) /\ Below w.heap.size w w':=by
 obtain ⟨k,m,e,s,a2,n2,c2,rfl⟩:=V.form h;obtain ⟨W0,hW0⟩:∃ W0,W0 = (w.alloc (.cells #[.int .i64 k,.int .i64 m,.int .i64 e,.string ⟨s.toArray⟩,.slice a2 n2 c2] 41)).alloc (.cells #[.int .i64 300] 3):=⟨_,rfl⟩;have HW:=Lib.hid hW0;have hA:Below w.heap.size w W0:=by rw [hW0]; exact ((Below.refl _ _).alloc (Nat.le_refl _) _).alloc (by simp) _
 have hbx:intBox W0 (w.heap.size + 1) 300:=by
  rw [hW0]
  have:=zbR (w.alloc (.cells #[.int .i64 k,.int .i64 m,.int .i64 e,.string ⟨s.toArray⟩,.slice a2 n2 c2] 41)) (.cells #[.int .i64 300] 3)
  simpa [intBox] using this
 have HC:=Lib.hid (VIs_all x.nodes x _ 0 w.heap.size (w.heap.size + 1) 300 W0 (Nat.le_refl _) (h.rdN.below hA) (by omega) hbx hwf hbk (hT.below hA) ⟨hT.lt.1,hT.lt.2⟩ (by decide) (by decide));have hsz:W0.heap.size = w.heap.size + 2:=by rw [hW0]; simp
 clear hW0 h hbx
 go_enter Tryz.func87,Tryz.ntmps87
 go_wp2_with (go_at_call 143; rw [<- HW.out]; refine HC.out.mono ?_; rintro e w1 ⟨rfl,_,hk1⟩)
 go_ret;refine ⟨zba ?_,hA.trans (hk1.below (by omega) (fun k hk e => by omega))⟩;show vGood 0 300 x = _;rw [<- V.ok_impl]; unfold vGood; congr 1
 exact decide_eq_decide.2 (by omega)
end
/- PvVokI -/
section
variable {T:World -> Prop} {hT:Low ngl T}
theorem voki_fn (hTab:∀ w,T w -> Tabs w) (v:V) (hw:v.wf) (hb:v.bulk <= 4294967295):FnV (env T hT) 87 [.ag (vC v)] (.d (pB v.ok)):=by
 refine FnV.old rfl fun w C vs hF _ ht hlen hv => ?_
 match vs,hlen with
 | [a],_ =>
  have h0:=hv 0 _ _ rfl rfl;rw [<- V.pc_eq] at h0;obtain ⟨cs,rfl,h1⟩:=vRd hF (V.wfd v) h0;exact ziL v cs w h1 hw hb (hTab w ht)
end
/- PvI1 -/
section
open Go.Lib (validD)
variable {T:World -> Prop} {hT:Low ngl T}
attribute [local irreducible] po mw pt
theorem po_slcg {E:Env} {d n:Nat} {x:X} {g:Option (Nat × Bool)} {lo hi:Option X} {c:List X} {r:List MOpr} {K:St -> Prop} {tm:Nat -> PV} {bx:List (List PC)} {nt:Nat} {live:List Nat} {t l h:Nat} {es rs:List (List PC)} (hg:gd g tm = some true) (hx:ev tm x = .d (.sl t es)) (hl:bound (ev tm) 0 lo = some l) (hh:bound (ev tm) es.length hi = some h) (hle:l <= h /\ h <= es.length) (hw:∀ e ∈ es,e.length = n) (hr:(es.drop l).take (h - l) = rs)
  (k:po E r K ⟨up d (.d (.sl 0 rs)) tm,bx,nt,live⟩):po E (⟨some d,.slc n x lo hi,g,c⟩ :: r) K ⟨tm,bx,nt,live⟩:=by
 refine po_q hg ?_ k;subst hr;simp only [qf,hx,hl,hh];rw [if_pos ⟨hle.1,hle.2,hw⟩]
theorem zc7 {E:Env} {K:St -> Prop} {tm:Nat -> PV} {bx:List (List PC)} {nt d:Nat} {live:List Nat} {r:List MOpr} {g:Option (Nat × Bool)} {c:List X} {x y:X} {la lb:List UInt8} {f:Bool} (hg:gd g tm = some true) (hx:ev tm x = .d (pS la)) (hy:ev tm y = .d (pS lb)) (h:po E r K ⟨up d (.d (pB (decide (la = lb)))) tm,bx,nt,live⟩):po E (⟨some d,.bin .eql f x y,g,c⟩ :: r) K ⟨tm,bx,nt,live⟩:=by
 refine po_q hg ?_ h;simp only [qf,hx,hy,pS];show some (PV.d (.v (.bool ((ByteArray.mk la.toArray).toList == (ByteArray.mk lb.toArray).toList)))) = _;rw [ByteArray.toList_eq,ByteArray.toList_eq];show some (PV.d (.v (.bool (la == lb)))) = _;by_cases h:la = lb
 ·subst h; simp [pB]
 ·simp [h,pB]
theorem ziM:∀ (ls:List (List UInt8)) (i:Nat) (h:i < ls.length) (k:Nat),ixF ls ls[i] k = ((k + i:Nat):Int) ↔ ls[i] ∉ ls.take i
 | a :: r,0,h,k => by simp [ixF]
 | a :: r,i + 1,h,k => by
  have ih:=ziM r i (by simpa using h) (k + 1);simp only [List.getElem_cons_succ,List.take_succ_cons,List.mem_cons,not_or];rw [ixF];by_cases he:a = r[i]'(by simpa using h)
  ·rw [if_pos he]
   constructor
   ·intro h2; omega
   ·intro h2; exact absurd he.symm h2.1
  ·rw [if_neg he,show k + (i + 1) = k + 1 + i by omega,ih]
   exact ⟨fun h2 => ⟨fun e => he e.symm,h2⟩,fun h2 => h2.2⟩
theorem ixF_memN:∀ (ls:List (List UInt8)) (s:List UInt8) (k:Nat),(0 <= ixF ls s k) ↔ s ∈ ls
 | [],s,k => by simp [ixF]
 | a :: r,s,k => by
  unfold ixF; split
  ·rename_i h; subst h; simp
  ·rename_i h; rw [ixF_memN r s (k + 1)]; simp [Ne.symm h]
def IxI (ns:List (List UInt8)) (key:List UInt8) (m:Nat) (st:St):Prop:=∃ i:Nat,i <= ns.length /\ m = ns.length - i /\ has st.tm [(0,.d (pSs ns)),(1,.d (pS key)),(7,.d (pI ns.length)),(8,.d (pI i))] /\ ixF (ns.drop i) key i = ixF ns key 0
set_option maxHeartbeats 1000000 in
theorem indexN_fn (ns:List (List UInt8)) (key:List UInt8) (hl:ns.length <= 4294967295):FnV (env T hT) 216 [.d (pSs ns),.d (pS key)] (.d (pI (ixF ns key 0))):=by
 refine zaC (zag zc6) (by show 2 <= 19; decide) fun B hB => ?_
 unfold m_slices_Index_impl_Names_string;refine mP ?_;refine zaq (fun s => ixF ns key 0 = -1) ?_ ?_
 ·refine mQ ?_
  refine zaB (n:=ns.length) rfl rfl (za0 ns) ?_;refine mN ?_;refine zai ?_;refine zav (IxI ns key) ns.length ⟨0,Nat.zero_le _,rfl,⟨rfl,rfl,rfl,rfl,trivial⟩,rfl⟩ ?_;rintro m tm bx nt live ⟨i,hi,rfl,ht,hx⟩;obtain ⟨tm0,rfl⟩:=zaj ht;refine mO ?_;refine po_b rfl rfl (fun b hb => ?_);refine zac ?_;refine zaa ?_;refine zb4 (p:=(i:Int) < ns.length) hb rfl (fun h _ => ?_) (fun h _ => ?_)
  ·have hil:i < ns.length:=by omega
   refine zae ?_;refine zaa (zai (zaa (zad ?_)));refine mN ?_;refine mO ?_;(iterate 3 refine mS ?_);refine za3 (es:=pSr ns) (e:=[pS ns[i]]) rfl rfl rfl ⟨by omega,by rw [Int.toNat_natCast]; exact zcc hil⟩ rfl ?_;refine mS ?_;refine zc7 (la:=key) (lb:=ns[i]) rfl rfl rfl ?_;refine mN ?_;refine zeD (p:=key = ns[i]) rfl (fun hc => ?_) (fun hc => ?_)
   ·rw [<- hx,ixF_yes hil hc.symm]
    refine mP ?_;exact zab ⟨.inr rfl,_,rfl,rfl⟩
   ·refine zae ?_
    refine zad ?_;refine zau (n:=((i + 1:Nat):Int)) rfl rfl rfl (by omega) (by omega) ?_;refine mN ?_;exact ⟨ns.length - (i + 1),by omega,i + 1,hil,rfl,⟨rfl,rfl,rfl,rfl,trivial⟩,by rw [<- hx,ixF_no hil (fun e => hc e.symm)]⟩
  ·refine zaH ?_
   have:i = ns.length:=by omega
   subst this;rw [ixF_end] at hx;exact hx.symm
 intro tm bx nt live hx;refine mP ?_;rw [hx];exact zab ⟨.inr rfl,_,rfl,rfl⟩
theorem ziN (ns:List (List UInt8)) (key:List UInt8) (hl:ns.length <= 4294967295):FnV (env T hT) 173 [.d (pSs ns),.d (pS key)] (.d (pB (decide (key ∈ ns)))):=by
 refine zaC (zag zcT) (by show 2 <= 9; decide) fun B hB => ?_
 unfold m_slices_Contains_impl_Names_string;refine mP ?_;refine mO ?_;(iterate 2 refine mS ?_);refine zaf (ks_arg ns key) (indexN_fn ns key hl) ?_;refine po_b rfl rfl (fun b1 hb1 => ?_);refine mN ?_
 have:decide (key ∈ ns) = b1:=by rw [hb1]; exact decide_eq_decide.2 (ixF_memN ns key 0).symm
 rw [this];exact zab ⟨.inr rfl,_,rfl,rfl⟩
theorem toki_fn (hTab:∀ w,T w -> Tabs w) (l:List UInt8) (hl:l.length <= 4294967295):FnV (env T hT) 172 [.d (pS l)] (.d (pB (validD l))):=by
 refine FnV.old rfl fun w C vs hF _ ht hlen hv => ?_
 match vs,hlen with
 | [x],_ =>
  have h1:=zbM (hv 0 _ _ rfl rfl);subst h1;exact zfd l w hl (hTab w ht)
def NiI (ns:List (List UInt8)) (m:Nat) (st:St):Prop:=∃ i:Nat,i <= ns.length /\ m = ns.length - i /\ has st.tm [(0,.d (pSs ns)),(5,.d (pSs ns)),(6,.d (pI ns.length)),(7,.d (pI i))] /\ allN i (nmB ns) = true /\ i <= 100
theorem dats_S {l:List UInt8} {a:PV} (ha:a = .d (pS l)):PV.dats [a] = some [.d (pS l)]:=by subst ha; rfl
set_option maxHeartbeats 1000000 in
theorem zju (hTab:∀ w,T w -> Tabs w) (ns:List (List UInt8)) (hl:ns.length <= 4294967295) (hbn:∀ n ∈ ns,n.length <= 4294967295):FnV (env T hT) 129 [.d (pSs ns)] (.d (pB (nmsB ns))):=by
 refine zaC (zag ziG) (by show 1 <= 32; decide) fun B hB => ?_
 unfold m_i_NamesOk;refine mP ?_;refine zaq (fun s => nmsB ns = true) ?_ ?_
 ·refine mQ ?_
  refine zaB (n:=ns.length) rfl rfl (za0 ns) ?_;refine mN ?_;refine zai ?_;refine zav (NiI ns) ns.length ⟨0,Nat.zero_le _,rfl,⟨rfl,rfl,rfl,rfl,trivial⟩,rfl,Nat.zero_le _⟩ ?_;rintro m tm bx nt live ⟨i,hi,rfl,ht,hall,hi100⟩;obtain ⟨tm0,rfl⟩:=zaj ht;refine mO ?_;refine po_b rfl rfl (fun b hb => ?_);refine zac ?_;refine zaa ?_;refine zb4 (p:=(i:Int) < ns.length) hb rfl (fun h _ => ?_) (fun h _ => ?_)
  ·have hil:i < ns.length:=by omega
   have hg:=za2 hil [];have hno:=nmsB_no hil;unfold nmB at hno;rw [hg] at hno;have htk:=toki_fn (T:=T) (hT:=hT) hTab ns[i] (hbn ns[i] (List.getElem_mem hil));refine zae ?_;refine zaa (zai (zaa (zad ?_)));refine mS ?_;refine za3 (es:=pSr ns) (e:=[pS ns[i]]) rfl rfl rfl ⟨by omega,by rw [Int.toNat_natCast]; exact zcc hil⟩ rfl ?_;refine mN ?_;refine mQ ?_;refine po_q (v:=.d (pI ns[i].length)) rfl rfl ?_;by_cases h100:ns[i].length > 100
   ·have hF:=hno (by rw [decide_eq_false (show ¬ ns[i].length <= 100 by omega)]; simp)
    refine zak rfl rfl (decide_eq_true (by omega)) ?_;refine mS ?_
    iterate 3 (refine zah rfl ?_)
    (iterate 2 refine mS ?_)
    iterate 2 (refine zah rfl ?_)
    (iterate 2 refine mS ?_)
    iterate 5 (refine zah rfl ?_)
    refine mN ?_;refine mwT ?_;refine mP ?_;rw [hF];exact zab ⟨.inr rfl,_,rfl,rfl⟩
   refine zam rfl rfl (decide_eq_false (by omega)) ?_;(iterate 2 refine mS ?_);refine zaD (b:=true) (args:=[.d (pS ns[i])]) rfl (fun _ => dats_S rfl) (fun _ => htk) ?_;(iterate 3 refine mS ?_)
   cases hv:validD ns[i] with
   | false =>
    have hF:=hno (by rw [hv]; rfl)
    iterate 2 (refine zah rfl ?_)
    (iterate 2 refine mS ?_)
    iterate 5 (refine zah rfl ?_)
    refine mN ?_;refine mwT ?_;refine mP ?_;rw [hF]
    exact zab ⟨.inr rfl,_,rfl,rfl⟩
   | true =>
   refine mS ?_;by_cases hge:(i:Int) ≥ 100
   ·have hF:nmsB ns = false:=by unfold nmsB; rw [decide_eq_false (by omega)]; rfl
    refine zak rfl rfl (decide_eq_true (by omega)) ?_;(iterate 2 refine mS ?_)
    iterate 5 (refine zah rfl ?_)
    refine mN ?_;refine mwT ?_;refine mP ?_;rw [hF];exact zab ⟨.inr rfl,_,rfl,rfl⟩
   refine zam rfl rfl (decide_eq_false (by omega)) ?_;(iterate 4 refine mS ?_);refine po_slcg (t:=0) (l:=0) (h:=i) (es:=pSr ns) (rs:=pSr (ns.take i)) rfl rfl rfl (zax (i:=(i:Int)) rfl rfl) (by rw [za0]; omega) (zcX ns) (by rw [List.drop_zero,Nat.sub_zero]; unfold pSr; rw [List.map_take]) ?_;refine mS ?_;refine zaD (b:=true) (args:=[.d (pSs (ns.take i)),.d (pS ns[i])]) rfl (fun _ => dats_ks rfl rfl) (fun _ => ziN _ _ (by rw [List.length_take]; omega)) ?_;refine mN ?_;have hf:=ziM ns i hil 0;rw [Nat.zero_add] at hf;refine zeD (p:=ns[i] ∈ ns.take i) rfl (fun hc => ?_) (fun hc => ?_)
   ·have hF:=hno (by rw [decide_eq_false (show ¬ ixF ns ns[i] 0 = (i:Int) from fun e => hf.1 e hc)]; simp)
    refine mP ?_;rw [hF];exact zab ⟨.inr rfl,_,rfl,rfl⟩
   ·refine zae ?_
    refine zad ?_;refine zau (n:=((i + 1:Nat):Int)) rfl rfl rfl (by omega) (by omega) ?_;refine mN ?_;exact ⟨ns.length - (i + 1),by omega,i + 1,hil,rfl,⟨rfl,rfl,rfl,rfl,trivial⟩,zeF hall (by unfold nmB; rw [hg,hv,decide_eq_true (show ns[i].length <= 100 by omega),decide_eq_true (show ixF ns ns[i] 0 = (i:Int) from hf.2 hc)]; rfl),by omega⟩
  ·refine zaH ?_
   have:i = ns.length:=by omega
   subst this;show nmsB ns = true;unfold nmsB;rw [decide_eq_true hi100,hall]; rfl
 intro tm bx nt live hF;refine mP ?_;rw [hF];exact zab ⟨.inr rfl,_,rfl,rfl⟩
end
/- PvH1M -/
section
set_option maxRecDepth 100000
def m_i_PutMsg:M:=.seq (.ops [qo 1 (.box (.t 0)),
 ⟨some 2,.mv (.c (.string ⟨[].toArray⟩)),none,[]⟩])
 (.seq (.seq (.ops [qo 4 (.load true 5 (.t 1)),
 ⟨some 5,.call 87 [.t 4],none,[.f 1]⟩,
 qo 6 (.not (.t 5))])
 (.cond (.t 6) (.seq (.ops [⟨some 2,.mv (.c (.string ⟨[].toArray⟩)),none,[]⟩])
 (.ret))
 (.skip)))
 (.seq (.ops [qo 3 (.zbld 152 5)])
 (.seq (.ops [qo 7 (.load true 5 (.t 1)),
 ⟨some 8,.call 133 [.t 3,.t 7],none,[.f 1]⟩])
 (.seq (.ops [⟨some 9,.call 134 [.t 3],none,[.f 1]⟩,
 qo 2 (.mv (.t 9))])
 (.ret)))))
theorem zjv:look Tryz.prog 128 = some (10,m_i_PutMsg,[.tm 2]):=by kernel_rfl
def m_i_putMsg:M:=.seq (.ops [qo 3 (.box (.t 1))])
 (.seq (.seq (.ops [qo 6 (.fld 0 (.t 3)),
 qo 7 (.load false 1 (.t 6))])
 (.block 0 (.seq (.ops [qo 9 (.bin .eql false (.t 7) (ci 0)),
 qo 8 (.mv (.t 9))])
 (.cond (.t 8) (.ops [qo 10 (.mv (.t 0)),
 ⟨some 11,.call 179 [.t 10,.c (.int .u8 192)],none,[.f 1]⟩])
 (.seq (.ops [qo 13 (.bin .eql false (.t 7) (ci 1)),
 qo 12 (.mv (.t 13))])
 (.cond (.t 12) (.ops [qo 14 (.mv (.t 0)),
 ⟨some 15,.call 179 [.t 14,.c (.int .u8 194)],none,[.f 1]⟩])
 (.seq (.ops [qo 17 (.bin .eql false (.t 7) (ci 2)),
 qo 16 (.mv (.t 17))])
 (.cond (.t 16) (.ops [qo 18 (.mv (.t 0)),
 ⟨some 19,.call 179 [.t 18,.c (.int .u8 195)],none,[.f 1]⟩])
 (.seq (.ops [qo 21 (.bin .eql false (.t 7) (ci 3)),
 qo 20 (.mv (.t 21))])
 (.cond (.t 20) (.ops [qo 22 (.mv (.t 0)),
 qo 23 (.fld 1 (.t 3)),
 qo 24 (.load false 1 (.t 23)),
 ⟨some 25,.call 180 [.t 24],none,[.f 1]⟩,
 ⟨some 26,.call 131 [.t 22,.t 25],none,[.f 1]⟩])
 (.seq (.ops [qo 28 (.bin .eql false (.t 7) (ci 5)),
 qo 27 (.mv (.t 28))])
 (.cond (.t 27) (.ops [qo 29 (.mv (.t 0)),
 qo 30 (.fld 3 (.t 3)),
 qo 31 (.load false 1 (.t 30)),
 qo 32 (.lens (.t 31)),
 qo 34 (.fld 3 (.t 3)),
 qo 35 (.load false 1 (.t 34)),
 ⟨some 33,.call 181 [.t 32,ci 160,ci 32,ci 217,ci 218],none,[.f 0,.t 34]⟩,
 qo 36 (.bin .add false (.t 33) (.t 35)),
 ⟨some 37,.call 131 [.t 29,.t 36],none,[.f 0]⟩])
 (.seq (.ops [qo 39 (.bin .eql false (.t 7) (ci 6)),
 qo 38 (.mv (.t 39))])
 (.cond (.t 38) (.ops [qo 40 (.mv (.t 0)),
 qo 41 (.fld 3 (.t 3)),
 qo 42 (.load false 1 (.t 41)),
 qo 43 (.lens (.t 42)),
 qo 45 (.fld 3 (.t 3)),
 qo 46 (.load false 1 (.t 45)),
 ⟨some 44,.call 181 [.t 43,ci 0,ci 0,ci 196,ci 197],none,[.f 0,.t 45]⟩,
 qo 47 (.bin .add false (.t 44) (.t 46)),
 ⟨some 48,.call 131 [.t 40,.t 47],none,[.f 0]⟩])
 (.seq (.ops [qo 50 (.bin .eql false (.t 7) (ci 7)),
 qo 49 (.mv (.t 50))])
 (.cond (.t 49) (.ops [qo 51 (.mv (.t 0)),
 qo 52 (.fld 4 (.t 3)),
 qo 53 (.load false 1 (.t 52)),
 qo 54 (.len (.t 53)),
 ⟨some 55,.call 181 [.t 54,ci 144,ci 16,ci 0,ci 220],none,[.f 1]⟩,
 ⟨some 56,.call 131 [.t 51,.t 55],none,[.f 1]⟩])
 (.seq (.ops [qo 58 (.bin .eql false (.t 7) (ci 8)),
 qo 57 (.mv (.t 58))])
 (.cond (.t 57) (.ops [qo 59 (.mv (.t 0)),
 qo 60 (.fld 4 (.t 3)),
 qo 61 (.load false 1 (.t 60)),
 qo 62 (.len (.t 61)),
 qo 63 (.bin .quo false (.t 62) (ci 2)),
 ⟨some 64,.call 181 [.t 63,ci 128,ci 16,ci 0,ci 222],none,[.f 1]⟩,
 ⟨some 65,.call 131 [.t 59,.t 64],none,[.f 1]⟩])
 (.seq (.ops [qo 67 (.bin .eql false (.t 7) (ci 4)),
 qo 66 (.mv (.t 67))])
 (.cond (.t 66) (.tree (.node [qo 68 (.mv (.t 0)),
 qo 71 (.fld 2 (.t 3)),
 qo 72 (.load false 1 (.t 71)),
 qo 75 (.fld 1 (.t 3)),
 qo 76 (.load false 1 (.t 75))] (.alt (qo 69 (.lit 1 [.c (.int .u8 199),.c (.int .u8 9),.c (.int .u8 4)])) (.node [qo 70 (.b2s (.t 69))] (.alt ⟨some 73,.call 178 [.t 72,ci 1],none,[.f 0,.t 75]⟩ (.node [qo 74 (.bin .add false (.t 70) (.t 73))] (.alt ⟨some 77,.call 178 [.t 76,ci 8],none,[.f 0]⟩ (.node [qo 78 (.bin .add false (.t 74) (.t 77))] (.alt ⟨some 79,.call 131 [.t 68,.t 78],none,[.f 0]⟩ (.node [] (.leaf))
 (.leaf)))
 (.leaf)))
 (.leaf)))
 (.alt ⟨some 73,.call 178 [.t 72,ci 1],none,[.f 0,.t 75]⟩ (.node [] (.alt (qo 69 (.lit 1 [.c (.int .u8 199),.c (.int .u8 9),.c (.int .u8 4)])) (.node [qo 70 (.b2s (.t 69)),
 qo 74 (.bin .add false (.t 70) (.t 73))] (.alt ⟨some 77,.call 178 [.t 76,ci 8],none,[.f 0]⟩ (.node [qo 78 (.bin .add false (.t 74) (.t 77))] (.alt ⟨some 79,.call 131 [.t 68,.t 78],none,[.f 0]⟩ (.node [] (.leaf))
 (.leaf)))
 (.leaf)))
 (.alt ⟨some 77,.call 178 [.t 76,ci 8],none,[.f 0]⟩ (.node [] (.alt (qo 69 (.lit 1 [.c (.int .u8 199),.c (.int .u8 9),.c (.int .u8 4)])) (.node [qo 70 (.b2s (.t 69)),
 qo 74 (.bin .add false (.t 70) (.t 73)),
 qo 78 (.bin .add false (.t 74) (.t 77))] (.alt ⟨some 79,.call 131 [.t 68,.t 78],none,[.f 0]⟩ (.node [] (.leaf))
 (.leaf)))
 (.leaf)))
 (.leaf))))
 (.leaf)))))
 (.seq (.ops [qo 81 (.bin .eql false (.t 7) (ci 9)),
 qo 80 (.mv (.t 81))])
 (.cond (.t 80) (.tree (.node [qo 82 (.mv (.t 0)),
 qo 85 (.fld 1 (.t 3)),
 qo 86 (.load false 1 (.t 85))] (.alt (qo 83 (.lit 1 [.c (.int .u8 199),.c (.int .u8 4),.c (.int .u8 6)])) (.node [qo 84 (.b2s (.t 83))] (.alt ⟨some 87,.call 178 [.t 86,ci 4],none,[.f 0]⟩ (.node [qo 88 (.bin .add false (.t 84) (.t 87))] (.alt ⟨some 89,.call 131 [.t 82,.t 88],none,[.f 0]⟩ (.node [] (.leaf))
 (.leaf)))
 (.leaf)))
 (.alt ⟨some 87,.call 178 [.t 86,ci 4],none,[.f 0]⟩ (.node [] (.alt (qo 83 (.lit 1 [.c (.int .u8 199),.c (.int .u8 4),.c (.int .u8 6)])) (.node [qo 84 (.b2s (.t 83)),
 qo 88 (.bin .add false (.t 84) (.t 87))] (.alt ⟨some 89,.call 131 [.t 82,.t 88],none,[.f 0]⟩ (.node [] (.leaf))
 (.leaf)))
 (.leaf)))
 (.leaf)))))
 (.skip)))))))))))))))))))))))
 (.seq (.ops [qo 90 (.fld 4 (.t 3)),
 qo 91 (.load false 1 (.t 90)),
 qo 92 (.len (.t 91)),
 qo 93 (.mv (ci 0))])
 (.block 1 (.loop (.seq (.ops [qo 94 (.bin .lss false (.t 93) (.t 92))])
 (.seq (.cond (.t 94) (.skip)
 (.exit 1))
 (.seq (.block 2 (.seq (.ops [qo 95 (.ix 5 (.t 91) (.t 93)),
 qo 96 (.load true 5 (.t 95)),
 ⟨some 5,.zero [.int .i64 0,.int .i64 0,.int .i64 0,.string ⟨[].toArray⟩,.slice none 0 0],none,[]⟩,
 ⟨none,.store 5 (.t 5) (.t 96),none,[]⟩])
 (.ops [qo 97 (.mv (.t 0)),
 qo 98 (.load true 5 (.t 5)),
 ⟨some 99,.call 133 [.t 97,.t 98],none,[.f 1]⟩])))
 (.ops [qo 100 (.bin .add false (.t 93) (ci 1)),
 qo 93 (.mv (.t 100))]))))))))
theorem zjw:look Tryz.prog 133 = some (101,m_i_putMsg,[]):=by kernel_rfl
def m_i_SignOf:M:=.seq (.ops [qo 4 (.mv (ci 0))])
 (.seq (.seq (.ops [qo 6 (.mv (.t 1)),
 ⟨some 7,.call 126 [.t 6,ci 1,ci 8],none,[.f 1]⟩,
 qo 8 (.not (.t 7))])
 (.cond (.t 8) (.seq (.ops [qo 9 (.mv (.t 0)),
 qo 4 (.mv (.t 9))])
 (.ret))
 (.skip)))
 (.seq (.ops [qo 10 (.mv (.t 1)),
 qo 11 (.bin .mul false (ci 8) (.t 10)),
 qo 12 (.bin .sub false (ci 64) (.t 11)),
 qo 5 (.mv (.t 12))])
 (.seq (.ops [qo 13 (.mv (.t 0)),
 qo 14 (.mv (.t 5)),
 qo 15 (.bin .shl false (.t 13) (.t 14)),
 qo 16 (.mv (.t 5)),
 qo 17 (.bin .shr false (.t 15) (.t 16)),
 qo 4 (.mv (.t 17))])
 (.ret))))
theorem zjx:look Tryz.prog 170 = some (18,m_i_SignOf,[.tm 4]):=by kernel_rfl
def m_i_putNumber:M:=.seq (.ops [⟨some 2,.mv (.c (.string ⟨[].toArray⟩)),none,[]⟩])
 (.seq (.seq (.ops [qo 5 (.mv (.t 0)),
 ⟨some 6,.call 126 [.t 5,ci (-32),ci 127],none,[.f 1]⟩])
 (.cond (.t 6) (.seq (.ops [qo 7 (.mv (.t 0)),
 ⟨some 8,.call 178 [.t 7,ci 1],none,[.f 1]⟩,
 qo 2 (.mv (.t 8))])
 (.ret))
 (.skip)))
 (.seq (.seq (.ops [qo 9 (.lit 1 [ci 1,ci 2,ci 4,ci 8]),
 qo 10 (.len (.t 9)),
 qo 11 (.mv (ci 0))])
 (.block 0 (.loop (.seq (.ops [qo 12 (.bin .lss false (.t 11) (.t 10))])
 (.seq (.cond (.t 12) (.skip)
 (.exit 0))
 (.seq (.block 1 (.seq (.ops [qo 13 (.mv (.t 11)),
 qo 14 (.ix 1 (.t 9) (.t 11)),
 qo 15 (.load false 1 (.t 14)),
 qo 3 (.mv (.t 13)),
 qo 4 (.mv (.t 15))])
 (.block 2 (.seq (.ops [qo 17 (.mv (.t 0)),
 qo 18 (.bin .geq false (.t 17) (ci 0)),
 qo 19 (.mv (.t 18)),
 ⟨some 20,.mv (.t 4),some (19,true),[]⟩,
 ⟨some 21,.bin .eql false (.t 20) (ci 8),some (19,true),[]⟩,
 ⟨some 22,.mv (.t 21),some (19,true),[]⟩,
 ⟨some 23,.mv (.t 0),some (22,false),[]⟩,
 ⟨some 24,.mv (.t 4),some (22,false),[]⟩,
 ⟨some 25,.bin .mul false (ci 8) (.t 24),some (22,false),[]⟩,
 ⟨some 26,.bin .shl false (ci 1) (.t 25),some (22,false),[]⟩,
 ⟨some 27,.bin .lss false (.t 23) (.t 26),some (22,false),[]⟩,
 ⟨some 28,.pick (.t 22) (.c (.bool true)) (.t 27),some (19,true),[]⟩,
 qo 29 (.pick (.t 19) (.t 28) (.c (.bool false))),
 qo 16 (.mv (.t 29))])
 (.cond (.t 16) (.seq (.tree (.node [qo 30 (.mv (.t 3)),
 qo 31 (.bin .add false (ci 204) (.t 30)),
 qo 32 (.conv .u8 (.t 31)),
 qo 35 (.mv (.t 0)),
 qo 36 (.mv (.t 4))] (.alt (qo 33 (.lit 1 [.t 32])) (.node [qo 34 (.b2s (.t 33))] (.alt ⟨some 37,.call 178 [.t 35,.t 36],none,[.f 0]⟩ (.node [qo 38 (.bin .add false (.t 34) (.t 37)),
 qo 2 (.mv (.t 38))] (.leaf))
 (.leaf)))
 (.alt ⟨some 37,.call 178 [.t 35,.t 36],none,[.f 0]⟩ (.node [] (.alt (qo 33 (.lit 1 [.t 32])) (.node [qo 34 (.b2s (.t 33)),
 qo 38 (.bin .add false (.t 34) (.t 37)),
 qo 2 (.mv (.t 38))] (.leaf))
 (.leaf)))
 (.leaf)))))
 (.ret))
 (.seq (.ops [qo 40 (.mv (.t 0)),
 qo 41 (.bin .lss false (.t 40) (ci 0)),
 qo 42 (.mv (.t 41)),
 ⟨some 43,.mv (.t 0),some (42,true),[]⟩,
 ⟨some 44,.mv (.t 4),some (42,true),[]⟩,
 ⟨some 45,.call 170 [.t 43,.t 44],some (42,true),[.f 1]⟩,
 ⟨some 46,.mv (.t 0),some (42,true),[]⟩,
 ⟨some 47,.bin .eql false (.t 45) (.t 46),some (42,true),[]⟩,
 qo 48 (.pick (.t 42) (.t 47) (.c (.bool false))),
 qo 39 (.mv (.t 48))])
 (.cond (.t 39) (.seq (.tree (.node [qo 49 (.mv (.t 3)),
 qo 50 (.bin .add false (ci 208) (.t 49)),
 qo 51 (.conv .u8 (.t 50)),
 qo 54 (.mv (.t 0)),
 qo 55 (.mv (.t 4))] (.alt (qo 52 (.lit 1 [.t 51])) (.node [qo 53 (.b2s (.t 52))] (.alt ⟨some 56,.call 178 [.t 54,.t 55],none,[.f 0]⟩ (.node [qo 57 (.bin .add false (.t 53) (.t 56)),
 qo 2 (.mv (.t 57))] (.leaf))
 (.leaf)))
 (.alt ⟨some 56,.call 178 [.t 54,.t 55],none,[.f 0]⟩ (.node [] (.alt (qo 52 (.lit 1 [.t 51])) (.node [qo 53 (.b2s (.t 52)),
 qo 57 (.bin .add false (.t 53) (.t 56)),
 qo 2 (.mv (.t 57))] (.leaf))
 (.leaf)))
 (.leaf)))))
 (.ret))
 (.skip))))))))
 (.ops [qo 58 (.bin .add false (.t 11) (ci 1)),
 qo 11 (.mv (.t 58))])))))))
 (.seq (.ops [⟨some 2,.mv (.c (.string ⟨[].toArray⟩)),none,[]⟩])
 (.ret))))
theorem zg5:look Tryz.prog 180 = some (59,m_i_putNumber,[.tm 2]):=by kernel_rfl
def m_i_putLength:M:=.seq (.ops [⟨some 10,.mv (.c (.string ⟨[].toArray⟩)),none,[]⟩])
 (.seq (.block 0 (.seq (.ops [qo 12 (.mv (.t 0)),
 qo 13 (.mv (.t 2)),
 qo 14 (.bin .lss false (.t 12) (.t 13)),
 qo 11 (.mv (.t 14))])
 (.cond (.t 11) (.seq (.ops [qo 15 (.mv (.t 1)),
 qo 16 (.mv (.t 0)),
 qo 17 (.bin .add false (.t 15) (.t 16)),
 qo 18 (.conv .u8 (.t 17)),
 qo 19 (.lit 1 [.t 18]),
 qo 20 (.b2s (.t 19)),
 qo 10 (.mv (.t 20))])
 (.ret))
 (.seq (.ops [qo 22 (.mv (.t 0)),
 qo 23 (.bin .lss false (.t 22) (ci 256)),
 qo 24 (.mv (.t 23)),
 ⟨some 25,.mv (.t 3),some (24,true),[]⟩,
 ⟨some 26,.bin .gtr false (.t 25) (ci 0),some (24,true),[]⟩,
 qo 27 (.pick (.t 24) (.t 26) (.c (.bool false))),
 qo 21 (.mv (.t 27))])
 (.cond (.t 21) (.seq (.tree (.node [qo 28 (.mv (.t 3)),
 qo 29 (.conv .u8 (.t 28)),
 qo 32 (.mv (.t 0))] (.alt (qo 30 (.lit 1 [.t 29])) (.node [qo 31 (.b2s (.t 30))] (.alt ⟨some 33,.call 178 [.t 32,ci 1],none,[.f 0]⟩ (.node [qo 34 (.bin .add false (.t 31) (.t 33)),
 qo 10 (.mv (.t 34))] (.leaf))
 (.leaf)))
 (.alt ⟨some 33,.call 178 [.t 32,ci 1],none,[.f 0]⟩ (.node [] (.alt (qo 30 (.lit 1 [.t 29])) (.node [qo 31 (.b2s (.t 30)),
 qo 34 (.bin .add false (.t 31) (.t 33)),
 qo 10 (.mv (.t 34))] (.leaf))
 (.leaf)))
 (.leaf)))))
 (.ret))
 (.skip))))))
 (.seq (.tree (.node [qo 35 (.mv (.t 4)),
 qo 36 (.conv .u8 (.t 35)),
 qo 39 (.mv (.t 0))] (.alt (qo 37 (.lit 1 [.t 36])) (.node [qo 38 (.b2s (.t 37))] (.alt ⟨some 40,.call 178 [.t 39,ci 2],none,[.f 0]⟩ (.node [qo 41 (.bin .add false (.t 38) (.t 40)),
 qo 10 (.mv (.t 41))] (.leaf))
 (.leaf)))
 (.alt ⟨some 40,.call 178 [.t 39,ci 2],none,[.f 0]⟩ (.node [] (.alt (qo 37 (.lit 1 [.t 36])) (.node [qo 38 (.b2s (.t 37)),
 qo 41 (.bin .add false (.t 38) (.t 40)),
 qo 10 (.mv (.t 41))] (.leaf))
 (.leaf)))
 (.leaf)))))
 (.ret)))
theorem zg6:look Tryz.prog 181 = some (42,m_i_putLength,[.tm 10]):=by kernel_rfl
end
/- PvH1 -/
section
variable {T:World -> Prop} {hT:Low ngl T}
attribute [local irreducible] po mw pt
theorem pS_inv {C:Cx} {W:World} {l:List UInt8} {y:Value} (h:RpV C W (.d (pS l)) y):y = .string ⟨l.toArray⟩:=by
 cases h with
 | d _ _ h => cases h; rfl
theorem zct (n a b:Int):FnV (env T hT) 126 [.d (pI n),.d (pI a),.d (pI b)] (.d (pB (decide (a <= n /\ n <= b)))):=by
 refine FnV.old rfl fun w C vs hF _ _ hlen hv => ?_
 match vs,hlen with
 | [x,y,z],_ =>
  have h1:=zbK (hv 0 _ _ rfl rfl); have h2:=zbK (hv 1 _ _ rfl rfl); have h3:=zbK (hv 2 _ _ rfl rfl)
  subst h1; subst h2; subst h3
  refine (zbV n a b w).mono ?_;rintro e w' ⟨rfl,rfl⟩;refine ⟨?_,Below.refl _ _⟩;by_cases h:a <= n /\ n <= b
  ·rw [zbi h,decide_eq_true h]
  ·rw [zcS h,decide_eq_false h]
theorem zjy (n k:Int) (hk:1 <= k /\ k <= 8) (hn:i64ok n):FnV (env T hT) 178 [.d (pI n),.d (pI k)] (.d (pS (be k.toNat (lo64 n)))):=by
 refine FnV.old rfl fun w C vs hF _ _ hlen hv => ?_
 match vs,hlen with
 | [x,y],_ =>
  have h1:=zbK (hv 0 _ _ rfl rfl); have h2:=zbK (hv 1 _ _ rfl rfl)
  subst h1; subst h2
  exact zgD n k w hk hn
theorem ziO {E:Env} {K:St -> Prop} {tm:Nat -> PV} {bx:List (List PC)} {nt d:Nat} {live:List Nat} {r:List MOpr} {g:Option (Nat × Bool)} {c:List X} {x y:X} {a b n:Int} (hg:gd g tm = some true) (hx:ev tm x = .d (pI a)) (hy:ev tm y = .d (pI b)) (hb:0 <= b) (hn:IntKind.wrap .i64 (a * 2 ^ (min b.toNat 64)) = n) (h:po E r K ⟨up d (.d (pI n)) tm,bx,nt,live⟩):po E (⟨some d,.bin .shl false x y,g,c⟩ :: r) K ⟨tm,bx,nt,live⟩:=by
 refine po_q hg ?_ h;subst hn;simp only [qf,hx,hy,pI];show Option.map _ (if b < 0 then none else some (Value.int .i64 (IntKind.wrap .i64 (a * 2 ^ (min b.toNat 64))))) = _;rw [if_neg (by omega)]; rfl
theorem zd8 (a:Int) (b:Int) (hb:0 < b):a.fdiv b = a / b:=Int.fdiv_eq_ediv_of_nonneg a (by omega)
theorem shsh (n:Int) (k:Nat) (hk:1 <= k /\ k <= 8) (hn:i64ok n):(IntKind.wrap .i64 (n * 2 ^ (min (64 - 8 * (k:Int)).toNat IntKind.i64.bits))).fdiv (2 ^ (min (64 - 8 * (k:Int)).toNat IntKind.i64.bits)) = sgw n k:=by
 have hb:IntKind.i64.bits = 64:=rfl;obtain ⟨hn1,hn2⟩:=hn;have hc:k = 1 \/ k = 2 \/ k = 3 \/ k = 4 \/ k = 5 \/ k = 6 \/ k = 7 \/ k = 8:=by omega
 rw [hb]
 rcases hc with rfl | rfl | rfl | rfl | rfl | rfl | rfl | rfl
 ·rw [show (2:Int) ^ (min (64 - 8 * ((1:Nat):Int)).toNat 64) = 72057594037927936 from rfl,zd8 _ _ (by decide),IntKind.wrap_i64]
  unfold sgw;rw [if_pos (by decide),show ((256 ^ 1:Nat):Int) = 256 from rfl,show ((256 ^ 1 / 2:Nat):Int) = 128 from rfl]
  split <;> omega
 ·rw [show (2:Int) ^ (min (64 - 8 * ((2:Nat):Int)).toNat 64) = 281474976710656 from rfl,zd8 _ _ (by decide),IntKind.wrap_i64]
  unfold sgw;rw [if_pos (by decide),show ((256 ^ 2:Nat):Int) = 65536 from rfl,show ((256 ^ 2 / 2:Nat):Int) = 32768 from rfl]
  split <;> omega
 ·rw [show (2:Int) ^ (min (64 - 8 * ((3:Nat):Int)).toNat 64) = 1099511627776 from rfl,zd8 _ _ (by decide),IntKind.wrap_i64]
  unfold sgw;rw [if_pos (by decide),show ((256 ^ 3:Nat):Int) = 16777216 from rfl,show ((256 ^ 3 / 2:Nat):Int) = 8388608 from rfl]
  split <;> omega
 ·rw [show (2:Int) ^ (min (64 - 8 * ((4:Nat):Int)).toNat 64) = 4294967296 from rfl,zd8 _ _ (by decide),IntKind.wrap_i64]
  unfold sgw;rw [if_pos (by decide),show ((256 ^ 4:Nat):Int) = 4294967296 from rfl,show ((256 ^ 4 / 2:Nat):Int) = 2147483648 from rfl]
  split <;> omega
 ·rw [show (2:Int) ^ (min (64 - 8 * ((5:Nat):Int)).toNat 64) = 16777216 from rfl,zd8 _ _ (by decide),IntKind.wrap_i64]
  unfold sgw;rw [if_pos (by decide),show ((256 ^ 5:Nat):Int) = 1099511627776 from rfl,show ((256 ^ 5 / 2:Nat):Int) = 549755813888 from rfl]
  split <;> omega
 ·rw [show (2:Int) ^ (min (64 - 8 * ((6:Nat):Int)).toNat 64) = 65536 from rfl,zd8 _ _ (by decide),IntKind.wrap_i64]
  unfold sgw;rw [if_pos (by decide),show ((256 ^ 6:Nat):Int) = 281474976710656 from rfl,show ((256 ^ 6 / 2:Nat):Int) = 140737488355328 from rfl]
  split <;> omega
 ·rw [show (2:Int) ^ (min (64 - 8 * ((7:Nat):Int)).toNat 64) = 256 from rfl,zd8 _ _ (by decide),IntKind.wrap_i64]
  unfold sgw;rw [if_pos (by decide),show ((256 ^ 7:Nat):Int) = 72057594037927936 from rfl,show ((256 ^ 7 / 2:Nat):Int) = 36028797018963968 from rfl]
  split <;> omega
 ·rw [show (2:Int) ^ (min (64 - 8 * ((8:Nat):Int)).toNat 64) = 1 from rfl,zd8 _ _ (by decide),IntKind.wrap_i64]
  unfold sgw;rw [if_neg (by decide)]; omega
theorem zhV (n:Int) (k:Nat) (hk:1 <= k /\ k <= 8) (hn:i64ok n):FnV (env T hT) 170 [.d (pI n),.d (pI k)] (.d (pI (sgw n k))):=by
 refine zaC (zag zjx) (by show 2 <= 18; decide) fun B hB => ?_
 unfold m_i_SignOf;refine mP ?_;refine zaa (zaa (zad ?_));refine mN ?_;refine zaf rfl (zct k 1 8) ?_;rw [decide_eq_true (show (1:Int) <= k /\ (k:Int) <= 8 by omega)];refine mN ?_;refine mwF ?_;refine zae ?_;refine mQ ?_;refine zft (n:=8 * (k:Int)) rfl rfl rfl rfl (by omega) ?_;refine zaJ (n:=64 - 8 * (k:Int)) rfl rfl rfl rfl (by omega) ?_;refine mN ?_;refine mO ?_;(iterate 2 refine mS ?_)
 refine po_q (v:=.d (pI (IntKind.wrap .i64 (n * 2 ^ (min (64 - 8 * (k:Int)).toNat IntKind.i64.bits))))) rfl (by
  show Option.map _ (if 64 - 8 * (k:Int) < 0 then none else some (Value.int .i64 (IntKind.wrap .i64 (n * 2 ^ (min (64 - 8 * (k:Int)).toNat IntKind.i64.bits))))) = _;rw [if_neg (by omega)]; rfl) ?_
 refine mS ?_
 refine po_q (v:=.d (pI (sgw n k))) rfl (by
  show Option.map _ (if 64 - 8 * (k:Int) < 0 then none else some (Value.int .i64 ((IntKind.wrap .i64 (n * 2 ^ (min (64 - 8 * (k:Int)).toNat IntKind.i64.bits))).fdiv (2 ^ (min (64 - 8 * (k:Int)).toNat IntKind.i64.bits))))) = _;rw [if_neg (by omega),shsh n k hk hn]; rfl) ?_
 refine mN ?_;exact zab ⟨.inr rfl,_,rfl,rfl⟩
def pnP:Nat -> Int
 | 0 => 128 | 1 => 256 | 2 => 65536 | _ => 4294967296
def pnN:Nat -> Int
 | 0 => -32 | 1 => -128 | 2 => -32768 | _ => -2147483648
def PnI (n:Int) (m:Nat) (s:St):Prop:=∃ i:Nat,i <= 3 /\ m = 4 - i /\ (0 <= n -> pnP i <= n) /\ (n < 0 -> n < pnN i) /\ has s.tm [(0,.d (pI n)),(9,.d (.sl 2 [[pI 1],[pI 2],[pI 4],[pI 8]])),(10,.d (pI 4)),(11,.d (pI i))]
set_option maxHeartbeats 1000000 in
theorem putNum_fn (n:Int) (hn:i64ok n):FnV (env T hT) 180 [.d (pI n)] (.d (pS (msgInt n))):=by
 have hput:=fun (k:Int) (hk:1 <= k /\ k <= 8) => zjy (T:=T) (hT:=hT) n k hk hn
 have hsg:=fun (k:Nat) (hk:1 <= k /\ k <= 8) => zhV (T:=T) (hT:=hT) n k hk hn
 obtain ⟨hn1,hn2⟩:=hn;refine zaC (zag zg5) (by show 1 <= 59; decide) fun B hB => ?_
 unfold m_i_putNumber;refine mP ?_;refine zaa (zaa (zad ?_));refine mN ?_;refine zaf rfl (zct n (-32) 127) ?_;refine zac ?_;refine zeD (p:=-32 <= n /\ n <= 127) rfl (fun h => ?_) (fun h => ?_)
 ·refine mP ?_
  refine zaf rfl (hput 1 (by omega)) ?_;refine mN ?_;exact zab ⟨.inr rfl,_,rfl,by unfold msgInt; rw [if_pos h]; rfl⟩
 refine zae ?_;refine zaa (zaa (zad ?_));refine zat (es:=[[pI 1],[pI 2],[pI 4],[pI 8]]) rfl ?_;refine zaB (n:=4) rfl rfl rfl ?_;refine mN ?_;refine zai ?_;refine zav (PnI n) 4 ⟨0,by omega,rfl,fun h => by simp only [pnP]; omega,fun h => by simp only [pnN]; omega,rfl,rfl,rfl,rfl,trivial⟩ ?_;rintro m tm bx nt live ⟨i,hi,rfl,hp,hq,ht⟩;obtain ⟨tm0,rfl⟩:=zaj ht;clear ht;have hc:i = 0 \/ i = 1 \/ i = 2 \/ i = 3:=by omega
 rcases hc with rfl | rfl | rfl | rfl
 ·simp only [pnP,pnN] at hp hq
  refine mO ?_;refine zak rfl rfl rfl ?_;refine zac ?_;refine zaa ?_;refine mwT ?_;refine zae ?_;refine zaa (zai (zaa (zad ?_)));refine mS ?_;refine za3 (es:=[[pI 1],[pI 2],[pI 4],[pI 8]]) (e:=[pI 1]) rfl rfl rfl ⟨by decide,rfl⟩ rfl ?_;refine mN ?_;refine zai (zaa (zad ?_));refine mS ?_;by_cases h0:0 <= n
  ·have hp:=hp h0
   refine zak rfl rfl (decide_eq_true (show n ≥ 0 from h0)) ?_;(iterate 2 refine mS ?_);refine zam rfl rfl rfl ?_;(iterate 3 refine mS ?_);refine zft (n:=8) rfl rfl rfl rfl (by decide) ?_;refine ziO (n:=256) rfl rfl rfl (by decide) (by decide) ?_;by_cases hf:n < 256
   ·refine zak rfl rfl (decide_eq_true hf) ?_
    (iterate 3 refine mS ?_);refine zac ?_;refine mwT ?_
    have hres:msgInt n = [204] ++ be 1 (lo64 n):=by
     unfold msgInt
     repeat (first | rw [if_pos (by omega)] | rw [if_neg (by omega)])
    refine zaa (zdn ?_);refine zaw ?_;refine mS ?_;refine zau (n:=204) rfl rfl rfl rfl (by decide) ?_;refine zcn (n:=204) rfl rfl (by decide) ?_;refine mS ?_;refine mS ?_;refine zac ?_;refine zaS ?_;refine zaV ?_ ?_
    ·refine zat (es:=[[.v (.int .u8 204)]]) rfl ?_
     refine zac ?_;refine zaw ?_;refine mS ?_;refine zac ?_;refine zaS ?_;refine zaV ?_ zaR;refine zaf rfl (hput 1 (by omega)) ?_;refine zac ?_;refine zaw ?_;refine zaX (la:=[204]) (lb:=be 1 (lo64 n)) rfl rfl rfl (by rw [zal]; simp) ?_;refine mS ?_;refine zac ?_;refine zbx ?_;refine zab ⟨.inr rfl,[.d (pS ([204] ++ be 1 (lo64 n)))],rfl,?_⟩;rw [hres]; rfl
    ·refine zaV ?_ zaR
     refine zaf rfl (hput 1 (by omega)) ?_;refine zac ?_;refine zaw ?_;refine zac ?_;refine zaS ?_;refine zaV ?_ zaR;refine zat (es:=[[.v (.int .u8 204)]]) rfl ?_;refine zac ?_;refine zaw ?_;refine mS ?_;refine zaX (la:=[204]) (lb:=be 1 (lo64 n)) rfl rfl rfl (by rw [zal]; simp) ?_;refine mS ?_;refine zac ?_;refine zbx ?_;refine zab ⟨.inr rfl,[.d (pS ([204] ++ be 1 (lo64 n)))],rfl,?_⟩;rw [hres]; rfl
   ·refine zam rfl rfl (decide_eq_false hf) ?_
    (iterate 3 refine mS ?_);refine zac ?_;refine mwF ?_;refine mQ ?_;refine zam rfl rfl (decide_eq_false (show ¬ n < 0 by omega)) ?_;refine mS ?_
    iterate 5 (refine zah rfl ?_)
    (iterate 2 refine mS ?_);refine zac ?_;refine mwF ?_;refine zae ?_;refine zad ?_;refine zau (n:=1) rfl rfl rfl rfl (by decide) ?_;refine mN ?_;exact ⟨3,by omega,1,by omega,rfl,fun _ => by simp only [pnP]; omega,fun h => by omega,rfl,rfl,rfl,rfl,trivial⟩
  ·have hq:=hq (by omega)
   refine zam rfl rfl (decide_eq_false (show ¬ n ≥ 0 from h0)) ?_;refine mS ?_
   iterate 9 (refine zah rfl ?_)
   (iterate 2 refine mS ?_);refine zac ?_;refine mwF ?_;refine mQ ?_;refine zak rfl rfl (decide_eq_true (show n < 0 by omega)) ?_;(iterate 3 refine mS ?_);refine zaD (b:=true) rfl (fun _ => rfl) (fun _ => hsg 1 (by omega)) ?_;refine mS ?_;by_cases hf:sgw n 1 = n
   ·refine zak rfl rfl (decide_eq_true hf) ?_
    (iterate 2 refine mS ?_);refine zac ?_;refine mwT ?_
    have hres:msgInt n = [208] ++ be 1 (lo64 n):=by
     unfold sgw at hf;rw [if_pos (by decide),show ((256 ^ 1:Nat):Int) = 256 from rfl,show ((256 ^ 1 / 2:Nat):Int) = 128 from rfl] at hf
     split at hf
     ·unfold msgInt
      repeat (first | rw [if_pos (by omega)] | rw [if_neg (by omega)])
     ·omega
    refine zaa (zdn ?_);refine zaw ?_;refine mS ?_;refine zau (n:=208) rfl rfl rfl rfl (by decide) ?_;refine zcn (n:=208) rfl rfl (by decide) ?_;refine mS ?_;refine mS ?_;refine zac ?_;refine zaS ?_;refine zaV ?_ ?_
    ·refine zat (es:=[[.v (.int .u8 208)]]) rfl ?_
     refine zac ?_;refine zaw ?_;refine mS ?_;refine zac ?_;refine zaS ?_;refine zaV ?_ zaR;refine zaf rfl (hput 1 (by omega)) ?_;refine zac ?_;refine zaw ?_;refine zaX (la:=[208]) (lb:=be 1 (lo64 n)) rfl rfl rfl (by rw [zal]; simp) ?_;refine mS ?_;refine zac ?_;refine zbx ?_;refine zab ⟨.inr rfl,[.d (pS ([208] ++ be 1 (lo64 n)))],rfl,?_⟩;rw [hres]; rfl
    ·refine zaV ?_ zaR
     refine zaf rfl (hput 1 (by omega)) ?_;refine zac ?_;refine zaw ?_;refine zac ?_;refine zaS ?_;refine zaV ?_ zaR;refine zat (es:=[[.v (.int .u8 208)]]) rfl ?_;refine zac ?_;refine zaw ?_;refine mS ?_;refine zaX (la:=[208]) (lb:=be 1 (lo64 n)) rfl rfl rfl (by rw [zal]; simp) ?_;refine mS ?_;refine zac ?_;refine zbx ?_;refine zab ⟨.inr rfl,[.d (pS ([208] ++ be 1 (lo64 n)))],rfl,?_⟩;rw [hres]; rfl
   ·refine zam rfl rfl (decide_eq_false hf) ?_
    (iterate 2 refine mS ?_);refine zac ?_;refine mwF ?_;refine zae ?_
    have hlow:n < -128:=by
     apply Decidable.byContradiction
     intro hlt
     apply hf
     unfold sgw;rw [if_pos (by decide),show ((256 ^ 1:Nat):Int) = 256 from rfl,show ((256 ^ 1 / 2:Nat):Int) = 128 from rfl]
     split <;> omega
    refine zad ?_;refine zau (n:=1) rfl rfl rfl rfl (by decide) ?_;refine mN ?_;exact ⟨3,by omega,1,by omega,rfl,fun h => by omega,fun _ => by simp only [pnN]; omega,rfl,rfl,rfl,rfl,trivial⟩
 ·simp only [pnP,pnN] at hp hq
  refine mO ?_;refine zak rfl rfl rfl ?_;refine zac ?_;refine zaa ?_;refine mwT ?_;refine zae ?_;refine zaa (zai (zaa (zad ?_)));refine mS ?_;refine za3 (es:=[[pI 1],[pI 2],[pI 4],[pI 8]]) (e:=[pI 2]) rfl rfl rfl ⟨by decide,rfl⟩ rfl ?_;refine mN ?_;refine zai (zaa (zad ?_));refine mS ?_;by_cases h0:0 <= n
  ·have hp:=hp h0
   refine zak rfl rfl (decide_eq_true (show n ≥ 0 from h0)) ?_;(iterate 2 refine mS ?_);refine zam rfl rfl rfl ?_;(iterate 3 refine mS ?_);refine zft (n:=16) rfl rfl rfl rfl (by decide) ?_;refine ziO (n:=65536) rfl rfl rfl (by decide) (by decide) ?_;by_cases hf:n < 65536
   ·refine zak rfl rfl (decide_eq_true hf) ?_
    (iterate 3 refine mS ?_);refine zac ?_;refine mwT ?_
    have hres:msgInt n = [205] ++ be 2 (lo64 n):=by
     unfold msgInt
     repeat (first | rw [if_pos (by omega)] | rw [if_neg (by omega)])
    refine zaa (zdn ?_);refine zaw ?_;refine mS ?_;refine zau (n:=205) rfl rfl rfl rfl (by decide) ?_;refine zcn (n:=205) rfl rfl (by decide) ?_;refine mS ?_;refine mS ?_;refine zac ?_;refine zaS ?_;refine zaV ?_ ?_
    ·refine zat (es:=[[.v (.int .u8 205)]]) rfl ?_
     refine zac ?_;refine zaw ?_;refine mS ?_;refine zac ?_;refine zaS ?_;refine zaV ?_ zaR;refine zaf rfl (hput 2 (by omega)) ?_;refine zac ?_;refine zaw ?_;refine zaX (la:=[205]) (lb:=be 2 (lo64 n)) rfl rfl rfl (by rw [zal]; simp) ?_;refine mS ?_;refine zac ?_;refine zbx ?_;refine zab ⟨.inr rfl,[.d (pS ([205] ++ be 2 (lo64 n)))],rfl,?_⟩;rw [hres]; rfl
    ·refine zaV ?_ zaR
     refine zaf rfl (hput 2 (by omega)) ?_;refine zac ?_;refine zaw ?_;refine zac ?_;refine zaS ?_;refine zaV ?_ zaR;refine zat (es:=[[.v (.int .u8 205)]]) rfl ?_;refine zac ?_;refine zaw ?_;refine mS ?_;refine zaX (la:=[205]) (lb:=be 2 (lo64 n)) rfl rfl rfl (by rw [zal]; simp) ?_;refine mS ?_;refine zac ?_;refine zbx ?_;refine zab ⟨.inr rfl,[.d (pS ([205] ++ be 2 (lo64 n)))],rfl,?_⟩;rw [hres]; rfl
   ·refine zam rfl rfl (decide_eq_false hf) ?_
    (iterate 3 refine mS ?_);refine zac ?_;refine mwF ?_;refine mQ ?_;refine zam rfl rfl (decide_eq_false (show ¬ n < 0 by omega)) ?_;refine mS ?_
    iterate 5 (refine zah rfl ?_)
    (iterate 2 refine mS ?_);refine zac ?_;refine mwF ?_;refine zae ?_;refine zad ?_;refine zau (n:=2) rfl rfl rfl rfl (by decide) ?_;refine mN ?_;exact ⟨2,by omega,2,by omega,rfl,fun _ => by simp only [pnP]; omega,fun h => by omega,rfl,rfl,rfl,rfl,trivial⟩
  ·have hq:=hq (by omega)
   refine zam rfl rfl (decide_eq_false (show ¬ n ≥ 0 from h0)) ?_;refine mS ?_
   iterate 9 (refine zah rfl ?_)
   (iterate 2 refine mS ?_);refine zac ?_;refine mwF ?_;refine mQ ?_;refine zak rfl rfl (decide_eq_true (show n < 0 by omega)) ?_;(iterate 3 refine mS ?_);refine zaD (b:=true) rfl (fun _ => rfl) (fun _ => hsg 2 (by omega)) ?_;refine mS ?_;by_cases hf:sgw n 2 = n
   ·refine zak rfl rfl (decide_eq_true hf) ?_
    (iterate 2 refine mS ?_);refine zac ?_;refine mwT ?_
    have hres:msgInt n = [209] ++ be 2 (lo64 n):=by
     unfold sgw at hf;rw [if_pos (by decide),show ((256 ^ 2:Nat):Int) = 65536 from rfl,show ((256 ^ 2 / 2:Nat):Int) = 32768 from rfl] at hf
     split at hf
     ·unfold msgInt
      repeat (first | rw [if_pos (by omega)] | rw [if_neg (by omega)])
     ·omega
    refine zaa (zdn ?_);refine zaw ?_;refine mS ?_;refine zau (n:=209) rfl rfl rfl rfl (by decide) ?_;refine zcn (n:=209) rfl rfl (by decide) ?_;refine mS ?_;refine mS ?_;refine zac ?_;refine zaS ?_;refine zaV ?_ ?_
    ·refine zat (es:=[[.v (.int .u8 209)]]) rfl ?_
     refine zac ?_;refine zaw ?_;refine mS ?_;refine zac ?_;refine zaS ?_;refine zaV ?_ zaR;refine zaf rfl (hput 2 (by omega)) ?_;refine zac ?_;refine zaw ?_;refine zaX (la:=[209]) (lb:=be 2 (lo64 n)) rfl rfl rfl (by rw [zal]; simp) ?_;refine mS ?_;refine zac ?_;refine zbx ?_;refine zab ⟨.inr rfl,[.d (pS ([209] ++ be 2 (lo64 n)))],rfl,?_⟩;rw [hres]; rfl
    ·refine zaV ?_ zaR
     refine zaf rfl (hput 2 (by omega)) ?_;refine zac ?_;refine zaw ?_;refine zac ?_;refine zaS ?_;refine zaV ?_ zaR;refine zat (es:=[[.v (.int .u8 209)]]) rfl ?_;refine zac ?_;refine zaw ?_;refine mS ?_;refine zaX (la:=[209]) (lb:=be 2 (lo64 n)) rfl rfl rfl (by rw [zal]; simp) ?_;refine mS ?_;refine zac ?_;refine zbx ?_;refine zab ⟨.inr rfl,[.d (pS ([209] ++ be 2 (lo64 n)))],rfl,?_⟩;rw [hres]; rfl
   ·refine zam rfl rfl (decide_eq_false hf) ?_
    (iterate 2 refine mS ?_);refine zac ?_;refine mwF ?_;refine zae ?_
    have hlow:n < -32768:=by
     apply Decidable.byContradiction
     intro hlt
     apply hf
     unfold sgw;rw [if_pos (by decide),show ((256 ^ 2:Nat):Int) = 65536 from rfl,show ((256 ^ 2 / 2:Nat):Int) = 32768 from rfl]
     split <;> omega
    refine zad ?_;refine zau (n:=2) rfl rfl rfl rfl (by decide) ?_;refine mN ?_;exact ⟨2,by omega,2,by omega,rfl,fun h => by omega,fun _ => by simp only [pnN]; omega,rfl,rfl,rfl,rfl,trivial⟩
 ·simp only [pnP,pnN] at hp hq
  refine mO ?_;refine zak rfl rfl rfl ?_;refine zac ?_;refine zaa ?_;refine mwT ?_;refine zae ?_;refine zaa (zai (zaa (zad ?_)));refine mS ?_;refine za3 (es:=[[pI 1],[pI 2],[pI 4],[pI 8]]) (e:=[pI 4]) rfl rfl rfl ⟨by decide,rfl⟩ rfl ?_;refine mN ?_;refine zai (zaa (zad ?_));refine mS ?_;by_cases h0:0 <= n
  ·have hp:=hp h0
   refine zak rfl rfl (decide_eq_true (show n ≥ 0 from h0)) ?_;(iterate 2 refine mS ?_);refine zam rfl rfl rfl ?_;(iterate 3 refine mS ?_);refine zft (n:=32) rfl rfl rfl rfl (by decide) ?_;refine ziO (n:=4294967296) rfl rfl rfl (by decide) (by decide) ?_;by_cases hf:n < 4294967296
   ·refine zak rfl rfl (decide_eq_true hf) ?_
    (iterate 3 refine mS ?_);refine zac ?_;refine mwT ?_
    have hres:msgInt n = [206] ++ be 4 (lo64 n):=by
     unfold msgInt
     repeat (first | rw [if_pos (by omega)] | rw [if_neg (by omega)])
    refine zaa (zdn ?_);refine zaw ?_;refine mS ?_;refine zau (n:=206) rfl rfl rfl rfl (by decide) ?_;refine zcn (n:=206) rfl rfl (by decide) ?_;refine mS ?_;refine mS ?_;refine zac ?_;refine zaS ?_;refine zaV ?_ ?_
    ·refine zat (es:=[[.v (.int .u8 206)]]) rfl ?_
     refine zac ?_;refine zaw ?_;refine mS ?_;refine zac ?_;refine zaS ?_;refine zaV ?_ zaR;refine zaf rfl (hput 4 (by omega)) ?_;refine zac ?_;refine zaw ?_;refine zaX (la:=[206]) (lb:=be 4 (lo64 n)) rfl rfl rfl (by rw [zal]; simp) ?_;refine mS ?_;refine zac ?_;refine zbx ?_;refine zab ⟨.inr rfl,[.d (pS ([206] ++ be 4 (lo64 n)))],rfl,?_⟩;rw [hres]; rfl
    ·refine zaV ?_ zaR
     refine zaf rfl (hput 4 (by omega)) ?_;refine zac ?_;refine zaw ?_;refine zac ?_;refine zaS ?_;refine zaV ?_ zaR;refine zat (es:=[[.v (.int .u8 206)]]) rfl ?_;refine zac ?_;refine zaw ?_;refine mS ?_;refine zaX (la:=[206]) (lb:=be 4 (lo64 n)) rfl rfl rfl (by rw [zal]; simp) ?_;refine mS ?_;refine zac ?_;refine zbx ?_;refine zab ⟨.inr rfl,[.d (pS ([206] ++ be 4 (lo64 n)))],rfl,?_⟩;rw [hres]; rfl
   ·refine zam rfl rfl (decide_eq_false hf) ?_
    (iterate 3 refine mS ?_);refine zac ?_;refine mwF ?_;refine mQ ?_;refine zam rfl rfl (decide_eq_false (show ¬ n < 0 by omega)) ?_;refine mS ?_
    iterate 5 (refine zah rfl ?_)
    (iterate 2 refine mS ?_);refine zac ?_;refine mwF ?_;refine zae ?_;refine zad ?_;refine zau (n:=3) rfl rfl rfl rfl (by decide) ?_;refine mN ?_;exact ⟨1,by omega,3,by omega,rfl,fun _ => by simp only [pnP]; omega,fun h => by omega,rfl,rfl,rfl,rfl,trivial⟩
  ·have hq:=hq (by omega)
   refine zam rfl rfl (decide_eq_false (show ¬ n ≥ 0 from h0)) ?_;refine mS ?_
   iterate 9 (refine zah rfl ?_)
   (iterate 2 refine mS ?_);refine zac ?_;refine mwF ?_;refine mQ ?_;refine zak rfl rfl (decide_eq_true (show n < 0 by omega)) ?_;(iterate 3 refine mS ?_);refine zaD (b:=true) rfl (fun _ => rfl) (fun _ => hsg 4 (by omega)) ?_;refine mS ?_;by_cases hf:sgw n 4 = n
   ·refine zak rfl rfl (decide_eq_true hf) ?_
    (iterate 2 refine mS ?_);refine zac ?_;refine mwT ?_
    have hres:msgInt n = [210] ++ be 4 (lo64 n):=by
     unfold sgw at hf;rw [if_pos (by decide),show ((256 ^ 4:Nat):Int) = 4294967296 from rfl,show ((256 ^ 4 / 2:Nat):Int) = 2147483648 from rfl] at hf
     split at hf
     ·unfold msgInt
      repeat (first | rw [if_pos (by omega)] | rw [if_neg (by omega)])
     ·omega
    refine zaa (zdn ?_);refine zaw ?_;refine mS ?_;refine zau (n:=210) rfl rfl rfl rfl (by decide) ?_;refine zcn (n:=210) rfl rfl (by decide) ?_;refine mS ?_;refine mS ?_;refine zac ?_;refine zaS ?_;refine zaV ?_ ?_
    ·refine zat (es:=[[.v (.int .u8 210)]]) rfl ?_
     refine zac ?_;refine zaw ?_;refine mS ?_;refine zac ?_;refine zaS ?_;refine zaV ?_ zaR;refine zaf rfl (hput 4 (by omega)) ?_;refine zac ?_;refine zaw ?_;refine zaX (la:=[210]) (lb:=be 4 (lo64 n)) rfl rfl rfl (by rw [zal]; simp) ?_;refine mS ?_;refine zac ?_;refine zbx ?_;refine zab ⟨.inr rfl,[.d (pS ([210] ++ be 4 (lo64 n)))],rfl,?_⟩;rw [hres]; rfl
    ·refine zaV ?_ zaR
     refine zaf rfl (hput 4 (by omega)) ?_;refine zac ?_;refine zaw ?_;refine zac ?_;refine zaS ?_;refine zaV ?_ zaR;refine zat (es:=[[.v (.int .u8 210)]]) rfl ?_;refine zac ?_;refine zaw ?_;refine mS ?_;refine zaX (la:=[210]) (lb:=be 4 (lo64 n)) rfl rfl rfl (by rw [zal]; simp) ?_;refine mS ?_;refine zac ?_;refine zbx ?_;refine zab ⟨.inr rfl,[.d (pS ([210] ++ be 4 (lo64 n)))],rfl,?_⟩;rw [hres]; rfl
   ·refine zam rfl rfl (decide_eq_false hf) ?_
    (iterate 2 refine mS ?_);refine zac ?_;refine mwF ?_;refine zae ?_
    have hlow:n < -2147483648:=by
     apply Decidable.byContradiction
     intro hlt
     apply hf
     unfold sgw;rw [if_pos (by decide),show ((256 ^ 4:Nat):Int) = 4294967296 from rfl,show ((256 ^ 4 / 2:Nat):Int) = 2147483648 from rfl]
     split <;> omega
    refine zad ?_;refine zau (n:=3) rfl rfl rfl rfl (by decide) ?_;refine mN ?_;exact ⟨1,by omega,3,by omega,rfl,fun h => by omega,fun _ => by simp only [pnN]; omega,rfl,rfl,rfl,rfl,trivial⟩
 ·simp only [pnP,pnN] at hp hq
  refine mO ?_;refine zak rfl rfl rfl ?_;refine zac ?_;refine zaa ?_;refine mwT ?_;refine zae ?_;refine zaa (zai (zaa (zad ?_)));refine mS ?_;refine za3 (es:=[[pI 1],[pI 2],[pI 4],[pI 8]]) (e:=[pI 8]) rfl rfl rfl ⟨by decide,rfl⟩ rfl ?_;refine mN ?_;refine zai (zaa (zad ?_));refine mS ?_;by_cases h0:0 <= n
  ·have hp:=hp h0
   refine zak rfl rfl (decide_eq_true (show n ≥ 0 from h0)) ?_;(iterate 2 refine mS ?_);refine zak rfl rfl rfl ?_;refine mS ?_
   iterate 5 (refine zah rfl ?_)
   (iterate 3 refine mS ?_);refine zac ?_;refine mwT ?_
   have hres:msgInt n = [207] ++ be 8 (lo64 n):=by
    unfold msgInt
    repeat (first | rw [if_pos (by omega)] | rw [if_neg (by omega)])
   refine zaa (zdn ?_);refine zaw ?_;refine mS ?_;refine zau (n:=207) rfl rfl rfl rfl (by decide) ?_;refine zcn (n:=207) rfl rfl (by decide) ?_;refine mS ?_;refine mS ?_;refine zac ?_;refine zaS ?_;refine zaV ?_ ?_
   ·refine zat (es:=[[.v (.int .u8 207)]]) rfl ?_
    refine zac ?_;refine zaw ?_;refine mS ?_;refine zac ?_;refine zaS ?_;refine zaV ?_ zaR;refine zaf rfl (hput 8 (by omega)) ?_;refine zac ?_;refine zaw ?_;refine zaX (la:=[207]) (lb:=be 8 (lo64 n)) rfl rfl rfl (by rw [zal]; simp) ?_;refine mS ?_;refine zac ?_;refine zbx ?_;refine zab ⟨.inr rfl,[.d (pS ([207] ++ be 8 (lo64 n)))],rfl,?_⟩;rw [hres]; rfl
   ·refine zaV ?_ zaR
    refine zaf rfl (hput 8 (by omega)) ?_;refine zac ?_;refine zaw ?_;refine zac ?_;refine zaS ?_;refine zaV ?_ zaR;refine zat (es:=[[.v (.int .u8 207)]]) rfl ?_;refine zac ?_;refine zaw ?_;refine mS ?_;refine zaX (la:=[207]) (lb:=be 8 (lo64 n)) rfl rfl rfl (by rw [zal]; simp) ?_;refine mS ?_;refine zac ?_;refine zbx ?_;refine zab ⟨.inr rfl,[.d (pS ([207] ++ be 8 (lo64 n)))],rfl,?_⟩;rw [hres]; rfl
  ·have hq:=hq (by omega)
   refine zam rfl rfl (decide_eq_false (show ¬ n ≥ 0 from h0)) ?_;refine mS ?_
   iterate 9 (refine zah rfl ?_)
   (iterate 2 refine mS ?_);refine zac ?_;refine mwF ?_;refine mQ ?_;refine zak rfl rfl (decide_eq_true (show n < 0 by omega)) ?_;(iterate 3 refine mS ?_);refine zaD (b:=true) rfl (fun _ => rfl) (fun _ => hsg 8 (by omega)) ?_;refine mS ?_;have hf:sgw n 8 = n:=by unfold sgw; rw [if_neg (by decide)]
   refine zak rfl rfl (decide_eq_true hf) ?_;(iterate 2 refine mS ?_);refine zac ?_;refine mwT ?_
   have hres:msgInt n = [211] ++ be 8 (lo64 n):=by
    unfold msgInt
    repeat (first | rw [if_pos (by omega)] | rw [if_neg (by omega)])
   refine zaa (zdn ?_);refine zaw ?_;refine mS ?_;refine zau (n:=211) rfl rfl rfl rfl (by decide) ?_;refine zcn (n:=211) rfl rfl (by decide) ?_;refine mS ?_;refine mS ?_;refine zac ?_;refine zaS ?_;refine zaV ?_ ?_
   ·refine zat (es:=[[.v (.int .u8 211)]]) rfl ?_
    refine zac ?_;refine zaw ?_;refine mS ?_;refine zac ?_;refine zaS ?_;refine zaV ?_ zaR;refine zaf rfl (hput 8 (by omega)) ?_;refine zac ?_;refine zaw ?_;refine zaX (la:=[211]) (lb:=be 8 (lo64 n)) rfl rfl rfl (by rw [zal]; simp) ?_;refine mS ?_;refine zac ?_;refine zbx ?_;refine zab ⟨.inr rfl,[.d (pS ([211] ++ be 8 (lo64 n)))],rfl,?_⟩;rw [hres]; rfl
   ·refine zaV ?_ zaR
    refine zaf rfl (hput 8 (by omega)) ?_;refine zac ?_;refine zaw ?_;refine zac ?_;refine zaS ?_;refine zaV ?_ zaR;refine zat (es:=[[.v (.int .u8 211)]]) rfl ?_;refine zac ?_;refine zaw ?_;refine mS ?_;refine zaX (la:=[211]) (lb:=be 8 (lo64 n)) rfl rfl rfl (by rw [zal]; simp) ?_;refine mS ?_;refine zac ?_;refine zbx ?_;refine zab ⟨.inr rfl,[.d (pS ([211] ++ be 8 (lo64 n)))],rfl,?_⟩;rw [hres]; rfl
def u8w (x:Int):Int:=IntKind.wrap .u8 x
theorem be1_u8 (x:Int):be 1 (lo64 x) = [UInt8.ofNat (u8w x).toNat]:=by
 rw [be1]
 congr 1
 apply UInt8.toNat_inj.1
 rw [zbd];unfold u8w lo64;rw [IntKind.wrap_u8];simp;omega
set_option maxHeartbeats 1000000 in
theorem putLen_fn (n least low one two:Int) (hb:0 <= n /\ n <= 4611686018427387904) (hl:0 <= low /\ low <= 1000) (hl2:0 <= least /\ least <= 1000):FnV (env T hT) 181 [.d (pI n),.d (pI low),.d (pI least),.d (pI one),.d (pI two)] (.d (pS (msgMany n least low one two))):=by
 have hput:=fun (k:Int) (hk:1 <= k /\ k <= 8) => zjy (T:=T) (hT:=hT) n k hk (by unfold i64ok; omega)
 refine zaC (zag zg6) (by show 5 <= 42; decide) fun B hB => ?_
 unfold m_i_putLength;refine mP ?_;refine zaa (zai (zaa (zad ?_)));(iterate 2 refine mS ?_);refine po_b rfl rfl (fun b hb1 => ?_);refine mS ?_;refine zac ?_;refine zb4 (p:=n < least) hb1 rfl (fun h _ => ?_) (fun h _ => ?_)
 ·refine mO ?_
  (iterate 2 refine mS ?_);refine zau (n:=low + n) rfl rfl rfl rfl (by omega) ?_;refine zcn (n:=(u8w (low + n))) rfl rfl rfl ?_;refine zat (es:=[[.v (.int .u8 (u8w (low + n)))]]) rfl ?_;refine mN ?_;exact zab ⟨.inr rfl,_,rfl,by unfold msgMany; rw [if_pos h,be1_u8]; rfl⟩
 refine zej (fun s => has s.tm [(0,.d (pI n)),(3,.d (pI one)),(4,.d (pI two))]) ⟨rfl,rfl,rfl,trivial⟩ (fun tm bx nt live ht => ?_);obtain ⟨tm0,rfl⟩:=zaj ht;clear ht hb1;refine mQ ?_;by_cases h2:n < 256
 ·refine zak rfl rfl (decide_eq_true h2) ?_
  (iterate 2 refine mS ?_);by_cases h3:one > 0
  ·refine zak rfl rfl (decide_eq_true h3) ?_
   (iterate 2 refine mS ?_);refine zac ?_;refine mwT ?_
   have hres:msgMany n least low one two = [UInt8.ofNat (u8w one).toNat] ++ be 1 (lo64 n):=by
    unfold msgMany; rw [if_neg h,if_pos ⟨h2,h3⟩,be1_u8]
   refine zaa (zdn ?_);refine zaw ?_;refine mS ?_;refine zcn (n:=(u8w one)) rfl rfl rfl ?_;refine mS ?_;refine zac ?_;refine zaS ?_;refine zaV ?_ ?_
   ·refine zat (es:=[[.v (.int .u8 (u8w one))]]) rfl ?_
    refine zac ?_;refine zaw ?_;refine mS ?_;refine zac ?_;refine zaS ?_;refine zaV ?_ zaR;refine zaf rfl (hput 1 (by omega)) ?_;refine zac ?_;refine zaw ?_;refine zaX (la:=[UInt8.ofNat (u8w one).toNat]) (lb:=be 1 (lo64 n)) rfl rfl rfl (by rw [zal]; simp) ?_;refine mS ?_;refine zac ?_;refine zbx ?_;refine zab ⟨.inr rfl,[.d (pS ([UInt8.ofNat (u8w one).toNat] ++ be 1 (lo64 n)))],rfl,?_⟩;rw [hres]; rfl
   ·refine zaV ?_ zaR
    refine zaf rfl (hput 1 (by omega)) ?_;refine zac ?_;refine zaw ?_;refine zac ?_;refine zaS ?_;refine zaV ?_ zaR;refine zat (es:=[[.v (.int .u8 (u8w one))]]) rfl ?_;refine zac ?_;refine zaw ?_;refine mS ?_;refine zaX (la:=[UInt8.ofNat (u8w one).toNat]) (lb:=be 1 (lo64 n)) rfl rfl rfl (by rw [zal]; simp) ?_;refine mS ?_;refine zac ?_;refine zbx ?_;refine zab ⟨.inr rfl,[.d (pS ([UInt8.ofNat (u8w one).toNat] ++ be 1 (lo64 n)))],rfl,?_⟩;rw [hres]; rfl
  ·refine zam rfl rfl (decide_eq_false h3) ?_
   (iterate 2 refine mS ?_);refine zac ?_;refine mwF ?_;refine zae ?_
   have hres:msgMany n least low one two = [UInt8.ofNat (u8w two).toNat] ++ be 2 (lo64 n):=by
    unfold msgMany; rw [if_neg h,if_neg (fun h => h3 h.2),be1_u8]
   refine zaa (zdn ?_);refine zaw ?_;refine mS ?_;refine zcn (n:=(u8w two)) rfl rfl rfl ?_;refine mS ?_;refine zac ?_;refine zaS ?_;refine zaV ?_ ?_
   ·refine zat (es:=[[.v (.int .u8 (u8w two))]]) rfl ?_
    refine zac ?_;refine zaw ?_;refine mS ?_;refine zac ?_;refine zaS ?_;refine zaV ?_ zaR;refine zaf rfl (hput 2 (by omega)) ?_;refine zac ?_;refine zaw ?_;refine zaX (la:=[UInt8.ofNat (u8w two).toNat]) (lb:=be 2 (lo64 n)) rfl rfl rfl (by rw [zal]; simp) ?_;refine mS ?_;refine zac ?_;refine zbx ?_;refine zab ⟨.inr rfl,[.d (pS ([UInt8.ofNat (u8w two).toNat] ++ be 2 (lo64 n)))],rfl,?_⟩;rw [hres]; rfl
   ·refine zaV ?_ zaR
    refine zaf rfl (hput 2 (by omega)) ?_;refine zac ?_;refine zaw ?_;refine zac ?_;refine zaS ?_;refine zaV ?_ zaR;refine zat (es:=[[.v (.int .u8 (u8w two))]]) rfl ?_;refine zac ?_;refine zaw ?_;refine mS ?_;refine zaX (la:=[UInt8.ofNat (u8w two).toNat]) (lb:=be 2 (lo64 n)) rfl rfl rfl (by rw [zal]; simp) ?_;refine mS ?_;refine zac ?_;refine zbx ?_;refine zab ⟨.inr rfl,[.d (pS ([UInt8.ofNat (u8w two).toNat] ++ be 2 (lo64 n)))],rfl,?_⟩;rw [hres]; rfl
 ·refine zam rfl rfl (decide_eq_false h2) ?_
  refine mS ?_
  iterate 2 (refine zah rfl ?_)
  (iterate 2 refine mS ?_);refine zac ?_;refine mwF ?_;refine zae ?_
  have hres:msgMany n least low one two = [UInt8.ofNat (u8w two).toNat] ++ be 2 (lo64 n):=by
   unfold msgMany; rw [if_neg h,if_neg (fun h => h2 h.1),be1_u8]
  refine zaa (zdn ?_);refine zaw ?_;refine mS ?_;refine zcn (n:=(u8w two)) rfl rfl rfl ?_;refine mS ?_;refine zac ?_;refine zaS ?_;refine zaV ?_ ?_
  ·refine zat (es:=[[.v (.int .u8 (u8w two))]]) rfl ?_
   refine zac ?_;refine zaw ?_;refine mS ?_;refine zac ?_;refine zaS ?_;refine zaV ?_ zaR;refine zaf rfl (hput 2 (by omega)) ?_;refine zac ?_;refine zaw ?_;refine zaX (la:=[UInt8.ofNat (u8w two).toNat]) (lb:=be 2 (lo64 n)) rfl rfl rfl (by rw [zal]; simp) ?_;refine mS ?_;refine zac ?_;refine zbx ?_;refine zab ⟨.inr rfl,[.d (pS ([UInt8.ofNat (u8w two).toNat] ++ be 2 (lo64 n)))],rfl,?_⟩;rw [hres]; rfl
  ·refine zaV ?_ zaR
   refine zaf rfl (hput 2 (by omega)) ?_;refine zac ?_;refine zaw ?_;refine zac ?_;refine zaS ?_;refine zaV ?_ zaR;refine zat (es:=[[.v (.int .u8 (u8w two))]]) rfl ?_;refine zac ?_;refine zaw ?_;refine mS ?_;refine zaX (la:=[UInt8.ofNat (u8w two).toNat]) (lb:=be 2 (lo64 n)) rfl rfl rfl (by rw [zal]; simp) ?_;refine mS ?_;refine zac ?_;refine zbx ?_;refine zab ⟨.inr rfl,[.d (pS ([UInt8.ofNat (u8w two).toNat] ++ be 2 (lo64 n)))],rfl,?_⟩;rw [hres]; rfl
end
/- PvH4M -/
section
set_option maxRecDepth 100000
def m_i_GetMsg:M:=.seq (.ops [⟨some 4,.zero [.int .i64 0,.int .i64 0,.int .i64 0,.string ⟨[].toArray⟩,.slice none 0 0],none,[]⟩,
 qo 5 (.mv (ci 0))])
 (.seq (.seq (.ops [qo 8 (.mv (.t 1)),
 qo 9 (.mv (.t 0)),
 qo 10 (.lens (.t 9)),
 ⟨some 11,.call 126 [.t 8,ci 0,.t 10],none,[.f 1]⟩,
 qo 12 (.not (.t 11))])
 (.cond (.t 12) (.seq (.ops [⟨some 13,.build [.int .i64 0,.int .i64 0,.int .i64 0,.string ⟨[].toArray⟩,.slice none 0 0] [],none,[]⟩,
 ⟨none,.store 5 (.t 4) (.t 13),none,[]⟩,
 qo 5 (.mv (ci (-1)))])
 (.ret))
 (.skip)))
 (.seq (.ops [qo 14 (.mv (.t 0)),
 qo 15 (.mv (.t 1)),
 ⟨some 16,.build [.string ⟨[].toArray⟩,.int .i64 0,.int .i64 0,.bool false] [(0,1,.t 14),(1,1,.t 15)],none,[]⟩,
 qo 17 (.box (.t 16)),
 qo 6 (.mv (.t 17))])
 (.seq (.ops [qo 18 (.mv (.t 6)),
 ⟨some 19,.call 127 [.t 18,ci 0],none,[.f 1]⟩,
 ⟨some 7,.zero [.int .i64 0,.int .i64 0,.int .i64 0,.string ⟨[].toArray⟩,.slice none 0 0],none,[]⟩,
 ⟨none,.store 5 (.t 7) (.t 19),none,[]⟩])
 (.seq (.seq (.ops [qo 20 (.mv (.t 6)),
 qo 21 (.nilc (.t 20)),
 qo 22 (.fld 3 (.t 21)),
 qo 23 (.load false 1 (.t 22)),
 qo 24 (.mv (.t 23)),
 ⟨some 25,.load true 5 (.t 7),some (24,false),[]⟩,
 ⟨some 27,.mv (.t 0),some (24,false),[]⟩,
 ⟨some 28,.mv (.t 1),some (24,false),[]⟩,
 ⟨some 29,.mv (.t 6),some (24,false),[]⟩,
 ⟨some 30,.nilc (.t 29),some (24,false),[]⟩,
 ⟨some 31,.fld 1 (.t 30),some (24,false),[]⟩,
 ⟨some 32,.load false 1 (.t 31),some (24,false),[]⟩,
 ⟨some 33,.slcs (.t 27) (some (.t 28)) (some (.t 32)),some (24,false),[]⟩,
 ⟨some 26,.call 128 [.t 25],some (24,false),[.f 0,.t 31]⟩,
 ⟨some 34,.bin .neq false (.t 26) (.t 33),some (24,false),[]⟩,
 qo 35 (.pick (.t 24) (.c (.bool true)) (.t 34))])
 (.cond (.t 35) (.seq (.ops [⟨some 36,.build [.int .i64 0,.int .i64 0,.int .i64 0,.string ⟨[].toArray⟩,.slice none 0 0] [],none,[]⟩,
 ⟨none,.store 5 (.t 4) (.t 36),none,[]⟩,
 qo 5 (.mv (ci (-1)))])
 (.ret))
 (.skip)))
 (.seq (.ops [qo 37 (.load true 5 (.t 7)),
 qo 38 (.mv (.t 6)),
 qo 39 (.nilc (.t 38)),
 qo 40 (.fld 1 (.t 39)),
 qo 41 (.load false 1 (.t 40)),
 ⟨none,.store 5 (.t 4) (.t 37),none,[.t 40]⟩,
 qo 5 (.mv (.t 41))])
 (.ret))))))
theorem zjz:look Tryz.prog 67 = some (42,m_i_GetMsg,[.cell true 5 4,.tm 5]):=by kernel_rfl
def m_i_unpacker_value:M:=.seq (.ops [⟨some 4,.zero [.int .i64 0,.int .i64 0,.int .i64 0,.string ⟨[].toArray⟩,.slice none 0 0],none,[]⟩])
 (.seq (.ops [qo 7 (.mv (.t 0)),
 qo 8 (.nilc (.t 7)),
 qo 9 (.fld 2 (.t 8)),
 qo 10 (.load false 1 (.t 9)),
 qo 11 (.bin .add false (.t 10) (ci 1)),
 qo 12 (.nilc (.t 7)),
 qo 13 (.fld 2 (.t 12)),
 ⟨none,.store 1 (.t 13) (.t 11),none,[]⟩])
 (.seq (.ops [qo 14 (.mv (.t 0)),
 ⟨some 15,.call 167 [.t 14,ci 1],none,[.f 1]⟩,
 qo 5 (.mv (.t 15))])
 (.seq (.seq (.ops [qo 16 (.mv (.t 0)),
 qo 17 (.nilc (.t 16)),
 qo 18 (.fld 3 (.t 17)),
 qo 19 (.load false 1 (.t 18)),
 qo 20 (.mv (.t 19)),
 ⟨some 21,.mv (.t 0),some (20,false),[]⟩,
 ⟨some 22,.nilc (.t 21),some (20,false),[]⟩,
 ⟨some 23,.fld 2 (.t 22),some (20,false),[]⟩,
 ⟨some 24,.load false 1 (.t 23),some (20,false),[]⟩,
 ⟨some 25,.bin .gtr false (.t 24) (ci 300),some (20,false),[]⟩,
 qo 26 (.pick (.t 20) (.c (.bool true)) (.t 25)),
 qo 27 (.mv (.t 26)),
 ⟨some 28,.mv (.t 1),some (27,false),[]⟩,
 ⟨some 29,.bin .gtr false (.t 28) (ci 12),some (27,false),[]⟩,
 qo 30 (.pick (.t 27) (.c (.bool true)) (.t 29))])
 (.cond (.t 30) (.seq (.ops [qo 31 (.mv (.t 0)),
 qo 32 (.nilc (.t 31)),
 qo 33 (.fld 3 (.t 32)),
 ⟨none,.store 1 (.t 33) (.c (.bool true)),none,[]⟩])
 (.seq (.ops [⟨some 34,.build [.int .i64 0,.int .i64 0,.int .i64 0,.string ⟨[].toArray⟩,.slice none 0 0] [],none,[]⟩,
 ⟨none,.store 5 (.t 4) (.t 34),none,[]⟩])
 (.ret)))
 (.skip)))
 (.seq (.block 0 (.seq (.ops [qo 36 (.mv (.t 5)),
 qo 37 (.bin .lss false (.t 36) (ci 128)),
 qo 35 (.mv (.t 37))])
 (.cond (.t 35) (.seq (.ops [qo 38 (.mv (.t 5)),
 ⟨some 39,.build [.int .i64 0,.int .i64 0,.int .i64 0,.string ⟨[].toArray⟩,.slice none 0 0] [(0,1,ci 3),(1,1,.t 38)],none,[]⟩,
 ⟨none,.store 5 (.t 4) (.t 39),none,[]⟩])
 (.ret))
 (.seq (.ops [qo 41 (.mv (.t 5)),
 qo 42 (.bin .lss false (.t 41) (ci 144)),
 qo 40 (.mv (.t 42))])
 (.cond (.t 40) (.seq (.ops [qo 43 (.mv (.t 0)),
 qo 44 (.mv (.t 5)),
 qo 45 (.bin .sub false (.t 44) (ci 128)),
 qo 46 (.bin .mul false (ci 2) (.t 45)),
 qo 47 (.mv (.t 1)),
 qo 48 (.bin .add false (.t 47) (ci 1)),
 ⟨some 49,.call 168 [.t 43,.t 46,.t 48],none,[.f 1]⟩,
 ⟨some 50,.build [.int .i64 0,.int .i64 0,.int .i64 0,.string ⟨[].toArray⟩,.slice none 0 0] [(0,1,ci 8),(4,1,.t 49)],none,[]⟩,
 ⟨none,.store 5 (.t 4) (.t 50),none,[]⟩])
 (.ret))
 (.seq (.ops [qo 52 (.mv (.t 5)),
 qo 53 (.bin .lss false (.t 52) (ci 160)),
 qo 51 (.mv (.t 53))])
 (.cond (.t 51) (.seq (.ops [qo 54 (.mv (.t 0)),
 qo 55 (.mv (.t 5)),
 qo 56 (.bin .sub false (.t 55) (ci 144)),
 qo 57 (.mv (.t 1)),
 qo 58 (.bin .add false (.t 57) (ci 1)),
 ⟨some 59,.call 168 [.t 54,.t 56,.t 58],none,[.f 1]⟩,
 ⟨some 60,.build [.int .i64 0,.int .i64 0,.int .i64 0,.string ⟨[].toArray⟩,.slice none 0 0] [(0,1,ci 7),(4,1,.t 59)],none,[]⟩,
 ⟨none,.store 5 (.t 4) (.t 60),none,[]⟩])
 (.ret))
 (.seq (.ops [qo 62 (.mv (.t 5)),
 qo 63 (.bin .lss false (.t 62) (ci 192)),
 qo 61 (.mv (.t 63))])
 (.cond (.t 61) (.seq (.ops [qo 64 (.mv (.t 0)),
 qo 65 (.mv (.t 5)),
 qo 66 (.bin .sub false (.t 65) (ci 160)),
 ⟨some 67,.call 169 [.t 64,.t 66],none,[.f 1]⟩,
 ⟨some 68,.build [.int .i64 0,.int .i64 0,.int .i64 0,.string ⟨[].toArray⟩,.slice none 0 0] [(0,1,ci 5),(3,1,.t 67)],none,[]⟩,
 ⟨none,.store 5 (.t 4) (.t 68),none,[]⟩])
 (.ret))
 (.seq (.ops [qo 70 (.mv (.t 5)),
 qo 71 (.bin .geq false (.t 70) (ci 224)),
 qo 69 (.mv (.t 71))])
 (.cond (.t 69) (.seq (.ops [qo 72 (.mv (.t 5)),
 qo 73 (.bin .sub false (.t 72) (ci 256)),
 ⟨some 74,.build [.int .i64 0,.int .i64 0,.int .i64 0,.string ⟨[].toArray⟩,.slice none 0 0] [(0,1,ci 3),(1,1,.t 73)],none,[]⟩,
 ⟨none,.store 5 (.t 4) (.t 74),none,[]⟩])
 (.ret))
 (.seq (.ops [qo 76 (.mv (.t 5)),
 ⟨some 77,.call 126 [.t 76,ci 204,ci 207],none,[.f 1]⟩,
 qo 75 (.mv (.t 77))])
 (.cond (.t 75) (.seq (.ops [qo 78 (.mv (.t 0)),
 qo 79 (.mv (.t 5)),
 qo 80 (.bin .sub false (.t 79) (ci 204)),
 qo 81 (.bin .shl false (ci 1) (.t 80)),
 ⟨some 82,.call 167 [.t 78,.t 81],none,[.f 1]⟩,
 ⟨some 83,.build [.int .i64 0,.int .i64 0,.int .i64 0,.string ⟨[].toArray⟩,.slice none 0 0] [(0,1,ci 3),(1,1,.t 82)],none,[]⟩,
 ⟨none,.store 5 (.t 4) (.t 83),none,[]⟩])
 (.ret))
 (.seq (.ops [qo 85 (.mv (.t 5)),
 ⟨some 86,.call 126 [.t 85,ci 208,ci 211],none,[.f 1]⟩,
 qo 84 (.mv (.t 86))])
 (.cond (.t 84) (.seq (.ops [qo 87 (.mv (.t 5)),
 qo 88 (.bin .sub false (.t 87) (ci 208)),
 qo 89 (.bin .shl false (ci 1) (.t 88)),
 qo 6 (.mv (.t 89))])
 (.seq (.ops [qo 90 (.mv (.t 0)),
 qo 91 (.mv (.t 6)),
 ⟨some 92,.call 167 [.t 90,.t 91],none,[.f 1]⟩,
 qo 93 (.mv (.t 6)),
 ⟨some 94,.call 170 [.t 92,.t 93],none,[.f 1]⟩,
 ⟨some 95,.build [.int .i64 0,.int .i64 0,.int .i64 0,.string ⟨[].toArray⟩,.slice none 0 0] [(0,1,ci 3),(1,1,.t 94)],none,[]⟩,
 ⟨none,.store 5 (.t 4) (.t 95),none,[]⟩])
 (.ret)))
 (.skip))))))))))))))))
 (.seq (.seq (.ops [qo 96 (.mv (.t 5))])
 (.block 1 (.seq (.ops [qo 98 (.bin .eql false (.t 96) (ci 192)),
 qo 97 (.mv (.t 98))])
 (.cond (.t 97) (.seq (.ops [⟨some 99,.build [.int .i64 0,.int .i64 0,.int .i64 0,.string ⟨[].toArray⟩,.slice none 0 0] [(0,1,ci 0)],none,[]⟩,
 ⟨none,.store 5 (.t 4) (.t 99),none,[]⟩])
 (.ret))
 (.seq (.ops [qo 101 (.bin .eql false (.t 96) (ci 194)),
 qo 100 (.mv (.t 101))])
 (.cond (.t 100) (.seq (.ops [⟨some 102,.build [.int .i64 0,.int .i64 0,.int .i64 0,.string ⟨[].toArray⟩,.slice none 0 0] [(0,1,ci 1)],none,[]⟩,
 ⟨none,.store 5 (.t 4) (.t 102),none,[]⟩])
 (.ret))
 (.seq (.ops [qo 104 (.bin .eql false (.t 96) (ci 195)),
 qo 103 (.mv (.t 104))])
 (.cond (.t 103) (.seq (.ops [⟨some 105,.build [.int .i64 0,.int .i64 0,.int .i64 0,.string ⟨[].toArray⟩,.slice none 0 0] [(0,1,ci 2)],none,[]⟩,
 ⟨none,.store 5 (.t 4) (.t 105),none,[]⟩])
 (.ret))
 (.seq (.seq (.ops [qo 107 (.bin .eql false (.t 96) (ci 196)),
 qo 106 (.mv (.t 107))])
 (.cond (.t 106) (.skip)
 (.ops [qo 108 (.bin .eql false (.t 96) (ci 197)),
 qo 106 (.mv (.t 108))])))
 (.cond (.t 106) (.seq (.ops [qo 109 (.mv (.t 0)),
 qo 110 (.mv (.t 0)),
 qo 111 (.mv (.t 5)),
 qo 112 (.bin .sub false (.t 111) (ci 195)),
 ⟨some 113,.call 167 [.t 110,.t 112],none,[.f 1]⟩,
 ⟨some 114,.call 169 [.t 109,.t 113],none,[.f 1]⟩,
 ⟨some 115,.build [.int .i64 0,.int .i64 0,.int .i64 0,.string ⟨[].toArray⟩,.slice none 0 0] [(0,1,ci 6),(3,1,.t 114)],none,[]⟩,
 ⟨none,.store 5 (.t 4) (.t 115),none,[]⟩])
 (.ret))
 (.seq (.ops [qo 117 (.bin .eql false (.t 96) (ci 199)),
 qo 116 (.mv (.t 117))])
 (.cond (.t 116) (.seq (.ops [qo 118 (.mv (.t 0)),
 qo 119 (.mv (.t 1)),
 ⟨some 120,.call 171 [.t 118,.t 119],none,[.f 1]⟩,
 ⟨none,.store 5 (.t 4) (.t 120),none,[]⟩])
 (.ret))
 (.seq (.seq (.ops [qo 122 (.bin .eql false (.t 96) (ci 217)),
 qo 121 (.mv (.t 122))])
 (.cond (.t 121) (.skip)
 (.ops [qo 123 (.bin .eql false (.t 96) (ci 218)),
 qo 121 (.mv (.t 123))])))
 (.cond (.t 121) (.seq (.ops [qo 124 (.mv (.t 0)),
 qo 125 (.mv (.t 0)),
 qo 126 (.mv (.t 5)),
 qo 127 (.bin .sub false (.t 126) (ci 216)),
 ⟨some 128,.call 167 [.t 125,.t 127],none,[.f 1]⟩,
 ⟨some 129,.call 169 [.t 124,.t 128],none,[.f 1]⟩,
 ⟨some 130,.build [.int .i64 0,.int .i64 0,.int .i64 0,.string ⟨[].toArray⟩,.slice none 0 0] [(0,1,ci 5),(3,1,.t 129)],none,[]⟩,
 ⟨none,.store 5 (.t 4) (.t 130),none,[]⟩])
 (.ret))
 (.seq (.ops [qo 132 (.bin .eql false (.t 96) (ci 220)),
 qo 131 (.mv (.t 132))])
 (.cond (.t 131) (.seq (.ops [qo 133 (.mv (.t 0)),
 qo 134 (.mv (.t 0)),
 ⟨some 135,.call 167 [.t 134,ci 2],none,[.f 1]⟩,
 qo 136 (.mv (.t 1)),
 qo 137 (.bin .add false (.t 136) (ci 1)),
 ⟨some 138,.call 168 [.t 133,.t 135,.t 137],none,[.f 1]⟩,
 ⟨some 139,.build [.int .i64 0,.int .i64 0,.int .i64 0,.string ⟨[].toArray⟩,.slice none 0 0] [(0,1,ci 7),(4,1,.t 138)],none,[]⟩,
 ⟨none,.store 5 (.t 4) (.t 139),none,[]⟩])
 (.ret))
 (.seq (.ops [qo 141 (.bin .eql false (.t 96) (ci 222)),
 qo 140 (.mv (.t 141))])
 (.cond (.t 140) (.seq (.ops [qo 142 (.mv (.t 0)),
 qo 143 (.mv (.t 0)),
 ⟨some 144,.call 167 [.t 143,ci 2],none,[.f 1]⟩,
 qo 145 (.bin .mul false (ci 2) (.t 144)),
 qo 146 (.mv (.t 1)),
 qo 147 (.bin .add false (.t 146) (ci 1)),
 ⟨some 148,.call 168 [.t 142,.t 145,.t 147],none,[.f 1]⟩,
 ⟨some 149,.build [.int .i64 0,.int .i64 0,.int .i64 0,.string ⟨[].toArray⟩,.slice none 0 0] [(0,1,ci 8),(4,1,.t 148)],none,[]⟩,
 ⟨none,.store 5 (.t 4) (.t 149),none,[]⟩])
 (.ret))
 (.skip)))))))))))))))))))
 (.seq (.ops [qo 150 (.mv (.t 0)),
 qo 151 (.nilc (.t 150)),
 qo 152 (.fld 3 (.t 151)),
 ⟨none,.store 1 (.t 152) (.c (.bool true)),none,[]⟩])
 (.seq (.ops [⟨some 153,.build [.int .i64 0,.int .i64 0,.int .i64 0,.string ⟨[].toArray⟩,.slice none 0 0] [],none,[]⟩,
 ⟨none,.store 5 (.t 4) (.t 153),none,[]⟩])
 (.ret))))))))
theorem zfe:look Tryz.prog 127 = some (154,m_i_unpacker_value,[.cell true 5 4]):=by kernel_rfl
def m_i_unpacker_wide:M:=.seq (.ops [qo 4 (.mv (ci 0))])
 (.seq (.ops [qo 8 (.mv (.t 0)),
 qo 9 (.nilc (.t 8)),
 qo 10 (.fld 0 (.t 9)),
 qo 11 (.load false 1 (.t 10)),
 qo 12 (.mv (.t 0)),
 qo 13 (.nilc (.t 12)),
 qo 14 (.fld 1 (.t 13)),
 qo 15 (.load false 1 (.t 14)),
 qo 16 (.mv (.t 1)),
 ⟨some 17,.call 166 [.t 11,.t 15,.t 16],none,[.f 0]⟩,
 qo 7 (.mv (.t 17)),
 qo 18 (.ext (.t 7) 0),
 qo 19 (.ext (.t 7) 1),
 qo 5 (.mv (.t 18)),
 qo 6 (.mv (.t 19))])
 (.seq (.seq (.ops [qo 20 (.mv (.t 0)),
 qo 21 (.nilc (.t 20)),
 qo 22 (.fld 3 (.t 21)),
 qo 23 (.load false 1 (.t 22)),
 qo 24 (.mv (.t 23)),
 ⟨some 25,.mv (.t 6),some (24,false),[]⟩,
 ⟨some 26,.not (.t 25),some (24,false),[]⟩,
 qo 27 (.pick (.t 24) (.c (.bool true)) (.t 26))])
 (.cond (.t 27) (.seq (.ops [qo 28 (.mv (.t 0)),
 qo 29 (.nilc (.t 28)),
 qo 30 (.fld 3 (.t 29)),
 ⟨none,.store 1 (.t 30) (.c (.bool true)),none,[]⟩])
 (.seq (.ops [qo 4 (.mv (ci 0))])
 (.ret)))
 (.skip)))
 (.seq (.ops [qo 31 (.mv (.t 0)),
 qo 32 (.nilc (.t 31)),
 qo 33 (.fld 1 (.t 32)),
 qo 34 (.load false 1 (.t 33)),
 qo 35 (.mv (.t 1)),
 qo 36 (.bin .add false (.t 34) (.t 35)),
 qo 37 (.nilc (.t 31)),
 qo 38 (.fld 1 (.t 37)),
 ⟨none,.store 1 (.t 38) (.t 36),none,[]⟩])
 (.seq (.ops [qo 39 (.mv (.t 5)),
 qo 4 (.mv (.t 39))])
 (.ret)))))
theorem zfF:look Tryz.prog 167 = some (40,m_i_unpacker_wide,[.tm 4]):=by kernel_rfl
def m_i_unpacker_many:M:=.seq (.ops [qo 6 (.mv (.c (.slice none 0 0)))])
 (.seq (.ops [qo 8 (.lit 5 []),
 qo 7 (.mv (.t 8))])
 (.seq (.block 0 (.loop (.seq (.seq (.ops [qo 9 (.mv (.t 1)),
 qo 10 (.bin .gtr false (.t 9) (ci 0)),
 qo 11 (.mv (.t 10)),
 ⟨some 12,.mv (.t 0),some (11,true),[]⟩,
 ⟨some 13,.nilc (.t 12),some (11,true),[]⟩,
 ⟨some 14,.fld 3 (.t 13),some (11,true),[]⟩,
 ⟨some 15,.load false 1 (.t 14),some (11,true),[]⟩,
 ⟨some 16,.not (.t 15),some (11,true),[]⟩,
 qo 17 (.pick (.t 11) (.t 16) (.c (.bool false)))])
 (.cond (.t 17) (.skip)
 (.exit 0)))
 (.seq (.block 1 (.ops [qo 20 (.mv (.t 7)),
 qo 21 (.mv (.t 0)),
 qo 22 (.mv (.t 2)),
 ⟨some 23,.call 127 [.t 21,.t 22],none,[.f 1]⟩,
 qo 24 (.lit 5 [.t 23]),
 ⟨some 25,.app 5 (.t 20) (.t 24),none,[.f 1]⟩,
 qo 7 (.mv (.t 25))]))
 (.ops [qo 18 (.mv (.t 1)),
 qo 19 (.bin .sub false (.t 18) (ci 1)),
 qo 1 (.mv (.t 19))])))))
 (.seq (.ops [qo 26 (.mv (.t 7)),
 qo 6 (.mv (.t 26))])
 (.ret))))
theorem zfG:look Tryz.prog 168 = some (27,m_i_unpacker_many,[.tm 6]):=by kernel_rfl
def m_i_unpacker_text:M:=.seq (.ops [⟨some 4,.mv (.c (.string ⟨[].toArray⟩)),none,[]⟩])
 (.seq (.seq (.ops [qo 5 (.mv (.t 0)),
 qo 6 (.nilc (.t 5)),
 qo 7 (.fld 3 (.t 6)),
 qo 8 (.load false 1 (.t 7)),
 qo 9 (.mv (.t 8)),
 ⟨some 10,.mv (.t 1),some (9,false),[]⟩,
 ⟨some 11,.mv (.t 0),some (9,false),[]⟩,
 ⟨some 12,.nilc (.t 11),some (9,false),[]⟩,
 ⟨some 13,.fld 0 (.t 12),some (9,false),[]⟩,
 ⟨some 14,.load false 1 (.t 13),some (9,false),[]⟩,
 ⟨some 15,.lens (.t 14),some (9,false),[]⟩,
 ⟨some 16,.mv (.t 0),some (9,false),[]⟩,
 ⟨some 17,.nilc (.t 16),some (9,false),[]⟩,
 ⟨some 18,.fld 1 (.t 17),some (9,false),[]⟩,
 ⟨some 19,.load false 1 (.t 18),some (9,false),[]⟩,
 ⟨some 20,.bin .sub false (.t 15) (.t 19),some (9,false),[]⟩,
 ⟨some 21,.bin .gtr false (.t 10) (.t 20),some (9,false),[]⟩,
 qo 22 (.pick (.t 9) (.c (.bool true)) (.t 21))])
 (.cond (.t 22) (.seq (.ops [qo 23 (.mv (.t 0)),
 qo 24 (.nilc (.t 23)),
 qo 25 (.fld 3 (.t 24)),
 ⟨none,.store 1 (.t 25) (.c (.bool true)),none,[]⟩])
 (.seq (.ops [⟨some 4,.mv (.c (.string ⟨[].toArray⟩)),none,[]⟩])
 (.ret)))
 (.skip)))
 (.seq (.ops [qo 26 (.mv (.t 0)),
 qo 27 (.nilc (.t 26)),
 qo 28 (.fld 1 (.t 27)),
 qo 29 (.load false 1 (.t 28)),
 qo 30 (.mv (.t 1)),
 qo 31 (.bin .add false (.t 29) (.t 30)),
 qo 32 (.nilc (.t 26)),
 qo 33 (.fld 1 (.t 32)),
 ⟨none,.store 1 (.t 33) (.t 31),none,[]⟩])
 (.seq (.ops [qo 34 (.mv (.t 0)),
 qo 35 (.nilc (.t 34)),
 qo 36 (.fld 0 (.t 35)),
 qo 37 (.load false 1 (.t 36)),
 qo 38 (.mv (.t 0)),
 qo 39 (.nilc (.t 38)),
 qo 40 (.fld 1 (.t 39)),
 qo 41 (.load false 1 (.t 40)),
 qo 42 (.mv (.t 1)),
 qo 43 (.bin .sub false (.t 41) (.t 42)),
 qo 44 (.mv (.t 0)),
 qo 45 (.nilc (.t 44)),
 qo 46 (.fld 1 (.t 45)),
 qo 47 (.load false 1 (.t 46)),
 qo 48 (.slcs (.t 37) (some (.t 43)) (some (.t 47))),
 qo 4 (.mv (.t 48))])
 (.ret))))
theorem zfH:look Tryz.prog 169 = some (49,m_i_unpacker_text,[.tm 4]):=by kernel_rfl
def m_i_unpacker_extended:M:=.seq (.ops [⟨some 4,.zero [.int .i64 0,.int .i64 0,.int .i64 0,.string ⟨[].toArray⟩,.slice none 0 0],none,[]⟩])
 (.seq (.seq (.ops [qo 9 (.mv (.t 0)),
 ⟨some 10,.call 167 [.t 9,ci 1],none,[.f 1]⟩,
 qo 11 (.mv (.t 0)),
 ⟨some 12,.call 167 [.t 11,ci 1],none,[.f 1]⟩,
 qo 5 (.mv (.t 10)),
 qo 6 (.mv (.t 12))])
 (.block 0 (.seq (.ops [qo 14 (.mv (.t 5)),
 qo 15 (.bin .eql false (.t 14) (ci 9)),
 qo 16 (.mv (.t 15)),
 ⟨some 17,.mv (.t 6),some (16,true),[]⟩,
 ⟨some 18,.bin .eql false (.t 17) (ci 4),some (16,true),[]⟩,
 qo 19 (.pick (.t 16) (.t 18) (.c (.bool false))),
 qo 13 (.mv (.t 19))])
 (.cond (.t 13) (.seq (.ops [qo 20 (.mv (.t 0)),
 ⟨some 21,.call 167 [.t 20,ci 1],none,[.f 1]⟩,
 ⟨some 22,.call 170 [.t 21,ci 1],none,[.f 1]⟩,
 qo 7 (.mv (.t 22))])
 (.seq (.ops [qo 23 (.mv (.t 7)),
 qo 24 (.mv (.t 0)),
 ⟨some 25,.call 167 [.t 24,ci 8],none,[.f 1]⟩,
 ⟨some 26,.build [.int .i64 0,.int .i64 0,.int .i64 0,.string ⟨[].toArray⟩,.slice none 0 0] [(0,1,ci 4),(2,1,.t 23),(1,1,.t 25)],none,[]⟩,
 ⟨none,.store 5 (.t 4) (.t 26),none,[]⟩])
 (.ret)))
 (.seq (.ops [qo 28 (.mv (.t 5)),
 qo 29 (.bin .eql false (.t 28) (ci 4)),
 qo 30 (.mv (.t 29)),
 ⟨some 31,.mv (.t 6),some (30,true),[]⟩,
 ⟨some 32,.bin .eql false (.t 31) (ci 6),some (30,true),[]⟩,
 qo 33 (.pick (.t 30) (.t 32) (.c (.bool false))),
 qo 27 (.mv (.t 33))])
 (.cond (.t 27) (.seq (.ops [qo 34 (.mv (.t 0)),
 ⟨some 35,.call 167 [.t 34,ci 4],none,[.f 1]⟩,
 qo 8 (.mv (.t 35))])
 (.seq (.ops [qo 36 (.mv (.t 8)),
 qo 37 (.mv (.t 0)),
 qo 38 (.mv (.t 1)),
 qo 39 (.bin .add false (.t 38) (ci 1)),
 ⟨some 40,.call 127 [.t 37,.t 39],none,[.f 1]⟩,
 qo 41 (.lit 5 [.t 40]),
 ⟨some 42,.build [.int .i64 0,.int .i64 0,.int .i64 0,.string ⟨[].toArray⟩,.slice none 0 0] [(0,1,ci 9),(1,1,.t 36),(4,1,.t 41)],none,[]⟩,
 ⟨none,.store 5 (.t 4) (.t 42),none,[]⟩])
 (.ret)))
 (.skip)))))))
 (.seq (.ops [qo 43 (.mv (.t 0)),
 qo 44 (.nilc (.t 43)),
 qo 45 (.fld 3 (.t 44)),
 ⟨none,.store 1 (.t 45) (.c (.bool true)),none,[]⟩])
 (.seq (.ops [⟨some 46,.build [.int .i64 0,.int .i64 0,.int .i64 0,.string ⟨[].toArray⟩,.slice none 0 0] [],none,[]⟩,
 ⟨none,.store 5 (.t 4) (.t 46),none,[]⟩])
 (.ret))))
theorem zes:look Tryz.prog 171 = some (47,m_i_unpacker_extended,[.cell true 5 4]):=by kernel_rfl
end
end Go.Proofs.YtanlnhkagepniaaGreatDoor
