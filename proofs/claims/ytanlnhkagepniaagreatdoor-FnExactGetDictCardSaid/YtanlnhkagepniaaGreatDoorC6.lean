/- For every text the program's GetDict returns what the reference's GetDict returns, again and again, in memory of its own. -/
import Derived.Test.YtanlnhkagepniaaGreatDoorC5
import Derived.Test.YtanlnhkagepniaaGreatDoorRows
import Derived.ProofKit
import Derived.HandedShaped
import Derived.Shelf.Vars
import Derived.Lay
import Derived.LaidMore
import Derived.Stop.Joined
import Derived.Lib.LaidU8T
import Derived.OpenShut
import Derived.ShutString
import Derived.ChangeOld
import Derived.Lib.SmallJoins
import Derived.Test.YtanlnhkagepniaaGreatDoorTie
import Derived.Test.YtanlnhkagepniaaGreatDoorCards
import Derived.SevenTiedAt
namespace Go.Proofs.YtanlnhkagepniaaGreatDoor
/- PvH6 -/
section
open Go.RowKit
variable {T:World -> Prop} {hT:Low ngl T}
attribute [local irreducible] po mw pt
def GotXU (s:List UInt8) (d:Int) (p cnt:Nat) (bad:Bool) (nt:Nat) (live:List Nat) (x:PV) (a' cnt':Nat) (bad':Bool) (nt':Nat) (live':List Nat):Prop :=
 ∃ cs:List PC,x = .ag cs /\ cs.length = 5 /\ NewL nt nt' cs /\ (∀ t ∈ toksL cs,t ∈ live') /\ (∀ t ∈ live,2 <= t -> t < nt -> t ∈ live') /\ nt <= nt' /\ (p <= a' /\ a' <= s.length /\ cnt' <= 301) /\ (bad = true -> bad' = true) /\
 (bad' = false -> cnt' <= 300 /\ ∃ u:V,erL cs = vC u /\ u.wf /\ u.bulk <= 1 + 2 * (a' - p)) /\
 (bad = false -> ∀ (v:V) (t0:List UInt8),v.wf -> v.rightBy pairsOk (12 - d) = true -> cnt + v.nodes <= 301 -> MsgTop v 199 t0 -> At s p t0 -> bad' = false /\ a' = p + t0.length /\ erL cs = vC v /\ cnt' + 1 = cnt + v.nodes)
theorem gotXU_fail {s:List UInt8} {d:Int} {p cnt a':Nat} {bad:Bool} {nt nt':Nat} {live live':List Nat} (hn:nt <= nt') (hlv:∀ t ∈ live,2 <= t -> t < nt -> t ∈ live') (ha:p <= a' /\ a' <= s.length) (hc:cnt <= 301) (h:bad = false -> ∀ (v:V) (t0:List UInt8),v.wf -> v.rightBy pairsOk (12 - d) = true -> MsgTop v 199 t0 -> ¬ At s p t0) (k n e:Int) (t:List UInt8) :
  GotXU s d p cnt bad nt live (.ag (fV k n e t)) a' cnt true nt' live' :=
 ⟨_,rfl,rfl,fV_new _ _ _ _ _ _,(fun t ht => by rw [fV_tok] at ht; cases ht),hlv,hn,⟨ha.1,ha.2,hc⟩,fun _ => rfl,(fun hb => by cases hb),fun hb v t0 a b c d e => absurd e (h hb v t0 a b d)⟩
theorem row_new {a b:Nat} {cs:List PC} (h:NewL a b cs) (hab:a <= b) (h2:2 <= b) (x0 x1 x2 x3:Value):NewL a (b + 1) [.v x0,.v x1,.v x2,.v x3,.sl b [cs]]:=by
 refine ⟨?_,?_,?_⟩
 ·have:=h.own
  simp [ownedL,PC.owned,ownedLL,this]; omega
 ·simp only [toksL,PC.toks,List.nil_append,if_pos h2,toksLL,List.append_nil]
  refine List.nodup_cons.2 ⟨fun hb => by have:=h.mem b hb; omega,h.nd⟩
 ·intro t ht
  simp only [toksL,PC.toks,List.nil_append,if_pos h2,toksLL,List.append_nil] at ht
  rcases List.mem_cons.1 ht with rfl | ht
  ·omega
  ·have:=h.mem t ht; omega
set_option maxHeartbeats 2000000 in
theorem extU_g {s:List UInt8} (hs:s.length <= 2147483647) {d:Int} (hd:0 <= d /\ d <= 12) (hV:ValU T hT s (d + 1)) (p cnt:Nat) (bad:Bool) (nt:Nat) (live:List Nat) (hp:p <= s.length) (hcnt:cnt <= 300) (hnt:2 <= nt) :
  FnG (env T hT) 171 [.ref 0 0,.d (pI d)] [uC s p cnt bad] nt live (fun x b n l => ∃ c' rest,b = c' :: rest /\ x.lw 0 /\ lwL 0 c' /\ ∃ a' cnt' bad',c' = uC s a' cnt' bad' /\ GotXU s d p cnt bad nt live x a' cnt' bad' n l):=by
 refine fng_of (look_env lk_i_unpacker_extended) (by show 2 <= 47; decide) fun B hB => ?_
 unfold m_i_unpacker_extended
 have live0:∀ t ∈ live,2 <= t -> t < nt -> t ∈ live:=fun t ht _ _ => ht
 refine mw_seq (mw_ops ?_)
 repeat' (first | refine pm ?_ | refine pq ?_ | refine px ?_ | refine po_zero ?_ | refine po_nil ?_)
 refine mw_seq ?_
 refine mw_cut (fun st => ∃ (L K:Int) (a1:Nat) (b1:Bool),has st.tm [(0,.ref 0 0),(1,.d (pI d)),(4,.ref 1 0),(5,.d (pI L)),(6,.d (pI K))] /\ st.bx = [uC s a1 cnt b1,fV 0 0 0 []] /\ st.nt = nt /\ st.live = live /\ p <= a1 /\ a1 <= s.length /\
  ((b1 = false /\ bad = false /\ a1 = p + 2 /\ L = gwN s p 1 /\ K = gwN s (p + 1) 1) \/ (b1 = true /\ (bad = true \/ ¬ p + 2 <= s.length) /\ K = 0))) ?_ ?_
 ·refine mw_ops ?_
  first | refine pm ?_ | refine pq ?_
  refine po_g rfl (FnG.lift1 (p:=0) (wideI_g s p 1 cnt bad (by decide) hp hs nt live) (args:=[.d (pI ((1:Nat):Int))]) ⟨trivial,trivial⟩ (lw_uC _ _ _ _) rfl) ?_
  rintro x _ _ _ ⟨c',rfl,rfl,rfl,⟨hb0,hle,rfl,rfl⟩ | ⟨hbad,rfl,rfl⟩⟩
  ·first | refine pm ?_ | refine pq ?_
   refine po_g rfl (FnG.lift1 (p:=0) (wideI_g s (p + 1) 1 cnt false (by decide) (by omega) hs _ _) (args:=[.d (pI ((1:Nat):Int))]) ⟨trivial,trivial⟩ (lw_uC _ _ _ _) rfl) ?_
   rintro x _ _ _ ⟨c',rfl,rfl,rfl,⟨_,hle2,rfl,rfl⟩ | ⟨hbad,rfl,rfl⟩⟩
   ·repeat' (first | refine pm ?_ | refine pq ?_ | refine px ?_ | refine po_zero ?_ | refine po_nil ?_)
    exact ⟨_,_,p + 2,false,⟨rfl,rfl,rfl,rfl,rfl,trivial⟩,rfl,rfl,rfl,by omega,by omega,.inl ⟨rfl,hb0,rfl,rfl,rfl⟩⟩
   ·repeat' (first | refine pm ?_ | refine pq ?_ | refine px ?_ | refine po_zero ?_ | refine po_nil ?_)
    exact ⟨_,_,p + 1,true,⟨rfl,rfl,rfl,rfl,rfl,trivial⟩,rfl,rfl,rfl,by omega,by omega,.inr ⟨rfl,.inr (by rcases hbad with h | h; (cases h); omega),rfl⟩⟩
  ·first | refine pm ?_ | refine pq ?_
   refine po_g rfl (FnG.lift1 (p:=0) (wideI_g s p 1 cnt true (by decide) hp hs _ _) (args:=[.d (pI ((1:Nat):Int))]) ⟨trivial,trivial⟩ (lw_uC _ _ _ _) rfl) ?_
   rintro x _ _ _ ⟨c',rfl,rfl,rfl,⟨hx,_⟩ | ⟨_,rfl,rfl⟩⟩
   ·cases hx
   ·repeat' (first | refine pm ?_ | refine pq ?_ | refine px ?_ | refine po_zero ?_ | refine po_nil ?_)
    exact ⟨_,_,p,true,⟨rfl,rfl,rfl,rfl,rfl,trivial⟩,rfl,rfl,rfl,Nat.le_refl _,hp,.inr ⟨rfl,hbad.imp id fun h => by omega,rfl⟩⟩
 rintro tm bx n1 l1 ⟨L,K,a1,b1,ht,hbx,hn,hl,hpa,has1,hcase⟩
 obtain ⟨tm0,rfl⟩:=has_ups ht
 simp only at hbx hn hl; subst hbx; subst n1; subst l1
 clear ht
 have hnone:b1 = true -> bad = false -> ∀ (v:V) (t0:List UInt8),v.wf -> v.rightBy pairsOk (12 - d) = true -> MsgTop v 199 t0 -> ¬ At s p t0:=by
  intro hb1 hbf v t0 h1 h2 h4 h5
  rcases hcase with ⟨h,_⟩ | ⟨_,h,_⟩
  ·rw [hb1] at h; cases h
  ·rcases h with h | h
   ·rw [hbf] at h; cases h
   ·rcases top199 h4 with ⟨n,e,he,hn,rfl,rfl⟩ | ⟨m,kid,hm,rfl,rfl⟩
    ·have:=(at_dec hp h5 he (by unfold i64ok; omega)).1; omega
    ·have:=(at_tag hp h5 hm).1; omega
 refine mw_block ?_
 refine mw_cut (fun st => has st.tm [(0,.ref 0 0),(1,.d (pI d)),(4,.ref 1 0),(5,.d (pI L)),(6,.d (pI K)),(13,.d (pB (decide (L = 9 /\ K = 4))))] /\ st.bx = [uC s a1 cnt b1,fV 0 0 0 []] /\ st.nt = nt /\ st.live = live) ?_ ?_
 ·refine mw_ops ?_
  first | refine pm ?_ | refine pq ?_
  by_cases c1:L = 9
  ·refine po_yes rfl rfl (decide_eq_true c1) ?_
   iterate 2 (first | refine pm ?_ | refine pq ?_)
   refine po_b rfl rfl (fun b2 hb2 => ?_)
   repeat' (first | refine pm ?_ | refine pq ?_ | refine px ?_ | refine po_zero ?_ | refine po_nil ?_)
   have:decide (L = 9 /\ K = 4) = b2:=by rw [hb2]; exact decide_eq_decide.2 ⟨fun h => h.2,fun h => ⟨c1,h⟩⟩
   exact ⟨⟨rfl,rfl,rfl,rfl,rfl,by rw [this]; rfl,trivial⟩,rfl,rfl,rfl⟩
  ·refine po_no rfl rfl (decide_eq_false c1) ?_
   first | refine pm ?_ | refine pq ?_
   iterate 2 (refine po_skip rfl ?_)
   repeat' (first | refine pm ?_ | refine pq ?_ | refine px ?_ | refine po_zero ?_ | refine po_nil ?_)
   exact ⟨⟨rfl,rfl,rfl,rfl,rfl,by rw [decide_eq_false (fun h => c1 h.1)]; rfl,trivial⟩,rfl,rfl,rfl⟩
 rintro tm bx n1 l1 ⟨ht,hbx,hn,hl⟩
 obtain ⟨tm1,rfl⟩:=has_ups ht
 simp only at hbx hn hl; subst hbx; subst n1; subst l1
 clear ht
 refine mw_cd0 (p:=L = 9 /\ K = 4) rfl (fun hc => ?_) (fun hc => ?_)
 ·obtain ⟨rfl,hbf,rfl,hL,hK⟩ | ⟨_,_,hK0⟩:=hcase
  case inr => omega
  refine mw_seq (mw_ops ?_)
  first | refine pm ?_ | refine pq ?_
  refine po_g rfl (FnG.lift1 (p:=0) (wideI_g s (p + 2) 1 cnt false (by decide) has1 hs nt live) (args:=[.d (pI ((1:Nat):Int))]) ⟨trivial,trivial⟩ (lw_uC _ _ _ _) rfl) ?_
  rintro x _ _ _ ⟨c',rfl,rfl,rfl,⟨_,hle,rfl,rfl⟩ | ⟨hbad,rfl,rfl⟩⟩
  ·have hsg:i64ok (sgw (gwN s (p + 2) 1) 1):=by
    have:=gwN_small s (p + 2) 1 (by decide)
    unfold sgw i64ok
    rw [if_pos (by decide),show ((256 ^ 1:Nat):Int) = 256 from rfl,show ((256 ^ 1 / 2:Nat):Int) = 128 from rfl]
    split <;> omega
   refine po_call (args:=[.d (pI (gwN s (p + 2) 1)),.d (pI ((1:Nat):Int))]) rfl (sgni_fn (gwN s (p + 2) 1) 1 (by decide) (gwN_ok _ _ _)) ?_
   repeat' (first | refine pm ?_ | refine pq ?_ | refine px ?_ | refine po_zero ?_ | refine po_nil ?_)
   refine mw_seq (mw_ops ?_)
   iterate 2 (first | refine pm ?_ | refine pq ?_)
   refine po_g rfl (FnG.lift1 (p:=0) (wideI_g s (p + 2 + 1) 8 cnt false (by decide) (by omega) hs _ _) (args:=[.d (pI ((8:Nat):Int))]) ⟨trivial,trivial⟩ (lw_uC _ _ _ _) rfl) ?_
   rintro x _ _ _ ⟨c',rfl,rfl,rfl,⟨_,hle2,rfl,rfl⟩ | ⟨hbad,rfl,rfl⟩⟩
   ·first | refine pm ?_ | refine pq ?_
    refine po_stw (p:=1) (cs:=fV 4 (gwN s (p + 2 + 1) 8) (sgw (gwN s (p + 2) 1) 1) []) rfl rfl rfl rfl rfl rfl ?_
    refine po_nil ?_
    refine mw_ret ⟨.inr rfl,[.ag (fV 4 (gwN s (p + 2 + 1) 8) (sgw (gwN s (p + 2) 1) 1) [])],rfl,_,_,rfl,ownedL_lw (c:=fV 4 (gwN s (p + 2 + 1) 8) (sgw (gwN s (p + 2) 1) 1) []) rfl,lw_uC _ _ _ _,p + 2 + 1 + 8,cnt,false,rfl,_,rfl,rfl,fV_new _ _ _ _ _ _,(fun t ht => by rw [fV_tok] at ht; cases ht),live0,Nat.le_refl _,⟨by omega,hle2,by omega⟩,(fun h => by rw [hbf] at h; cases h),(fun _ => ⟨hcnt,.mk 4 (gwN s (p + 2 + 1) 8) (sgw (gwN s (p + 2) 1) 1) [] [],rfl,⟨by unfold i64ok; omega,gwN_ok _ _ _,hsg,by unfold strok; simp,by simp,trivial⟩,by simp [V.bulk,V.bulks]⟩),fun _ v t0 h1 h2 h3 h4 h5 => ?_⟩
    rcases top199 h4 with ⟨n,e,he,hn,rfl,rfl⟩ | ⟨m,kid,hm,rfl,rfl⟩
    ·obtain ⟨q1,q2,q3,q4,q5⟩:=at_dec hp h5 he (by unfold i64ok; omega)
     refine ⟨rfl,?_,?_,?_⟩
     ·simp [be_length]
     ·rw [q4,q5]; rfl
     ·simp [V.nodes,V.nodess]
    ·have:=(at_tag hp h5 hm).2.1; omega
   ·first | refine pm ?_ | refine pq ?_
    refine po_stw (p:=1) (cs:=fV 4 0 (sgw (gwN s (p + 2) 1) 1) []) rfl rfl rfl rfl rfl rfl ?_
    refine po_nil ?_
    refine mw_ret ⟨.inr rfl,[.ag (fV 4 0 (sgw (gwN s (p + 2) 1) 1) [])],rfl,_,_,rfl,ownedL_lw (c:=fV 4 0 (sgw (gwN s (p + 2) 1) 1) []) rfl,lw_uC _ _ _ _,p + 2 + 1,cnt,true,rfl,gotXU_fail (Nat.le_refl _) live0 ⟨by omega,by omega⟩ (by omega) (fun _ v t0 h1 h2 h4 h5 => ?_) _ _ _ _⟩
    have hbad:¬ p + 2 + 1 + 8 <= s.length:=hbad.resolve_left (fun h => by cases h)
    rcases top199 h4 with ⟨n,e,he,hn,rfl,rfl⟩ | ⟨m,kid,hm,rfl,rfl⟩
    ·have:=(at_dec hp h5 he (by unfold i64ok; omega)).1; omega
    ·have:=(at_tag hp h5 hm).2.1; omega
  ·have hbad:¬ p + 2 + 1 <= s.length:=hbad.resolve_left (fun h => by cases h)
   refine po_call (args:=[.d (pI 0),.d (pI ((1:Nat):Int))]) rfl (sgni_fn 0 1 (by decide) (by unfold i64ok; omega)) ?_
   repeat' (first | refine pm ?_ | refine pq ?_ | refine px ?_ | refine po_zero ?_ | refine po_nil ?_)
   refine mw_seq (mw_ops ?_)
   iterate 2 (first | refine pm ?_ | refine pq ?_)
   refine po_g rfl (FnG.lift1 (p:=0) (wideI_g s (p + 2) 8 cnt true (by decide) has1 hs _ _) (args:=[.d (pI ((8:Nat):Int))]) ⟨trivial,trivial⟩ (lw_uC _ _ _ _) rfl) ?_
   rintro x _ _ _ ⟨c',rfl,rfl,rfl,⟨hx,_⟩ | ⟨_,rfl,rfl⟩⟩
   ·cases hx
   ·first | refine pm ?_ | refine pq ?_
    refine po_stw (p:=1) (cs:=fV 4 0 (sgw 0 1) []) rfl rfl rfl rfl rfl rfl ?_
    refine po_nil ?_
    refine mw_ret ⟨.inr rfl,[.ag (fV 4 0 (sgw 0 1) [])],rfl,_,_,rfl,ownedL_lw (c:=fV 4 0 (sgw 0 1) []) rfl,lw_uC _ _ _ _,p + 2,cnt,true,rfl,gotXU_fail (Nat.le_refl _) live0 ⟨by omega,by omega⟩ (by omega) (fun _ v t0 h1 h2 h4 h5 => ?_) _ _ _ _⟩
    rcases top199 h4 with ⟨n,e,he,hn,rfl,rfl⟩ | ⟨m,kid,hm,rfl,rfl⟩
    ·have:=(at_dec hp h5 he (by unfold i64ok; omega)).1; omega
    ·have:=(at_tag hp h5 hm).2.1; omega
 refine mw_cut (fun st => has st.tm [(0,.ref 0 0),(1,.d (pI d)),(4,.ref 1 0),(27,.d (pB (decide (L = 4 /\ K = 6))))] /\ st.bx = [uC s a1 cnt b1,fV 0 0 0 []] /\ st.nt = nt /\ st.live = live) ?_ ?_
 ·refine mw_ops ?_
  first | refine pm ?_ | refine pq ?_
  by_cases c1:L = 4
  ·refine po_yes rfl rfl (decide_eq_true c1) ?_
   iterate 2 (first | refine pm ?_ | refine pq ?_)
   refine po_b rfl rfl (fun b2 hb2 => ?_)
   repeat' (first | refine pm ?_ | refine pq ?_ | refine px ?_ | refine po_zero ?_ | refine po_nil ?_)
   have:decide (L = 4 /\ K = 6) = b2:=by rw [hb2]; exact decide_eq_decide.2 ⟨fun h => h.2,fun h => ⟨c1,h⟩⟩
   exact ⟨⟨rfl,rfl,rfl,by rw [this]; rfl,trivial⟩,rfl,rfl,rfl⟩
  ·refine po_no rfl rfl (decide_eq_false c1) ?_
   first | refine pm ?_ | refine pq ?_
   iterate 2 (refine po_skip rfl ?_)
   repeat' (first | refine pm ?_ | refine pq ?_ | refine px ?_ | refine po_zero ?_ | refine po_nil ?_)
   exact ⟨⟨rfl,rfl,rfl,by rw [decide_eq_false (show ¬ (L = 4 /\ K = 6) from fun h => c1 h.1)]; rfl,trivial⟩,rfl,rfl,rfl⟩
 rintro tm bx n1 l1 ⟨ht,hbx,hn,hl⟩
 obtain ⟨tm2,rfl⟩:=has_ups ht
 simp only at hbx hn hl; subst hbx; subst n1; subst l1
 clear ht
 refine mw_cd0 (p:=L = 4 /\ K = 6) rfl (fun hc6 => ?_) (fun hc6 => ?_)
 ·obtain ⟨rfl,hbf,rfl,hL,hK⟩ | ⟨_,_,hK0⟩:=hcase
  case inr => omega
  refine mw_seq (mw_ops ?_)
  first | refine pm ?_ | refine pq ?_
  refine po_g rfl (FnG.lift1 (p:=0) (wideI_g s (p + 2) 4 cnt false (by decide) has1 hs nt live) (args:=[.d (pI ((4:Nat):Int))]) ⟨trivial,trivial⟩ (lw_uC _ _ _ _) rfl) ?_
  have main:∀ (r:Int) (a2:Nat) (b2:Bool) (x:PV) (c':List PC),WideR s (p + 2) 4 cnt false nt live x c' nt live -> ∃ (r:Int) (a2:Nat) (b2:Bool),x = .d (pI r) /\ c' = uC s a2 cnt b2 /\ i64ok r /\ p + 2 <= a2 /\ a2 <= s.length /\ ((b2 = false /\ a2 = p + 6 /\ r = gwN s (p + 2) 4) \/ (b2 = true /\ ¬ p + 6 <= s.length)):=by
   rintro _ _ _ x c' ⟨_,_,⟨_,hle,rfl,rfl⟩ | ⟨hbad,rfl,rfl⟩⟩
   ·exact ⟨_,_,_,rfl,rfl,gwN_ok _ _ _,by omega,hle,.inl ⟨rfl,rfl,rfl⟩⟩
   ·exact ⟨_,_,_,rfl,rfl,by unfold i64ok; omega,Nat.le_refl _,has1,.inr ⟨rfl,hbad.resolve_left (fun h => by cases h)⟩⟩
  rintro x _ n2 l2 ⟨c',rfl,hW⟩
  obtain ⟨rfl,rfl,hW2⟩:=id hW
  obtain ⟨r,a2,b2,rfl,rfl,hr,ha2,ha2s,hcs⟩:=main 0 0 false x c' hW
  clear main hW hW2
  repeat' (first | refine pm ?_ | refine pq ?_ | refine px ?_ | refine po_zero ?_ | refine po_nil ?_)
  refine mw_seq (mw_ops ?_)
  iterate 3 (first | refine pm ?_ | refine pq ?_)
  refine po_add (n:=d + 1) rfl rfl rfl rfl (by omega) ?_
  refine po_g rfl (FnG.lift1 (p:=0) (hV a2 cnt b2 _ _ ha2s hcnt hnt) (args:=[.d (pI (d + 1))]) ⟨trivial,trivial⟩ (lw_uC _ _ _ _) rfl) ?_
  rintro x _ n3 l3 ⟨c',rfl,a3,cnt3,b3,rfl,cs,rfl,hc5,hnew,hctk,hlv3,hn3,⟨ha3,ha3s,hc3⟩,hb23,hg3,hcomp⟩
  refine po_lit (es:=[cs]) (by
   show (if cs.length = 5 then some [cs] else none) = some [cs]
   rw [if_pos hc5]) ?_
  first | refine pm ?_ | refine pq ?_
  refine po_stw (p:=1) (cs:=[pI 9,pI r,pI 0,pS [],.sl n3 [cs]]) rfl rfl rfl rfl rfl rfl ?_
  refine po_nil ?_
  have hN:=row_new hnew hn3 (by omega) (.int .i64 9) (.int .i64 r) (.int .i64 0) (.string ⟨#[]⟩)
  refine mw_ret ⟨.inr rfl,[.ag [pI 9,pI r,pI 0,pS [],.sl n3 [cs]]],rfl,_,_,rfl,ownedL_lw (c:=[pI 9,pI r,pI 0,pS [],.sl n3 [cs]]) hN.own,lw_uC _ _ _ _,a3,cnt3,b3,rfl,_,rfl,rfl,hN,?_,fun t ht h22 hlt => List.mem_cons_of_mem _ (hlv3 t ht h22 hlt),Nat.le_succ_of_le hn3,⟨by omega,ha3s,hc3⟩,(fun h => by rw [hbf] at h; cases h),(fun hb3 => ?_),fun _ v t0 h1 h2 h3 h4 h5 => ?_⟩
  ·intro t ht
   have h22:2 <= n3:=by omega
   simp only [toksL,PC.toks,pI,pS,List.nil_append,if_pos h22,toksLL,List.append_nil] at ht
   rcases List.mem_cons.1 ht with rfl | ht
   ·exact List.mem_cons_self ..
   ·exact List.mem_cons_of_mem _ (hctk t ht)
  ·obtain ⟨r1,u,r2,r3,r4,r5⟩:=hg3 hb3
   refine ⟨r1,.mk 9 r 0 [] [u],?_,⟨by unfold i64ok; omega,hr,by unfold i64ok; omega,by unfold strok; simp,by simp,r3,trivial⟩,by simp only [V.bulk,V.bulks,List.length_nil,List.length_cons]; omega⟩
   have:vK [u] = [vC u]:=by rw [vK_eq]; rfl
   simp only [erL,PC.er,erLL,r2,vC,V.kids,this]; rfl
  ·rcases top199 h4 with ⟨n,e,he,hn,rfl,rfl⟩ | ⟨m,kid,hm,rfl,rfl⟩
   ·have:=(at_dec hp h5 he (by unfold i64ok; omega)).2.1; omega
   ·obtain ⟨q1,q2,q3,q4,q5⟩:=at_tag hp h5 hm
    obtain ⟨rfl,rfl,rfl⟩ | ⟨_,hx⟩:=hcs
    case inr => exact absurd q1 hx
    have h2':=h2
    simp only [V.rightBy,V.rightsBy,Bool.and_eq_true] at h2'
    obtain ⟨s1,s2,s3,s4⟩:=hcomp rfl kid h1.2.2.2.2.2.1 (by rw [show 12 - (d + 1) = 12 - d - 1 by omega]; exact h2'.1.1) (by simp only [V.nodes,V.nodess] at h3; omega) q5
    refine ⟨s1,?_,?_,?_⟩
    ·rw [s2]; simp [be_length]; omega
    ·rw [q4]
     have:vK [kid] = [vC kid]:=by rw [vK_eq]; rfl
     simp only [erL,PC.er,erLL,s3,vC,V.kids,this]; rfl
    ·simp only [V.nodes,V.nodess]; omega
 ·refine mw_skip ?_
  refine mw_seq (mw_ops ?_)
  iterate 3 (first | refine pm ?_ | refine pq ?_)
  refine po_store (p:=0) (o':=3) (cs:=[pB true]) (z:=uC s a1 cnt b1) rfl rfl rfl ⟨rfl,Nat.le_of_ble_eq_true rfl⟩ rfl ?_
  refine po_nil ?_
  refine mw_seq (mw_ops ?_)
  first | refine pm ?_ | refine pq ?_
  refine po_stw (p:=1) (cs:=fV 0 0 0 []) rfl rfl rfl rfl rfl rfl ?_
  refine po_nil ?_
  refine mw_ret ⟨.inr rfl,[.ag (fV 0 0 0 [])],rfl,uC s a1 cnt true,_,rfl,ownedL_lw (c:=fV 0 0 0 []) rfl,lw_uC _ _ _ _,a1,cnt,true,rfl,gotXU_fail (Nat.le_refl _) live0 ⟨hpa,has1⟩ (by omega) (fun hbf v t0 h1 h2 h4 h5 => ?_) _ _ _ _⟩
  rcases hcase with ⟨_,_,_,hL,hK⟩ | ⟨hb1,_,_⟩
  ·rcases top199 h4 with ⟨n,e,he,hn,rfl,rfl⟩ | ⟨m,kid,hm,rfl,rfl⟩
   ·have:=at_dec hp h5 he (by unfold i64ok; omega); exact hc ⟨hL.trans this.2.1,hK.trans this.2.2.1⟩
   ·have:=at_tag hp h5 hm; exact hc6 ⟨hL.trans this.2.1,hK.trans this.2.2.1⟩
  ·exact hnone hb1 hbf v t0 h1 h2 h4 h5
end
/- PvGotU -/
section
open Go.RowKit
theorem gw_one {s:List UInt8} {a:Nat} (h:a < s.length):gwN s a 1 = ((s[a]).toNat:Nat):=by
 refine at_one (t:=s.drop (a + 1)) ⟨[],?_⟩
 rw [List.append_nil]; exact List.drop_eq_getElem_cons h
theorem gotU_fail {s:List UInt8} {d left:Int} {a bb cnt a' cnt' nt nt':Nat} {live live':List Nat} {cs:List PC} (HC:HdC s d left a bb) (hleft:left = 300 - cnt) (h5:cs.length = 5) (hN:NewL nt nt' cs) (hct:∀ t ∈ toksL cs,t ∈ live') (hn:nt <= nt') (hlv:∀ t ∈ live,2 <= t -> t < nt -> t ∈ live') (ha:a <= a' /\ a' <= s.length /\ cnt' <= 301)
  (hc:∀ (v:V) (t0:List UInt8),v.wf -> MsgTop v bb t0 -> ¬ At s (a + 1) t0):GotU s d a cnt false nt live (.ag cs) a' cnt' true nt' live' :=
 ⟨cs,rfl,h5,hN,hct,hlv,hn,ha,fun _ => rfl,(fun hb => by cases hb),fun _ v h1 h2 h3 h4 => by
  obtain ⟨t0,q1,q2,_⟩:=HC v h1 h2 (by omega) h4
  exact absurd q2 (hc v t0 h1 q1)⟩
theorem gotU_leaf {s:List UInt8} {d left:Int} {a bb cnt a' nt nt':Nat} {live live':List Nat} {cs:List PC} {u:V} (HC:HdC s d left a bb) (hleft:left = 300 - cnt) (he:erL cs = vC u) (h5:cs.length = 5) (ho:ownedL cs = true) (ht:toksL cs = []) (hk:u.nodes = 1) (hw:u.wf) (ha:a < a' /\ a' <= s.length) (hb:u.bulk + 1 <= 2 * (a' - a)) (hl:cnt + 1 <= 300) (hn:nt <= nt') (hlv:∀ t ∈ live,2 <= t -> t < nt -> t ∈ live')
  (hc:∀ (v:V) (t0:List UInt8),v.wf -> MsgTop v bb t0 -> At s (a + 1) t0 -> v = u /\ a' = a + 1 + t0.length):GotU s d a cnt false nt live (.ag cs) a' (cnt + 1) false nt' live' :=
 ⟨cs,rfl,h5,⟨ho,by rw [ht]; exact List.nodup_nil,fun t h => by rw [ht] at h; cases h⟩,(fun t h => by rw [ht] at h; cases h),hlv,hn,by omega,fun h => h,fun _ => ⟨hl,u,he,hw,ha.1,hb⟩,fun _ v h1 h2 h3 h4 => by
  obtain ⟨t0,q1,q2,q3⟩:=HC v h1 h2 (by omega) h4
  obtain ⟨rfl,q4⟩:=hc v t0 h1 q1 q2
  exact ⟨rfl,by omega,he,by rw [hk]⟩⟩
theorem gotU_many {s:List UInt8} {d left kind many:Int} {a bb cnt a2 a3 c a' cnt' nt nt':Nat} {b0 bad':Bool} {live live':List Nat} {x:PV} (hs:s.length <= 2147483647) (HC:HdC s d left a bb) (hleft:left = 300 - cnt) (hkind:i64ok kind) (h3:a3 <= a2 /\ a + 1 <= a3) (hG:GotM s (d + 1) many a3 (cnt + 1) b0 nt live x a' cnt' bad' nt' live')
  (h2:b0 = false -> a3 = a2 /\ a2 = a + 1 + c)
  (hc:∀ (v:V) (t0:List UInt8),v.wf -> MsgTop v bb t0 -> At s (a + 1) t0 -> b0 = false /\ ∃ us,v = .mk kind 0 0 [] us /\ (us.length:Int) = many /\ At s a2 (msgs us) /\ t0.length = c + (msgs us).length):∃ tk rows,x = .d (.sl tk rows) /\ GotU s d a cnt false nt live (.ag [pI kind,pI 0,pI 0,pS [],.sl tk rows]) a' cnt' bad' nt' live':=by
 obtain ⟨tk,rows,rfl,hN,hct,hlv,hn,⟨ha1,ha2,hc1⟩,hbb,hg,hcomp⟩:=hG
 have htok:toksL [pI kind,pI 0,pI 0,pS [],.sl tk rows] = toksL [.sl tk rows]:=rfl
 refine ⟨tk,rows,rfl,_,rfl,rfl,⟨hN.own,by rw [htok]; exact hN.nd,fun t ht => hN.mem t (by rw [<- htok]; exact ht)⟩,fun t ht => hct t (by rw [<- htok]; exact ht),hlv,hn,⟨by omega,ha2,hc1⟩,(fun h => by cases h),fun hb => ?_,fun _ v h1 h2' h3' h4 => ?_⟩
 ·obtain ⟨q1,vs,q2,q3,q4,q5⟩:=hg hb
  have hb0:b0 = false:=by cases b0 with | false => rfl | true => rw [hbb rfl] at hb; cases hb
  obtain ⟨e1,e2⟩:=h2 hb0
  refine ⟨q1,.mk kind 0 0 [] vs,by simp only [erL,PC.er,q2]; rfl,⟨hkind,by unfold i64ok; omega,by unfold i64ok; omega,by unfold strok; simp,by omega,q3⟩,by omega,by simp only [V.bulk,List.length_nil]; omega⟩
 ·obtain ⟨t0,q1,q2,q3⟩:=HC v h1 h2' (by omega) h4
  obtain ⟨hb0,us,rfl,e2,e3,e4⟩:=hc v t0 h1 q1 q2
  obtain ⟨e5,e6⟩:=h2 hb0
  simp only [V.rightBy,Bool.and_eq_true] at h2'
  obtain ⟨r1,r2,r3,r4⟩:=hcomp hb0 us h1.2.2.2.2.2 (by rw [show 12 - (d + 1) = 12 - d - 1 by omega]; exact h2'.1) (by simp only [V.nodes] at h3'; omega) e2 (by rw [e5]; exact e3)
  exact ⟨r1,by omega,by simp only [erL,PC.er,r3]; rfl,by rw [r4]; simp only [V.nodes]; omega⟩
theorem gotU_text {s:List UInt8} {d left kind:Int} {a bb cnt a2 a3 c k nt:Nat} {b0:Bool} {live:List Nat} {x:PV} {c':List PC} {n:Nat} {l:List Nat} (hs:s.length <= 2147483647) (HC:HdC s d left a bb) (hleft:left = 300 - cnt) (hl:cnt + 1 <= 300) (hkind:i64ok kind) (h3:a3 <= a2 /\ a + 1 <= a3 /\ a3 <= s.length) (hT:TextR s a3 k (cnt + 1) b0 nt live x c' n l)
  (h2:b0 = false -> a3 = a2 /\ a2 = a + 1 + c)
  (hc:∀ (v:V) (t0:List UInt8),v.wf -> MsgTop v bb t0 -> At s (a + 1) t0 -> b0 = false /\ ∃ tx,v = .mk kind 0 0 tx [] /\ tx.length = k /\ At s a2 tx /\ t0.length = c + tx.length):n = nt /\ l = live /\ ∃ tx a' bad',x = .d (pS tx) /\ c' = uC s a' (cnt + 1) bad' /\ GotU s d a cnt false nt live (.ag (fV kind 0 0 tx)) a' (cnt + 1) bad' nt live:=by
 obtain ⟨rfl,rfl,⟨hb0,hle,rfl,rfl⟩ | ⟨hbad,rfl,rfl⟩⟩:=hT
 ·obtain ⟨e1,e2⟩:=h2 hb0
  have hlen:((s.drop a3).take k).length = k:=by rw [List.length_take,List.length_drop]; omega
  refine ⟨rfl,rfl,_,_,_,rfl,rfl,gotU_leaf HC hleft (fV_er kind 0 0 _) rfl rfl (fV_tok _ _ _ _) (by simp [V.nodes,V.nodess]) ⟨hkind,by unfold i64ok; omega,by unfold i64ok; omega,by unfold strok; omega,by simp,trivial⟩ (by omega) (by simp only [V.bulk,V.bulks,List.length_nil]; omega) hl (Nat.le_refl _) (fun t ht _ _ => ht) fun v t0 h1 h4 h5 => ?_⟩
  obtain ⟨_,tx,rfl,e3,e4,e5⟩:=hc v t0 h1 h4 h5
  have:=e4.take
  rw [e3,<- e1] at this
  exact ⟨by rw [this],by omega⟩
 ·refine ⟨rfl,rfl,_,_,_,rfl,rfl,gotU_fail HC hleft rfl (fV_new _ _ _ _ _ _) (fun t ht => by rw [fV_tok] at ht; cases ht) (Nat.le_refl _) (fun t ht _ _ => ht) ⟨by omega,h3.2.2,by omega⟩ fun v t0 h1 h4 h5 => ?_⟩
  obtain ⟨hb0,tx,rfl,e3,e4,e5⟩:=hc v t0 h1 h4 h5
  obtain ⟨e1,e2⟩:=h2 hb0
  have:=e4.len (by omega)
  rcases hbad with hbad | hbad
  ·rw [hb0] at hbad; cases hbad
  ·omega
theorem gotU_int {s:List UInt8} {d left:Int} {a bb cnt k nt:Nat} {live:List Nat} {x:PV} {c':List PC} {n:Nat} {l:List Nat} (f:Int -> Int) (hf:∀ z,i64ok z -> i64ok (f z)) (HC:HdC s d left a bb) (hleft:left = 300 - cnt) (hl:cnt + 1 <= 300) (ha:a + 1 <= s.length) (hW:WideR s (a + 1) k (cnt + 1) false nt live x c' n l) (hk1:1 <= k)
  (hc:∀ (v:V) (t0:List UInt8),v.wf -> MsgTop v bb t0 -> At s (a + 1) t0 -> t0.length = k /\ v = .mk 3 (f (gwN s (a + 1) k)) 0 [] []):n = nt /\ l = live /\ ∃ z a' bad',x = .d (pI z) /\ i64ok z /\ c' = uC s a' (cnt + 1) bad' /\ GotU s d a cnt false nt live (.ag (fV 3 (f z) 0 [])) a' (cnt + 1) bad' nt live:=by
 obtain ⟨rfl,rfl,⟨_,hle,rfl,rfl⟩ | ⟨hbad,rfl,rfl⟩⟩:=hW
 ·refine ⟨rfl,rfl,_,_,_,rfl,gwN_ok _ _ _,rfl,gotU_leaf HC hleft (fV_er 3 _ 0 _) rfl rfl (fV_tok _ _ _ _) (by simp [V.nodes,V.nodess]) ⟨by unfold i64ok; omega,hf _ (gwN_ok _ _ _),by unfold i64ok; omega,by unfold strok; simp,by simp,trivial⟩ (by omega) (by simp only [V.bulk,V.bulks,List.length_nil]; omega) hl (Nat.le_refl _) (fun t ht _ _ => ht) fun v t0 h1 h4 h5 => ?_⟩
  obtain ⟨e1,e2⟩:=hc v t0 h1 h4 h5
  exact ⟨e2,by omega⟩
 ·refine ⟨rfl,rfl,0,_,_,rfl,by unfold i64ok; omega,rfl,gotU_fail HC hleft rfl (fV_new _ _ _ _ _ _) (fun t ht => by rw [fV_tok] at ht; cases ht) (Nat.le_refl _) (fun t ht _ _ => ht) ⟨by omega,ha,by omega⟩ fun v t0 h1 h4 h5 => ?_⟩
  have e1:=(hc v t0 h1 h4 h5).1
  have:=h5.len ha
  rcases hbad with hbad | hbad
  ·cases hbad
  ·omega
theorem gotU_ext {s:List UInt8} {d left:Int} {a cnt a' cnt' nt nt':Nat} {bad':Bool} {live live':List Nat} {x:PV} (HC:HdC s d left a 199) (hleft:left = 300 - cnt) (hG:GotXU s d (a + 1) (cnt + 1) false nt live x a' cnt' bad' nt' live'):GotU s d a cnt false nt live x a' cnt' bad' nt' live':=by
 obtain ⟨cs,rfl,h5,hN,hct,hlv,hn,⟨ha1,ha2,hc1⟩,hbb,hg,hcomp⟩:=hG
 refine ⟨cs,rfl,h5,hN,hct,hlv,hn,⟨by omega,ha2,hc1⟩,hbb,fun hb => ?_,fun _ v h1 h2 h3 h4 => ?_⟩
 ·obtain ⟨q1,u,q2,q3,q4⟩:=hg hb
  exact ⟨q1,u,q2,q3,by omega,by omega⟩
 ·obtain ⟨t0,q1,q2,q3⟩:=HC v h1 h2 (by omega) h4
  obtain ⟨r1,r2,r3,r4⟩:=hcomp rfl v t0 h1 h2 (by omega) q1 q2
  exact ⟨r1,by omega,r3,by omega⟩
end
/- PvH7 -/
section
open Go.RowKit
variable {T:World -> Prop} {hT:Low ngl T}
attribute [local irreducible] po mw pt
def ValR (s:List UInt8) (d:Int) (a cnt:Nat) (bad:Bool) (nt:Nat) (live:List Nat) (x:PV) (b:List (List PC)) (n:Nat) (l:List Nat):Prop:=∃ c' rest,b = c' :: rest /\ x.lw 0 /\ lwL 0 c' /\ ∃ a' cnt' bad',c' = uC s a' cnt' bad' /\ GotU s d a cnt bad nt live x a' cnt' bad' n l
theorem valR_of {s:List UInt8} {d:Int} {a cnt a' cnt' nt n:Nat} {bad bad':Bool} {live l:List Nat} {cs:List PC} {rest:List (List PC)} (h:GotU s d a cnt bad nt live (.ag cs) a' cnt' bad' n l):ValR s d a cnt bad nt live (.ag cs) (uC s a' cnt' bad' :: rest) n l:=by
 refine ⟨_,_,rfl,?_,lw_uC _ _ _ _,a',cnt',bad',rfl,h⟩
 obtain ⟨cs',e,_,hN,_⟩:=h
 simp only [PV.ag.injEq] at e
 subst e
 exact ownedL_lw hN.own
theorem ress_1 {tm:Nat -> PV} {bx:List (List PC)} {nt:Nat} {live:List Nat} {n t p:Nat} {cs:List PC} (ht:tm t = .ref p 0) (hb:bx[p]? = some cs) (hn:cs.length = n):ressM ⟨tm,bx,nt,live⟩ [.cell true n t] = some [.ag cs]:=ress_box ht hb hn
theorem shl4:∀ j:Nat,j < 4 -> IntKind.wrap .i64 (1 * 2 ^ (min (j:Int).toNat 64)) = ((2 ^ j:Nat):Int)
 | 0,_ => by decide
 | 1,_ => by decide
 | 2,_ => by decide
 | 3,_ => by decide
 | j + 4,h => by omega
theorem wide_hc {s:List UInt8} {a bb j:Nat} (hb:bb = 204 + j) (hj:j < 4):∀ (v:V) (t0:List UInt8),v.wf -> MsgTop v bb t0 -> At s (a + 1) t0 -> t0.length = 2 ^ j /\ v = .mk 3 (id (gwN s (a + 1) (2 ^ j))) 0 [] []:=by
 intro v t0 hw hM hA
 cases hM with
 | uint j' hj' n h =>
  obtain rfl:j' = j:=by omega
  exact ⟨by rw [be_length],by rw [id,hA.gw_id h.1 h.2]⟩
 | _ => exfalso; omega
theorem sign_hc {s:List UInt8} {a bb j:Nat} (hb:bb = 208 + j) (hj:j < 4):∀ (v:V) (t0:List UInt8),v.wf -> MsgTop v bb t0 -> At s (a + 1) t0 -> t0.length = 2 ^ j /\ v = .mk 3 (sgw (gwN s (a + 1) (2 ^ j)) (2 ^ j)) 0 [] []:=by
 intro v t0 hw hM hA
 cases hM with
 | sint j' hj' n h =>
  obtain rfl:j' = j:=by omega
  refine ⟨by rw [be_length],?_⟩
  have h2:2 ^ j' = 1 \/ 2 ^ j' = 2 \/ 2 ^ j' = 4 \/ 2 ^ j' = 8:=by
   have:j' = 0 \/ j' = 1 \/ j' = 2 \/ j' = 3:=by omega
   rcases this with rfl | rfl | rfl | rfl <;> decide
  rw [hA.gw,sgw_read n (2 ^ j') h2 ⟨h.2,by have:=Nat.pow_pos (n:=8 * 2 ^ j' - 1) (show 0 < 2 by decide); omega⟩]
 | _ => exfalso; omega
theorem sgw_i64 (z:Int) (j:Nat) (hz:i64ok z):i64ok (sgw z (2 ^ j)):=by
 unfold sgw
 split
 ·rename_i h
  have hp:=pow256_le (k:=2 ^ j) h.2
  have h1:=Int.emod_nonneg z (show ((256 ^ 2 ^ j:Nat):Int) ≠ 0 by omega)
  have h2:=Int.emod_lt_of_pos z (show (0:Int) < ((256 ^ 2 ^ j:Nat):Int) by omega)
  unfold i64ok
  split <;> omega
 ·exact hz
set_option maxHeartbeats 4000000 in
theorem val_g {s:List UInt8} (hs:s.length <= 2147483647) {d:Int} (hd:0 <= d /\ d <= 13) (hV:d <= 12 -> ValU T hT s (d + 1)):ValU T hT s d:=by
 intro a cnt bad nt live ha hcnt hnt
 refine fng_of (R:=ValR s d a cnt bad nt live) (look_env lk_i_unpacker_value) (by show 2 <= 154; decide) fun B hB => ?_
 unfold m_i_unpacker_value
 have live0:∀ t ∈ live,2 <= t -> t < nt -> t ∈ live:=fun t ht _ _ => ht
 refine mw_seq (mw_ops ?_)
 repeat' (first | refine pm ?_ | refine pq ?_ | refine px ?_ | refine po_zero ?_ | refine po_nil ?_)
 refine mw_seq (mw_ops ?_)
 iterate 4 (first | refine pm ?_ | refine pq ?_)
 refine po_add (n:=((cnt + 1:Nat):Int)) rfl rfl rfl (by omega) (by omega) ?_
 iterate 2 (first | refine pm ?_ | refine pq ?_)
 refine po_store (p:=0) (o':=2) (cs:=[pI ((cnt + 1:Nat):Int)]) (z:=uC s a cnt bad) rfl rfl rfl ⟨rfl,Nat.le_of_ble_eq_true rfl⟩ rfl ?_
 refine po_nil ?_
 refine mw_cut (fun st => ∃ (c:Int) (a1:Nat) (b1:Bool),has st.tm [(0,.ref 0 0),(1,.d (pI d)),(4,.ref 1 0),(5,.d (pI c))] /\ st.bx = [uC s a1 (cnt + 1) b1,fV 0 0 0 []] /\ st.nt = nt /\ st.live = live /\
  ((b1 = false /\ bad = false /\ a + 1 <= s.length /\ a1 = a + 1 /\ c = gwN s a 1) \/ (b1 = true /\ a1 = a /\ (bad = true \/ ¬ a + 1 <= s.length)))) ?_ ?_
 ·refine mw_ops ?_
  first | refine pm ?_ | refine pq ?_
  refine po_g rfl (FnG.lift1 (p:=0) (wideI_g s a 1 (cnt + 1) bad (by decide) ha hs nt live) (args:=[.d (pI ((1:Nat):Int))]) ⟨trivial,trivial⟩ (lw_uC _ _ _ _) rfl) ?_
  rintro x _ _ _ ⟨c',rfl,rfl,rfl,⟨hb0,hle,rfl,rfl⟩ | ⟨hbad,rfl,rfl⟩⟩
  ·repeat' (first | refine pm ?_ | refine pq ?_ | refine px ?_ | refine po_zero ?_ | refine po_nil ?_)
   exact ⟨_,a + 1,false,⟨rfl,rfl,rfl,rfl,trivial⟩,rfl,rfl,rfl,.inl ⟨rfl,hb0,hle,rfl,rfl⟩⟩
  ·repeat' (first | refine pm ?_ | refine pq ?_ | refine px ?_ | refine po_zero ?_ | refine po_nil ?_)
   exact ⟨_,a,true,⟨rfl,rfl,rfl,rfl,trivial⟩,rfl,rfl,rfl,.inr ⟨rfl,rfl,hbad⟩⟩
 rintro tm bx n1 l1 ⟨c,a1,b1,ht,hbx,hn,hl,hcase⟩
 obtain ⟨tm0,rfl⟩:=has_ups ht
 simp only at hbx hn hl; subst hbx; subst n1; subst l1
 clear ht
 refine mw_seq ?_
 refine mw_cut (fun st => has st.tm [(0,.ref 0 0),(1,.d (pI d)),(4,.ref 1 0),(5,.d (pI c)),(30,.d (pB (b1 || (decide (cnt + 1 > 300) || decide (d > 12)))))] /\ st.bx = [uC s a1 (cnt + 1) b1,fV 0 0 0 []] /\ st.nt = nt /\ st.live = live) ?_ ?_
 ·refine mw_ops ?_
  iterate 5 (first | refine pm ?_ | refine pq ?_)
  cases b1 with
  | true =>
   iterate 5 (refine po_skip rfl ?_)
   iterate 2 (first | refine pm ?_ | refine pq ?_)
   iterate 2 (refine po_skip rfl ?_)
   repeat' (first | refine pm ?_ | refine pq ?_ | refine px ?_ | refine po_zero ?_ | refine po_nil ?_)
   exact ⟨⟨rfl,rfl,rfl,rfl,rfl,trivial⟩,rfl,rfl,rfl⟩
  | false =>
   iterate 4 (first | refine pm ?_ | refine pq ?_)
   by_cases c1:cnt + 1 > 300
   ·refine po_yes rfl rfl (decide_eq_true (show ((cnt + 1:Nat):Int) > 300 by omega)) ?_
    iterate 2 (first | refine pm ?_ | refine pq ?_)
    iterate 2 (refine po_skip rfl ?_)
    repeat' (first | refine pm ?_ | refine pq ?_ | refine px ?_ | refine po_zero ?_ | refine po_nil ?_)
    exact ⟨⟨rfl,rfl,rfl,rfl,by rw [decide_eq_true c1]; rfl,trivial⟩,rfl,rfl,rfl⟩
   ·refine po_no rfl rfl (decide_eq_false (show ¬ ((cnt + 1:Nat):Int) > 300 by omega)) ?_
    iterate 3 (first | refine pm ?_ | refine pq ?_)
    refine po_b rfl rfl (fun b2 hb2 => ?_)
    repeat' (first | refine pm ?_ | refine pq ?_ | refine px ?_ | refine po_zero ?_ | refine po_nil ?_)
    exact ⟨⟨rfl,rfl,rfl,rfl,by rw [decide_eq_false c1,hb2]; rfl,trivial⟩,rfl,rfl,rfl⟩
 rintro tm bx n1 l1 ⟨ht,hbx,hn,hl⟩
 obtain ⟨tm1,rfl⟩:=has_ups ht
 simp only at hbx hn hl; subst hbx; subst n1; subst l1
 clear ht
 refine mw_cond (t:=b1 || (decide (cnt + 1 > 300) || decide (d > 12))) rfl (fun hc => ?_) (fun hc => ?_)
 ·refine mw_seq (mw_ops ?_)
  iterate 3 (first | refine pm ?_ | refine pq ?_)
  refine po_store (p:=0) (o':=3) (cs:=[pB true]) (z:=uC s a1 (cnt + 1) b1) rfl rfl rfl ⟨rfl,Nat.le_of_ble_eq_true rfl⟩ rfl ?_
  refine po_nil ?_
  refine mw_seq (mw_ops ?_)
  first | refine pm ?_ | refine pq ?_
  refine po_stw (p:=1) (cs:=fV 0 0 0 []) rfl rfl rfl rfl rfl rfl ?_
  refine po_nil ?_
  refine mw_ret ⟨.inr rfl,[.ag (fV 0 0 0 [])],rfl,valR_of (a':=a1) (cnt':=cnt + 1) (bad':=true) ⟨_,rfl,rfl,fV_new _ _ _ _ _ _,(fun t ht => by rw [fV_tok] at ht; cases ht),live0,Nat.le_refl _,⟨by omega,by omega,by omega⟩,fun _ => rfl,(fun hb => by cases hb),fun hb v h1 h2 h3 h4 => ?_⟩⟩
  exfalso
  have hnp:=v.nodes_pos
  have h2':0 <= 12 - d:=by
   obtain ⟨k,n,e,x,kids⟩:=v
   simp only [V.rightBy,Bool.and_eq_true,decide_eq_true_eq] at h2
   exact h2.2.1
  obtain ⟨b,t0,_,_,he⟩:=msg_top h2 (by
   obtain ⟨k,n,e,x,kids⟩:=v
   have:=V.kids_nodes kids
   simp only [V.nodes] at h3
   show kids.length <= 300
   omega) (by obtain ⟨k,n,e,x,kids⟩:=v; exact h1.2.1)
  rw [he] at h4
  have hlt:=h4.lt
  have hb1:b1 = false:=by
   rcases hcase with ⟨h,_⟩ | ⟨_,_,h | h⟩
   ·exact h
   ·rw [hb] at h; cases h
   ·omega
  rw [hb1,decide_eq_false (by omega),decide_eq_false (by omega)] at hc
  cases hc
 simp only [Bool.or_eq_false_iff,decide_eq_false_iff_not] at hc
 obtain ⟨rfl,hc300,hd12⟩:=hc
 obtain ⟨_,rfl,hal,rfl,hcc⟩ | ⟨hx,_⟩:=hcase
 case inr => cases hx
 have hil:a < s.length:=by omega
 have hl1:cnt + 1 <= 300:=by omega
 have hV:=hV (by omega)
 obtain ⟨left,hleft⟩:∃ left:Int,left = 300 - cnt:=⟨_,rfl⟩
 have HC:=hdC (d:=d) (left:=left) (by omega) hil
 have hbt:=(s[a]).toNat_lt
 rw [gw_one hil] at hcc
 subst c
 generalize s[a].toNat = bb at HC hbt
 refine mw_skip ?_
 refine mw_at (fun st => has st.tm [(0,.ref 0 0),(1,.d (pI d)),(4,.ref 1 0),(5,.d (pI bb))] /\ st.bx = [uC s (a + 1) (cnt + 1) false,fV 0 0 0 []] /\ st.nt = nt /\ st.live = live) ⟨⟨rfl,rfl,rfl,rfl,trivial⟩,rfl,rfl,rfl⟩ (fun tm bx n2 l2 hh => ?_)
 obtain ⟨ht,hbx,hn,hlv⟩:=hh
 obtain ⟨tm1,rfl⟩:=has_ups ht
 simp only at hbx hn hlv; subst hbx; subst n2; subst l2
 clear ht
 have hu:=lw_uC s (a + 1) (cnt + 1) false
 refine mw_seq (mw_block ?_)
 refine mw_seq (mw_ops ?_)
 first | refine pm ?_ | refine pq ?_
 by_cases k:(bb:Int) < 128
 ·refine po_yes rfl rfl (decide_eq_true k) ?_
  repeat' (first | refine pm ?_ | refine pq ?_ | refine px ?_ | refine po_zero ?_ | refine po_nil ?_)
  refine mwT ?_
  refine mw_seq (mw_ops ?_)
  first | refine pm ?_ | refine pq ?_
  first | refine pm ?_ | refine pq ?_
  refine po_stw (p:=1) (cs:=fV 3 bb 0 []) rfl rfl rfl rfl rfl rfl ?_
  refine po_nil ?_
  refine mw_ret ⟨.inr rfl,[.ag (fV 3 bb 0 [])],rfl,valR_of (gotU_leaf HC hleft (u:=.mk 3 bb 0 [] []) rfl rfl rfl rfl (by simp [V.nodes,V.nodess]) ⟨by unfold i64ok; omega,by unfold i64ok; omega,by unfold i64ok; omega,by unfold strok; simp,by simp,trivial⟩ (by omega) (by simp only [V.bulk,V.bulks,List.length_nil]; omega) hl1 (Nat.le_refl _) live0 fun v t0 h1 hM hA => ?_)⟩
  cases hM <;> first | (exfalso; omega) | exact ⟨rfl,rfl⟩
 refine po_no rfl rfl (decide_eq_false k) ?_
 repeat' (first | refine pm ?_ | refine pq ?_ | refine px ?_ | refine po_zero ?_ | refine po_nil ?_)
 refine mwF ?_
 refine mw_seq (mw_ops ?_)
 first | refine pm ?_ | refine pq ?_
 by_cases k:(bb:Int) < 144
 ·refine po_yes rfl rfl (decide_eq_true k) ?_
  repeat' (first | refine pm ?_ | refine pq ?_ | refine px ?_ | refine po_zero ?_ | refine po_nil ?_)
  refine mwT ?_
  refine mw_seq (mw_ops ?_)
  first | refine pm ?_ | refine pq ?_
  first | refine pm ?_ | refine pq ?_
  refine po_sub (n:=(bb:Int) - 128) rfl rfl rfl rfl (by omega) ?_
  refine po_mul (n:=2 * ((bb:Int) - 128)) rfl rfl rfl rfl (by omega) ?_
  first | refine pm ?_ | refine pq ?_
  refine po_add (n:=d + 1) rfl rfl rfl rfl (by omega) ?_
  refine po_g rfl (FnG.lift1 (p:=0) (many_g hs hV (2 * ((bb:Int) - 128)) (by omega) (a + 1) (cnt + 1) false nt live (by omega) (by omega) hnt) (args:=[.d (pI (2 * ((bb:Int) - 128))),.d (pI (d + 1))]) ⟨trivial,trivial,trivial⟩ (lw_uC _ _ _ _) rfl) ?_
  rintro x _ n3 l3 ⟨c',rfl,a',cnt',bad',rfl,hGM⟩
  obtain ⟨tk,rows,rfl,hGU⟩:=gotU_many (bb:=bb) (kind:=8) (many:=2 * ((bb:Int) - 128)) (a2:=a + 1) (a3:=a + 1) (c:=0) (b0:=false) hs HC hleft (by unfold i64ok; omega) (by omega) hGM (fun _ => ⟨rfl,rfl⟩) (fun v t0 h1 hM hA => by
   cases hM with
   | map n h kids hl => exact ⟨rfl,kids,rfl,by omega,hA,by simp⟩
   | _ => exfalso; omega)
  first | refine pm ?_ | refine pq ?_
  refine po_stw (p:=1) (cs:=[pI 8,pI 0,pI 0,pS [],.sl tk rows]) rfl rfl rfl rfl rfl rfl ?_
  refine po_nil ?_
  exact mw_ret ⟨.inr rfl,[.ag [pI 8,pI 0,pI 0,pS [],.sl tk rows]],rfl,valR_of hGU⟩
 refine po_no rfl rfl (decide_eq_false k) ?_
 repeat' (first | refine pm ?_ | refine pq ?_ | refine px ?_ | refine po_zero ?_ | refine po_nil ?_)
 refine mwF ?_
 refine mw_seq (mw_ops ?_)
 first | refine pm ?_ | refine pq ?_
 by_cases k:(bb:Int) < 160
 ·refine po_yes rfl rfl (decide_eq_true k) ?_
  repeat' (first | refine pm ?_ | refine pq ?_ | refine px ?_ | refine po_zero ?_ | refine po_nil ?_)
  refine mwT ?_
  refine mw_seq (mw_ops ?_)
  first | refine pm ?_ | refine pq ?_
  first | refine pm ?_ | refine pq ?_
  refine po_sub (n:=(bb:Int) - 144) rfl rfl rfl rfl (by omega) ?_
  first | refine pm ?_ | refine pq ?_
  refine po_add (n:=d + 1) rfl rfl rfl rfl (by omega) ?_
  refine po_g rfl (FnG.lift1 (p:=0) (many_g hs hV ((bb:Int) - 144) (by omega) (a + 1) (cnt + 1) false nt live (by omega) (by omega) hnt) (args:=[.d (pI ((bb:Int) - 144)),.d (pI (d + 1))]) ⟨trivial,trivial,trivial⟩ (lw_uC _ _ _ _) rfl) ?_
  rintro x _ n3 l3 ⟨c',rfl,a',cnt',bad',rfl,hGM⟩
  obtain ⟨tk,rows,rfl,hGU⟩:=gotU_many (bb:=bb) (kind:=7) (many:=(bb:Int) - 144) (a2:=a + 1) (a3:=a + 1) (c:=0) (b0:=false) hs HC hleft (by unfold i64ok; omega) (by omega) hGM (fun _ => ⟨rfl,rfl⟩) (fun v t0 h1 hM hA => by
   cases hM with
   | list kids h => exact ⟨rfl,kids,rfl,by omega,hA,by simp⟩
   | _ => exfalso; omega)
  first | refine pm ?_ | refine pq ?_
  refine po_stw (p:=1) (cs:=[pI 7,pI 0,pI 0,pS [],.sl tk rows]) rfl rfl rfl rfl rfl rfl ?_
  refine po_nil ?_
  exact mw_ret ⟨.inr rfl,[.ag [pI 7,pI 0,pI 0,pS [],.sl tk rows]],rfl,valR_of hGU⟩
 refine po_no rfl rfl (decide_eq_false k) ?_
 repeat' (first | refine pm ?_ | refine pq ?_ | refine px ?_ | refine po_zero ?_ | refine po_nil ?_)
 refine mwF ?_
 refine mw_seq (mw_ops ?_)
 first | refine pm ?_ | refine pq ?_
 by_cases k:(bb:Int) < 192
 ·refine po_yes rfl rfl (decide_eq_true k) ?_
  repeat' (first | refine pm ?_ | refine pq ?_ | refine px ?_ | refine po_zero ?_ | refine po_nil ?_)
  refine mwT ?_
  refine mw_seq (mw_ops ?_)
  first | refine pm ?_ | refine pq ?_
  first | refine pm ?_ | refine pq ?_
  refine po_sub (n:=((bb - 160:Nat):Int)) rfl rfl rfl (by omega) (by omega) ?_
  refine po_g rfl (FnG.lift1 (p:=0) (textI_g s (a + 1) (bb - 160) (cnt + 1) false (by omega) (by omega) hs nt live) (args:=[.d (pI ((bb - 160:Nat):Int))]) ⟨trivial,trivial⟩ (lw_uC _ _ _ _) rfl) ?_
  rintro x _ n3 l3 ⟨c',rfl,hTX⟩
  obtain ⟨rfl,rfl,tx,a',bad',rfl,rfl,hGU⟩:=gotU_text (bb:=bb) (kind:=5) (k:=bb - 160) (a2:=a + 1) (a3:=a + 1) (c:=0) (b0:=false) hs HC hleft hl1 (by unfold i64ok; omega) (by omega) hTX (fun _ => ⟨rfl,rfl⟩) (fun v t0 h1 hM hA => by
   cases hM with
   | text tx h => exact ⟨rfl,t0,rfl,by omega,hA,by simp⟩
   | _ => exfalso; omega)
  first | refine pm ?_ | refine pq ?_
  refine po_stw (p:=1) (cs:=fV 5 0 0 tx) rfl rfl rfl rfl rfl rfl ?_
  refine po_nil ?_
  exact mw_ret ⟨.inr rfl,[.ag (fV 5 0 0 tx)],rfl,valR_of hGU⟩
 refine po_no rfl rfl (decide_eq_false k) ?_
 repeat' (first | refine pm ?_ | refine pq ?_ | refine px ?_ | refine po_zero ?_ | refine po_nil ?_)
 refine mwF ?_
 refine mw_seq (mw_ops ?_)
 first | refine pm ?_ | refine pq ?_
 by_cases k:(bb:Int) ≥ 224
 ·refine po_yes rfl rfl (decide_eq_true k) ?_
  repeat' (first | refine pm ?_ | refine pq ?_ | refine px ?_ | refine po_zero ?_ | refine po_nil ?_)
  refine mwT ?_
  refine mw_seq (mw_ops ?_)
  first | refine pm ?_ | refine pq ?_
  refine po_sub (n:=(bb:Int) - 256) rfl rfl rfl rfl (by omega) ?_
  first | refine pm ?_ | refine pq ?_
  refine po_stw (p:=1) (cs:=fV 3 ((bb:Int) - 256) 0 []) rfl rfl rfl rfl rfl rfl ?_
  refine po_nil ?_
  refine mw_ret ⟨.inr rfl,[.ag (fV 3 ((bb:Int) - 256) 0 [])],rfl,valR_of (gotU_leaf HC hleft (u:=.mk 3 ((bb:Int) - 256) 0 [] []) rfl rfl rfl rfl (by simp [V.nodes,V.nodess]) ⟨by unfold i64ok; omega,by unfold i64ok; omega,by unfold i64ok; omega,by unfold strok; simp,by simp,trivial⟩ (by omega) (by simp only [V.bulk,V.bulks,List.length_nil]; omega) hl1 (Nat.le_refl _) live0 fun v t0 h1 hM hA => ?_)⟩
  cases hM <;> first | (exfalso; omega) | exact ⟨rfl,rfl⟩
 refine po_no rfl rfl (decide_eq_false k) ?_
 repeat' (first | refine pm ?_ | refine pq ?_ | refine px ?_ | refine po_zero ?_ | refine po_nil ?_)
 refine mwF ?_
 refine mw_seq (mw_ops ?_)
 first | refine pm ?_ | refine pq ?_
 refine po_call rfl (within_fn bb 204 207) ?_
 by_cases k6:(204:Int) <= bb /\ (bb:Int) <= 207
 ·rw [decide_eq_true k6]
  repeat' (first | refine pm ?_ | refine pq ?_ | refine px ?_ | refine po_zero ?_ | refine po_nil ?_)
  refine mwT ?_
  refine mw_seq (mw_ops ?_)
  obtain ⟨j,rfl⟩:∃ j,bb = 204 + j:=⟨bb - 204,by omega⟩
  have hj:j < 4:=by omega
  have hp2:1 <= 2 ^ j /\ 2 ^ j <= 8:=by
   have:j = 0 \/ j = 1 \/ j = 2 \/ j = 3:=by omega
   rcases this with rfl | rfl | rfl | rfl <;> decide
  iterate 2 (first | refine pm ?_ | refine pq ?_)
  refine po_sub (n:=(j:Int)) rfl rfl rfl (by omega) (by omega) ?_
  refine po_shl (n:=((2 ^ j:Nat):Int)) rfl rfl rfl (by omega) (shl4 j hj) ?_
  refine po_g rfl (FnG.lift1 (p:=0) (wideI_g s (a + 1) (2 ^ j) (cnt + 1) false hp2 hal hs nt live) (args:=[.d (pI ((2 ^ j:Nat):Int))]) ⟨trivial,trivial⟩ (lw_uC _ _ _ _) rfl) ?_
  rintro x _ n3 l3 ⟨c',rfl,hW⟩
  obtain ⟨rfl,rfl,z,a',bad',rfl,_,rfl,hGU⟩:=gotU_int id (fun _ h => h) HC hleft hl1 hal hW hp2.1 (wide_hc rfl hj)
  first | refine pm ?_ | refine pq ?_
  refine po_stw (p:=1) (cs:=fV 3 z 0 []) rfl rfl rfl rfl rfl rfl ?_
  refine po_nil ?_
  exact mw_ret ⟨.inr rfl,[.ag (fV 3 z 0 [])],rfl,valR_of hGU⟩
 rw [decide_eq_false k6]
 repeat' (first | refine pm ?_ | refine pq ?_ | refine px ?_ | refine po_zero ?_ | refine po_nil ?_)
 refine mwF ?_
 refine mw_seq (mw_ops ?_)
 first | refine pm ?_ | refine pq ?_
 refine po_call rfl (within_fn bb 208 211) ?_
 by_cases k7:(208:Int) <= bb /\ (bb:Int) <= 211
 ·rw [decide_eq_true k7]
  repeat' (first | refine pm ?_ | refine pq ?_ | refine px ?_ | refine po_zero ?_ | refine po_nil ?_)
  refine mwT ?_
  refine mw_seq (mw_ops ?_)
  obtain ⟨j,rfl⟩:∃ j,bb = 208 + j:=⟨bb - 208,by omega⟩
  have hj:j < 4:=by omega
  have hp2:1 <= 2 ^ j /\ 2 ^ j <= 8:=by
   have:j = 0 \/ j = 1 \/ j = 2 \/ j = 3:=by omega
   rcases this with rfl | rfl | rfl | rfl <;> decide
  first | refine pm ?_ | refine pq ?_
  refine po_sub (n:=(j:Int)) rfl rfl rfl (by omega) (by omega) ?_
  refine po_shl (n:=((2 ^ j:Nat):Int)) rfl rfl rfl (by omega) (shl4 j hj) ?_
  repeat' (first | refine pm ?_ | refine pq ?_ | refine px ?_ | refine po_zero ?_ | refine po_nil ?_)
  refine mw_seq (mw_ops ?_)
  iterate 2 (first | refine pm ?_ | refine pq ?_)
  refine po_g rfl (FnG.lift1 (p:=0) (wideI_g s (a + 1) (2 ^ j) (cnt + 1) false hp2 hal hs nt live) (args:=[.d (pI ((2 ^ j:Nat):Int))]) ⟨trivial,trivial⟩ (lw_uC _ _ _ _) rfl) ?_
  rintro x _ n3 l3 ⟨c',rfl,hW⟩
  obtain ⟨rfl,rfl,z,a',bad',rfl,hz,rfl,hGU⟩:=gotU_int (fun z => sgw z (2 ^ j)) (fun z h => sgw_i64 z j h) HC hleft hl1 hal hW hp2.1 (sign_hc rfl hj)
  first | refine pm ?_ | refine pq ?_
  refine po_call (args:=[.d (pI z),.d (pI ((2 ^ j:Nat):Int))]) rfl (sgni_fn z (2 ^ j) hp2 hz) ?_
  first | refine pm ?_ | refine pq ?_
  refine po_stw (p:=1) (cs:=fV 3 (sgw z (2 ^ j)) 0 []) rfl rfl rfl rfl rfl rfl ?_
  refine po_nil ?_
  exact mw_ret ⟨.inr rfl,[.ag (fV 3 (sgw z (2 ^ j)) 0 [])],rfl,valR_of hGU⟩
 rw [decide_eq_false k7]
 repeat' (first | refine pm ?_ | refine pq ?_ | refine px ?_ | refine po_zero ?_ | refine po_nil ?_)
 refine mwF ?_
 refine mw_skip ?_
 refine mw_at (fun st => has st.tm [(0,.ref 0 0),(1,.d (pI d)),(4,.ref 1 0),(5,.d (pI bb))] /\ st.bx = [uC s (a + 1) (cnt + 1) false,fV 0 0 0 []] /\ st.nt = nt /\ st.live = live) ⟨⟨rfl,rfl,rfl,rfl,trivial⟩,rfl,rfl,rfl⟩ (fun tm bx n2 l2 hh => ?_)
 obtain ⟨ht,hbx,hn,hlv⟩:=hh
 obtain ⟨tm2,rfl⟩:=has_ups ht
 simp only at hbx hn hlv; subst hbx; subst n2; subst l2
 clear ht
 refine mw_seq (mw_seq (mw_ops ?_))
 repeat' (first | refine pm ?_ | refine pq ?_ | refine px ?_ | refine po_zero ?_ | refine po_nil ?_)
 refine mw_block (mw_seq (mw_ops ?_))
 by_cases q192:(bb:Int) = 192
 ·refine po_yes rfl rfl (decide_eq_true q192) ?_
  repeat' (first | refine pm ?_ | refine pq ?_ | refine px ?_ | refine po_zero ?_ | refine po_nil ?_)
  refine mwT ?_
  refine mw_seq (mw_ops ?_)
  first | refine pm ?_ | refine pq ?_
  refine po_stw (p:=1) (cs:=fV 0 0 0 []) rfl rfl rfl rfl rfl rfl ?_
  refine po_nil ?_
  refine mw_ret ⟨.inr rfl,[.ag (fV 0 0 0 [])],rfl,valR_of (gotU_leaf HC hleft (u:=.mk 0 0 0 [] []) rfl rfl rfl rfl (by simp [V.nodes,V.nodess]) ⟨by unfold i64ok; omega,by unfold i64ok; omega,by unfold i64ok; omega,by unfold strok; simp,by simp,trivial⟩ (by omega) (by simp only [V.bulk,V.bulks,List.length_nil]; omega) hl1 (Nat.le_refl _) live0 fun v t0 h1 hM hA => ?_)⟩
  cases hM <;> first | (exfalso; omega) | exact ⟨rfl,rfl⟩
 refine po_no rfl rfl (decide_eq_false q192) ?_
 repeat' (first | refine pm ?_ | refine pq ?_ | refine px ?_ | refine po_zero ?_ | refine po_nil ?_)
 refine mwF ?_
 refine mw_seq (mw_ops ?_)
 by_cases q194:(bb:Int) = 194
 ·refine po_yes rfl rfl (decide_eq_true q194) ?_
  repeat' (first | refine pm ?_ | refine pq ?_ | refine px ?_ | refine po_zero ?_ | refine po_nil ?_)
  refine mwT ?_
  refine mw_seq (mw_ops ?_)
  first | refine pm ?_ | refine pq ?_
  refine po_stw (p:=1) (cs:=fV 1 0 0 []) rfl rfl rfl rfl rfl rfl ?_
  refine po_nil ?_
  refine mw_ret ⟨.inr rfl,[.ag (fV 1 0 0 [])],rfl,valR_of (gotU_leaf HC hleft (u:=.mk 1 0 0 [] []) rfl rfl rfl rfl (by simp [V.nodes,V.nodess]) ⟨by unfold i64ok; omega,by unfold i64ok; omega,by unfold i64ok; omega,by unfold strok; simp,by simp,trivial⟩ (by omega) (by simp only [V.bulk,V.bulks,List.length_nil]; omega) hl1 (Nat.le_refl _) live0 fun v t0 h1 hM hA => ?_)⟩
  cases hM <;> first | (exfalso; omega) | exact ⟨rfl,rfl⟩
 refine po_no rfl rfl (decide_eq_false q194) ?_
 repeat' (first | refine pm ?_ | refine pq ?_ | refine px ?_ | refine po_zero ?_ | refine po_nil ?_)
 refine mwF ?_
 refine mw_seq (mw_ops ?_)
 by_cases q195:(bb:Int) = 195
 ·refine po_yes rfl rfl (decide_eq_true q195) ?_
  repeat' (first | refine pm ?_ | refine pq ?_ | refine px ?_ | refine po_zero ?_ | refine po_nil ?_)
  refine mwT ?_
  refine mw_seq (mw_ops ?_)
  first | refine pm ?_ | refine pq ?_
  refine po_stw (p:=1) (cs:=fV 2 0 0 []) rfl rfl rfl rfl rfl rfl ?_
  refine po_nil ?_
  refine mw_ret ⟨.inr rfl,[.ag (fV 2 0 0 [])],rfl,valR_of (gotU_leaf HC hleft (u:=.mk 2 0 0 [] []) rfl rfl rfl rfl (by simp [V.nodes,V.nodess]) ⟨by unfold i64ok; omega,by unfold i64ok; omega,by unfold i64ok; omega,by unfold strok; simp,by simp,trivial⟩ (by omega) (by simp only [V.bulk,V.bulks,List.length_nil]; omega) hl1 (Nat.le_refl _) live0 fun v t0 h1 hM hA => ?_)⟩
  cases hM <;> first | (exfalso; omega) | exact ⟨rfl,rfl⟩
 refine po_no rfl rfl (decide_eq_false q195) ?_
 repeat' (first | refine pm ?_ | refine pq ?_ | refine px ?_ | refine po_zero ?_ | refine po_nil ?_)
 refine mwF ?_
 refine mw_cut (fun st => has st.tm [(0,.ref 0 0),(1,.d (pI d)),(4,.ref 1 0),(5,.d (pI bb)),(96,.d (pI bb)),(106,.d (pB (decide ((bb:Int) = 196 \/ (bb:Int) = 197))))] /\ st.bx = [uC s (a + 1) (cnt + 1) false,fV 0 0 0 []] /\ st.nt = nt /\ st.live = live) ?_ ?_
 ·refine mw_seq (mw_ops ?_)
  by_cases q:(bb:Int) = 196
  ·refine po_yes rfl rfl (decide_eq_true q) ?_
   repeat' (first | refine pm ?_ | refine pq ?_ | refine px ?_ | refine po_zero ?_ | refine po_nil ?_)
   refine mwT ?_
   refine mw_skip ?_
   exact ⟨⟨rfl,rfl,rfl,rfl,rfl,by rw [decide_eq_true (show (bb:Int) = 196 \/ (bb:Int) = 197 from .inl q)]; rfl,trivial⟩,rfl,rfl,rfl⟩
  ·refine po_no rfl rfl (decide_eq_false q) ?_
   repeat' (first | refine pm ?_ | refine pq ?_ | refine px ?_ | refine po_zero ?_ | refine po_nil ?_)
   refine mwF ?_
   refine mw_ops ?_
   refine po_b rfl rfl (fun b2 hb2 => ?_)
   repeat' (first | refine pm ?_ | refine pq ?_ | refine px ?_ | refine po_zero ?_ | refine po_nil ?_)
   have:decide ((bb:Int) = 196 \/ (bb:Int) = 197) = b2:=by rw [hb2]; exact decide_eq_decide.2 ⟨fun h => h.resolve_left q,.inr⟩
   exact ⟨⟨rfl,rfl,rfl,rfl,rfl,by rw [this]; rfl,trivial⟩,rfl,rfl,rfl⟩
 rintro tm bx n2 l2 ⟨ht,hbx,hn,hlv⟩
 obtain ⟨tm3,rfl⟩:=has_ups ht
 simp only at hbx hn hlv; subst hbx; subst n2; subst l2
 clear ht
 refine mw_cd0 (p:=(bb:Int) = 196 \/ (bb:Int) = 197) rfl (fun q196 => ?_) (fun q196 => ?_)
 ·refine mw_seq (mw_ops ?_)
  first | refine pm ?_ | refine pq ?_
  first | refine pm ?_ | refine pq ?_
  first | refine pm ?_ | refine pq ?_
  obtain ⟨j,hj,hj2⟩:∃ j:Nat,(bb:Int) - 195 = j /\ (j = 1 \/ j = 2):=⟨bb - 195,by omega,by omega⟩
  refine po_sub (n:=(j:Int)) rfl rfl rfl hj (by omega) ?_
  refine po_g rfl (FnG.lift1 (p:=0) (wideI_g s (a + 1) j (cnt + 1) false (by omega) hal hs nt live) (args:=[.d (pI (j:Int))]) ⟨trivial,trivial⟩ (lw_uC _ _ _ _) rfl) ?_
  rintro x _ n3 l3 ⟨c',rfl,rfl,rfl,hW⟩
  obtain ⟨m,a3,b0,rfl,rfl,hm,ha3,hb0⟩:∃ (m a3:Nat) (b0:Bool),x = .d (pI (m:Int)) /\ c' = uC s a3 (cnt + 1) b0 /\ m <= 65536 /\ (a + 1 <= a3 /\ a3 <= a + 1 + j /\ a3 <= s.length) /\ ((b0 = false /\ a3 = a + 1 + j /\ (m:Int) = gwN s (a + 1) j) \/ (b0 = true /\ ¬ a + 1 + j <= s.length)):=by
   rcases hW with ⟨_,hle,rfl,rfl⟩ | ⟨hbad,rfl,rfl⟩
   ·have:=gwN_small s (a + 1) j (by omega)
    have h256:(256:Int) ^ j <= 65536:=by rcases hj2 with rfl | rfl <;> decide
    exact ⟨(gwN s (a + 1) j).toNat,_,_,by rw [Int.toNat_of_nonneg this.1],rfl,by omega,by omega,.inl ⟨rfl,rfl,by omega⟩⟩
   ·exact ⟨0,_,_,rfl,rfl,by omega,by omega,.inr ⟨rfl,hbad.resolve_left (fun h => by cases h)⟩⟩
  have two:∀ {n:Nat} {l t0:List UInt8},n < 256 ^ j -> t0 = be j n ++ l -> At s (a + 1) t0 -> b0 = false /\ n = m /\ At s (a + 1 + j) l /\ t0.length = j + l.length:=by
   rintro n l t0 hl rfl hA
   have h1:=hA.app.1
   have h2:=hA.app.2
   have h3:=h1.len (by omega)
   rw [be_length] at h2 h3
   have h256:256 ^ j <= 65536:=by rcases hj2 with rfl | rfl <;> decide
   have h4:=h1.gw_id hl (by omega)
   rcases hb0 with ⟨e1,e2,e3⟩ | ⟨_,e2⟩
   ·exact ⟨e1,by omega,h2,by rw [List.length_append,be_length]⟩
   ·exact absurd h3 e2
  refine po_g rfl (FnG.lift1 (p:=0) (textI_g s (a3) (m) (cnt + 1) b0 (by omega) (by omega) hs n3 l3) (args:=[.d (pI ((m:Nat):Int))]) ⟨trivial,trivial⟩ (lw_uC _ _ _ _) rfl) ?_
  rintro x _ n3 l3 ⟨c',rfl,hTX⟩
  obtain ⟨rfl,rfl,tx,a',bad',rfl,rfl,hGU⟩:=gotU_text (bb:=bb) (kind:=6) (k:=m) (a2:=a + 1 + j) (a3:=a3) (c:=j) (b0:=b0) hs HC hleft hl1 (by unfold i64ok; omega) (by omega) hTX (fun h => ⟨(by rcases hb0 with ⟨_,e2,_⟩ | ⟨e1,_⟩; exact e2; rw [h] at e1; cases e1),rfl⟩) (fun v t0 h1 hM hA => by
   have hbb:bb = 195 + j:=by omega
   rcases hj2 with rfl | rfl
   ·cases hM with
    | bytes1 tx h =>
     obtain ⟨e1,e2,e3,e4⟩:=two (n:=tx.length) (l:=tx) (by have:(256:Nat) ^ 1 = 256:=rfl; omega) rfl hA
     exact ⟨e1,tx,rfl,e2,e3,e4⟩
    | _ => exfalso; omega
   ·cases hM with
    | bytes2 tx h =>
     obtain ⟨e1,e2,e3,e4⟩:=two (n:=tx.length) (l:=tx) (by have:(256:Nat) ^ 2 = 65536:=rfl; omega) rfl hA
     exact ⟨e1,tx,rfl,e2,e3,e4⟩
    | _ => exfalso; omega)
  first | refine pm ?_ | refine pq ?_
  refine po_stw (p:=1) (cs:=fV 6 0 0 tx) rfl rfl rfl rfl rfl rfl ?_
  refine po_nil ?_
  exact mw_ret ⟨.inr rfl,[.ag (fV 6 0 0 tx)],rfl,valR_of hGU⟩
 refine mw_seq (mw_ops ?_)
 by_cases q199:(bb:Int) = 199
 ·refine po_yes rfl rfl (decide_eq_true q199) ?_
  repeat' (first | refine pm ?_ | refine pq ?_ | refine px ?_ | refine po_zero ?_ | refine po_nil ?_)
  refine mwT ?_
  refine mw_seq (mw_ops ?_)
  first | refine pm ?_ | refine pq ?_
  first | refine pm ?_ | refine pq ?_
  obtain rfl:bb = 199:=by omega
  refine po_g rfl (FnG.lift1 (p:=0) (extU_g hs (by omega) hV (a + 1) (cnt + 1) false nt live hal (by omega) hnt) (args:=[.d (pI d)]) ⟨trivial,trivial⟩ (lw_uC _ _ _ _) rfl) ?_
  rintro x _ n3 l3 ⟨c',rfl,a',cnt',bad',rfl,hGX⟩
  have hGU:=gotU_ext HC hleft hGX
  obtain ⟨cs,rfl,hc5,_⟩:=hGX
  refine po_stw (p:=1) (cs:=cs) rfl rfl rfl hc5 rfl rfl ?_
  refine po_nil ?_
  exact mw_ret ⟨.inr rfl,[.ag cs],ress_1 rfl rfl hc5,valR_of hGU⟩
 refine po_no rfl rfl (decide_eq_false q199) ?_
 repeat' (first | refine pm ?_ | refine pq ?_ | refine px ?_ | refine po_zero ?_ | refine po_nil ?_)
 refine mwF ?_
 refine mw_cut (fun st => has st.tm [(0,.ref 0 0),(1,.d (pI d)),(4,.ref 1 0),(5,.d (pI bb)),(96,.d (pI bb)),(121,.d (pB (decide ((bb:Int) = 217 \/ (bb:Int) = 218))))] /\ st.bx = [uC s (a + 1) (cnt + 1) false,fV 0 0 0 []] /\ st.nt = nt /\ st.live = live) ?_ ?_
 ·refine mw_seq (mw_ops ?_)
  by_cases q:(bb:Int) = 217
  ·refine po_yes rfl rfl (decide_eq_true q) ?_
   repeat' (first | refine pm ?_ | refine pq ?_ | refine px ?_ | refine po_zero ?_ | refine po_nil ?_)
   refine mwT ?_
   refine mw_skip ?_
   exact ⟨⟨rfl,rfl,rfl,rfl,rfl,by rw [decide_eq_true (show (bb:Int) = 217 \/ (bb:Int) = 218 from .inl q)]; rfl,trivial⟩,rfl,rfl,rfl⟩
  ·refine po_no rfl rfl (decide_eq_false q) ?_
   repeat' (first | refine pm ?_ | refine pq ?_ | refine px ?_ | refine po_zero ?_ | refine po_nil ?_)
   refine mwF ?_
   refine mw_ops ?_
   refine po_b rfl rfl (fun b2 hb2 => ?_)
   repeat' (first | refine pm ?_ | refine pq ?_ | refine px ?_ | refine po_zero ?_ | refine po_nil ?_)
   have:decide ((bb:Int) = 217 \/ (bb:Int) = 218) = b2:=by rw [hb2]; exact decide_eq_decide.2 ⟨fun h => h.resolve_left q,.inr⟩
   exact ⟨⟨rfl,rfl,rfl,rfl,rfl,by rw [this]; rfl,trivial⟩,rfl,rfl,rfl⟩
 rintro tm bx n2 l2 ⟨ht,hbx,hn,hlv⟩
 obtain ⟨tm3,rfl⟩:=has_ups ht
 simp only at hbx hn hlv; subst hbx; subst n2; subst l2
 clear ht
 refine mw_cd0 (p:=(bb:Int) = 217 \/ (bb:Int) = 218) rfl (fun q217 => ?_) (fun q217 => ?_)
 ·refine mw_seq (mw_ops ?_)
  first | refine pm ?_ | refine pq ?_
  first | refine pm ?_ | refine pq ?_
  first | refine pm ?_ | refine pq ?_
  obtain ⟨j,hj,hj2⟩:∃ j:Nat,(bb:Int) - 216 = j /\ (j = 1 \/ j = 2):=⟨bb - 216,by omega,by omega⟩
  refine po_sub (n:=(j:Int)) rfl rfl rfl hj (by omega) ?_
  refine po_g rfl (FnG.lift1 (p:=0) (wideI_g s (a + 1) j (cnt + 1) false (by omega) hal hs nt live) (args:=[.d (pI (j:Int))]) ⟨trivial,trivial⟩ (lw_uC _ _ _ _) rfl) ?_
  rintro x _ n3 l3 ⟨c',rfl,rfl,rfl,hW⟩
  obtain ⟨m,a3,b0,rfl,rfl,hm,ha3,hb0⟩:∃ (m a3:Nat) (b0:Bool),x = .d (pI (m:Int)) /\ c' = uC s a3 (cnt + 1) b0 /\ m <= 65536 /\ (a + 1 <= a3 /\ a3 <= a + 1 + j /\ a3 <= s.length) /\ ((b0 = false /\ a3 = a + 1 + j /\ (m:Int) = gwN s (a + 1) j) \/ (b0 = true /\ ¬ a + 1 + j <= s.length)):=by
   rcases hW with ⟨_,hle,rfl,rfl⟩ | ⟨hbad,rfl,rfl⟩
   ·have:=gwN_small s (a + 1) j (by omega)
    have h256:(256:Int) ^ j <= 65536:=by rcases hj2 with rfl | rfl <;> decide
    exact ⟨(gwN s (a + 1) j).toNat,_,_,by rw [Int.toNat_of_nonneg this.1],rfl,by omega,by omega,.inl ⟨rfl,rfl,by omega⟩⟩
   ·exact ⟨0,_,_,rfl,rfl,by omega,by omega,.inr ⟨rfl,hbad.resolve_left (fun h => by cases h)⟩⟩
  have two:∀ {n:Nat} {l t0:List UInt8},n < 256 ^ j -> t0 = be j n ++ l -> At s (a + 1) t0 -> b0 = false /\ n = m /\ At s (a + 1 + j) l /\ t0.length = j + l.length:=by
   rintro n l t0 hl rfl hA
   have h1:=hA.app.1
   have h2:=hA.app.2
   have h3:=h1.len (by omega)
   rw [be_length] at h2 h3
   have h256:256 ^ j <= 65536:=by rcases hj2 with rfl | rfl <;> decide
   have h4:=h1.gw_id hl (by omega)
   rcases hb0 with ⟨e1,e2,e3⟩ | ⟨_,e2⟩
   ·exact ⟨e1,by omega,h2,by rw [List.length_append,be_length]⟩
   ·exact absurd h3 e2
  refine po_g rfl (FnG.lift1 (p:=0) (textI_g s (a3) (m) (cnt + 1) b0 (by omega) (by omega) hs n3 l3) (args:=[.d (pI ((m:Nat):Int))]) ⟨trivial,trivial⟩ (lw_uC _ _ _ _) rfl) ?_
  rintro x _ n3 l3 ⟨c',rfl,hTX⟩
  obtain ⟨rfl,rfl,tx,a',bad',rfl,rfl,hGU⟩:=gotU_text (bb:=bb) (kind:=5) (k:=m) (a2:=a + 1 + j) (a3:=a3) (c:=j) (b0:=b0) hs HC hleft hl1 (by unfold i64ok; omega) (by omega) hTX (fun h => ⟨(by rcases hb0 with ⟨_,e2,_⟩ | ⟨e1,_⟩; exact e2; rw [h] at e1; cases e1),rfl⟩) (fun v t0 h1 hM hA => by
   have hbb:bb = 216 + j:=by omega
   rcases hj2 with rfl | rfl
   ·cases hM with
    | text1 tx h =>
     obtain ⟨e1,e2,e3,e4⟩:=two (n:=tx.length) (l:=tx) (by have:(256:Nat) ^ 1 = 256:=rfl; omega) rfl hA
     exact ⟨e1,tx,rfl,e2,e3,e4⟩
    | _ => exfalso; omega
   ·cases hM with
    | text2 tx h =>
     obtain ⟨e1,e2,e3,e4⟩:=two (n:=tx.length) (l:=tx) (by have:(256:Nat) ^ 2 = 65536:=rfl; omega) rfl hA
     exact ⟨e1,tx,rfl,e2,e3,e4⟩
    | _ => exfalso; omega)
  first | refine pm ?_ | refine pq ?_
  refine po_stw (p:=1) (cs:=fV 5 0 0 tx) rfl rfl rfl rfl rfl rfl ?_
  refine po_nil ?_
  exact mw_ret ⟨.inr rfl,[.ag (fV 5 0 0 tx)],rfl,valR_of hGU⟩
 refine mw_seq (mw_ops ?_)
 by_cases q220:(bb:Int) = 220
 ·refine po_yes rfl rfl (decide_eq_true q220) ?_
  repeat' (first | refine pm ?_ | refine pq ?_ | refine px ?_ | refine po_zero ?_ | refine po_nil ?_)
  refine mwT ?_
  refine mw_seq (mw_ops ?_)
  first | refine pm ?_ | refine pq ?_
  first | refine pm ?_ | refine pq ?_
  refine po_g rfl (FnG.lift1 (p:=0) (wideI_g s (a + 1) 2 (cnt + 1) false (by omega) hal hs nt live) (args:=[.d (pI ((2:Nat):Int))]) ⟨trivial,trivial⟩ (lw_uC _ _ _ _) rfl) ?_
  rintro x _ n3 l3 ⟨c',rfl,rfl,rfl,hW⟩
  obtain ⟨m,a3,b0,rfl,rfl,hm,ha3,hb0⟩:∃ (m a3:Nat) (b0:Bool),x = .d (pI (m:Int)) /\ c' = uC s a3 (cnt + 1) b0 /\ m <= 65536 /\ (a + 1 <= a3 /\ a3 <= a + 1 + 2 /\ a3 <= s.length) /\ ((b0 = false /\ a3 = a + 1 + 2 /\ (m:Int) = gwN s (a + 1) 2) \/ (b0 = true /\ ¬ a + 1 + 2 <= s.length)):=by
   rcases hW with ⟨_,hle,rfl,rfl⟩ | ⟨hbad,rfl,rfl⟩
   ·have:=gwN_small s (a + 1) 2 (by omega)
    have h256:(256:Int) ^ 2 = 65536:=rfl
    exact ⟨(gwN s (a + 1) 2).toNat,_,_,by rw [Int.toNat_of_nonneg this.1],rfl,by omega,by omega,.inl ⟨rfl,rfl,by omega⟩⟩
   ·exact ⟨0,_,_,rfl,rfl,by omega,by omega,.inr ⟨rfl,hbad.resolve_left (fun h => by cases h)⟩⟩
  have two:∀ {n:Nat} {l t0:List UInt8},n < 65536 -> t0 = be 2 n ++ l -> At s (a + 1) t0 -> b0 = false /\ n = m /\ At s (a + 1 + 2) l /\ t0.length = 2 + l.length:=by
   rintro n l t0 hl rfl hA
   have h1:=hA.app.1
   have h2:=hA.app.2
   have h3:=h1.len (by omega)
   rw [be_length] at h2 h3
   have h4:=h1.gw_id (by have:(256:Nat) ^ 2 = 65536:=rfl; omega) (by omega)
   rcases hb0 with ⟨e1,e2,e3⟩ | ⟨_,e2⟩
   ·exact ⟨e1,by omega,h2,by rw [List.length_append,be_length]⟩
   ·exact absurd h3 e2
  first | refine pm ?_ | refine pq ?_
  refine po_add (n:=d + 1) rfl rfl rfl rfl (by omega) ?_
  refine po_g rfl (FnG.lift1 (p:=0) (many_g hs hV ((m:Int)) (by omega) (a3) (cnt + 1) b0 n3 l3 (by omega) (by omega) hnt) (args:=[.d (pI ((m:Int))),.d (pI (d + 1))]) ⟨trivial,trivial,trivial⟩ (lw_uC _ _ _ _) rfl) ?_
  rintro x _ n4 l4 ⟨c',rfl,a',cnt',bad',rfl,hGM⟩
  obtain ⟨tk,rows,rfl,hGU⟩:=gotU_many (bb:=bb) (kind:=7) (many:=(m:Int)) (a2:=a + 1 + 2) (a3:=a3) (c:=2) (b0:=b0) hs HC hleft (by unfold i64ok; omega) (by omega) hGM (fun h => ⟨(by rcases hb0 with ⟨_,e2,_⟩ | ⟨e1,_⟩; exact e2; rw [h] at e1; cases e1),rfl⟩) (fun v t0 h1 hM hA => by
   cases hM with
   | list2 ks h =>
    obtain ⟨e1,e2,e3,e4⟩:=two (n:=ks.length) (l:=msgs ks) (by omega) rfl hA
    exact ⟨e1,ks,rfl,by omega,e3,e4⟩
   | _ => exfalso; omega)
  first | refine pm ?_ | refine pq ?_
  refine po_stw (p:=1) (cs:=[pI 7,pI 0,pI 0,pS [],.sl tk rows]) rfl rfl rfl rfl rfl rfl ?_
  refine po_nil ?_
  exact mw_ret ⟨.inr rfl,[.ag [pI 7,pI 0,pI 0,pS [],.sl tk rows]],rfl,valR_of hGU⟩
 refine po_no rfl rfl (decide_eq_false q220) ?_
 repeat' (first | refine pm ?_ | refine pq ?_ | refine px ?_ | refine po_zero ?_ | refine po_nil ?_)
 refine mwF ?_
 refine mw_seq (mw_ops ?_)
 by_cases q222:(bb:Int) = 222
 ·refine po_yes rfl rfl (decide_eq_true q222) ?_
  repeat' (first | refine pm ?_ | refine pq ?_ | refine px ?_ | refine po_zero ?_ | refine po_nil ?_)
  refine mwT ?_
  refine mw_seq (mw_ops ?_)
  first | refine pm ?_ | refine pq ?_
  first | refine pm ?_ | refine pq ?_
  refine po_g rfl (FnG.lift1 (p:=0) (wideI_g s (a + 1) 2 (cnt + 1) false (by omega) hal hs nt live) (args:=[.d (pI ((2:Nat):Int))]) ⟨trivial,trivial⟩ (lw_uC _ _ _ _) rfl) ?_
  rintro x _ n3 l3 ⟨c',rfl,rfl,rfl,hW⟩
  obtain ⟨m,a3,b0,rfl,rfl,hm,ha3,hb0⟩:∃ (m a3:Nat) (b0:Bool),x = .d (pI (m:Int)) /\ c' = uC s a3 (cnt + 1) b0 /\ m <= 65536 /\ (a + 1 <= a3 /\ a3 <= a + 1 + 2 /\ a3 <= s.length) /\ ((b0 = false /\ a3 = a + 1 + 2 /\ (m:Int) = gwN s (a + 1) 2) \/ (b0 = true /\ ¬ a + 1 + 2 <= s.length)):=by
   rcases hW with ⟨_,hle,rfl,rfl⟩ | ⟨hbad,rfl,rfl⟩
   ·have:=gwN_small s (a + 1) 2 (by omega)
    have h256:(256:Int) ^ 2 = 65536:=rfl
    exact ⟨(gwN s (a + 1) 2).toNat,_,_,by rw [Int.toNat_of_nonneg this.1],rfl,by omega,by omega,.inl ⟨rfl,rfl,by omega⟩⟩
   ·exact ⟨0,_,_,rfl,rfl,by omega,by omega,.inr ⟨rfl,hbad.resolve_left (fun h => by cases h)⟩⟩
  have two:∀ {n:Nat} {l t0:List UInt8},n < 65536 -> t0 = be 2 n ++ l -> At s (a + 1) t0 -> b0 = false /\ n = m /\ At s (a + 1 + 2) l /\ t0.length = 2 + l.length:=by
   rintro n l t0 hl rfl hA
   have h1:=hA.app.1
   have h2:=hA.app.2
   have h3:=h1.len (by omega)
   rw [be_length] at h2 h3
   have h4:=h1.gw_id (by have:(256:Nat) ^ 2 = 65536:=rfl; omega) (by omega)
   rcases hb0 with ⟨e1,e2,e3⟩ | ⟨_,e2⟩
   ·exact ⟨e1,by omega,h2,by rw [List.length_append,be_length]⟩
   ·exact absurd h3 e2
  refine po_mul (n:=2 * (m:Int)) rfl rfl rfl rfl (by omega) ?_
  first | refine pm ?_ | refine pq ?_
  refine po_add (n:=d + 1) rfl rfl rfl rfl (by omega) ?_
  refine po_g rfl (FnG.lift1 (p:=0) (many_g hs hV (2 * (m:Int)) (by omega) (a3) (cnt + 1) b0 n3 l3 (by omega) (by omega) hnt) (args:=[.d (pI (2 * (m:Int))),.d (pI (d + 1))]) ⟨trivial,trivial,trivial⟩ (lw_uC _ _ _ _) rfl) ?_
  rintro x _ n4 l4 ⟨c',rfl,a',cnt',bad',rfl,hGM⟩
  obtain ⟨tk,rows,rfl,hGU⟩:=gotU_many (bb:=bb) (kind:=8) (many:=2 * (m:Int)) (a2:=a + 1 + 2) (a3:=a3) (c:=2) (b0:=b0) hs HC hleft (by unfold i64ok; omega) (by omega) hGM (fun h => ⟨(by rcases hb0 with ⟨_,e2,_⟩ | ⟨e1,_⟩; exact e2; rw [h] at e1; cases e1),rfl⟩) (fun v t0 h1 hM hA => by
   cases hM with
   | map2 n h ks hl =>
    obtain ⟨e1,e2,e3,e4⟩:=two (n:=n) (l:=msgs ks) (by omega) rfl hA
    exact ⟨e1,ks,rfl,by omega,e3,e4⟩
   | _ => exfalso; omega)
  first | refine pm ?_ | refine pq ?_
  refine po_stw (p:=1) (cs:=[pI 8,pI 0,pI 0,pS [],.sl tk rows]) rfl rfl rfl rfl rfl rfl ?_
  refine po_nil ?_
  exact mw_ret ⟨.inr rfl,[.ag [pI 8,pI 0,pI 0,pS [],.sl tk rows]],rfl,valR_of hGU⟩
 refine po_no rfl rfl (decide_eq_false q222) ?_
 repeat' (first | refine pm ?_ | refine pq ?_ | refine px ?_ | refine po_zero ?_ | refine po_nil ?_)
 refine mwF ?_
 refine mw_skip ?_
 refine mw_seq (mw_ops ?_)
 iterate 3 (first | refine pm ?_ | refine pq ?_)
 refine po_store (p:=0) (o':=3) (cs:=[pB true]) (z:=uC s (a + 1) (cnt + 1) false) rfl rfl rfl ⟨rfl,Nat.le_of_ble_eq_true rfl⟩ rfl ?_
 refine po_nil ?_
 refine mw_seq (mw_ops ?_)
 first | refine pm ?_ | refine pq ?_
 refine po_stw (p:=1) (cs:=fV 0 0 0 []) rfl rfl rfl rfl rfl rfl ?_
 refine po_nil ?_
 refine mw_ret ⟨.inr rfl,[.ag (fV 0 0 0 [])],rfl,valR_of (a':=a + 1) (cnt':=cnt + 1) (bad':=true) (gotU_fail HC hleft rfl (fV_new _ _ _ _ _ _) (fun t ht => by rw [fV_tok] at ht; cases ht) (Nat.le_refl _) live0 ⟨by omega,hal,by omega⟩ fun v t0 h1 hM hA => ?_)⟩
 cases hM <;> (exfalso; omega)
end
/- PvH8 -/
section
open Go.RowKit
variable {T:World -> Prop} {hT:Low ngl T}
attribute [local irreducible] po mw pt
theorem valU_all {s:List UInt8} (hs:s.length <= 2147483647):∀ n:Nat,n <= 13 -> ValU T hT s ((13 - n:Nat):Int)
 | 0,_ => val_g hs (by omega) fun h => by omega
 | n + 1,h => by
  refine val_g hs (by omega) fun _ => ?_
  rw [show ((13 - (n + 1):Nat):Int) + 1 = ((13 - n:Nat):Int) by omega]
  exact valU_all hs n (by omega)
set_option maxHeartbeats 1000000 in
theorem getMsgI_g (hTab:∀ w,T w -> Tabs w) {s:List UInt8} (hs:s.length <= 2147483647) (i:Int) (nt:Nat) (live:List Nat) (hnt:2 <= nt) :
  FnG (env T hT) 67 [.d (pS s),.d (pI i)] [] nt live (fun x _ n l => x.lw 0 /\ GmR s i nt live x n l):=by
 have hput:=fun v hw hb => putMsgI_fn (T:=T) (hT:=hT) hTab v hw hb
 refine fng_of (look_env lk_i_GetMsg) (by show 2 <= 42; decide) fun B hB => ?_
 unfold m_i_GetMsg
 refine mw_seq (mw_ops ?_)
 repeat' (first | refine pm ?_ | refine pq ?_ | refine px ?_ | refine po_zero ?_ | refine po_nil ?_)
 refine mw_seq (mw_seq (mw_ops ?_))
 iterate 2 (first | refine pm ?_ | refine pq ?_)
 refine po_q (v:=.d (pI s.length)) rfl rfl ?_
 refine po_call rfl (within_fn i 0 s.length) ?_
 have hfl:∀ (n2:Nat) (l2:List Nat),nt <= n2 -> (∀ t ∈ live,2 <= t -> t < nt -> t ∈ l2) -> (∀ v:V,v.wf -> v.ok = true -> 0 <= i -> ¬ At s i.toNat (msg v)) -> GmR s i nt live (.tup [.ag (fV 0 0 0 []),.d (pI (-1))]) n2 l2:=fun n2 l2 h1 h2 h3 =>
  ⟨_,_,rfl,rfl,fV_new _ _ _ _ _ _,(fun t ht => by rw [fV_tok] at ht; cases ht),h2,h1,.inl ⟨rfl,rfl,h3⟩⟩
 by_cases hc:0 <= i /\ i <= s.length
 case neg =>
  rw [decide_eq_false hc]
  repeat' (first | refine pm ?_ | refine pq ?_ | refine px ?_ | refine po_zero ?_ | refine po_nil ?_)
  refine mwT ?_
  refine mw_seq (mw_ops ?_)
  first | refine pm ?_ | refine pq ?_
  refine po_stw (p:=0) (cs:=fV 0 0 0 []) rfl rfl rfl rfl rfl rfl ?_
  repeat' (first | refine pm ?_ | refine pq ?_ | refine px ?_ | refine po_zero ?_ | refine po_nil ?_)
  refine mw_ret ⟨.inr rfl,[.ag (fV 0 0 0 []),.d (pI (-1))],rfl,lw_res (fV_new _ _ _ _ 0 0) _,hfl _ _ (Nat.le_refl _) (fun t ht _ _ => ht) fun v h1 h2 h3 h4 => ?_⟩
  have:=msg_ne0 h1 h2
  obtain ⟨r,hr⟩:=h4
  rw [List.drop_of_length_le (by omega)] at hr
  have:=congrArg List.length hr
  simp only [List.length_nil,List.length_append] at this; omega
 case pos =>
 rw [decide_eq_true hc]
 repeat' (first | refine pm ?_ | refine pq ?_ | refine px ?_ | refine po_zero ?_ | refine po_nil ?_)
 refine mwF ?_
 obtain ⟨k,rfl⟩:=Int.eq_ofNat_of_zero_le hc.1
 have hk:k <= s.length:=by omega
 refine mw_skip ?_
 refine mw_seq (mw_ops ?_)
 repeat' (first | refine pm ?_ | refine pq ?_ | refine px ?_ | refine po_zero ?_ | refine po_nil ?_)
 refine mw_seq (mw_ops ?_)
 first | refine pm ?_ | refine pq ?_
 refine po_g rfl (FnG.lift1 (p:=1) (by have:=valU_all (T:=T) (hT:=hT) hs 13 (by omega) k 0 false nt live hk (by omega) hnt; exact this) (args:=[.d (pI 0)]) ⟨trivial,trivial⟩ (lw_uC s k 0 false) rfl) ?_
 rintro x _ n2 l2 ⟨c',rfl,a',cnt',bad',rfl,cs,rfl,hc5,hnew,hctk,hlv,hn2,⟨ha1,ha2,_⟩,_,hres,hcomp⟩
 have hcomp:∀ v:V,v.wf -> v.ok = true -> At s k (msg v) -> bad' = false /\ a' = k + (msg v).length /\ erL cs = vC v:=fun v h1 h2 h3 => by
  obtain ⟨q1,q2,q3,_⟩:=hcomp rfl v h1 (ok_right0 h2) (by have:=ok_nodes h2; omega) h3
  exact ⟨q1,q2,q3⟩
 refine po_nw (cs:=cs) rfl hc5 rfl rfl ?_
 refine po_nil ?_
 refine mw_seq ?_
 obtain ⟨f,hf⟩:∃ f:Bool,f = true ↔ ¬ ∃ v:V,v.wf /\ v.ok = true /\ At s k (msg v):=by
  by_cases h:∃ v:V,v.wf /\ v.ok = true /\ At s k (msg v)
  ·exact ⟨false,by simp only [h,not_true]; decide⟩
  ·exact ⟨true,by simp only [h,not_false_iff]⟩
 refine mw_cut (fun st => has st.tm [(4,.ref 0 0),(6,.ref 1 0),(7,.ref 2 0),(35,.d (pB f))] /\ st.bx = [fV 0 0 0 [],uC s a' cnt' bad',cs] /\ st.nt = n2 /\ st.live = l2) ?_ ?_
 ·refine mw_ops ?_
  iterate 5 (first | refine pm ?_ | refine pq ?_)
  cases bad' with
  | true =>
   iterate 10 (refine po_skip rfl ?_)
   repeat' (first | refine pm ?_ | refine pq ?_ | refine px ?_ | refine po_zero ?_ | refine po_nil ?_)
   have:f = true:=hf.2 (by
    rintro ⟨v,h1,h2,h3⟩
    have:=(hcomp v h1 h2 h3).1
    cases this)
   exact ⟨⟨rfl,rfl,rfl,by rw [this]; rfl,trivial⟩,rfl,rfl,rfl⟩
  | false =>
   obtain ⟨_,u,he,huw,hka,hub⟩:=hres rfl
   clear hres
   refine po_ldw (p:=2) (cs:=cs) rfl rfl rfl hc5 ?_
   iterate 6 (first | refine pm ?_ | refine pq ?_)
   refine po_slcs (a:=k) (b:=a') (rs:=(s.drop k).take (a' - k)) rfl rfl (bound_nat rfl rfl) (bound_nat rfl rfl) (by omega) rfl ?_
   refine po_gcall (b:=true) (args:=[.ag (vC u)]) rfl (fun _ => dats1 he) (fun _ => hput u huw (by omega)) ?_
   refine po_ne (la:=msgTop u) (lb:=(s.drop k).take (a' - k)) rfl rfl rfl ?_
   repeat' (first | refine pm ?_ | refine pq ?_ | refine px ?_ | refine po_zero ?_ | refine po_nil ?_)
   refine ⟨⟨rfl,rfl,rfl,?_,trivial⟩,rfl,rfl,rfl⟩
   have hiff:(msgTop u ≠ (s.drop k).take (a' - k)) ↔ ¬ ∃ v:V,v.wf /\ v.ok = true /\ At s k (msg v):=by
    constructor
    ·rintro hne ⟨v,h1,h2,h3⟩
     obtain ⟨_,q1,q2⟩:=hcomp v h1 h2 h3
     have huv:u = v:=vC_inj (he.symm.trans q2)
     subst huv
     apply hne
     unfold msgTop
     rw [if_pos h2,show a' - k = (msg u).length by omega,h3.take]
    ·intro hno heq
     apply hno
     by_cases hok:u.ok = true
     ·refine ⟨u,huw,hok,?_⟩
      unfold msgTop at heq
      rw [if_pos hok] at heq
      exact at_of_take heq
     ·exfalso
      unfold msgTop at heq
      rw [if_neg hok] at heq
      have:=congrArg List.length heq
      rw [List.length_take,List.length_drop,List.length_nil] at this
      omega
   have:decide (msgTop u ≠ (s.drop k).take (a' - k)) = f:=by rw [Bool.eq_iff_iff,decide_eq_true_iff,hiff,hf]
   rw [<- this]; rfl
 rintro tm bx n3 l3 ⟨ht,rfl,hn3,hl3⟩
 obtain ⟨tm1,rfl⟩:=has_ups ht
 simp only at hn3 hl3; subst n3; subst l3
 clear ht
 refine mw_cond (t:=f) rfl (fun hno => ?_) (fun hyes => ?_)
 ·have hno:=hf.1 hno
  refine mw_seq (mw_ops ?_)
  first | refine pm ?_ | refine pq ?_
  refine po_stw (p:=0) (cs:=fV 0 0 0 []) rfl rfl rfl rfl rfl rfl ?_
  repeat' (first | refine pm ?_ | refine pq ?_ | refine px ?_ | refine po_zero ?_ | refine po_nil ?_)
  exact mw_ret ⟨.inr rfl,[.ag (fV 0 0 0 []),.d (pI (-1))],rfl,lw_res (fV_new _ _ _ _ 0 0) _,hfl _ _ hn2 hlv fun v h1 h2 h3 h4 => hno ⟨v,h1,h2,h4⟩⟩
 ·obtain ⟨v,h1,h2,h3⟩:∃ v:V,v.wf /\ v.ok = true /\ At s k (msg v):=Classical.byContradiction fun h => by rw [hf.2 h] at hyes; cases hyes
  obtain ⟨q0,q1,q2⟩:=hcomp v h1 h2 h3
  refine mw_skip ?_
  refine mw_seq (mw_ops ?_)
  refine po_ldw (p:=2) (cs:=cs) rfl rfl rfl hc5 ?_
  iterate 4 (first | refine pm ?_ | refine pq ?_)
  refine po_stw (p:=0) (cs:=cs) rfl rfl rfl hc5 rfl rfl ?_
  repeat' (first | refine pm ?_ | refine pq ?_ | refine px ?_ | refine po_zero ?_ | refine po_nil ?_)
  refine mw_ret ⟨.inr rfl,[.ag cs,.d (pI a')],ress_bt rfl rfl hc5 rfl,lw_res hnew _,cs,a',rfl,hc5,hnew,hctk,hlv,hn2,.inr ⟨k,v,rfl,h1,h2,h3,by rw [q1],h3.len (by omega),q2,fun v' r1 r2 r3 => vC_inj ((hcomp v' r1 r2 r3).2.2.symm.trans q2)⟩⟩
end
/- PvI6 -/
section
open Go.RowKit
variable {T:World -> Prop} {hT:Low ngl T}
attribute [local irreducible] po mw pt
theorem headR_norm {s:List UInt8} {p nt n:Nat} {bad:Bool} {live l:List Nat} {x:PV} {c':List PC} (hp:p <= s.length) (h:HeadR s p bad nt live x c' n l):n = nt /\ l = live /\ ∃ (mm:Int) (n1 p1:Nat) (bad1:Bool),c' = deC s p1 bad1 /\ x = .tup [.d (pI mm),.d (.v (.int .u64 (n1:Nat)))] /\ n1 < 18446744073709551616 /\ p <= p1 /\ p1 <= s.length /\
  ((bad1 = true /\ (bad = true \/ getHd s p = none) /\ p1 = p) \/ (bad1 = false /\ bad = false /\ p < p1 /\ ∃ m,getHd s p = some (m,n1,p1))):=by
 obtain ⟨rfl,rfl,⟨h1,h2,h3⟩ | ⟨m,k,y,h1,h2,h3,h4⟩⟩:=h
 ·exact ⟨rfl,rfl,-1,0,p,true,h2,h3,by decide,Nat.le_refl _,hp,.inl ⟨rfl,h1,rfl⟩⟩
 ·obtain ⟨g1,g2,g3,g4,g5,g6⟩:=getHd_some h2
  exact ⟨rfl,rfl,m,k,y,false,h3,h4,g5,by omega,g3,.inr ⟨rfl,h1,g2,m,h2⟩⟩
theorem bytesR_norm {s:List UInt8} {p k nt n:Nat} {bad:Bool} {live l:List Nat} {x:PV} {c':List PC} (hp:p <= s.length) (h:BytesR s p k bad nt live x c' n l):n = nt /\ l = live /\ ∃ (p1:Nat) (bad1:Bool) (name:List UInt8),c' = deC s p1 bad1 /\ x = .d (pS name) /\ name.length <= s.length /\ p <= p1 /\ p1 <= s.length /\
  ((bad1 = true /\ (bad = true \/ ¬ p + k <= s.length) /\ p1 = p) \/ (bad1 = false /\ bad = false /\ p1 = p + k /\ p + k <= s.length /\ name = (s.drop p).take k)):=by
 obtain ⟨rfl,rfl,⟨h1,h2,h3,h4⟩ | ⟨h1,h2,h3⟩⟩:=h
 ·exact ⟨rfl,rfl,p + k,false,_,h3,h4,by rw [List.length_take,List.length_drop]; omega,by omega,h2,.inr ⟨rfl,h1,rfl,h2,rfl⟩⟩
 ·exact ⟨rfl,rfl,p,true,[],h2,h3,Nat.zero_le _,Nat.le_refl _,hp,.inl ⟨rfl,h1,rfl⟩⟩
def NmP (s:List UInt8) (nt:Nat) (live:List Nat) (nt1:Nat) (l1:List Nat) (n p tk:Nat) (bad:Bool) (ns:List (List UInt8)):Prop :=
 (tk = 1 /\ pSr ns = [] \/ 2 <= tk) /\ OwnL nt1 l1 ([] ++ .sl tk (pSr ns) :: [.sl 1 []]) /\ (∀ t ∈ toksL ([] ++ .sl tk (pSr ns) :: [.sl 1 []]),nt <= t) /\ nt <= nt1 /\ (∀ t ∈ live,2 <= t -> t < nt -> t ∈ l1) /\
 p <= s.length /\ ns.length <= p + (if bad then 1 else 0) /\ (∀ x ∈ ns,x.length <= s.length) /\ n < 18446744073709551616 /\
 ∀ (ns':List (List UInt8)) (vs':List V),Good s ns' vs' -> bad = false /\ ns = ns'.take ns.length /\ n + ns.length = ns'.length /\ p = (hd 4 ns'.length).length + (nmsT ns).length
def GnI (s:List UInt8) (nt:Nat) (live:List Nat) (m:Nat) (st:St):Prop:=∃ (n p tk:Nat) (bad:Bool) (ns:List (List UInt8)),has st.tm [(0,.d (pS s)),(2,.ref 0 0),(4,.ref 1 0),(5,.ref 2 0),(7,.d (.v (.int .u64 (n:Nat))))] /\
 st.bx = [d0,[.sl tk (pSr ns),.sl 1 []],deC s p bad] /\ NmP s nt live st.nt st.live n p tk bad ns /\ m = (if bad then 0 else s.length + 1 - p)
theorem nmP_start {s:List UInt8} {nt:Nat} {live:List Nat} {n1 p1:Nat} {bad1:Bool} (hn:n1 < 18446744073709551616) (hp1:p1 <= s.length) (h:(bad1 = true /\ (false = true \/ getHd s 0 = none) /\ p1 = 0) \/ (bad1 = false /\ false = false /\ 0 < p1 /\ ∃ m,getHd s 0 = some (m,n1,p1))) :
  NmP s nt live nt live n1 p1 1 bad1 []:=by
 refine ⟨.inl ⟨rfl,rfl⟩,⟨rfl,List.nodup_nil,fun t ht => by cases ht⟩,(fun t ht => by cases ht),Nat.le_refl _,fun t ht _ _ => ht,hp1,Nat.zero_le _,(fun x hx => by cases hx),hn,fun ns' vs' hg => ?_⟩
 obtain ⟨g1,g2,g3,g4,g5,g6,g7,g8⟩:=hg.at
 have hh:=getHd_at (by decide) (by omega) (Nat.zero_le _) g1
 rcases h with ⟨_,h2,_⟩ | ⟨h1,_,_,m,h2⟩
 ·rcases h2 with h2 | h2
  ·cases h2
  ·rw [hh] at h2; cases h2
 ·rw [hh] at h2
  simp only [Option.some.injEq,Prod.mk.injEq] at h2
  refine ⟨h1,by simp,?_,?_⟩
  ·simp only [List.length_nil]; omega
  ·simp only [nmsT,List.length_nil]; omega
theorem nmP_step {s:List UInt8} {nt nt1 n p tk n1 p1 p2:Nat} {live l1:List Nat} {bad1 bad2:Bool} {ns:List (List UInt8)} {name:List UInt8} (hP:NmP s nt live nt1 l1 n p tk false ns) (hn0:0 < n) (h22:2 <= nt1)
  (hH:(bad1 = true /\ (false = true \/ getHd s p = none) /\ p1 = p) \/ (bad1 = false /\ false = false /\ p < p1 /\ ∃ m,getHd s p = some (m,n1,p1)))
  (hp12:p1 <= p2) (hp2:p2 <= s.length) (hnl:name.length <= s.length) (hB:(bad2 = true /\ (bad1 = true \/ ¬ p1 + n1 <= s.length) /\ p2 = p1) \/ (bad2 = false /\ bad1 = false /\ p2 = p1 + n1 /\ p1 + n1 <= s.length /\ name = (s.drop p1).take n1)) :
  NmP s nt live (nt1 + 1) (nt1 :: l1.filter (· != tk)) (n - 1) p2 nt1 bad2 (ns ++ [name]) /\ (if bad2 then 0 else s.length + 1 - p2) < s.length + 1 - p:=by
 obtain ⟨htk,hown,hge,hnt,hlv,hp,hlen,hnb,hn,hcp⟩:=hP
 have hpp:p <= p1:=by rcases hH with ⟨_,_,rfl⟩ | ⟨_,_,h,_⟩ <;> omega
 have hpush:pSr (ns ++ [name]) = pSr ns ++ [[pS name]]:=by unfold pSr; rw [List.map_append]; rfl
 have hown2:OwnL (nt1 + 1) (nt1 :: l1.filter (· != tk)) ([] ++ .sl nt1 (pSr ns ++ [[pS name]]) :: [.sl 1 []]) /\ (∀ t ∈ toksL ([] ++ .sl nt1 (pSr ns ++ [[pS name]]) :: [.sl 1 []]),nt <= t):=by
  have e:toksL ([] ++ .sl nt1 (pSr ns ++ [[pS name]]) :: [.sl 1 []]) = [nt1]:=by
   show PC.toks (.sl nt1 (pSr ns ++ [[pS name]])) ++ [] = _
   rw [toks_sl2 h22,<- hpush,pSr_tok]; rfl
  refine ⟨⟨?_,by rw [e]; simp,fun t ht => ?_⟩,fun t ht => ?_⟩
  ·show (PC.owned (.sl nt1 (pSr ns ++ [[pS name]])) && true) = true
   rw [owned_sl2 h22,<- hpush,pSr_own]; rfl
  ·rw [e] at ht; simp at ht; subst ht; exact ⟨List.mem_cons_self ..,Nat.lt_succ_self _⟩
  ·rw [e] at ht; simp at ht; omega
 refine ⟨⟨.inr h22,?_,?_,by omega,?_,hp2,?_,?_,by omega,fun ns' vs' hg => ?_⟩,?_⟩
 ·rw [hpush]; exact hown2.1
 ·rw [hpush]; exact hown2.2
 ·intro t ht h2 hlt
  refine List.mem_cons_of_mem _ (List.mem_filter.2 ⟨hlv t ht h2 hlt,?_⟩)
  have:=tk_ge htk hge
  simp only [bne_iff_ne,ne_eq]; omega
 ·rw [List.length_append,List.length_singleton]
  rcases hB with ⟨rfl,_,rfl⟩ | ⟨rfl,h1,rfl,_,_⟩
  ·simp at hlen ⊢; omega
  ·rcases hH with ⟨h3,_,_⟩ | ⟨_,_,h3,_⟩
   ·rw [h1] at h3; cases h3
   ·simp at hlen ⊢; omega
 ·intro x hx
  rcases List.mem_append.1 hx with hx | hx
  ·exact hnb x hx
  ·simp only [List.mem_singleton] at hx; subst hx; exact hnl
 ·obtain ⟨_,e1,e2,e3⟩:=hcp ns' vs' hg
  obtain ⟨g1,g2,g3,g4,g5,g6,g7,g8⟩:=hg.at
  have hku:ns.length < ns'.length:=by omega
  have hA:=nms_at g2 ns.length hku
  rw [<- e1,<- e3] at hA
  have hul:=g6 _ (List.getElem_mem hku)
  have hh:=getHd_at (by decide) (by omega) hp hA.app.1
  have hA2:=hA.app.2
  have hAl:=hA2.len (by have:=hA.app.1.len hp; exact this)
  rcases hH with ⟨_,h2,_⟩ | ⟨hb1,_,_,m,h2⟩
  ·rcases h2 with h2 | h2
   ·cases h2
   ·rw [hh] at h2; cases h2
  rw [hh] at h2
  simp only [Option.some.injEq,Prod.mk.injEq] at h2
  obtain ⟨_,h3,h4⟩:=h2
  rcases hB with ⟨_,h5,_⟩ | ⟨hb2,_,h5,h6,h7⟩
  ·rcases h5 with h5 | h5
   ·rw [hb1] at h5; cases h5
   ·omega
  have hT:=hA2.take
  rw [h4,h3] at hT
  refine ⟨hb2,?_,?_,?_⟩
  ·rw [List.length_append,List.length_singleton,List.take_succ_eq_append_getElem hku,<- e1,h7,hT]
  ·rw [List.length_append,List.length_singleton]; omega
  ·rw [nmsT_app,List.length_append,h7,hT]
   simp only [nmsT,List.length_append,List.length_nil]; omega
 ·rcases hB with ⟨rfl,_,rfl⟩ | ⟨rfl,h1,rfl,_,_⟩
  ·simp; omega
  ·rcases hH with ⟨h3,_,_⟩ | ⟨_,_,h3,_⟩
   ·rw [h1] at h3; cases h3
   ·simp; omega
def TbP (s:List UInt8) (nt:Nat) (live:List Nat) (nt1:Nat) (l1:List Nat) (n p tk t2:Nat) (bad:Bool) (ns:List (List UInt8)) (rows:List (List PC)) (vs:List V):Prop :=
 (t2 = 1 /\ rows = [] \/ 2 <= t2) /\ OwnL nt1 l1 ([.sl tk (pSr ns)] ++ .sl t2 rows :: []) /\ (∀ t ∈ toksL ([.sl tk (pSr ns)] ++ .sl t2 rows :: []),nt <= t) /\ nt <= nt1 /\ (∀ t ∈ live,2 <= t -> t < nt -> t ∈ l1) /\
 p <= s.length /\ ns.length <= s.length + 1 /\ (∀ x ∈ ns,x.length <= s.length) /\ n < 18446744073709551616 /\ erLL rows = vK vs /\ vs.length <= p /\ (∀ v ∈ vs,v.wf /\ v.ok = true) /\
 ∀ (ns':List (List UInt8)) (vs':List V),Good s ns' vs' -> bad = false /\ ns = ns' /\ vs = vs'.take vs.length /\ n + vs.length = vs'.length /\ p = (hd 4 ns'.length).length + (nmsT ns').length + (hd 4 vs'.length).length + (msgs vs).length
def GtI (s:List UInt8) (nt:Nat) (live:List Nat) (m:Nat) (st:St):Prop:=∃ (n p tk t2:Nat) (bad:Bool) (ns:List (List UInt8)) (rows:List (List PC)) (vs:List V) (rest:List (List PC)),has st.tm [(0,.d (pS s)),(2,.ref 0 0),(4,.ref 1 0),(5,.ref 2 0),(11,.d (.v (.int .u64 (n:Nat))))] /\
 st.bx = d0 :: [.sl tk (pSr ns),.sl t2 rows] :: deC s p bad :: rest /\ TbP s nt live st.nt st.live n p tk t2 bad ns rows vs /\ m = (if bad then 0 else s.length + 1 - p)
theorem tbP_start {s:List UInt8} {nt nt1 n p tk n1 p1:Nat} {live l1:List Nat} {bad bad1:Bool} {ns:List (List UInt8)} (hP:NmP s nt live nt1 l1 n p tk bad ns) (hend:n = 0 \/ bad = true) (hn1:n1 < 18446744073709551616) (hp1:p1 <= s.length)
  (hH:(bad1 = true /\ (bad = true \/ getHd s p = none) /\ p1 = p) \/ (bad1 = false /\ bad = false /\ p < p1 /\ ∃ m,getHd s p = some (m,n1,p1))) :
  TbP s nt live nt1 l1 n1 p1 tk 1 bad1 ns [] []:=by
 obtain ⟨htk,hown,hge,hnt,hlv,hp,hlen,hnb,hn,hcp⟩:=hP
 refine ⟨.inl ⟨rfl,rfl⟩,hown,hge,hnt,hlv,hp1,?_,hnb,hn1,rfl,Nat.zero_le _,(fun v hv => by cases hv),fun ns' vs' hg => ?_⟩
 ·cases bad <;> simp at hlen <;> omega
 ·obtain ⟨e0,e1,e2,e3⟩:=hcp ns' vs' hg
  obtain ⟨g1,g2,g3,g4,g5,g6,g7,g8⟩:=hg.at
  have hn0:n = 0:=hend.resolve_right (by rw [e0]; decide)
  have hns:ns = ns':=by rw [e1]; exact List.take_of_length_le (by omega)
  rw [hns] at e3
  rw [<- e3] at g3
  have hh:=getHd_at (by decide) (by omega) hp g3
  rcases hH with ⟨_,h2,_⟩ | ⟨hb1,_,_,m,h2⟩
  ·rcases h2 with h2 | h2
   ·rw [e0] at h2; cases h2
   ·rw [hh] at h2; cases h2
  rw [hh] at h2
  simp only [Option.some.injEq,Prod.mk.injEq] at h2
  obtain ⟨_,h3,h4⟩:=h2
  exact ⟨hb1,hns,by simp,by simp only [List.length_nil]; omega,by simp only [msgs,List.length_nil]; omega⟩
theorem tbP_step {s:List UInt8} {nt n1 n2 n p tk t2:Nat} {live l1 l2:List Nat} {ns:List (List UInt8)} {rows:List (List PC)} {vs:List V} {cs:List PC} {v:V} (hP:TbP s nt live n1 l1 n p tk t2 false ns rows vs) (hn0:0 < n) (h22:2 <= n2) (hn2:n1 <= n2)
  (hnew:NewL n1 n2 cs) (hctk:∀ t ∈ toksL cs,t ∈ l2) (hlv2:∀ t ∈ l1,2 <= t -> t < n1 -> t ∈ l2) (hvw:v.wf) (hvo:v.ok = true) (hle:p + (msg v).length <= s.length) (he:erL cs = vC v) (huniq:∀ v':V,v'.wf -> v'.ok = true -> At s p (msg v') -> v' = v) :
  TbP s nt live (n2 + 2) ((n2 + 1) :: (n2 :: l2).filter (· != t2)) (n - 1) (p + (msg v).length) tk (n2 + 1) false ns (rows ++ [cs]) (vs ++ [v]) /\ s.length + 1 - (p + (msg v).length) < s.length + 1 - p:=by
 obtain ⟨ht2,hown,hge,hnt,hlv,hp,hlen,hnb,hn,hrows,hvl,hvb,hcp⟩:=hP
 obtain ⟨o1,o2⟩:=own_grow (n2:=n2) (l2:=l2) hown ht2 hge hnt hn2 h22 hnew hctk hlv2
 have hml:=msg_ne0 hvw hvo
 refine ⟨⟨.inr (by omega),o1,o2,by omega,live_grow (tk_ge ht2 hge) hnt hlv hlv2,hle,hlen,hnb,by omega,?_,by rw [List.length_append,List.length_singleton]; omega,?_,fun ns' vs' hg => ?_⟩,by omega⟩
 ·rw [erLL_append,hrows,vK_eq,vK_eq,List.map_append]; simp only [erLL,he]; rfl
 ·intro u hu
  rcases List.mem_append.1 hu with hu | hu
  ·exact hvb u hu
  ·simp only [List.mem_singleton] at hu; subst hu; exact ⟨hvw,hvo⟩
 ·obtain ⟨_,e1,e2,e3,e4⟩:=hcp ns' vs' hg
  obtain ⟨g1,g2,g3,g4,g5,g6,g7,g8,_⟩:=hg.at
  have hku:vs.length < vs'.length:=by omega
  have hA:=msgs_at2 g4 vs.length hku
  rw [<- e2,<- e4] at hA
  have hu:=g8 _ (List.getElem_mem hku)
  have huv:=huniq _ hu.1 hu.2 hA
  refine ⟨rfl,e1,?_,?_,?_⟩
  ·rw [List.length_append,List.length_singleton,List.take_succ_eq_append_getElem hku,<- e2,huv]
  ·rw [List.length_append,List.length_singleton]; omega
  ·rw [msgs_app2,List.length_append]; simp only [msgs,List.append_nil]; omega
theorem tbP_bad {s:List UInt8} {nt n1 n2 n p tk t2:Nat} {live l1 l2:List Nat} {ns:List (List UInt8)} {rows:List (List PC)} {vs:List V} (hP:TbP s nt live n1 l1 n p tk t2 false ns rows vs) (hn0:0 < n) (hn2:n1 <= n2) (hlv2:∀ t ∈ l1,2 <= t -> t < n1 -> t ∈ l2)
  (hno:∀ v:V,v.wf -> v.ok = true -> ¬ At s p (msg v)):TbP s nt live n2 l2 n p tk t2 true ns rows vs:=by
 obtain ⟨ht2,hown,hge,hnt,hlv,hp,hlen,hnb,hn,hrows,hvl,hvb,hcp⟩:=hP
 refine ⟨ht2,hown.mono2 hn2 hlv2,hge,by omega,fun t ht h2 hlt => hlv2 t (hlv t ht h2 hlt) h2 (by omega),hp,hlen,hnb,hn,hrows,hvl,hvb,fun ns' vs' hg => ?_⟩
 obtain ⟨_,e1,e2,e3,e4⟩:=hcp ns' vs' hg
 obtain ⟨g1,g2,g3,g4,g5,g6,g7,g8,_⟩:=hg.at
 have hku:vs.length < vs'.length:=by omega
 have hA:=msgs_at2 g4 vs.length hku
 rw [<- e2,<- e4] at hA
 have hu:=g8 _ (List.getElem_mem hku)
 exact absurd hA (hno _ hu.1 hu.2)
end
/- PvI7 -/
section
open Go.RowKit
variable {T:World -> Prop} {hT:Low ngl T}
attribute [local irreducible] po mw pt
theorem dec1 {n:Nat} (h:0 < n) (hn:n < 18446744073709551616):IntKind.wrap .u64 ((n:Int) - 1) = ((n - 1:Nat):Int):=by rw [IntKind.wrap_u64]; omega
set_option maxHeartbeats 4000000 in
theorem getDictI_g (hTab:∀ w,T w -> Tabs w) {s:List UInt8} (hs:s.length <= 2147483647) (nt:Nat) (live:List Nat) (hnt:2 <= nt) :
  FnG (env T hT) 15 [.d (pS s)] [] nt live (fun x _ n' l => x.lw 0 /\ DictR s nt live x n' l):=by
 refine fng_of (look_env lk_i_GetDict) (by show 1 <= 108; decide) fun B hB => ?_
 unfold m_i_GetDict
 refine mw_seq (mw_ops ?_)
 repeat' (first | refine pm ?_ | refine pq ?_ | refine px ?_ | refine po_zero ?_ | refine po_nil ?_)
 refine mw_seq (mw_seq (mw_ops ?_))
 first | refine pm ?_ | refine pq ?_
 refine po_q (v:=.d (pI s.length)) rfl rfl ?_
 refine po_b rfl rfl (fun b60 hb60 => ?_)
 refine po_nil ?_
 refine mw_cd (p:=(s.length:Int) > 60000) hb60 rfl (fun h60 _ => ?_) (fun h60 _ => ?_)
 ·refine mw_seq (mw_ops ?_)
  first | refine pm ?_ | refine pq ?_
  refine po_stw (p:=0) (cs:=d0) rfl rfl rfl rfl rfl rfl ?_
  repeat' (first | refine pm ?_ | refine pq ?_ | refine px ?_ | refine po_zero ?_ | refine po_nil ?_)
  refine mw_ret ⟨.inr rfl,[.ag d0,.d (pB false)],rfl,dictR_no (fun ns' vs' h => ?_) (fun t ht _ _ => ht) (Nat.le_refl _)⟩
  obtain ⟨g1,g2,g3,g4,g5,g6,g7,g8,g9⟩:=h.at
  omega
 refine mw_skip ?_
 refine mw_seq (mw_ops ?_)
 first | refine pm ?_ | refine pq ?_
 refine po_nw (cs:=d0) rfl rfl rfl rfl ?_
 refine po_nil ?_
 refine mw_seq (mw_ops ?_)
 iterate 2 (first | refine pm ?_ | refine pq ?_)
 refine po_box (cs:=deC s 0 false) rfl ?_
 repeat' (first | refine pm ?_ | refine pq ?_ | refine px ?_ | refine po_zero ?_ | refine po_nil ?_)
 refine mw_seq (mw_ops ?_)
 first | refine pm ?_ | refine pq ?_
 refine po_g rfl (FnG.lift1 (p:=2) (deHead_g s 0 false (Nat.zero_le _) hs nt live) trivial (lw_deC _ _ _) rfl) ?_
 rintro x _ n1 l1 ⟨c',rfl,hR⟩
 obtain ⟨rfl,rfl,mm,k1,p1,bad1,rfl,rfl,hk1,_,hp1,hH⟩:=headR_norm (Nat.zero_le _) hR
 repeat' (first | refine pm ?_ | refine pq ?_ | refine px ?_ | refine po_zero ?_ | refine po_nil ?_)
 have hstart:=nmP_start (s:=s) (nt:=n1) (live:=l1) hk1 hp1 (hH.imp id fun h => ⟨h.1,h.2.1,h.2.2.1,h.2.2.2⟩)
 refine mw_cut (fun st => ∃ (n p tk:Nat) (bad:Bool) (ns:List (List UInt8)),has st.tm [(0,.d (pS s)),(2,.ref 0 0),(4,.ref 1 0),(5,.ref 2 0)] /\ st.bx = [d0,[.sl tk (pSr ns),.sl 1 []],deC s p bad] /\ NmP s n1 l1 st.nt st.live n p tk bad ns /\ (n = 0 \/ bad = true)) ?_ ?_
 ·refine mw_block ?_
  refine mw_while (GnI s n1 l1) _ ⟨k1,p1,1,bad1,[],⟨rfl,rfl,rfl,rfl,rfl,trivial⟩,rfl,hstart,rfl⟩ ?_
  rintro m tm bx nt2 live2 ⟨n,p,tk,bad,ns,ht,hbx,hP,rfl⟩
  obtain ⟨tm0,rfl⟩:=has_ups ht
  simp only at hbx hP; subst hbx
  clear ht
  have hn64:=hP.2.2.2.2.2.2.2.2.1
  have hpl:=hP.2.2.2.2.2.1
  have hlen:=hP.2.2.2.2.2.2.1
  have hnt2:=hP.2.2.2.1
  refine mw_seq (mw_seq (mw_ops ?_))
  first | refine pm ?_ | refine pq ?_
  by_cases hn0:0 < n
  case neg =>
   refine po_no rfl rfl (decide_eq_false (show ¬ ((n:Nat):Int) > 0 by omega)) ?_
   first | refine pm ?_ | refine pq ?_
   iterate 5 (refine po_skip rfl ?_)
   repeat' (first | refine pm ?_ | refine pq ?_ | refine px ?_ | refine po_zero ?_ | refine po_nil ?_)
   refine mwF ?_
   refine mw_exit ?_
   exact ⟨n,p,tk,bad,ns,⟨rfl,rfl,rfl,rfl,trivial⟩,rfl,hP,.inl (by omega)⟩
  refine po_yes rfl rfl (decide_eq_true (show ((n:Nat):Int) > 0 by omega)) ?_
  cases bad with
  | true =>
   repeat' (first | refine pm ?_ | refine pq ?_ | refine px ?_ | refine po_zero ?_ | refine po_nil ?_)
   refine mwF ?_
   refine mw_exit ?_
   exact ⟨n,p,tk,true,ns,⟨rfl,rfl,rfl,rfl,trivial⟩,rfl,hP,.inr rfl⟩
  | false =>
  repeat' (first | refine pm ?_ | refine pq ?_ | refine px ?_ | refine po_zero ?_ | refine po_nil ?_)
  refine mwT ?_
  refine mw_skip ?_
  refine mw_seq (mw_block (mw_seq (mw_ops ?_)))
  first | refine pm ?_ | refine pq ?_
  refine po_g rfl (FnG.lift1 (p:=2) (deHead_g s p false hpl hs nt2 live2) trivial (lw_deC _ _ _) rfl) ?_
  rintro x _ n3 l3 ⟨c',rfl,hR3⟩
  obtain ⟨rfl,rfl,mm3,k3,p3,bad3,rfl,rfl,hk3,hpp3,hp3,hH3⟩:=headR_norm hpl hR3
  repeat' (first | refine pm ?_ | refine pq ?_ | refine px ?_ | refine po_zero ?_ | refine po_nil ?_)
  refine mw_ops ?_
  iterate 4 (first | refine pm ?_ | refine pq ?_)
  refine po_gk rfl (FnG.lift1 (p:=2) (deBytes_g s p3 k3 bad3 hk3 hp3 hs n3 l3) ⟨trivial,trivial⟩ (lw_deC _ _ _) rfl) ?_ ?_
  ·rintro x b n4 l4 ⟨c',rfl,_⟩ y hy
   rw [List.mem_singleton] at hy; subst hy
   rfl
  rintro x _ n4 l4 ⟨c',rfl,hB4⟩
  obtain ⟨rfl,rfl,p4,bad4,name,rfl,rfl,hnl,hpp4,hp4,hB⟩:=bytesR_norm hp3 hB4
  first | refine pm ?_ | refine pq ?_
  refine po_app (t:=tk) (t':=0) (es:=pSr ns) (ds:=[[pS name]]) rfl rfl (hP.1.imp (fun h => h.1) fun h => (hP.2.1.mem tk (by show tk ∈ PC.toks (.sl tk (pSr ns)) ++ _; rw [toks_sl2 h]; simp)).1) (by simp only [List.length_singleton,pSr_len]; simp at hlen; omega) (fun e he => by simp only [List.mem_singleton] at he; subst he; rfl) (pSr_wid ns) ?_
  first | refine pm ?_ | refine pq ?_
  refine po_store (p:=1) (o':=0) (cs:=[.sl n4 (pSr ns ++ [[pS name]])]) (z:=[.sl tk (pSr ns),.sl 1 []]) rfl rfl rfl ⟨rfl,Nat.le_of_ble_eq_true rfl⟩ rfl ?_
  refine po_nil ?_
  refine mw_ops ?_
  first | refine pm ?_ | refine pq ?_
  refine po_q (v:=.d (.v (.int .u64 ((n - 1:Nat):Int)))) rfl (by show some (PV.d (.v (.int .u64 (IntKind.wrap .u64 ((n:Int) - 1))))) = _; rw [dec1 hn0 hn64]) ?_
  repeat' (first | refine pm ?_ | refine pq ?_ | refine px ?_ | refine po_zero ?_ | refine po_nil ?_)
  obtain ⟨q1,q2⟩:=nmP_step hP hn0 (by omega) hH3 hpp4 hp4 hnl hB
  have hpush:pSr (ns ++ [name]) = pSr ns ++ [[pS name]]:=by unfold pSr; rw [List.map_append]; rfl
  exact ⟨_,q2,n - 1,p4,n4,bad4,ns ++ [name],⟨rfl,rfl,rfl,rfl,rfl,trivial⟩,by rw [hpush]; rfl,q1,rfl⟩
 rintro tm bx n2 l2 ⟨n,p,tk,bad,ns,ht,hbx,hP,hend⟩
 obtain ⟨tm0,rfl⟩:=has_ups ht
 simp only at hbx hP; subst hbx
 clear ht
 have hpl:=hP.2.2.2.2.2.1
 refine mw_seq (mw_ops ?_)
 first | refine pm ?_ | refine pq ?_
 refine po_g rfl (FnG.lift1 (p:=2) (deHead_g s p bad hpl hs n2 l2) trivial (lw_deC _ _ _) rfl) ?_
 rintro x _ n3 l3 ⟨c',rfl,hR3⟩
 obtain ⟨rfl,rfl,mm3,k3,p3,bad3,rfl,rfl,hk3,hpp3,hp3,hH3⟩:=headR_norm hpl hR3
 repeat' (first | refine pm ?_ | refine pq ?_ | refine px ?_ | refine po_zero ?_ | refine po_nil ?_)
 have hT0:=tbP_start hP hend hk3 hp3 hH3
 refine mw_cut (fun st => ∃ (n p tk t2:Nat) (bad:Bool) (ns:List (List UInt8)) (rows:List (List PC)) (vs:List V) (rest:List (List PC)),has st.tm [(0,.d (pS s)),(2,.ref 0 0),(4,.ref 1 0),(5,.ref 2 0)] /\ st.bx = d0 :: [.sl tk (pSr ns),.sl t2 rows] :: deC s p bad :: rest /\ TbP s n1 l1 st.nt st.live n p tk t2 bad ns rows vs /\ (n = 0 \/ bad = true)) ?_ ?_
 ·refine mw_block ?_
  refine mw_while (GtI s n1 l1) _ ⟨k3,p3,tk,1,bad3,ns,[],[],[],⟨rfl,rfl,rfl,rfl,rfl,trivial⟩,rfl,hT0,rfl⟩ ?_
  clear hT0 hH3 hP hend hH hstart
  rintro m tm bx nt2 live2 ⟨n,p,tk,t2,bad,ns,rows,vs,rest,ht,hbx,hP,rfl⟩
  obtain ⟨tm0,rfl⟩:=has_ups ht
  simp only at hbx hP; subst hbx
  clear ht
  obtain ⟨ht2,hown,hge,hntl,hlv,hpl,hnsl,hnb,hn64,hrows,hvl,hvb,hcp⟩:=id hP
  refine mw_seq (mw_seq (mw_ops ?_))
  first | refine pm ?_ | refine pq ?_
  by_cases hn0:0 < n
  case neg =>
   refine po_no rfl rfl (decide_eq_false (show ¬ ((n:Nat):Int) > 0 by omega)) ?_
   first | refine pm ?_ | refine pq ?_
   iterate 5 (refine po_skip rfl ?_)
   repeat' (first | refine pm ?_ | refine pq ?_ | refine px ?_ | refine po_zero ?_ | refine po_nil ?_)
   refine mwF ?_
   refine mw_exit ?_
   exact ⟨n,p,tk,t2,bad,ns,rows,vs,rest,⟨rfl,rfl,rfl,rfl,trivial⟩,rfl,hP,.inl (by omega)⟩
  refine po_yes rfl rfl (decide_eq_true (show ((n:Nat):Int) > 0 by omega)) ?_
  cases bad with
  | true =>
   repeat' (first | refine pm ?_ | refine pq ?_ | refine px ?_ | refine po_zero ?_ | refine po_nil ?_)
   refine mwF ?_
   refine mw_exit ?_
   exact ⟨n,p,tk,t2,true,ns,rows,vs,rest,⟨rfl,rfl,rfl,rfl,trivial⟩,rfl,hP,.inr rfl⟩
  | false =>
  repeat' (first | refine pm ?_ | refine pq ?_ | refine px ?_ | refine po_zero ?_ | refine po_nil ?_)
  refine mwT ?_
  refine mw_skip ?_
  refine mw_seq (mw_block (mw_seq (mw_ops ?_)))
  iterate 5 (first | refine pm ?_ | refine pq ?_)
  have hg:=getMsgI_g (T:=T) (hT:=hT) hTab hs (p:Int) nt2 live2 (by omega)
  refine po_g rfl (FnG.lift0 (bx:=d0 :: [.sl tk (pSr ns),.sl t2 rows] :: deC s p false :: rest) hg ⟨trivial,trivial,trivial⟩) ?_
  rintro x b2 n5 l5 ⟨rfl,cs,next,rfl,hc5,hnew,hctk,hlv2,hn5,hres⟩
  iterate 3 (first | refine pm ?_ | refine pq ?_)
  refine po_nw (cs:=cs) rfl hc5 rfl rfl ?_
  first | refine pm ?_ | refine pq ?_
  refine po_nil ?_
  refine mw_seq (mw_seq (mw_ops ?_))
  first | refine pm ?_ | refine pq ?_
  refine po_b rfl rfl (fun b3 hb3 => ?_)
  refine po_nil ?_
  refine mw_cd (p:=next < 0) hb3 rfl (fun h3 _ => ?_) (fun h3 _ => ?_)
  ·rcases hres with ⟨hnx,_,hno⟩ | ⟨k',v,_,_,_,_,hnx,_⟩
   case inr => omega
   refine mw_seq (mw_ops ?_)
   iterate 3 (first | refine pm ?_ | refine pq ?_)
   refine po_store (p:=2) (o':=4) (cs:=[pB true]) (z:=deC s p false) rfl rfl rfl ⟨rfl,Nat.le_of_ble_eq_true rfl⟩ rfl ?_
   refine po_nil ?_
   refine mw_exit ?_
   exact ⟨n,p,tk,t2,true,ns,rows,vs,rest ++ [cs],⟨rfl,rfl,rfl,rfl,trivial⟩,rfl,tbP_bad hP hn0 hn5 hlv2 (fun v k1 k2 => by have:=hno v k1 k2 (by omega); rwa [Int.toNat_natCast] at this),.inr rfl⟩
  ·rcases hres with ⟨hnx,_,_⟩ | ⟨j',v,hjj,hvw,hvo,hAt,hnx,hle,he,huniq⟩
   ·omega
   obtain rfl:j' = p:=by omega
   refine mw_skip ?_
   refine mw_seq (mw_ops ?_)
   iterate 2 (first | refine pm ?_ | refine pq ?_)
   refine po_ldw (p:=(d0 :: [PC.sl tk (pSr ns),.sl t2 rows] :: deC s j' false :: rest).length) (cs:=cs) rfl rfl (gl_last _ cs) hc5 ?_
   refine po_lit (es:=[cs]) (by
    show (if cs.length = 5 then some [cs] else none) = some [cs]
    rw [if_pos hc5]) ?_
   have hrl:rows.length = vs.length:=by rw [erLL_len hrows,vK_len]
   have hown2:OwnL n5 l5 ([.sl tk (pSr ns)] ++ .sl t2 rows :: []):=hown.mono2 hn5 hlv2
   refine po_app (t:=t2) (t':=n5) (es:=rows) (ds:=[cs]) rfl rfl (hown2.app ht2 [n5]) (by simp only [List.length_singleton]; omega) (fun e he => by simp only [List.mem_singleton] at he; subst he; exact hc5) (fun e he => erLL_wid hrows (vK_wid vs) e he) ?_
   first | refine pm ?_ | refine pq ?_
   refine po_store (p:=1) (o':=1) (cs:=[.sl (n5 + 1) (rows ++ [cs])]) (z:=[.sl tk (pSr ns),.sl t2 rows]) rfl rfl rfl ⟨rfl,Nat.le_of_ble_eq_true rfl⟩ rfl ?_
   refine po_nil ?_
   refine mw_ops ?_
   iterate 4 (first | refine pm ?_ | refine pq ?_)
   refine po_store (p:=2) (o':=1) (cs:=[pI next]) (z:=deC s j' false) rfl rfl rfl ⟨rfl,Nat.le_of_ble_eq_true rfl⟩ rfl ?_
   refine po_nil ?_
   refine mw_ops ?_
   first | refine pm ?_ | refine pq ?_
   refine po_q (v:=.d (.v (.int .u64 ((n - 1:Nat):Int)))) rfl (by show some (PV.d (.v (.int .u64 (IntKind.wrap .u64 ((n:Int) - 1))))) = _; rw [dec1 hn0 hn64]) ?_
   repeat' (first | refine pm ?_ | refine pq ?_ | refine px ?_ | refine po_zero ?_ | refine po_nil ?_)
   obtain ⟨q1,q2⟩:=tbP_step hP hn0 (by omega) hn5 hnew hctk hlv2 hvw hvo hle he huniq
   exact ⟨s.length + 1 - (j' + (msg v).length),q2,n - 1,j' + (msg v).length,tk,n5 + 1,false,ns,rows ++ [cs],vs ++ [v],rest ++ [cs],⟨rfl,rfl,rfl,rfl,rfl,trivial⟩,by rw [hnx]; rfl,q1,rfl⟩
 clear hT0 hH3 hP hend hH hstart
 rintro tm bx n2 l2 ⟨n,p,tk,t2,bad,ns,rows,vs,rest,ht,hbx,hP,hend⟩
 obtain ⟨tm0,rfl⟩:=has_ups ht
 simp only at hbx hP; subst hbx
 clear ht
 obtain ⟨ht2,hown,hge,hntl,hlv,hpl,hnsl,hnb,hn64,hrows,hvl,hvb,hcp⟩:=id hP
 have her:erL [PC.sl tk (pSr ns),.sl t2 rows] = dC ns vs:=by
  show [PC.sl 0 (erLL (pSr ns)),.sl 0 (erLL rows)] = _
  rw [pSr_er,hrows]; rfl
 have hlen2:[PC.sl tk (pSr ns),.sl t2 rows].length = 2:=rfl
 have hcp2:∀ ns' vs',Good s ns' vs' -> bad = false /\ ns' = ns /\ vs' = vs:=fun ns' vs' h => by
  obtain ⟨e0,e1,e2,e3,e4⟩:=hcp ns' vs' h
  have hn0:n = 0:=hend.resolve_right (by rw [e0]; decide)
  exact ⟨e0,e1.symm,by rw [e2,List.take_of_length_le (by omega)]⟩
 have hDS:DSm ns vs:=⟨by omega,fun n hn => Nat.le_trans (hnb n hn) (by omega),by omega,fun v hv => (hvb v hv).1,fun v hv => Nat.le_trans (V.ok_bulk (hvb v hv).2) (by decide)⟩
 have hok:=dictOkI_fn (T:=T) (hT:=hT) hTab ns vs hDS
 refine mw_seq ?_
 obtain ⟨f,hf⟩:∃ f:Bool,f = true ↔ ¬ (bad = false /\ Good s ns vs):=by
  by_cases h:bad = false /\ Good s ns vs
  ·exact ⟨false,by simp only [h,not_true]; decide⟩
  ·exact ⟨true,by simp only [h,not_false_iff]⟩
 refine mw_cut (fun st => has st.tm [(2,.ref 0 0),(4,.ref 1 0),(105,.d (pB f))] /\ st.bx = d0 :: [PC.sl tk (pSr ns),.sl t2 rows] :: deC s p bad :: rest /\ st.nt = n2 /\ st.live = l2) ?_ ?_
 ·refine mw_ops ?_
  iterate 5 (first | refine pm ?_ | refine pq ?_)
  cases bad with
  | true =>
   have hft:f = true:=hf.2 (fun h => by cases h.1)
   subst hft
   iterate 3 (refine po_skip rfl ?_)
   iterate 2 (first | refine pm ?_ | refine pq ?_)
   iterate 4 (refine po_skip rfl ?_)
   repeat' (first | refine pm ?_ | refine pq ?_ | refine px ?_ | refine po_zero ?_ | refine po_nil ?_)
   exact ⟨⟨rfl,rfl,rfl,trivial⟩,rfl,rfl,rfl⟩
  | false =>
  refine po_ldw (p:=1) (cs:=[.sl tk (pSr ns),.sl t2 rows]) rfl rfl rfl hlen2 ?_
  refine po_gcall (b:=true) (args:=[.ag (dC ns vs)]) rfl (fun _ => dats1 her) (fun _ => hok) ?_
  iterate 3 (first | refine pm ?_ | refine pq ?_)
  cases hdb:dictB ns vs with
  | false =>
   have hft:f = true:=hf.2 (fun h => by have:=h.2.1; rw [hdb] at this; cases this)
   subst hft
   iterate 4 (refine po_skip rfl ?_)
   repeat' (first | refine pm ?_ | refine pq ?_ | refine px ?_ | refine po_zero ?_ | refine po_nil ?_)
   exact ⟨⟨rfl,rfl,rfl,trivial⟩,rfl,rfl,rfl⟩
  | true =>
  have hdb2:=hdb
  unfold dictB at hdb2
  simp only [Bool.and_eq_true] at hdb2
  have hpd:=putDictI_fn (T:=T) (hT:=hT) ns vs hdb2.1.1 hdb2.1.2 (fun v hv => (hvb v hv).1)
  refine po_ldw (p:=1) (cs:=[.sl tk (pSr ns),.sl t2 rows]) rfl rfl rfl hlen2 ?_
  refine po_gcall (b:=true) (args:=[.ag (dC ns vs)]) rfl (fun _ => dats1 her) (fun _ => hpd) ?_
  first | refine pm ?_ | refine pq ?_
  refine po_ne (la:=dictT ns vs) (lb:=s) rfl rfl rfl ?_
  repeat' (first | refine pm ?_ | refine pq ?_ | refine px ?_ | refine po_zero ?_ | refine po_nil ?_)
  have:decide (dictT ns vs ≠ s) = f:=by
   rw [Bool.eq_iff_iff,decide_eq_true_iff,hf]
   constructor
   ·intro h1 h2; exact h1 h2.2.2.1
   ·intro h1 h2; exact h1 ⟨rfl,hdb,h2,fun v hv => (hvb v hv).1⟩
  exact ⟨⟨rfl,rfl,by rw [<- this]; rfl,trivial⟩,rfl,rfl,rfl⟩
 rintro tm bx n3 l3 ⟨ht,hbx,hnn,hll⟩
 obtain ⟨tm0,rfl⟩:=has_ups ht
 simp only at hbx hnn hll
 subst hbx; subst hnn; subst hll
 clear ht
 refine mw_cond (t:=f) rfl (fun hc => ?_) (fun hc => ?_)
 ·refine mw_seq (mw_ops ?_)
  first | refine pm ?_ | refine pq ?_
  refine po_stw (p:=0) (cs:=d0) rfl rfl rfl rfl rfl rfl ?_
  repeat' (first | refine pm ?_ | refine pq ?_ | refine px ?_ | refine po_zero ?_ | refine po_nil ?_)
  refine mw_ret ⟨.inr rfl,[.ag d0,.d (pB false)],rfl,dictR_no (fun ns' vs' h => ?_) hlv hntl⟩
  obtain ⟨e1,e2,e3⟩:=hcp2 ns' vs' h
  subst e2; subst e3
  exact hf.1 hc ⟨e1,h⟩
 ·have hgood:bad = false /\ Good s ns vs:=Classical.byContradiction fun h => by rw [hf.2 h] at hc; cases hc
  refine mw_skip ?_
  refine mw_seq (mw_ops ?_)
  refine po_ldw (p:=1) (cs:=[.sl tk (pSr ns),.sl t2 rows]) rfl rfl rfl hlen2 ?_
  refine po_stw (p:=0) (cs:=[.sl tk (pSr ns),.sl t2 rows]) rfl rfl rfl hlen2 rfl rfl ?_
  repeat' (first | refine pm ?_ | refine pq ?_ | refine px ?_ | refine po_zero ?_ | refine po_nil ?_)
  have hN:=ownNew hown hge
  exact mw_ret ⟨.inr rfl,[.ag [.sl tk (pSr ns),.sl t2 rows],.d (pB true)],ress_bt rfl rfl hlen2 rfl,⟨ownedL_lw hN.own,trivial,trivial⟩,_,true,rfl,rfl,hN,(fun t ht => (hown.mem t ht).1),hlv,hntl,ns,vs,her,fun _ => hgood.2,(fun h => by cases h),fun ns' vs' h => ⟨rfl,(hcp2 ns' vs' h).2.1,(hcp2 ns' vs' h).2.2⟩⟩
end
/- MarkN -/
section
open Go.RowKit
set_option maxHeartbeats 800000 in
set_option maxRecDepth 10000 in
theorem markNames_any (ls:List (List UInt8)) (v:Value) (k:Nat) (fp:List Nat) (w:World) (h:TreeC w (dSs ls) fp [v]) (hn:fp.Nodup) (hl:ls.length <= 4294967296) (hk:0 < k) (hk2:k <= 4611686018427387904) :
  Calls Tryz.prog 72 #[v,.int .i64 k] w fun e w' => e = .returned (.int .i64 ((k + ls.length:Nat):Int)) /\ Keep (· ∈ fp) w w' /\ TreeC w' (dSs (mtS k ls)) fp [v]:=by
 by_cases hne:ls = []
 ·subst hne
  have h0:=h
  obtain ⟨a,c,rfl,_⟩:=TreeC.row h
  have H0:=Lib.hid h0
  clear h h0
  go_enter Tryz.func72,Tryz.ntmps72
  go_wp2
  go_loopw [1,5] (fun kk i wr => kk = .int .i64 k /\ i = .int .i64 (0:Int) /\ wr = w) (fun _ _ _ => 0)
  case atStart => exact ⟨rfl,rfl,rfl⟩
  case round =>
   obtain ⟨rfl,rfl,rfl⟩:=hrel
   go_wp2
   go_ret
   exact ⟨rfl,Keep.refl _ _,H0.out⟩
 ·obtain ⟨a,c,rfl,hg⟩:=TreeC.row h
  obtain ⟨g,fr,e,sz,rfl,rfl,hc1,hc2,hrow⟩:=hg (by simpa using hne)
  rw [List.length_map] at hc1 ⊢
  clear hg h
  have HC:=Lib.hid (show (ls.length <= c /\ sz = c * 1) /\ c <= maxLen from ⟨hc1,hc2⟩)
  clear hc1 hc2
  go_enter Tryz.func72,Tryz.ntmps72
  go_wp2
  go_loopw [1,5] (fun kk i wr => ∃ j:Nat,j <= ls.length /\ kk = .int .i64 ((k + j:Nat):Int) /\ i = .int .i64 j /\ Row wr 1 g e sz fr ((halfS k ls j).map dS) /\ Keep (· ∈ g :: fr) w wr) (fun _ i _ => ls.length - (intOf i).toNat)
  case atStart => exact ⟨0,Nat.zero_le _,rfl,rfl,by rw [halfS_zero]; exact hrow,Keep.refl _ _⟩
  case round =>
   obtain ⟨j,hj,rfl,rfl,hr,hkp⟩:=hrel
   by_cases hlt:j < ls.length
   ·have hjl:j < ((halfS k ls j).map dS).length:=by rw [List.length_map,halfS_length _ _ _ hj]; exact hlt
    obtain ⟨fi,ci,_,_,hgf,ht,hci,hsz,hcell,hput⟩:=hr.at hn j hjl
    simp only [List.getElem_map,dS,TreeC] at ht
    obtain ⟨rfl,rfl⟩:=ht
    have d0:=hcell 0 _ (by decide) rfl
    have hfr:=hr.blk.free (j * 1)
    have hlt2:=hr.blk.lt
    simp only [Nat.mul_one,Nat.add_zero] at d0 hfr hsz
    have i1:(0:Int) <= j:=by omega
    have i2:(j:Int) < ls.length:=by omega
    have hkj:0 < k + j:=by omega
    have hkj2:k + j <= 9223372036854775806:=by omega
    have HMT:=Lib.hid (markText_any (k + j) wr (by omega) hkj)
    have HFR:=Lib.hid hr.blk
    have HSET:=Lib.hid (halfS_set k ls j hlt)
    go_wp2_with (go_at_call 101; refine HMT.out.mono ?_; rintro e1 w1 ⟨rfl,hb1⟩; have c1:w1.cell? ⟨g,j,none⟩ = some _:=(by rw [(bcell hb1).1 _ _ hlt2]; exact d0); have c2:w1.frozen? ⟨g,j,none⟩ = false:=(by rw [(bcell hb1).2 _ _ hlt2]; exact hfr))
    go_roundw
    case rel =>
     refine ⟨j + 1,by omega,by go_num,by go_num,?_,?_⟩
     ·rw [<- HSET.out,<- dS_set]
      refine hput _ _ [.string ⟨(mt (k + j)).toArray⟩] rfl ((HFR.out.below hb1).setCell _ _) ?_ ?_ ?_ (by simp [TreeC,dS])
      ·intro i hi
       obtain rfl:i = 0:=by omega
       simp only [Nat.mul_one,Nat.add_zero]
       simp [go_sem,c1]
      ·intro o ho
       rw [<- (bcell hb1).1 _ _ hlt2]
       have:o ≠ j:=by omega
       simp [go_sem]
      ·intro b hb _
       have hne:b ≠ g:=fun e => by subst e; exact (List.nodup_cons.1 hn).1 hb
       have hbl:b < wr.heap.size:=by obtain ⟨_,_,_,_,_,hts⟩:=hr; exact hts.lt b hb
       rw [Below.heap_setCell _ _ _ _ (by simpa using hne),hb1.block b hbl]
     ·exact (hkp.then hb1).setCell (.inl (by simp)) _
    case measure => simp [intOf]; omega
   ·obtain rfl:j = ls.length:=by omega
    rw [halfS_all] at hr
    go_wp2
    go_ret
    have:=Row.tree (c:=c) hr (by decide) (by simpa [mtS_length] using HC.out)
    rw [List.length_map,mtS_length] at this
    exact ⟨rfl,hkp,this⟩
set_option maxHeartbeats 800000 in
set_option maxRecDepth 10000 in
theorem heldNames_any (ls:List (List UInt8)) (v:Value) (k:Nat) (w:World) (h:Rd w (dSs (mtS k ls)) [v]) (hl:ls.length <= 4294967296) (hk:0 < k) (hk2:k <= 4611686018427387904) :
  Calls Tryz.prog 74 #[v,.int .i64 k] w fun e w' => e = .returned (.int .i64 ((k + ls.length:Nat):Int)) /\ Below w.heap.size w w':=by
 obtain ⟨a,c,rfl,hg⟩:=h.strs
 rw [mtS_length]
 clear h
 go_enter Tryz.func74,Tryz.ntmps74
 go_wp2
 go_loopw [1,5] (fun kk i wr => ∃ j q:Nat,j <= ls.length /\ q = k + j /\ kk = .int .i64 q /\ i = .int .i64 j /\ Below w.heap.size w wr) (fun _ i _ => ls.length - (intOf i).toNat)
 case atStart => exact ⟨0,k,Nat.zero_le _,rfl,rfl,rfl,Below.refl _ _⟩
 case round =>
  obtain ⟨j,q,hj,hq,rfl,rfl,hbel⟩:=hrel
  have HQ:=Lib.hid hq
  by_cases hlt:j < ls.length
  ·obtain ⟨_,_,b,o,rfl,hb,hcell⟩:=hg (by intro e; have:=congrArg List.length e; simp [mtS_length] at this; subst this; simp at hlt)
   have d0:=hcell j (by rw [mtS_length]; exact hlt)
   rw [mtS_get k ls j hlt,<- (bcell hbel).1 _ _ hb] at d0
   rw [<- hq] at d0
   have i1:(0:Int) <= j:=by omega
   have hq2:q <= 4611686018427387904 + 4294967296:=by omega
   have hq3:0 < q:=by omega
   clear hq
   have i2:(j:Int) < ls.length:=by omega
   have hb':b < wr.heap.size:=Nat.lt_of_lt_of_le hb hbel.size
   have HMT:=fun W => Lib.hid (markText_any q W (by omega) (by omega))
   have hwr:=Below.refl wr.heap.size wr
   have KB:Hid (∀ W,Below wr.heap.size wr W -> W.cell? ⟨b,o + j,none⟩ = some (.string ⟨(mt q).toArray⟩)):=fun W hW => by rw [(bcell hW).1 _ _ hb']; exact d0
   clear hcell hg d0
   go_wp2_with fail
   go_region_held3 (fun W => W.cell? ⟨b,o + j,none⟩ = some (.string ⟨(mt q).toArray⟩)) (first | exact KB.out _ hwr | exact KB.out _ hwr.drew)
    ((go_at_call 101; with_reducible refine (HMT _).out.mono ?_; rintro e1 w1 ⟨rfl,hb1⟩; replace hwr:=below2 (by first | exact hwr | exact hwr.drew) hb1 (Nat.le_refl _)))
   go_wp2
   go_roundw
   case rel => exact ⟨j + 1,q + 1,by omega,by have:=HQ.out; omega,by go_num,by go_num,below2 hbel (by first | exact hwr | exact hwr.drew) (Nat.le_refl _)⟩
   case measure => simp [intOf]; omega
  ·obtain rfl:j = ls.length:=by omega
   clear hq
   go_wp2
   go_ret
   exact ⟨by rw [<- HQ.out]; rfl,hbel⟩
set_option maxHeartbeats 400000 in
theorem markT_nil (v:Value) (k:Nat) (fp:List Nat) (w:World) (h:TreeC w (.sl 5 (V.ds [])) fp [v]) :
  Calls Tryz.prog 73 #[v,.int .i64 k] w fun e w' => e = .returned (.int .i64 ((k + V.cnts []:Nat):Int)) /\ Keep (· ∈ fp) w w' /\ TreeC w' (.sl 5 (V.ds (V.marks k []))) fp [v]:=by
 have h0:=h
 obtain ⟨a,c,rfl,_⟩:=TreeC.row h
 have H0:=Lib.hid h0
 clear h h0
 go_enter Tryz.func73,Tryz.ntmps73
 go_wp2
 go_loopw [1,5] (fun kk i wr => kk = .int .i64 k /\ i = .int .i64 (0:Int) /\ wr = w) (fun _ _ _ => 0)
 case atStart => exact ⟨rfl,rfl,rfl⟩
 case round =>
  obtain ⟨rfl,rfl,rfl⟩:=hrel
  go_wp2
  go_ret
  exact ⟨rfl,Keep.refl _ _,H0.out⟩
set_option maxHeartbeats 2000000 in
set_option maxRecDepth 10000 in
theorem markTable_any (vs:List V) (v:Value) (k:Nat) (fp:List Nat) (w:World) (h:TreeC w (.sl 5 (V.ds vs)) fp [v]) (hn:fp.Nodup) (hl:vs.length + V.bulks vs <= 4294967295) (hk:0 < k) (hk2:k + V.cnts vs <= 4611686018427387904) :
  Calls Tryz.prog 73 #[v,.int .i64 k] w fun e w' => e = .returned (.int .i64 ((k + V.cnts vs:Nat):Int)) /\ Keep (· ∈ fp) w w' /\ TreeC w' (.sl 5 (V.ds (V.marks k vs))) fp [v]:=by
 have hA:=VMk_all
 by_cases hne:vs = []
 ·subst hne
  exact markT_nil v k fp w h
 ·obtain ⟨a,c,rfl,hg⟩:=TreeC.row h
  obtain ⟨g,fr,e,sz,rfl,rfl,hc1,hc2,hrow⟩:=hg (by rw [V.ds_map]; simpa using hne)
  have hvl:(V.ds vs).length = vs.length:=by rw [V.ds_map,List.length_map]
  rw [hvl] at hc1 ⊢
  clear hg h
  have HC:=Lib.hid (show (vs.length <= c /\ sz = c * 5) /\ c <= maxLen from ⟨hc1,hc2⟩)
  clear hc1 hc2
  go_enter Tryz.func73,Tryz.ntmps73
  go_wp2
  go_loopw [1,5] (fun kk i wr => ∃ j q:Nat,j <= vs.length /\ q = k + V.cnts (vs.take j) /\ kk = .int .i64 q /\ i = .int .i64 j /\ Row wr 5 g e sz fr (V.ds (V.half k vs j)) /\ Keep (· ∈ g :: fr) w wr) (fun _ i _ => vs.length - (intOf i).toNat)
  case atStart => exact ⟨0,k,Nat.zero_le _,by simp [V.cnts],rfl,rfl,by rw [V.half_zero]; exact hrow,Keep.refl _ _⟩
  case round =>
   obtain ⟨j,q,hj,hq,rfl,rfl,hr,hkp⟩:=hrel
   have HQ:=Lib.hid hq
   by_cases hlt:j < vs.length
   ·have hqc:=V.cnts_get vs j hlt
    have hq1:0 < q:=by omega
    have hq2:q + V.cnt vs[j] <= 4611686018427387904:=by omega
    have HQ2:=Lib.hid (show q + V.cnt vs[j] = k + V.cnts (vs.take (j + 1)) by rw [V.cnts_take vs j hlt]; omega)
    clear hq hqc
    have hjl:j < (V.half k vs j).length:=by rw [V.half_length _ _ _ hj]; exact hlt
    obtain ⟨fi,kn,nn,en,sn,kids,u,hes,hnf,d0,d1,d2,hfr,hgl,hrest⟩:=RowV.round hr hn j hjl q
    have hes':vs[j] = .mk kn nn en sn kids:=by rw [<- V.half_at k vs j hlt]; exact hes
    have hbj:=V.bulks_snoc vs j hlt
    have hbt:=V.bulks_take vs (j + 1)
    have hnk:=Nat.le_refl (V.nodess kids)
    have hbk:kids.length + V.bulks kids <= 4294967295:=by rw [hes'] at hbj; simp only [V.bulk] at hbj; omega
    have hck:V.cnt vs[j] = 4 + V.cnts kids:=by rw [hes']; rfl
    have hqk:q + 4 + V.cnts kids <= 4611686018427387904:=by omega
    have HQ3:=Lib.hid (show q + 4 + V.cnts kids = k + V.cnts (vs.take (j + 1)) by rw [<- HQ2.out]; omega)
    have HSET:=Lib.hid (show (V.half k vs j).set j (V.mark1 q ((V.half k vs j)[j]'hjl)) = V.half k vs (j + 1) by rw [V.half_at k vs j hlt,HQ.out]; exact V.half_set k vs j hlt)
    have HR:=Lib.hid hrest
    have HMT:=fun W => Lib.hid (markText_any (q + 3) W (by omega) (by omega))
    have f0:=hfr (j * 5)
    have f1:=hfr (j * 5 + 1)
    have f2:=hfr (j * 5 + 2)
    have i1:(0:Int) <= j:=by omega
    have i2:(j:Int) < vs.length:=by omega
    have HHA:=fun W h1 => Lib.hid (hA (V.nodess kids) kids u (q + 4) fi W hnk h1 hnf hbk (by omega) hqk)
    have HKP:=Lib.hid hkp
    clear hes hes' hbj hbt hnk hbk hck hrest hr hfr hnf hA hrow hkp
    go_wp2_with (first | (go_at_call 101; refine (HMT _).out.mono ?_; rintro e1 w1 ⟨rfl,hb1⟩; obtain ⟨c3,f3,c4,htk,hfin⟩:=HR.out w1 hb1) | (go_at_call 96; refine (HHA _ htk).out.mono ?_; rintro e1 w2 ⟨rfl,hk2',ht2⟩; obtain ⟨hrow2,hkp2⟩:=hfin w2 hk2' ht2))
    go_roundw
    case rel => exact ⟨j + 1,q + 4 + V.cnts kids,by omega,HQ3.out,by go_num,by go_num,by rw [<- HSET.out]; exact hrow2,HKP.out.trans hkp2⟩
    case measure => simp [intOf]; omega
   ·obtain rfl:j = vs.length:=by omega
    rw [V.half_all] at hr
    rw [List.take_length] at HQ
    clear hq
    go_wp2
    go_ret
    have hml:(V.ds (V.marks k vs)).length = vs.length:=by rw [V.ds_map,List.length_map,V.marks_length]
    have:=Row.tree (c:=c) hr (by decide) (by rw [hml]; exact HC.out)
    rw [hml] at this
    exact ⟨by rw [<- HQ.out]; rfl,hkp,this⟩
set_option maxHeartbeats 2000000 in
set_option maxRecDepth 10000 in
theorem heldTable_any (vs:List V) (v:Value) (k:Nat) (w:World) (h:Rd w (.sl 5 (V.ds (V.marks k vs))) [v]) (hl:vs.length + V.bulks vs <= 4294967295) (hk:0 < k) (hk2:k + V.cnts vs <= 4611686018427387904) :
  Calls Tryz.prog 75 #[v,.int .i64 k] w fun e w' => e = .returned (.int .i64 ((k + V.cnts vs:Nat):Int)) /\ Below w.heap.size w w':=by
 have hA:=VHd_all
 obtain ⟨a,c,rfl,hg⟩:=h.values
 rw [V.marks_length]
 clear h
 go_enter Tryz.func75,Tryz.ntmps75
 go_wp2
 go_loopw [1,5] (fun kk i wr => ∃ j q:Nat,j <= vs.length /\ q = k + V.cnts (vs.take j) /\ kk = .int .i64 q /\ i = .int .i64 j /\ Below w.heap.size w wr) (fun _ i _ => vs.length - (intOf i).toNat)
 case atStart => exact ⟨0,k,Nat.zero_le _,by simp [V.cnts],rfl,rfl,Below.refl _ _⟩
 case round =>
  obtain ⟨j,q,hj,hq,rfl,rfl,hbel⟩:=hrel
  have HQ:=Lib.hid hq
  by_cases hlt:j < vs.length
  ·have hqc:=V.cnts_get vs j hlt
   have hq1:0 < q:=by omega
   have hq2:q + V.cnt vs[j] <= 4611686018427387904:=by omega
   have HQ2:=Lib.hid (show q + V.cnt vs[j] = k + V.cnts (vs.take (j + 1)) by rw [V.cnts_take vs j hlt]; omega)
   obtain ⟨_,_,b,o,rfl,hb,hcell⟩:=hg (by intro e; have:=congrArg List.length e; simp [V.marks_length] at this; subst this; simp at hlt)
   obtain ⟨v0,v1,v2,v3,v4,hr,d0,d1,d2,d3,d4⟩:=hcell j (by rw [V.marks_length]; exact hlt)
   rw [V.marks_get k vs j hlt,<- hq] at hr
   obtain ⟨kn,nn,en,sn,kids,hes'⟩:∃ kn nn en sn kids,vs[j] = .mk kn nn en sn kids:=by cases vs[j]; exact ⟨_,_,_,_,_,rfl⟩
   rw [hes'] at hr
   obtain ⟨k',n',e',s',kids',u,hm,hcs,hrk⟩:=V.lay hr
   simp only [V.mark1,V.mk.injEq] at hm
   obtain ⟨rfl,rfl,rfl,rfl,rfl⟩:=hm
   simp only [List.cons.injEq,and_true] at hcs
   obtain ⟨rfl,rfl,rfl,rfl,rfl⟩:=hcs
   have hbj:=V.bulks_snoc vs j hlt
   have hbt:=V.bulks_take vs (j + 1)
   have hnk:=Nat.le_refl (V.nodess kids)
   have hbk:kids.length + V.bulks kids <= 4294967295:=by rw [hes'] at hbj; simp only [V.bulk] at hbj; omega
   have hck:V.cnt vs[j] = 4 + V.cnts kids:=by rw [hes']; rfl
   have hqk:q + 4 + V.cnts kids <= 4611686018427387904:=by omega
   have HQ3:=Lib.hid (show q + 4 + V.cnts kids = k + V.cnts (vs.take (j + 1)) by rw [<- HQ2.out]; omega)
   have hbc:=(bcell hbel).1
   rw [<- hbc _ _ hb] at d0 d1 d2 d3 d4
   have hb':b < wr.heap.size:=Nat.lt_of_lt_of_le hb hbel.size
   have hwr:=Below.refl wr.heap.size wr
   have KB:Hid (∀ W,Below wr.heap.size wr W -> W.cell? ⟨b,o + j * 5 + 3,none⟩ = some (.string ⟨(mt (q + 3)).toArray⟩) /\ W.cell? ⟨b,o + j * 5 + 4,none⟩ = some v4):=fun W hW => by rw [(bcell hW).1 _ _ hb',(bcell hW).1 _ _ hb']; exact ⟨d3,d4⟩
   have i1:(0:Int) <= j:=by omega
   have i2:(j:Int) < vs.length:=by omega
   have HMT:=fun W => Lib.hid (show Calls Tryz.prog 101 #[.int .i64 ((q:Int) + 1 + 1 + 1)] W _ from markText_any (q + 3) W (by omega) (by omega))
   have HHA:=fun W (hB:Below wr.heap.size wr W) => Lib.hid (hA (V.nodess kids) kids v4 (q + 4) W hnk ((hrk.below hbel).below hB) hbk (by omega) hqk)
   clear hes' hbj hbt hnk hbk hck hA hrk hcell hg hbc hq hqc HQ2
   go_wp2_with fail
   go_region_held3 (fun W => W.cell? ⟨b,o + j * 5 + 3,none⟩ = some (.string ⟨(mt (q + 3)).toArray⟩) /\ W.cell? ⟨b,o + j * 5 + 4,none⟩ = some v4) (first | exact KB.out _ hwr | exact KB.out _ hwr.drew)
    ((go_at_call 101; with_reducible refine (HMT _).out.mono ?_; rintro e1 w1 ⟨rfl,hb1⟩; replace hwr:=below2 (by first | exact hwr | exact hwr.drew) hb1 (Nat.le_refl _)))
   obtain ⟨p3,p4⟩:=KB.out _ hwr
   go_wp2_with (go_at_call 98; refine (HHA _ hwr).out.mono ?_; rintro e1 w2 ⟨rfl,hb2⟩)
   go_roundw
   case rel => exact ⟨j + 1,q + 4 + V.cnts kids,by omega,HQ3.out,by go_num,by go_num,below2 hbel (below2 hwr hb2 (Nat.le_refl _)) (Nat.le_refl _)⟩
   case measure => simp [intOf]; omega
  ·obtain rfl:j = vs.length:=by omega
   rw [List.take_length] at HQ
   clear hq
   go_wp2
   go_ret
   exact ⟨by rw [<- HQ.out]; rfl,hbel⟩
end
/- MarkD -/
section
open Go.RowKit
def dD (ns:List (List UInt8)) (vs:List V):D:=.agg [dSs ns,.sl 5 (V.ds vs)]
theorem dD_pc (ns:List (List UInt8)) (vs:List V):(dD ns vs).pc = dC ns vs:=by
 simp only [dD,D.pc,D.pcs,dSs_pc,D.pcE_map,V.ds_map,List.map_map,List.append_nil]
 rfl
theorem dD_wf (ns:List (List UInt8)) (vs:List V):(dD ns vs).wf:=by
 simp only [dD,D.wf,D.wfs]
 exact ⟨dSs_wf ns,⟨fun e he => by rw [V.ds_map] at he; obtain ⟨y,_,rfl⟩:=List.mem_map.1 he; exact V.width y,V.wfds vs⟩,trivial⟩
theorem dD_pl (ns:List (List UInt8)) (vs:List V):(dD ns vs).pl:=by
 simp only [dD,D.pl,D.pls,dSs,and_self]
theorem dD_tree {w:World} {ns:List (List UInt8)} {vs:List V} {fp:List Nat} {cs:List Value} (h0:TreeC w (dD ns vs) fp cs) :
  ∃ v u f1 f2,fp = f1 ++ f2 /\ cs = [v,u] /\ TreeC w (dSs ns) f1 [v] /\ TreeC w (.sl 5 (V.ds vs)) f2 [u]:=by
 simp only [dD,TreeC,TreeCs,dSs,D.width] at h0
 obtain ⟨f4,r4,c4,d4,rfl,rfl,_,⟨a4,n4,rfl,h4⟩,f6,r6,c6,d6,rfl,rfl,_,⟨a6,n6,rfl,h6⟩,rfl,rfl⟩:=h0
 refine ⟨_,_,f4,f6,by simp,rfl,?_,?_⟩
 ·simp only [dSs,TreeC]; exact ⟨a4,n4,rfl,h4⟩
 ·simp only [TreeC]; exact ⟨a6,n6,rfl,h6⟩
theorem dD_mk {w:World} {ns:List (List UInt8)} {vs:List V} {f1 f2:List Nat} {v u:Value} (h1:TreeC w (dSs ns) f1 [v]) (h2:TreeC w (.sl 5 (V.ds vs)) f2 [u]):TreeC w (dD ns vs) (f1 ++ f2) [v,u]:=by
 simp only [dD,TreeC,TreeCs,dSs,D.width]
 exact ⟨f1,f2,[_],_,rfl,rfl,rfl,by simpa only [dSs,TreeC] using h1,f2,[],[_],[],by simp,rfl,rfl,by simpa only [TreeC] using h2,rfl,rfl⟩
theorem dD_lay {w:World} {ns:List (List UInt8)} {vs:List V} {cs:List Value} (h:Rd w (dD ns vs) cs):∃ v1 v2,cs = [v1,v2] /\ Rd w (dSs ns) [v1] /\ Rd w (.sl 5 (V.ds vs)) [v2]:=by
 simp only [Rd,dD,RepC,RepCs,dSs,D.width] at h
 obtain ⟨c4,r4,rfl,_,⟨a4,n4,rfl,h4⟩,c6,r6,rfl,_,⟨a6,n6,rfl,h6⟩,rfl⟩:=h
 refine ⟨_,_,rfl,?_,?_⟩
 ·simp only [Rd,dSs,RepC]; exact ⟨a4,n4,rfl,h4⟩
 ·simp only [Rd,RepC]; exact ⟨a6,n6,rfl,h6⟩
set_option maxHeartbeats 800000 in
theorem markDict_any (ks:List (List UInt8)) (kids:List V) (cs:List Value) (k:Nat) (fp:List Nat) (w:World) (h:TreeC w (dD ks kids) fp cs) (hn:fp.Nodup) (hks:ks.length <= 4294967295) (hbk:kids.length + V.bulks kids <= 4294967295) (hk:0 < k) (hk2:k + ks.length + V.cnts kids <= 4611686018427387904) :
  Calls Tryz.prog 17 #[.agg cs.toArray,.int .i64 k] w fun e w' => e = .returned (.int .i64 ((k + ks.length + V.cnts kids:Nat):Int)) /\ Keep (· ∈ fp) w w' /\ TreeC w' (dD (mtS k ks) (V.marks (k + ks.length) kids)) fp cs:=by
 obtain ⟨v,u,f1,f2,rfl,rfl,ht1,ht2⟩:=dD_tree h
 rw [List.nodup_append] at hn
 obtain ⟨n1,n2,n3⟩:=hn
 obtain ⟨va,vc,rfl,_⟩:=TreeC.row ht1
 obtain ⟨ua,uc,rfl,_⟩:=TreeC.row ht2
 have e1:(ks.map dS).length = ks.length:=by simp
 have e2:(V.ds kids).length = kids.length:=by rw [V.ds_map]; simp
 rw [e1] at ht1
 rw [e2] at ht2
 rw [e1,e2]
 obtain ⟨W0,hW0⟩:∃ W0,W0 = w.alloc (.cells #[.slice va ks.length vc,.slice ua kids.length uc] 27):=⟨_,rfl⟩
 have HW:=Lib.hid hW0
 have hal:Below w.heap.size w W0:=by rw [hW0]; exact (Below.refl _ _).alloc (Nat.le_refl _) _
 have hz:w.heap.size < W0.heap.size:=by rw [hW0]; simp
 have l1:=ht1.lt
 have l2:=ht2.lt
 have ht1':TreeC W0 (dSs ks) f1 _:=ht1.frame fun b hb => hal.block b (l1 b hb)
 have ht2':TreeC W0 (.sl 5 (V.ds kids)) f2 _:=ht2.frame fun b hb => hal.block b (l2 b hb)
 have HM:=Lib.hid (markNames_any ks _ k f1 W0 ht1' n1 (by omega) hk (by omega))
 have KB:Hid (∀ W,Keep (· ∈ f1) W0 W -> W.cell? ⟨w.heap.size,1,none⟩ = some (.slice ua kids.length uc)):=by
  intro W hb
  rw [hb.cell hz (fun hx => by have:=l1 _ hx; omega)]
  subst hW0; simp
 have HN:=fun W (hK:Keep (· ∈ f1) W0 W) => Lib.hid (markTable_any kids _ (k + ks.length) f2 W (ht2'.frame (hK.same fun b hb => ⟨Nat.lt_of_lt_of_le (l2 b hb) hal.size,fun hb1 => n3 b hb1 b hb rfl⟩)) n2 (by omega) (by omega) (by omega))
 have HF:=Lib.hid (show ∀ (cs:List Value) W1 W2,Keep (· ∈ f1) W0 W1 -> TreeC W1 (dSs (mtS k ks)) f1 cs -> Keep (· ∈ f2) W1 W2 -> TreeC W2 (dSs (mtS k ks)) f1 cs from fun cs W1 W2 h1 h2 h3 => h2.frame (h3.same fun b hb => ⟨h2.lt b hb,fun hb2 => n3 b hb b hb2 rfl⟩))
 have hkl:ks.length <= 4294967295:=by omega
 clear hW0 h ht1 ht2 ht1' ht2'
 go_enter Tryz.func17,Tryz.ntmps17
 go_wp2_with (first | (go_at_call 72; rw [<- HW.out]; refine HM.out.mono ?_; rintro e1 w1 ⟨rfl,hk1,ht1⟩; have p5:=KB.out _ hk1) | (go_at_call 73; refine (HN _ hk1).out.mono ?_; rintro e1 w2 ⟨rfl,hk2',ht2⟩))
 go_ret
 exact ⟨rfl,((Keep.of_below hal).trans (hk1.mono fun b _ hb => by simp [hb])).trans (hk2'.mono fun b _ hb => by simp [hb]),dD_mk (HF.out _ _ _ hk1 ht1 hk2') ht2⟩
set_option maxHeartbeats 800000 in
theorem heldDict_any (ks:List (List UInt8)) (kids:List V) (cs:List Value) (k:Nat) (w:World) (h:Rd w (dD (mtS k ks) (V.marks (k + ks.length) kids)) cs) (hks:ks.length <= 4294967295) (hbk:kids.length + V.bulks kids <= 4294967295) (hk:0 < k) (hk2:k + ks.length + V.cnts kids <= 4611686018427387904) :
  Calls Tryz.prog 18 #[.agg cs.toArray,.int .i64 k] w fun e w' => e = .returned (.int .i64 ((k + ks.length + V.cnts kids:Nat):Int)) /\ Below w.heap.size w w':=by
 obtain ⟨v,u,rfl,hrs,hrk⟩:=dD_lay h
 obtain ⟨va,vc,rfl⟩:=Rd.sl_form hrs
 obtain ⟨ua,uc,rfl⟩:=Rd.sl_form hrk
 have e1:((mtS k ks).map dS).length = ks.length:=by simp [mtS_length]
 have e2:(V.ds (V.marks (k + ks.length) kids)).length = kids.length:=by rw [V.ds_map]; simp [V.marks_length]
 rw [e1] at hrs
 rw [e2] at hrk
 rw [e1,e2]
 obtain ⟨W0,hW0⟩:∃ W0,W0 = w.alloc (.cells #[.slice va ks.length vc,.slice ua kids.length uc] 27):=⟨_,rfl⟩
 have HW:=Lib.hid hW0
 have hal:Below w.heap.size w W0:=by rw [hW0]; exact (Below.refl _ _).alloc (Nat.le_refl _) _
 have hz:w.heap.size < W0.heap.size:=by rw [hW0]; simp
 have HM:=Lib.hid (heldNames_any ks _ k W0 (hrs.below hal) (by omega) hk (by omega))
 have KB:Hid (∀ W,Below W0.heap.size W0 W -> W.cell? ⟨w.heap.size,1,none⟩ = some (.slice ua kids.length uc)):=by
  intro W hb
  rw [(bcell hb).1 _ _ hz]
  subst hW0; simp
 have HN:=fun W (hB:Below W0.heap.size W0 W) => Lib.hid (heldTable_any kids _ (k + ks.length) W (hrk.below (below2 hal hB (Nat.le_refl _))) (by omega) (by omega) (by omega))
 have hkl:ks.length <= 4294967295:=by omega
 obtain ⟨q1,hq1⟩:∃ q,q = k + ks.length:=⟨_,rfl⟩
 obtain ⟨q2,hq2⟩:∃ q,q = q1 + V.cnts kids:=⟨_,rfl⟩
 rw [<- hq1] at HM HN ⊢
 rw [<- hq2] at HN ⊢
 clear hW0 h hrs hrk hq1 hq2
 go_enter Tryz.func18,Tryz.ntmps18
 go_wp2_with (first | (go_at_call 74; rw [<- HW.out]; refine HM.out.mono ?_; rintro e1 w1 ⟨rfl,hb1⟩; have p5:=KB.out _ hb1) | (go_at_call 75; refine (HN _ hb1).out.mono ?_; rintro e1 w2 ⟨rfl,hb2⟩))
 go_ret
 exact ⟨rfl,below2 hal (below2 hb1 hb2 (Nat.le_refl _)) (Nat.le_refl _)⟩
theorem markD_fn {E:Env} (hP:E.P = Tryz.prog) (ks:List (List UInt8)) (kids:List V) (k:Nat) (hks:ks.length <= 4294967295) (hbk:kids.length + V.bulks kids <= 4294967295) (hk:0 < k) (hk2:k + ks.length + V.cnts kids <= 4611686018427387904):MarkC E 17 (dD ks kids) (dD (mtS k ks) (V.marks (k + ks.length) kids)) k ((k + ks.length + V.cnts kids:Nat):Int):=by
 intro W fp vs h hn
 rw [hP]; exact markDict_any ks kids vs k fp W h hn hks hbk hk hk2
theorem heldD_fn {E:Env} (hP:E.P = Tryz.prog) (ks:List (List UInt8)) (kids:List V) (k:Nat) (hks:ks.length <= 4294967295) (hbk:kids.length + V.bulks kids <= 4294967295) (hk:0 < k) (hk2:k + ks.length + V.cnts kids <= 4611686018427387904):FnV E 18 [.ag (dD (mtS k ks) (V.marks (k + ks.length) kids)).pc,.d (pI k)] (.d (pI ((k + ks.length + V.cnts kids:Nat):Int))):=by
 refine FnV.old rfl fun W C vs hF _ _ hlen hv => ?_
 match vs,hlen with
 | [a,b],_ =>
  obtain ⟨cs,rfl,h1⟩:=vRd hF (dD_wf _ _) (hv 0 _ _ rfl rfl)
  have hb:=pI_inv (hv 1 _ _ rfl rfl)
  subst hb
  rw [hP]; exact heldDict_any ks kids cs k W h1 hks hbk hk hk2
end
/- TabsLow -/
section
open Go.RowKit
theorem Tabs.low:Low ngl Tabs:=by
 intro w w' h hs hk
 have h1:0 < ngl:=of_decide_eq_true (by unfold ngl; kernel_rfl)
 have h2:1 < ngl:=of_decide_eq_true (by unfold ngl; kernel_rfl)
 refine ⟨fun c hc => ?_,fun i hi => ?_⟩
 ·rw [World.cell?_of_block (a:=⟨_,_,none⟩) (hk _ h1)]; exact h.1 c hc
 ·rw [World.cell?_of_block (a:=⟨_,_,none⟩) (hk _ h2),World.cell?_of_block (a:=⟨_,_,none⟩) (hk _ h2)]; exact h.2 i hi
end
/- GetDictLaw -/
section
open Go.RowKit
attribute [local irreducible] po mw pt
theorem dict_same {s:List UInt8} {ok0 ok1:Bool} {ns0 ns1:List (List UInt8)} {vs0 vs1:List V} (a0:ok0 = true -> Good s ns0 vs0) (b0:ok0 = false -> ns0 = [] /\ vs0 = []) (c0:∀ ns' vs',Good s ns' vs' -> ok0 = true /\ ns' = ns0 /\ vs' = vs0)
  (a1:ok1 = true -> Good s ns1 vs1) (b1:ok1 = false -> ns1 = [] /\ vs1 = []) (c1:∀ ns' vs',Good s ns' vs' -> ok1 = true /\ ns' = ns1 /\ vs' = vs1):ok1 = ok0 /\ ns1 = ns0 /\ vs1 = vs0:=by
 cases ok0 with
 | true =>
  obtain ⟨e1,e2,e3⟩:=c1 _ _ (a0 rfl)
  exact ⟨e1,e2.symm,e3.symm⟩
 | false =>
  cases ok1 with
  | true => have:=(c0 _ _ (a1 rfl)).1; cases this
  | false =>
   obtain ⟨rfl,rfl⟩:=b0 rfl
   obtain ⟨rfl,rfl⟩:=b1 rfl
   exact ⟨rfl,rfl,rfl⟩
theorem dict_small {s:List UInt8} {ok:Bool} {ns:List (List UInt8)} {vs:List V} (a:ok = true -> Good s ns vs) (b:ok = false -> ns = [] /\ vs = []):ns.length <= 100 /\ vs.length <= 60 /\ ∀ v ∈ vs,v.bulk <= 1048576:=by
 cases ok with
 | true =>
  obtain ⟨g1,g2,g3,g4,g5,g6,g7,g8,_⟩:=(a rfl).at
  exact ⟨g5,g7,fun v hv => V.ok_bulk (g8 v hv).2⟩
 | false =>
  obtain ⟨rfl,rfl⟩:=b rfl
  exact ⟨Nat.zero_le _,Nat.zero_le _,fun v hv => by cases hv⟩
theorem bulks_small:∀ {vs:List V},(∀ v ∈ vs,v.bulk <= 1048576) -> V.bulks vs <= 1048577 * vs.length
 | [],_ => by simp [V.bulks]
 | v :: vs,h => by
  have h1:=h v (List.mem_cons_self ..)
  have h2:=bulks_small (vs:=vs) fun x hx => h x (List.mem_cons_of_mem _ hx)
  simp only [V.bulks,List.length_cons,Nat.mul_succ]; omega
set_option maxHeartbeats 4000000 in
theorem lawGetDict_fn (s:List UInt8):FnV (env Tabs Tabs.low) 3 [.d (pS s)] (.d (pB true)):=by
 refine fn_ofB (look_env lk_l_FnExactGetDict) (by show 1 <= 66; decide) fun B hB hold hBF => ?_
 unfold m_l_FnExactGetDict
 refine mw_seq (mw_ops ?_)
 repeat' (first | refine pm ?_ | refine pq ?_ | refine px ?_ | refine po_zero ?_ | refine po_nil ?_)
 refine mw_seq (mw_seq (mw_ops ?_))
 first | refine pm ?_ | refine pq ?_
 refine po_q (v:=.d (pI s.length)) rfl rfl ?_
 refine po_b rfl rfl (fun b0 hb0 => ?_)
 refine po_nil ?_
 refine mw_cd (p:=(s.length:Int) > 1048576) hb0 rfl (fun h0 _ => ?_) (fun h0 _ => ?_)
 ·refine mw_seq (mw_ops ?_)
  repeat' (first | refine pm ?_ | refine pq ?_ | refine px ?_ | refine po_zero ?_ | refine po_nil ?_)
  exact mw_ret ⟨.inr rfl,_,rfl,rfl⟩
 have hs:s.length <= 2147483647:=by omega
 refine mw_skip ?_
 refine mw_at (fun st => has st.tm [(0,.d (pS s))] /\ st.bx = [] /\ 2 <= st.nt) ⟨⟨rfl,trivial⟩,rfl,by show 2 <= _; exact Nat.le_refl 2⟩ ?_
 rintro tm bx nt live ⟨ht,hbx,hnt⟩
 obtain ⟨tm0,rfl⟩:=has_ups ht
 simp only at hbx hnt; subst hbx
 clear ht
 refine mw_seq (mw_ops ?_)
 first | refine pm ?_ | refine pq ?_
 refine po_g rfl (FnG.lift0 (getDict_g (T:=Tabs) (hT:=Tabs.low) hs nt live hnt) ⟨trivial,trivial⟩) ?_
 rintro x _ n1 l1 ⟨rfl,cs0,ok0,rfl,hc0,hN0,htk0,hlv0,hn1,ns0,vs0,he0,a0,b0',c0⟩
 iterate 3 (first | refine pm ?_ | refine pq ?_)
 refine po_nw (cs:=cs0) rfl hc0 rfl rfl ?_
 first | refine pm ?_ | refine pq ?_
 refine po_nil ?_
 refine mw_seq (mw_ops ?_)
 first | refine pm ?_ | refine pq ?_
 refine po_g rfl (FnG.lift0 (bx:=[cs0]) (getDictI_g (T:=Tabs) (hT:=Tabs.low) (fun _ h => h) hs n1 l1 (by omega)) ⟨trivial,trivial⟩) ?_
 rintro x _ n2 l2 ⟨rfl,cs1,ok1,rfl,hc1,hN1,htk1,hlv1,hn2,ns1,vs1,he1,a1,b1',c1⟩
 iterate 3 (first | refine pm ?_ | refine pq ?_)
 refine po_nw (cs:=cs1) rfl hc1 rfl rfl ?_
 first | refine pm ?_ | refine pq ?_
 refine po_nil ?_
 obtain ⟨rfl,rfl,rfl⟩:=dict_same a0 b0' c0 a1 b1' c1
 obtain ⟨z1,z2,z3⟩:=dict_small a0 b0'
 have z4:=bulks_small z3
 have z5:=V.cnts_b4 vs1
 have hEq:=eqD_fn (E:=env Tabs Tabs.low) rfl ns1 vs1 (by omega) (by omega) z3
 have hMk:=markD_fn (E:=env Tabs Tabs.low) rfl ns1 vs1 1 (by omega) (by omega) (by decide) (by omega)
 have hHd:=heldD_fn (E:=env Tabs Tabs.low) rfl ns1 vs1 1 (by omega) (by omega) (by decide) (by omega)
 obtain ⟨q,hq⟩:∃ q:Int,q = ((1 + ns1.length + V.cnts vs1:Nat):Int):=⟨_,rfl⟩
 rw [<- hq] at hMk hHd
 have hq0:0 <= q:=by omega
 refine mw_seq (mw_seq (mw_ops ?_))
 refine po_ldw (p:=1) (cs:=cs1) rfl rfl rfl hc1 ?_
 refine po_ldw (p:=0) (cs:=cs0) rfl rfl rfl hc0 ?_
 refine po_call (dats2 he1 he0) hEq ?_
 iterate 4 (first | refine pm ?_ | refine pq ?_)
 refine po_no rfl rfl (by cases ok1 <;> rfl) ?_
 repeat' (first | refine pm ?_ | refine pq ?_ | refine px ?_ | refine po_zero ?_ | refine po_nil ?_)
 refine mwF ?_
 refine mw_skip ?_
 refine mw_seq (mw_ops ?_)
 repeat' (first | refine pm ?_ | refine pq ?_ | refine px ?_ | refine po_zero ?_ | refine po_nil ?_)
 refine mw_seq (mw_callX (pre:=[_,_]) (suf:=[_]) ?_)
 refine po_ldw (p:=1) (cs:=cs1) rfl rfl rfl hc1 ?_
 first | refine pm ?_ | refine pq ?_
 refine po_nil ?_
 refine xcall_redo (p:=1) (cs:=cs1) (L:=toksL cs0) (kt:=[0,3,4,5]) (kb:=[true,false]) hMk hold hBF (dD_wf _ _) (dD_wf _ _) (dD_pl _ _) (by rw [he1,dD_pc]) hN1.own hN1.nd htk1 (fun t h => ?_) ⟨trivial,trivial,trivial,trivial,trivial⟩ ⟨fineL_of hN0.own (fun t h => h),trivial⟩ rfl (fun _ => rfl) (fun rwG rG cg' nt3 ecg' og ndg mg hn3 => ?_)
 ·have h1:=hN0.mem t h
  exact ⟨hlv1 t (htk0 t h) (toksL_ge cs0 t h) h1.2,fun h2 => by have:=hN1.mem t h2; omega⟩
 have lcg':cg'.length = 2:=by have h1:=congrArg List.length ecg'; rw [erL_map,List.length_map,dD_pc] at h1; exact h1
 have lv2:2 <= nt3:=by omega
 first | refine pm ?_ | refine pq ?_
 refine po_nil ?_
 refine mw_at (fun st => has st.tm [(0,.d (pS s)),(3,.ref 0 0),(4,.d (pB ok1)),(5,.ref 1 0),(7,.d (pI q))] /\ st.bx = [cs0,cg'] /\ 2 <= st.nt) ⟨⟨rfl,rfl,rfl,rfl,rfl,trivial⟩,rfl,lv2⟩ ?_
 rintro tm bx nt live ⟨ht,hbx,hnt⟩
 obtain ⟨tm1,rfl⟩:=has_ups ht
 simp only at hbx hnt; subst hbx
 clear ht
 refine mw_seq (mw_ops ?_)
 repeat' (first | refine pm ?_ | refine pq ?_ | refine px ?_ | refine po_zero ?_ | refine po_nil ?_)
 refine mw_seq (mw_ops ?_)
 refine po_ldw (p:=1) (cs:=cg') rfl rfl rfl lcg' ?_
 first | refine pm ?_ | refine pq ?_
 refine po_call (dats1i ecg' _) hHd ?_
 repeat' (first | refine pm ?_ | refine pq ?_ | refine px ?_ | refine po_zero ?_ | refine po_nil ?_)
 refine mw_seq (mw_seq (mw_ops ?_))
 first | refine pm ?_ | refine pq ?_
 refine po_no rfl rfl (decide_eq_false (show ¬ q < 0 by omega)) ?_
 repeat' (first | refine pm ?_ | refine pq ?_ | refine px ?_ | refine po_zero ?_ | refine po_nil ?_)
 refine mwF ?_
 refine mw_skip ?_
 refine mw_seq (mw_seq (mw_ops ?_))
 iterate 2 (first | refine pm ?_ | refine pq ?_)
 refine po_no rfl rfl (by simp) ?_
 repeat' (first | refine pm ?_ | refine pq ?_ | refine px ?_ | refine po_zero ?_ | refine po_nil ?_)
 refine mwF ?_
 refine mw_skip ?_
 refine mw_at (fun st => has st.tm [(0,.d (pS s)),(3,.ref 0 0),(4,.d (pB ok1)),(5,.ref 1 0),(7,.d (pI q))] /\ st.bx = [cs0,cg'] /\ 2 <= st.nt) ⟨⟨rfl,rfl,rfl,rfl,rfl,trivial⟩,rfl,hnt⟩ ?_
 rintro tm bx nt4 live4 ⟨ht,hbx,hnt4⟩
 obtain ⟨tm2,rfl⟩:=has_ups ht
 simp only at hbx hnt4; subst hbx
 clear ht
 refine mw_seq (mw_ops ?_)
 first | refine pm ?_ | refine pq ?_
 refine po_g rfl (FnG.lift0 (bx:=[cs0,cg']) (getDictI_g (T:=Tabs) (hT:=Tabs.low) (fun _ h => h) hs nt4 live4 hnt4) ⟨trivial,trivial⟩) ?_
 rintro x _ n5 l5 ⟨rfl,cs2,ok2,rfl,hc2,hN2,htk2,hlv2,hn5,ns2,vs2,he2,a2,b2',c2⟩
 iterate 3 (first | refine pm ?_ | refine pq ?_)
 refine po_nw (cs:=cs2) rfl hc2 rfl rfl ?_
 first | refine pm ?_ | refine pq ?_
 refine po_nil ?_
 obtain ⟨rfl,rfl,rfl⟩:=dict_same a1 b1' c1 a2 b2' c2
 refine mw_seq (mw_seq (mw_ops ?_))
 refine po_ldw (p:=2) (cs:=cs2) rfl rfl rfl hc2 ?_
 refine po_ldw (p:=0) (cs:=cs0) rfl rfl rfl hc0 ?_
 refine po_call (dats2 he2 he0) hEq ?_
 iterate 4 (first | refine pm ?_ | refine pq ?_)
 refine po_no rfl rfl (by cases ok2 <;> rfl) ?_
 repeat' (first | refine pm ?_ | refine pq ?_ | refine px ?_ | refine po_zero ?_ | refine po_nil ?_)
 refine mwF ?_
 refine mw_skip ?_
 refine mw_seq (mw_ops ?_)
 repeat' (first | refine pm ?_ | refine pq ?_ | refine px ?_ | refine po_zero ?_ | refine po_nil ?_)
 refine mw_seq (mw_ops ?_)
 refine po_ldw (p:=1) (cs:=cg') rfl rfl rfl lcg' ?_
 first | refine pm ?_ | refine pq ?_
 refine po_call (dats1i ecg' _) hHd ?_
 repeat' (first | refine pm ?_ | refine pq ?_ | refine px ?_ | refine po_zero ?_ | refine po_nil ?_)
 refine mw_seq (mw_seq (mw_ops ?_))
 first | refine pm ?_ | refine pq ?_
 refine po_no rfl rfl (decide_eq_false (show ¬ q < 0 by omega)) ?_
 repeat' (first | refine pm ?_ | refine pq ?_ | refine px ?_ | refine po_zero ?_ | refine po_nil ?_)
 refine mwF ?_
 refine mw_skip ?_
 refine mw_seq (mw_seq (mw_ops ?_))
 iterate 2 (first | refine pm ?_ | refine pq ?_)
 refine po_no rfl rfl (by simp) ?_
 repeat' (first | refine pm ?_ | refine pq ?_ | refine px ?_ | refine po_zero ?_ | refine po_nil ?_)
 refine mwF ?_
 refine mw_skip ?_
 refine mw_seq (mw_ops ?_)
 repeat' (first | refine pm ?_ | refine pq ?_ | refine px ?_ | refine po_zero ?_ | refine po_nil ?_)
 exact mw_ret ⟨.inr rfl,_,rfl,rfl⟩
theorem exactGetDictW (s:List UInt8) (w:World) (hn:ngl <= w.heap.size) (hT:Tabs w) (_hs:strok s) :
  Calls Tryz.prog 3 #[.string ⟨s.toArray⟩] w fun e w' => e = .returned (.bool true) /\ Below w.heap.size w w' :=
 FnV.bool (lawGetDict_fn s) hn hT (vs:=[.string ⟨s.toArray⟩]) rfl fun j x y hx hy => by
  match j with
  | 0 => simp at hx hy; subst hx; subst hy; exact .d _ _ (.v _ rfl)
  | j + 1 => simp at hx
end
/- Laid -/
section
theorem laid_of {H:Type} {enc:TypeId × Value -> H} {C:Checked} {os:Os} {f:FuncId} {fn:Func} {s:ChangeSpec} {conds:List PathCond} {fresh handsOn again apart:Bool} (L:List (String × DataW Unit))
  (own:ownKnob C.prog.godebug = none) (started:os.Started) (noInit:C.prog.inits.idxOf? f = none) (hfn:C.prog.funcs[f]? = some fn)
  (wit:∃ (w:World) (tape:Tape) (i:Input),w.os = os /\ (w.forCall tape i).Shaped C.prog /\ i.vars = [] /\ Input.okWide C.prog (w.forCall tape i) .any w.heap.size f i /\
   ((s.pre enc C.prog fn conds apart (w.forCall tape i).memory i.args /\ laidMetH C.prog L (w.forCall tape i).memory) /\ sizedMet enc C.prog fn (OpenSpec.ofChange s) apart (w.forCall tape i).memory i.args) /\ ({}:Assume).holds C.prog (lone (Frame.enter C.prog f i.args .normal) [] (w.forCall tape i)))
  (walk:∀ (W:World) (base:Nat) (args:Array Value) (ds gs:List (DataW H)) (before:List MemPlace),W.ShapedOpen C.prog -> laidMetH C.prog L W ->
   (∀ (j:Nat) t v,fn.params[j]? = some t -> args[j]? = some v -> Value.okWide C.prog W .any base t v) ->
   DataW.Whole enc C.prog fn.params.toList s.vars apart W args.toList ds gs before ->
   conds.all (PathCond.test C.prog ⟨fn.params.toList,ds,s.plain.varTypes C.prog,gs⟩) = true ->
   Calls C.prog f args W fun e W' => ∃ v,e = .returned v /\ s.post enc C.prog fn apart fresh handsOn again W args v W') :
  ReturnsInHanded {} C os f .any (fun w args => (s.pre enc C.prog fn conds apart w args /\ laidMetH C.prog L w) /\ sizedMet enc C.prog fn (OpenSpec.ofChange s) apart w args) (s.post enc C.prog fn apart fresh handsOn again):=by
 refine returnsInHanded_of_calls own started noInit wit fun w tape i _ shaped _ ok pre _ => ?_
 rcases ok with ⟨_,_,_,fn2,h2,_,_,_,_,vals⟩
 cases Option.some.inj (h2.symm.trans hfn)
 rcases pre with ⟨⟨⟨ds,gs,before,whole,cond⟩,met⟩,_⟩
 have met2:laidMetH C.prog L (w.forCall tape i):=laidMetH.of_heap (by rfl) met
 refine (walk _ w.heap.size i.args ds gs before shaped met2 vals (DataW.Whole.of_heap (by rfl) whole) cond).mono ?_
 rintro e w2 ⟨v,rfl,hp⟩
 exact ChangeSpec.post_blind hp
end
/- Tabs -/
section
open Go.RowKit Go.Lib Go.Shelf
theorem first_data:Go.Pinned.utf8First = firstData:=by kernel_rfl
theorem accept_data:(Rows.laid_unicode_utf8_acceptRanges:DataW Unit) = acceptData:=by kernel_rfl
theorem tabs_of {w : World} (h3 : VarReads Tryz.prog w "unicode/utf8.first" Go.Pinned.utf8First) (h4 : VarReads Tryz.prog w "unicode/utf8.acceptRanges" Rows.laid_unicode_utf8_acceptRanges) : Tabs w := by
 rw [first_data] at h3; rw [accept_data] at h4
 exact utf8Tabs_of_readsT (U8Types.of196 Tryz.laysValid) ⟨by kernel_rfl,by kernel_rfl,by kernel_rfl,by kernel_rfl,by kernel_rfl,by kernel_rfl,by kernel_rfl⟩ h3 h4
end
end Go.Proofs.YtanlnhkagepniaaGreatDoor
namespace Go.Proofs.YtanlnhkagepniaaGreatDoor.FnExactGetDict
open Go.ChangeShapes Go.WideShapes Go.ChangeAt Go.RowKit Go.Joins
open Go.ChangeMaps (open_string shut_string)
theorem own:ownKnob Tryz.prog.godebug = none:=by kernel_rfl
theorem laidOut:laidOutB Tryz.prog = true:=by kernel_rfl
set_option maxRecDepth 100000 in
theorem lifted (os:Os) (started:os.Started) (H:Type) (enc:TypeId × Value -> H) :
  ReturnsInHanded {} Tryz.checked os 3 .any (fun w args => (Rows.fnExactGetDictSpec.pre enc Tryz.prog Tryz.f3 Rows.fnExactGetDictRow.domain false w args /\ laidMetH Tryz.prog Rows.fnExactGetDictRow.laid w) /\ sizedMet enc Tryz.prog Tryz.f3 (OpenSpec.ofChange Rows.fnExactGetDictSpec) false w args) (Rows.fnExactGetDictSpec.post enc Tryz.prog Tryz.f3 false true false false):=by
 refine laid_of (C:=Tryz.checked) Rows.fnExactGetDictRow.laid own started (by kernel_rfl) Tryz.func3
  (ChangeSpec.witness_shaped (enc:=enc) (C:=Tryz.checked) (os:=os) (X:=fun w _ => laidMetH Tryz.prog Rows.fnExactGetDictRow.laid w) false (World.laidAll Tryz.prog os Rows.fnExactGetDictRow.laid) #[.string ⟨#[]⟩] 8 (World.laidAll_os _ _ _)
   (World.shaped_of_ZipB (by kernel_rfl) (by kernel_rfl)) (by kernel_rfl) (by kernel_rfl) (by kernel_rfl)
   (by rw [MakeChecks.laidMetH_plain _ _ _ (by kernel_rfl)]; exact laidMet_laidAll _ (by kernel_rfl) (by kernel_rfl))) ?_
 intro W base args ds gs before hsh hL hval0 hW hcnd
 have hval:∀ (j:Nat) t v,Tryz.f3.params[j]? = some t -> args[j]? = some v -> Value.okWide Tryz.prog W .any base t v:=hval0
 have hW':=hW
 obtain ⟨p,q,hA0,hV,rfl,hfz,hnd⟩:=hW
 have hA:DataW.TrodAll enc Tryz.prog W 0 (fun _ => true) true Tryz.f3.params.toList args.toList ds p:=hA0
 rw [Tryz.params3] at hA hval
 obtain ⟨v0,vs0,d0,ds0,p0,q0,hargs,rfl,rfl,h0,r0⟩:=trodAll_cons hA
 obtain ⟨rfl,rfl,rfl⟩:=trodAll_nil r0
 obtain rfl:args = #[v0]:=by cases args; simp_all
 obtain ⟨rfl,rfl⟩:=trodVars_none hV
 have k0:=h0
 have lt0:∀ x ∈ p0,x.block < W.heap.size:=by obtain ⟨m,hm⟩:=k0; exact DataW.trod_lt m _ _ _ hm
 obtain ⟨s0,rfl,hs0⟩:∃ s:List UInt8,v0 = .string ⟨s.toArray⟩ /\ strok s:=by
  obtain ⟨fuel,hf⟩:=h0
  obtain ⟨s,rfl,_,_,hs⟩:=open_string Tryz.underlying9 (hval 0 9 v0 rfl rfl) ⟨fuel,hf⟩
  exact ⟨s.data.toList,by simp,hs⟩
 clear hA0 hval0
 have hL2:=hL
 rw [MakeChecks.laidMetH_plain _ _ _ (by kernel_rfl)] at hL2
 have hT:=tabs_of (Lib.laidMet.reads hL2 (.tail _ (.head _))) (Lib.laidMet.reads hL2 (.head _))
 refine (exactGetDictW s0 W (ngl_of hsh) hT hs0).mono fun e W' ⟨he,bel⟩ => ?_
 subst he
 exact ⟨_,rfl,_,_,_,[],_,[],hW',trodAll_mk1 (shut_bool Tryz.underlying4 _),(trodAll_cons_mk (Below.trod laidOut (by kernel_rfl) (of_decide_eq_true (by kernel_rfl)) k0 bel lt0) trodAll_mk0),rfl,bel.frame _,fun h => by cases h⟩
set_option maxHeartbeats 8000000 in
theorem closed:joinedFacts Tryz.prog 3 Tryz.f3 Rows.fnExactGetDictSpec Rows.fnExactGetDictRow = true:=by
 unfold joinedFacts
 simp only [Bool.and_eq_true]
 refine ⟨⟨⟨⟨⟨⟨⟨⟨⟨⟨⟨⟨⟨⟨⟨⟨⟨⟨⟨⟨⟨⟨⟨⟨⟨⟨⟨⟨⟨⟨⟨?_,?_⟩,?_⟩,?_⟩,?_⟩,?_⟩,?_⟩,?_⟩,?_⟩,?_⟩,?_⟩,?_⟩,?_⟩,?_⟩,?_⟩,?_⟩,?_⟩,?_⟩,?_⟩,?_⟩,?_⟩,?_⟩,?_⟩,?_⟩,?_⟩,?_⟩,?_⟩,?_⟩,?_⟩,?_⟩,?_⟩,?_⟩
 ·as_aux_lemma => kernel_rfl
 ·as_aux_lemma => kernel_rfl
 ·as_aux_lemma => kernel_rfl
 ·as_aux_lemma => kernel_rfl
 ·as_aux_lemma => kernel_rfl
 ·as_aux_lemma => kernel_rfl
 ·as_aux_lemma => kernel_rfl
 ·as_aux_lemma => kernel_rfl
 ·as_aux_lemma => kernel_rfl
 ·as_aux_lemma => kernel_rfl
 ·as_aux_lemma => kernel_rfl
 ·as_aux_lemma => kernel_rfl
 ·as_aux_lemma => kernel_rfl
 ·as_aux_lemma => kernel_rfl
 ·as_aux_lemma => kernel_rfl
 ·as_aux_lemma => kernel_rfl
 ·as_aux_lemma => kernel_rfl
 ·as_aux_lemma => kernel_rfl
 ·as_aux_lemma => kernel_rfl
 ·as_aux_lemma => kernel_rfl
 ·as_aux_lemma => kernel_rfl
 ·as_aux_lemma => kernel_rfl
 ·as_aux_lemma => kernel_rfl
 ·as_aux_lemma => kernel_rfl
 ·as_aux_lemma => kernel_rfl
 ·as_aux_lemma => kernel_rfl
 ·as_aux_lemma => kernel_rfl
 ·as_aux_lemma => kernel_rfl
 ·as_aux_lemma => kernel_rfl
 ·as_aux_lemma => kernel_rfl
 ·as_aux_lemma => kernel_rfl
 ·as_aux_lemma => kernel_rfl
theorem wf0:Rows.fnExactGetDictRow.wfByText (OpenSpec.ofChange Rows.fnExactGetDictSpec) = true:=by kernel_rfl
theorem main0:Tryz.prog.mainIs = some (Rows.fnExactGetDictCard.stood.harness.1,Rows.fnExactGetDictCard.stood.harness.2.toList):=by kernel_rfl
theorem looks0:true = Tryz.prog.looks []:=by kernel_rfl
theorem goes0:false = Rows.fnExactGetDictRow.goesBy Tryz.prog:=by kernel_rfl
theorem held:Rows.FnExactGetDictSaid :=
 OpenClaim.holds_of_wide 3 Tryz.f3 rfl rfl rfl rfl rfl rfl rfl ⟨rfl,rfl,rfl,rfl,rfl⟩ rfl rfl rfl rfl rfl (by kernel_rfl) Tryz.func3 closed
  (of_decide_eq_true (by kernel_rfl)) (by unfold Func.isWrapper; first | (rw [if_pos (by decide +kernel)]; kernel_rfl) | (rw [if_neg (by decide +kernel)]; exact ⟨rfl,rfl⟩))
  (fun os started H enc _ => lifted os started H enc)
theorem proved:Rows.FnExactGetDictCardSaid :=
 Claim7.holds_tied_plain_at .later [] [.data,.pinned] true Rows.fnExactGetDictCard.stood.harness true
  held (fun _ h => by cases h) wf0 (fun _ h => by cases h) fnExactGetDict_row_tie rfl ⟨rfl,rfl⟩ main0 rfl
  (fun f fn hf hfn => by
   obtain rfl : f = 3 := Option.some.inj ((show Tryz.prog.funcNamed "loop.example/g00421/laws.FnExactGetDict" = some 3 by kernel_rfl).symm.trans hf) |>.symm
   obtain rfl:fn = Tryz.f3:=(Option.some.inj (Tryz.func3.symm.trans hfn)).symm
   refine ⟨looks0,fun j t ht => ?_⟩
   rw [Tryz.params3] at ht
   have hm:t ∈ [9]:=by simpa using Array.mem_of_getElem? ht
   have hall:([9].all fun u => !Tryz.prog.wantsStandIn u) = true:=by kernel_rfl
   exact (show Tryz.prog.wantsStandIn t = false by simpa using List.all_eq_true.1 hall t hm))
  goes0
end Go.Proofs.YtanlnhkagepniaaGreatDoor.FnExactGetDict
