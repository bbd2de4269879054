/- Part 5 of a proof: PvI2, PvI3, PvBl, BuildC, PvBld, PvH2, PvH3, PvI4, PvH5, PvH6, PvGotU, PvH7, PvH8, PvI6, PvI7, StLM, TabsLow, PvTop, Mark, MarkT, MarkS, Mark2, MarkV, PvVl, PvL1M, PvEqD, MarkN, MarkD, GetDictLaw, Laid, Tabs, Ten -/
import Derived.Test.YtanlnhkagepniaaGreatDoorFb4
import Derived.HandedShaped
import Derived.Lay
import Derived.LaidMore
import Derived.Stop.Joined
import Derived.Lib.LaidU8T
namespace Go.Proofs.YtanlnhkagepniaaGreatDoor
open Go.RowKit
set_option maxHeartbeats 4000000
set_option maxRecDepth 100000
open List
section
variable {T:World -> Prop} {hT:Low ngl T}
attribute [local irreducible] po mw pt
theorem isRef_fn (v:V) (x:V) (hx:v.kids = [x]):FnV (env T hT) 176 [.ag (vC v)] (.d (pB (decide (x.kind = 3 /\ x.num ≥ 0)))):=by
 have hget:(vK v.kids)[(0:Int).toNat]? = some (vC x):=by rw [hx]; rw [zb4]; rfl
 refine zaV (zak lk_i_isRef) (by show 1 <= 17; decide) fun B hB => ?_
 unfold m_i_isRef;refine mP ?_;refine mO ?_;(iterate 2 refine mS ?_);refine zaW (es:=vK v.kids) (e:=vC x) rfl rfl rfl ⟨by omega,hget⟩ rfl ?_;(iterate 2 refine mS ?_);by_cases h3:x.kind = 3
 ·refine zai rfl rfl (decide_eq_true h3) ?_
  (iterate 3 refine mS ?_);refine zaW (es:=vK v.kids) (e:=vC x) rfl rfl rfl ⟨by omega,hget⟩ rfl ?_;(iterate 2 refine mS ?_);refine po_b rfl rfl (fun b hb => ?_);refine mN ?_
  have:decide (x.kind = 3 /\ x.num ≥ 0) = b:=by rw [hb]; exact decide_eq_decide.2 ⟨fun h => h.2,fun h => ⟨h3,h⟩⟩
  rw [this];exact mR
 ·refine zam rfl rfl (decide_eq_false h3) ?_
  refine mS ?_;refine mZ ?_;refine mN ?_;rw [decide_eq_false (fun h => h3 h.1)];exact mR
theorem refOf_one {v x:V} (h9:v.kind = 9 /\ v.num = 6) (hx:v.kids = [x]):refOf v = if x.kind = 3 /\ 0 <= x.num then x.num else -1:=by unfold refOf; rw [if_pos h9,hx]
theorem gl_set {α:Type} {l:List α} {p q:Nat} {x y:α} (h:l[q]? = some y) (hne:p ≠ q):(l.set p x)[q]? = some y:=by rw [getElem?_set_ne hne]; exact h
theorem zbv {α:Type} {l r:List α} {p:Nat} {x:α} (h:l[p]? = some x):(l ++ r)[p]? = some x:=by
 rw [getElem?_append_left]; exact h
 rcases Nat.lt_or_ge p l.length with h' | h'
 ·exact h'
 ·rw [getElem?_eq_none h'] at h; cases h
theorem zdw {α:Type} {l:List α} {p:Nat} {x:α} (h:l[p]? = some x):p < l.length:=by
 rcases Nat.lt_or_ge p l.length with h' | h'
 ·exact h'
 ·rw [getElem?_eq_none h'] at h; cases h
theorem set_app {α:Type} {l r:List α} {p:Nat} {x y:α} (h:l[p]? = some y):(l ++ r).set p x = l.set p x ++ r:=set_append_left _ _ (zdw h)
theorem set_same {α:Type} {l:List α} {p:Nat} {x:α} (h:l[p]? = some x):l.set p x = l:=by
 refine ext_getElem? fun j => ?_
 by_cases hj:p = j
 ·subst hj; rw [getElem?_set_self (zdw h),h]
 ·rw [getElem?_set_ne hj]
def AhB (p:Nat) (a:Bool) (bx b:LP PC):Prop:=∃ rest,b = bx.set p [pB a] ++ rest
theorem ahClo_g (v:V) (hk:v.ok = true) (a:Bool) (i:Int) {bx:LP PC} {p q nt:Nat} {live:List Nat} (hp:bx[p]? = some [pB a]) (hq:bx[q]? = some [pI i]) :
  FnG (env T hT) 175 [.ag (vC v),.ref p 0,.ref q 0] bx nt live (fun _ b n l => AhB p (a && ownA i v) bx b /\ n = nt /\ l = live):=by
 refine zaU (zak zeD) (by show 3 <= 26; decide) fun B hB => ?_
 unfold m_i_TableOk_1;refine mP ?_;have hlb:(bx ++ [vC v])[bx.length]? = some (vC v):=za3 bx (vC v);have hp':(bx ++ [vC v])[p]? = some [pB a]:=zbv hp;have hq':(bx ++ [vC v])[q]? = some [pI i]:=zbv hq;have hplt:=zdw hp;have hset:∀ c:Bool,(bx ++ [vC v]).set p [pB c] = bx.set p [pB c] ++ [vC v]:=fun c => set_app hp
 have hid:AhB p (a && true) bx (bx ++ [vC v]):=⟨[vC v],by rw [Bool.and_true]; congr 1; exact (set_same hp).symm⟩;refine mQ ?_;refine zbb (cs:=vC v) (v:=.d (pI v.kind)) rfl rfl hlb (Nat.le_of_ble_eq_true rfl) rfl ?_;by_cases h9:v.kind = 9
 case neg =>
  refine zam rfl rfl (decide_eq_false h9) ?_;refine mS ?_;refine mZ ?_;refine mK ?_;refine ⟨.inl rfl,[],rfl,?_,rfl,rfl⟩
  have:ownA i v = true:=by unfold ownA; rw [if_neg (fun h => h9 h.1)]
  rw [this]; exact hid
 refine zai rfl rfl (decide_eq_true h9) ?_;(iterate 2 refine mS ?_);refine zbb (cs:=vC v) (v:=.d (pI v.num)) rfl rfl hlb (Nat.le_of_ble_eq_true rfl) rfl ?_;by_cases h6:v.num = 6
 case neg =>
  refine zam rfl rfl (decide_eq_false h6) ?_;refine mK ?_;refine ⟨.inl rfl,[],rfl,?_,rfl,rfl⟩
  have:ownA i v = true:=by unfold ownA; rw [if_neg (fun h => h6 h.2)]
  rw [this]; exact hid
 refine zai rfl rfl (decide_eq_true h6) ?_;refine mT ?_;obtain ⟨x,hx⟩:∃ x,v.kids = [x]:=length_eq_one_iff.1 (V.ok_one hk h9);have hget:(vK v.kids)[(0:Int).toNat]? = some (vC x):=by rw [hx]; rw [zb4]; rfl
 have hR:=refOf_one ⟨h9,h6⟩ hx;have hO:ownA i v = (decide (0 <= refOf v) && decide (refOf v < i)):=by unfold ownA; rw [if_pos ⟨h9,h6⟩]
 rw [hO];refine zad ?_;refine zbb (cs:=[pB a]) (v:=.d (pB a)) rfl rfl hp' (Nat.le_of_ble_eq_true rfl) rfl ?_;refine mS ?_
 cases a with
 | false =>
  refine mZ ?_;(iterate 2 refine mS ?_);refine mZ ?_;refine mS ?_;refine zaw (p:=p) (o':=0) (cs:=[pB false]) (z:=[pB false]) rfl rfl hp' ⟨rfl,Nat.le_of_ble_eq_true rfl⟩ rfl ?_;refine zaa ?_
  exact ⟨.inl rfl,[],rfl,⟨[vC v],hset false⟩,rfl,rfl⟩
 | true =>
 refine zbb (cs:=vC v) (v:=.ag (vC v)) rfl rfl hlb (Nat.le_of_ble_eq_true rfl) rfl ?_;refine zaI (b:=true) (args:=[.ag (vC v)]) rfl (fun _ => zc6 v) (fun _ => isRef_fn v x hx) ?_;(iterate 2 refine mS ?_);by_cases hc:x.kind = 3 /\ x.num ≥ 0
 case neg =>
  rw [decide_eq_false hc];rw [if_neg (fun h => hc ⟨h.1,h.2⟩)] at hR;refine mZ ?_;refine mS ?_;refine zaw (p:=p) (o':=0) (cs:=[pB false]) (z:=[pB true]) rfl rfl hp' ⟨rfl,Nat.le_of_ble_eq_true rfl⟩ rfl ?_;refine zaa ?_;refine ⟨.inl rfl,[],rfl,⟨[vC v],?_⟩,rfl,rfl⟩;rw [hR]; exact hset false
 rw [decide_eq_true hc];rw [if_pos ⟨hc.1,hc.2⟩] at hR;refine mS ?_;refine zbb (cs:=vC v) (v:=.d (.sl 0 (vK v.kids))) rfl rfl hlb (Nat.le_of_ble_eq_true rfl) rfl ?_;refine zaW (es:=vK v.kids) (e:=vC x) rfl rfl rfl ⟨by omega,hget⟩ rfl ?_;(iterate 2 refine mS ?_);refine zbb (cs:=[pI i]) (v:=.d (pI i)) rfl rfl hq' (Nat.le_of_ble_eq_true rfl) rfl ?_;refine po_b rfl rfl (fun b hb => ?_);refine mS ?_;refine zaw (p:=p) (o':=0) (cs:=[pB b]) (z:=[pB true]) rfl rfl hp' ⟨rfl,Nat.le_of_ble_eq_true rfl⟩ rfl ?_;refine zaa ?_;refine ⟨.inl rfl,[],rfl,⟨[vC v],?_⟩,rfl,rfl⟩
 have:(true && (decide (0 <= refOf v) && decide (refOf v < i))) = b:=by rw [hR,hb,decide_eq_true (show (0:Int) <= x.num by omega)]; rfl
 rw [this]; exact hset b
theorem AhB.trans {p:Nat} {a1 a2:Bool} {bx b c:LP PC} {z:List PC} (hp:bx[p]? = some z) (h:AhB p a1 bx b) (k:AhB p a2 b c):AhB p a2 bx c:=by
 obtain ⟨r1,rfl⟩:=h;obtain ⟨r2,rfl⟩:=k;have hlt:=zdw hp;refine ⟨r1 ++ r2,?_⟩;rw [set_append_left _ _ (by rw [length_set]; exact hlt),set_set,append_assoc]
theorem AhB.push {p:Nat} {a:Bool} {bx b:LP PC} (h:AhB p a bx b) (x:List PC):AhB p a bx (b ++ [x]):=by
 obtain ⟨r,rfl⟩:=h;exact ⟨r ++ [x],by rw [append_assoc]⟩
theorem AhB.self {p:Nat} {a:Bool} {bx:LP PC} (h:bx[p]? = some [pB a]):AhB p a bx bx:=⟨[],by rw [append_nil,set_same h]⟩
theorem AhB.at {p:Nat} {a:Bool} {bx b:LP PC} {z:List PC} (h:AhB p a bx b) (hp:bx[p]? = some z):b[p]? = some [pB a]:=by
 obtain ⟨r,rfl⟩:=h;exact zbv (getElem?_set_self (zdw hp))
theorem AhB.other {p q:Nat} {a:Bool} {bx b:LP PC} {z:List PC} (h:AhB p a bx b) (hq:bx[q]? = some z) (hne:p ≠ q):b[q]? = some z:=by
 obtain ⟨r,rfl⟩:=h;exact zbv (gl_set hq hne)
theorem po_nw2 {E:Env} {K:St -> Prop} {tm:Nat -> PV} {bx:LP PC} {nt d1 d2 n1 n2:Nat} {live:List Nat} {r:List MOpr} {z1 z2:List Value} {x1 x2:X} {cs1 cs2:List PC} {c1 c2:List X}
  (hx1:pcells (ev (up d2 (.ref (bx.length + 1) 0) (up d1 (.ref bx.length 0) tm)) x1) = some cs1) (hx2:pcells (ev (up d2 (.ref (bx.length + 1) 0) (up d1 (.ref bx.length 0) tm)) x2) = some cs2) (hn1:cs1.length = n1) (hz1:z1.length = n1) (hn2:cs2.length = n2) (hz2:z2.length = n2)
  (hc1:c1.all (apartX (ev (up d2 (.ref (bx.length + 1) 0) (up d1 (.ref bx.length 0) tm))) (.t d1)) = true) (hc2:c2.all (apartX (ev (up d2 (.ref (bx.length + 1) 0) (up d1 (.ref bx.length 0) tm))) (.t d2)) = true) (ha1:ev (up d2 (.ref (bx.length + 1) 0) (up d1 (.ref bx.length 0) tm)) (.t d1) = .ref bx.length 0)
  (h:po E r K ⟨up d2 (.ref (bx.length + 1) 0) (up d1 (.ref bx.length 0) tm),bx ++ [cs1] ++ [cs2],nt,live⟩) :
  po E (⟨some d1,.zero z1,none,[]⟩ :: ⟨some d2,.zero z2,none,[]⟩ :: ⟨none,.store n1 (.t d1) x1,none,c1⟩ :: ⟨none,.store n2 (.t d2) x2,none,c2⟩ :: r) K ⟨tm,bx,nt,live⟩:=by
 refine zcn ?_;refine zcn ?_;have hl:(bx ++ [z1.map ofC]).length = bx.length + 1:=by simp
 rw [hl];have hb0:(bx ++ [z1.map ofC] ++ [z2.map ofC])[bx.length]? = some (z1.map ofC):=zbv (za3 _ _)
 have ha2:ev (up d2 (.ref (bx.length + 1) 0) (up d1 (.ref bx.length 0) tm)) (.t d2) = .ref (bx.length + 1) 0:=by
  show up d2 (.ref (bx.length + 1) 0) (up d1 (.ref bx.length 0) tm) d2 = _;rw [<- up_eq]; exact if_pos rfl
 have spl_all:∀ (z:List Value) (cs:List PC) (n:Nat),cs.length = n -> z.length = n -> spl (z.map ofC) 0 cs = cs:=fun z cs n h1 h2 => by
  unfold spl;rw [take_zero,nil_append,drop_of_length_le (by rw [length_map]; omega),append_nil]
 refine zaw ha1 hx1 hb0 ⟨hn1,by rw [length_map]; omega⟩ hc1 ?_
 have e2:(bx ++ [z1.map ofC] ++ [z2.map ofC]).set bx.length cs1 = bx ++ [cs1] ++ [z2.map ofC]:=by
  rw [set_append_left _ _ (by simp),set_append_right _ _ lR,Nat.sub_self]; rfl
 rw [spl_all z1 cs1 n1 hn1 hz1,e2]
 have hb1:(bx ++ [cs1] ++ [z2.map ofC])[bx.length + 1]? = some (z2.map ofC):=by
  have:=za3 (bx ++ [cs1]) (z2.map ofC)
  rwa [show (bx ++ [cs1]).length = bx.length + 1 by simp] at this
 refine zaw ha2 hx2 hb1 ⟨hn2,by rw [length_map]; omega⟩ hc2 ?_
 have e3:(bx ++ [cs1] ++ [z2.map ofC]).set (bx.length + 1) cs2 = bx ++ [cs1] ++ [cs2]:=by
  rw [set_append_right _ _ (by simp),show bx.length + 1 - (bx ++ [cs1]).length = 0 by simp]; rfl
 rw [spl_all z2 cs2 n2 hn2 hz2,e3];exact h
def WkP (T:World -> Prop) (hT:Low ngl T) (N:Nat):Prop:=∀ (v:V) (i:Int) (a:Bool) (bx:LP PC) (p q nt:Nat) (live:List Nat),v.nodes <= N -> v.ok = true -> bx[p]? = some [pB a] -> bx[q]? = some [pI i] -> p ≠ q ->
 FnG (env T hT) 174 [.ag (vC v),.fn 175 [.ref p 0,.ref q 0]] bx nt live (fun _ b n l => AhB p (a && v.ahW i) bx b /\ n = nt /\ l = live)
def WkI (v:V) (i:Int) (a:Bool) (bx:LP PC) (p q nt:Nat) (live:List Nat) (m:Nat) (s:St):Prop:=∃ j:Nat,j <= v.kids.length /\ m = v.kids.length - j /\ has s.tm [(1,.fn 175 [.ref p 0,.ref q 0]),(10,.d (.sl 0 (vK v.kids))),(11,.d (pI v.kids.length)),(12,.d (pI j))] /\ AhB p (a && (ownA i v && V.ahWs i (v.kids.take j))) bx s.bx /\ s.nt = nt /\ s.live = live
theorem walk_step {N:Nat} (hS:WkP T hT N) (v:V) (i:Int) (a:Bool) (bx:LP PC) (p q nt:Nat) (live:List Nat) (hn:v.nodes <= N + 1) (hk:v.ok = true) (hp:bx[p]? = some [pB a]) (hq:bx[q]? = some [pI i]) (hne:p ≠ q) :
  FnG (env T hT) 174 [.ag (vC v),.fn 175 [.ref p 0,.ref q 0]] bx nt live (fun _ b n l => AhB p (a && v.ahW i) bx b /\ n = nt /\ l = live):=by
 have hkl:=V.ok_len hk;have hplt:=zdw hp;refine zaU (zak lk_i_walk) (by show 2 <= 20; decide) fun B hB => ?_
 unfold m_i_walk;refine mP ?_;refine mQ ?_;refine zbb (cs:=vC v) (v:=.ag (vC v)) rfl rfl (za3 bx (vC v)) (Nat.le_of_ble_eq_true rfl) rfl ?_;refine po_vg (f:=175) (cap:=[.ref p 0,.ref q 0]) rfl (by kernel_rfl) rfl (ahClo_g v hk a i (zbv hp) (zbv hq)) ?_;rintro y b1 n1 l1 ⟨hA,rfl,rfl⟩;refine zaa ?_;have hA1:AhB p (a && ownA i v) bx b1:=AhB.trans hp ((AhB.self hp).push (vC v)) hA;have hv1:b1[bx.length]? = some (vC v):=hA.other (za3 bx (vC v)) (by omega);refine mQ ?_;refine zbb (cs:=vC v) (v:=.d (.sl 0 (vK v.kids))) rfl rfl hv1 (Nat.le_of_ble_eq_true rfl) rfl ?_;refine zaK (n:=v.kids.length) rfl rfl (zbh _) ?_;refine mN ?_;refine zag ?_;refine zaz (WkI v i a bx p q n1 l1) v.kids.length ⟨0,Nat.zero_le _,rfl,⟨rfl,rfl,rfl,rfl,trivial⟩,by rw [take_zero]; show AhB p (a && (ownA i v && true)) bx b1; rw [Bool.and_true]; exact hA1,rfl,rfl⟩ ?_
 rintro m tm bx2 nt2 live2 ⟨j,hj,rfl,ht,hB2,hnn,hll⟩;obtain ⟨tm0,rfl⟩:=zae ht;simp only at hB2 hnn hll
 subst hnn; subst hll
 clear ht;refine mO ?_;refine po_b rfl rfl (fun b hb => ?_);refine zaa ?_;refine zah ?_;refine zbe (p:=(j:Int) < v.kids.length) hb rfl (fun h _ => ?_) (fun h _ => ?_)
 ·have hjl:j < v.kids.length:=by omega
  refine zaj ?_;refine zah (zag (zah (zad ?_)));refine zaW (es:=vK v.kids) (e:=vC v.kids[j]) rfl rfl rfl ⟨by omega,by rw [Int.toNat_natCast]; exact zco hjl⟩ rfl ?_;refine po_q (v:=.ag (vC v.kids[j])) rfl rfl ?_;refine zb5 (cs:=vC v.kids[j]) rfl rfl rfl rfl ?_;refine zaa ?_;refine zad ?_;refine zbb (cs:=vC v.kids[j]) (v:=.ag (vC v.kids[j])) rfl rfl (za3 bx2 (vC v.kids[j])) (Nat.le_of_ble_eq_true rfl) rfl ?_;refine mS ?_;have hB3:=hB2.push (vC v.kids[j]);refine po_g rfl (hS v.kids[j] i _ _ p q nt2 live2 (V.nodes_kid hn j hjl) (V.ok_kid hk j hjl) (hB3.at hp) (hB3.other hq hne) hne) ?_;rintro y b4 n4 l4 ⟨hB4,rfl,rfl⟩;refine zaa ?_;refine zad ?_;refine zaq (n:=((j + 1:Nat):Int)) rfl rfl rfl (by omega) (by omega) ?_;refine mN ?_;refine ⟨v.kids.length - (j + 1),by omega,j + 1,hjl,rfl,⟨rfl,rfl,rfl,rfl,trivial⟩,?_,rfl,rfl⟩
  have e:(a && (ownA i v && V.ahWs i (v.kids.take (j + 1)))) = ((a && (ownA i v && V.ahWs i (v.kids.take j))) && v.kids[j].ahW i):=by
   rw [take_succ_eq_append_getElem hjl,V.ahWs_app];simp only [V.ahWs,Bool.and_true,Bool.and_assoc]
  rw [e];exact AhB.trans hp hB3 hB4
 ·refine zaH ?_
  have:j = v.kids.length:=by omega
  subst this;refine ⟨.inl rfl,[],rfl,?_,rfl,rfl⟩;rw [take_length] at hB2;rw [V.ahW_eq]; exact hB2
theorem walk_g:∀ (N:Nat),WkP T hT N
 | 0,v,i,a,bx,p,q,nt,live,hn,_,_,_,_ => by obtain ⟨k,n,e,s,kids⟩:=v; simp only [V.nodes] at hn; omega
 | N + 1,v,i,a,bx,p,q,nt,live,hn,hk,hp,hq,hne => walk_step (walk_g N) v i a bx p q nt live hn hk hp hq hne
def TiI (vs:List V) (m:Nat) (st:St):Prop:=∃ i:Nat,i <= vs.length /\ m = vs.length - i /\ has st.tm [(9,.d (.sl 0 (vK vs))),(10,.d (pI vs.length)),(11,.d (pI i))] /\ allN i (fun i => (vs.getD i (.mk 0 0 0 [] [])).ok && (vs.getD i (.mk 0 0 0 [] [])).ahead i) = true
theorem zhG (hTab:∀ w,T w -> Tabs w) (vs:List V) (hl:vs.length <= 4294967295) (hw:∀ v ∈ vs,v.wf) (hb':∀ v ∈ vs,v.bulk <= 4294967295):FnV (env T hT) 130 [.d (.sl 0 (vK vs))] (.d (pB (tabB vs))):=by
 refine zaV (zak zgv) (by show 1 <= 25; decide) fun B hB => ?_
 unfold m_i_TableOk;refine mP ?_;refine mM ?_;refine mS ?_;refine zaK (n:=vs.length) rfl rfl (zbh _) ?_;refine po_b rfl rfl (fun b60 hb60 => ?_);refine zaa ?_;refine zbe (p:=(vs.length:Int) > 60) hb60 rfl (fun h60 _ => ?_) (fun h60 _ => ?_)
 ·have hF:tabB vs = false:=by unfold tabB; rw [decide_eq_false (by omega)]; rfl
  refine mP ?_;rw [hF];exact mR
 refine zaj ?_;refine zau (fun s => tabB vs = true) ?_ ?_
 ·refine mQ ?_
  refine zaK (n:=vs.length) rfl rfl (zbh _) ?_;refine mN ?_;refine zag ?_;refine zaz (TiI vs) vs.length ⟨0,Nat.zero_le _,rfl,⟨rfl,rfl,rfl,trivial⟩,rfl⟩ ?_;rintro m tm bx nt live ⟨i,hi,rfl,ht,hall⟩;obtain ⟨tm0,rfl⟩:=zae ht;refine mO ?_;refine po_b rfl rfl (fun b hb => ?_);refine zaa ?_;refine zah ?_;refine zbe (p:=(i:Int) < vs.length) hb rfl (fun h _ => ?_) (fun h _ => ?_)
  ·have hil:i < vs.length:=by omega
   have hg:=zbf hil (.mk 0 0 0 [] []);have hno:=tabB_no hil;rw [hg] at hno;have hmem:=getElem_mem hil;have hvk:=voki_fn (T:=T) (hT:=hT) hTab vs[i] (hw _ hmem) (hb' _ hmem);refine zaj ?_;refine zah (zag (zah (zad ?_)));refine mS ?_;refine zaW (es:=vK vs) (e:=vC vs[i]) rfl rfl rfl ⟨by omega,by rw [Int.toNat_natCast]; exact zco hil⟩ rfl ?_;refine po_q (v:=.ag (vC vs[i])) rfl rfl ?_;refine po_nw2 (cs1:=[pI i]) (cs2:=vC vs[i]) rfl rfl rfl rfl rfl rfl rfl rfl rfl ?_;refine zaa ?_
   have hb1:(bx ++ [[pI i]] ++ [vC vs[i]])[bx.length + 1]? = some (vC vs[i]):=by
    have:=za3 (bx ++ [[pI i]]) (vC vs[i])
    rwa [show (bx ++ [[pI i]]).length = bx.length + 1 by simp] at this
   have hb0:(bx ++ [[pI i]] ++ [vC vs[i]])[bx.length]? = some [pI i]:=zbv (za3 _ _);refine mM ?_;refine zbb (cs:=vC vs[i]) (v:=.ag (vC vs[i])) rfl rfl hb1 (Nat.le_of_ble_eq_true rfl) rfl ?_;refine zac (zc6 vs[i]) hvk ?_;refine mN ?_
   cases hv:vs[i].ok with
   | false =>
    have hF:=hno (by rw [hv]; rfl);refine mwT ?_;refine mP ?_;rw [hF]
    exact mR
   | true =>
   refine mwF ?_;refine zaj ?_;refine mO ?_;refine zb5 (cs:=[pB true]) rfl rfl rfl rfl ?_;refine zaa ?_;refine mO ?_;refine zbb (cs:=vC vs[i]) (v:=.ag (vC vs[i])) rfl rfl (zbv hb1) (Nat.le_of_ble_eq_true rfl) rfl ?_;refine mS ?_;have hP:=za3 (bx ++ [[pI i]] ++ [vC vs[i]]) [pB true];refine po_g rfl (walk_g vs[i].nodes vs[i] i true (bx ++ [[pI i]] ++ [vC vs[i]] ++ [[pB true]]) (bx ++ [[pI i]] ++ [vC vs[i]]).length bx.length nt live lR hv hP (zbv hb0) (by simp)) ?_;rintro y b4 n4 l4 ⟨hB4,rfl,rfl⟩;refine zaa ?_;rw [zgl i _ vs[i] lR hv,Bool.true_and] at hB4;refine mO ?_;refine zbb (cs:=[pB (vs[i].ahead i)]) (v:=.d (pB (vs[i].ahead i))) rfl rfl (hB4.at hP) (Nat.le_of_ble_eq_true rfl) rfl ?_;refine mN ?_;refine zaO (t:=!vs[i].ahead i) rfl (fun hc => ?_) (fun hc => ?_)
   ·have hF:=hno (by rw [hv]; simpa using hc)
    refine mP ?_;rw [hF];exact mR
   ·refine zaj ?_
    refine zad ?_;refine zaq (n:=((i + 1:Nat):Int)) rfl rfl rfl (by omega) (by omega) ?_;refine mN ?_;exact ⟨vs.length - (i + 1),by omega,i + 1,hil,rfl,⟨rfl,rfl,rfl,trivial⟩,zcs hall (by rw [hg,hv]; simpa using hc)⟩
  ·refine zaH ?_
   have:i = vs.length:=by omega
   subst this;show tabB vs = true;unfold tabB;rw [hall,decide_eq_true (by omega)]; rfl
 intro tm bx nt live hF;refine mP ?_;rw [hF];exact mR
end
section
section
variable {P:Program} {NG:Nat} {T:World -> Prop}
theorem zbZ {w:World} {ops:Array Oper} {rest:List Oper} {o:Oper} {a:Act} {Q:Exit -> Act -> World -> Prop} (hgd:o.guard = none) (sl x:Operand) (t u:TypeId)
  (ho:o.op = .call { callee:=.builtin .append,args:=#[sl,x],argTypes:=#[t,u] }) (v y v':Value) (w':World) (hs:a.eval sl = v) (hx:a.eval x = y) (hr:(Builtin.append_ #[t,u] o.type #[v,y]).run P w = .ok v' w') (h:wpList P ops Q rest (a.put o.dst v') w'):wpList P ops Q (o :: rest) a w:=by
 refine wpList_plain hgd fun K hK => ?_
 unfold Oper.wp execOp;simp only [ho,resolve,invoke,builtin,Sem.run_bind,Sem.run_pure,Result.andThen_ok,map_toArray,map_cons,map_nil,hs,hx,hr];exact hK _ _ h
theorem Inv.alloc (hL:Low NG T) {C:Cx} {bx:LP PC} {live:Nat -> Prop} {w:World} (h:Inv NG T C bx live w) (o:Obj):Inv NG T C bx live (w.alloc o):=by
 have hold:∀ k,k < w.heap.size -> (w.alloc o).heap[k]? = w.heap[k]?:=fun k hk => heap_alloc_old w o hk
 have hfix:=zc0 h.fin o;have hs:w.heap.size <= (w.alloc o).heap.size:=by simp
 refine ⟨h.nb,fun p cs hp => ?_,h.boxF,h.boxG,h.inj,fun t ht => ?_,h.tinj,fun b o' hF => Nat.lt_of_lt_of_le (h.fin b o' hF) hs,Nat.le_trans h.ng hs,hL w _ h.t hs fun k hk => hold k (Nat.lt_of_lt_of_le hk h.ng)⟩
 ·obtain ⟨vs,e,h1,h2⟩:=h.box p cs hp
  exact ⟨vs,e,(hold _ (zaA h1)).trans h1,h2.frame (CxLe.refl C) hfix⟩
 ·obtain ⟨a1,a2,a3⟩:=h.tok t ht
  refine ⟨a1,a2,a3.imp id ?_⟩;rintro ⟨b,cur,e,c1,c2,c3,c4⟩;exact ⟨b,cur,e,c1,c2,(hold _ (zaA c3)).trans c3,c4⟩
theorem Inv.drewn (hL:Low NG T) {C:Cx} {bx:LP PC} {live:Nat -> Prop} {w:World} (h:Inv NG T C bx live w) (n:Nat):Inv NG T C bx live { w with drawn:=n } /\ Fix C w { w with drawn:=n }:=by
 have hF:Fix C w { w with drawn:=n }:=⟨fun _ _ _ => rfl,fun _ _ cs fz h => ⟨cs,fz,h⟩⟩;refine ⟨⟨h.nb,fun p cs hp => ?_,h.boxF,h.boxG,h.inj,h.tok,h.tinj,h.fin,h.ng,hL w _ h.t lR (fun _ _ => rfl)⟩,hF⟩;obtain ⟨vs,e,hh,hl⟩:=h.box p cs hp;exact ⟨vs,e,hh,hl.frame (CxLe.refl C) hF⟩
theorem Ext.start {C:Cx} {bx:LP PC} {live:List Nat} {w:World} (h:Inv NG T C bx (· ∈ live) w) (hold:C.old = (· ∈ live)):Ext C w C bx.length (· ∈ live) w :=
 ⟨rfl,rfl,rfl,lR,fun _ _ h => h,Fix.refl C w,fun _ _ _ _ => rfl,⟨lR,fun _ _ => rfl⟩,fun _ _ h => .inl h,(fun t b ht hb => .inr ⟨t,by rw [hold]; exact ht,hb⟩),(fun p hp hp2 => by have h1:=h.nb; omega),⟨lR,fun _ _ => ⟨rfl,rfl,rfl,rfl⟩⟩⟩
theorem set_self {bx:LP PC} {p:Nat} {cs:List PC} (h:bx[p]? = some cs):bx.set p cs = bx:=by
 apply ext_getElem?
 intro q;by_cases hq:p = q
 ·subst hq
  have hlt:p < bx.length:=by
   rcases Nat.lt_or_ge p bx.length with h' | h'
   ·exact h'
   ·rw [getElem?_eq_none h'] at h; cases h
  rw [getElem?_set_self hlt,h]
 ·rw [getElem?_set_ne hq]
theorem zhH {C:Cx} {bx:LP PC} {live:Nat -> Prop} {w:World} (hI:Inv NG T C bx live w) {p t:Nat} {TT U:TypeId} {es:LP PC} (hp:bx[p]? = some [.bld p TT t U,.sl t es]) :
  ∃ v0 v1,w.heap[C.bx p]? = some (.cells #[v0,v1] TT (0,0)) /\ (v0 = .pointer none \/ v0 = .pointer (some ⟨C.bx p,0,none⟩)) /\ RpC C w (.sl t es) v1 /\ (t = 1 \/ 2 <= t /\ t < C.nt /\ ∀ b,C.tk t = some b -> ∃ cs fz,w.heap[b]? = some (.cells cs U fz)):=by
 obtain ⟨vs,e,hh,hl⟩:=hI.box p _ hp;obtain ⟨v0,vr,rfl,h0,h1⟩:=hl.inv1;obtain ⟨v1,vr,rfl,k1,k2⟩:=h1.inv1
 obtain rfl:=k2.inv0
 cases h0 with
 | bld _ _ _ _ _ h cs fz ht hv hU =>
  rw [ht] at hh;simp only [sI,Obj.cells.injEq] at hh;obtain ⟨rfl,rfl,rfl⟩:=hh;exact ⟨v0,v1,ht,hv,k1,hU⟩
theorem Inv.froze (hL:Low NG T) {C:Cx} {bx:LP PC} {live:List Nat} {w:World} (h:Inv NG T C bx (· ∈ live) w) {t g n:Nat} (ht:t ∈ live) (hg:C.tk t = some g) :
  Inv NG T C bx (· ∈ live.filter (· != t)) (w.freeze ⟨g,0,none⟩ n) /\ Fix C w (w.freeze ⟨g,0,none⟩ n) /\ (w.freeze ⟨g,0,none⟩ n).os = w.os /\ (w.freeze ⟨g,0,none⟩ n).tape = w.tape /\ (w.freeze ⟨g,0,none⟩ n).output = w.output /\ (w.freeze ⟨g,0,none⟩ n).heap.size = w.heap.size /\ ∀ k,k ≠ g -> (w.freeze ⟨g,0,none⟩ n).heap[k]? = w.heap[k]?:=by
 obtain ⟨_,_,⟨z,_⟩ | ⟨g',cur,e,c1,c2,c3,c4,c5,c6,c7,c8,c9,c10⟩⟩:=h.tok t ht
 ·rw [hg] at z; cases z
 rw [hg] at c1; simp only [sI] at c1; subst c1
 have other:∀ k,k ≠ g -> (w.freeze ⟨g,0,none⟩ n).heap[k]? = w.heap[k]?:=by
  intro k hk;have hk':g ≠ k:=fun h => hk h.symm
  unfold World.freeze;split
  ·rfl
  ·simp [Array.getElem?_modify,hk']
 have hat:∃ fz,(w.freeze ⟨g,0,none⟩ n).heap[g]? = some (.cells cur e fz):=by
  unfold World.freeze;split
  ·exact ⟨_,c3⟩
  ·simp [Array.getElem?_modify,c3]
 obtain ⟨fz0,hat⟩:=hat
 have hcell:∀ b o,(w.freeze ⟨g,0,none⟩ n).cell? ⟨b,o,none⟩ = w.cell? ⟨b,o,none⟩:=by
  intro b o;by_cases hb:b = g
  ·subst hb; simp [World.cell?,hat,c3]
  ·exact World.cell?_of_block (a:=⟨b,o,none⟩) (other b hb)
 have hs:(w.freeze ⟨g,0,none⟩ n).heap.size = w.heap.size:=by
  unfold World.freeze; split <;> simp
 have o1:(w.freeze ⟨g,0,none⟩ n).os = w.os:=by unfold World.freeze; split <;> rfl
 have o2:(w.freeze ⟨g,0,none⟩ n).tape = w.tape:=by unfold World.freeze; split <;> rfl
 have o3:(w.freeze ⟨g,0,none⟩ n).output = w.output:=by unfold World.freeze; split <;> rfl
 have hF:Fix C w (w.freeze ⟨g,0,none⟩ n):=⟨fun b o _ => hcell b o,fun k T cs fz hh => by
  by_cases hk:k = g
  ·subst hk; rw [c3] at hh; simp only [sI,Obj.cells.injEq] at hh; obtain ⟨_,rfl,_⟩:=hh; exact ⟨_,_,hat⟩
  ·exact ⟨cs,fz,(other k hk).trans hh⟩⟩
 refine ⟨⟨h.nb,fun p cs hp => ?_,h.boxF,h.boxG,h.inj,fun s hs' => ?_,fun a b c ha hb => h.tinj a b c (mem_filter.1 ha).1 (mem_filter.1 hb).1,by rw [hs]; exact h.fin,by rw [hs]; exact h.ng,hL w _ h.t (by rw [hs]; exact lR) fun k hk => other k (by omega)⟩,hF,o1,o2,o3,hs,other⟩
 ·obtain ⟨vs,e',h1,h2⟩:=h.box p cs hp
  have hlt:p < bx.length:=by
   rcases Nat.lt_or_ge p bx.length with h' | h'
   ·exact h'
   ·rw [getElem?_eq_none h'] at hp; cases hp
  exact ⟨vs,e',(other _ (c10 p hlt)).trans h1,h2.frame (CxLe.refl C) hF⟩
 ·obtain ⟨m1,m2⟩:=mem_filter.1 hs'
  obtain ⟨a1,a2,a3⟩:=h.tok s m1;refine ⟨a1,a2,a3.imp id ?_⟩;rintro ⟨b,cur',e',d1,d2,d3,d4⟩;refine ⟨b,cur',e',d1,d2,(other b fun hb => ?_).trans d3,d4⟩;subst hb
  have:=h.tinj s t b m1 ht d1 hg
  subst this; simp at m2
end
end
section
theorem sizeBld:(Tryz.prog.info? 152).map (·.size) = some 2:=by kernel_rfl
theorem liesBld:liesAt Tryz.prog Tryz.prog.depth 152 (2 / Tryz.prog.cellsOf 152) 0 152 1 = true:=by kernel_rfl
theorem zgE:(Tryz.prog.info? 5).map (fun i => (i.zero,i.size,i.bytes)) = some (some (.int .u8 0),1,1):=by kernel_rfl
theorem zeG (b:Nat) (w:World) (h0:w.cell? ⟨b,0,none⟩ = some (.pointer (some ⟨b,0,none⟩))) :
  Calls Tryz.prog 177 #[.pointer (some ⟨b,0,none⟩)] w fun e w' => e = .returned (.tuple #[]) /\ w' = w:=by
 obtain ⟨j,hj,_⟩:=Option.map_eq_some_iff.1 sizeBld
 go_enter Tryz.func177,Tryz.ntmps177
 go_wp2;rw [Lib.run_neq_ptr_same w _ Tryz.underlying149 hj];go_wp2
 go_end0
 exact ⟨rfl,rfl⟩
theorem zet (b:Nat) (w:World) (h0:w.cell? ⟨b,0,none⟩ = some (.pointer none)) (hsh:w.shape? b = some (152,2)) (hfz:w.frozen? ⟨b,0,none⟩ = false) :
  Calls Tryz.prog 177 #[.pointer (some ⟨b,0,none⟩)] w fun e w' => e = .returned (.tuple #[]) /\ w' = w.setCell ⟨b,0,none⟩ (.pointer (some ⟨b,0,none⟩)):=by
 obtain ⟨j,hj,hjs⟩:=Option.map_eq_some_iff.1 sizeBld
 go_enter Tryz.func177,Tryz.ntmps177
 go_wp2;rw [Lib.run_to_unsafe w ⟨b,0,none⟩ Tryz.underlying149 Tryz.underlying216 hj (by rw [hjs]; decide) hsh (Nat.zero_lt_succ 1)];simp only [Result.andThen];rw [Oper.upon_value];go_wp2;rw [run_callFunc_extern Tryz.func217 (by kernel_rfl) (by kernel_rfl) (by kernel_rfl) (e:=Extern.AbiNoEscape.same) (by kernel_rfl)];rw [Lib.run_noEscape];simp only [Result.andThen];rw [Oper.upon_value];go_wp2;rw [Lib.run_from_unsafe w ⟨b,0,none⟩ Tryz.underlying216 Tryz.underlying149 hj hsh liesBld];simp only [Result.andThen];rw [Oper.upon_value];go_wp2
 go_end0
 exact ⟨rfl,rfl⟩
end
section
variable {T:World -> Prop} {hT:Low ngl T}
def bldC (p t:Nat) (l:L8):List PC:=[.bld p 152 t 5,.sl t (pcB l)]
def CcP (C:Cx) (w:World) (bx:LP PC) (live:List Nat) (T:World -> Prop) (b:Nat) (v1:Value) (w':World):Prop :=
 Inv ngl T C bx (· ∈ live) w' /\ Fix C w w' /\ w'.os = w.os /\ w'.tape = w.tape /\ w'.output = w.output /\ w'.heap.size = w.heap.size /\ (∀ k,k ≠ b -> w'.heap[k]? = w.heap[k]?) /\ w'.heap[b]? = some (.cells #[.pointer (some ⟨b,0,none⟩),v1] 152 (0,0))
theorem ccheck {C:Cx} {bx:LP PC} {live:List Nat} {w:World} (hI:Inv ngl T C bx (· ∈ live) w) {p t:Nat} {l:L8} (hp:bx[p]? = some (bldC p t l)) (hL:Low ngl T) :
  ∃ v1,Calls Tryz.prog 177 #[.pointer (some ⟨C.bx p,0,none⟩)] w (fun e w' => e = .returned (.tuple #[]) /\ CcP C w bx live T (C.bx p) v1 w') /\ RpC C w (.sl t (pcB l)) v1:=by
 obtain ⟨v0,v1,hh,hv,h1,hU⟩:=zhH hI hp
 have hlt:p < bx.length:=by
  rcases Nat.lt_or_ge p bx.length with h' | h'
  ·exact h'
  ·rw [getElem?_eq_none h'] at hp; cases hp
 have c0:w.cell? ⟨C.bx p,0,none⟩ = some v0:=by rw [Lib.cell_of_heap hh]; rfl
 refine ⟨v1,?_,h1⟩
 rcases hv with rfl | rfl
 ·refine (zet (C.bx p) w c0 (by simp [World.shape?,hh]) (Lib.frozen_of_heap hh 0)).mono ?_
  rintro e w' ⟨rfl,rfl⟩
  have hnew:(w.setCell ⟨C.bx p,0,none⟩ (.pointer (some ⟨C.bx p,0,none⟩))).heap[C.bx p]? = some (.cells #[.pointer (some ⟨C.bx p,0,none⟩),v1] 152 (0,0)):=by
   simp [World.setCell,Array.getElem?_modify,hh]
  have hother:∀ k,k ≠ C.bx p -> (w.setCell ⟨C.bx p,0,none⟩ (.pointer (some ⟨C.bx p,0,none⟩))).heap[k]? = w.heap[k]?:=by
   intro k hk;have hk':C.bx p ≠ k:=fun h => hk h.symm
   simp [World.setCell,Array.getElem?_modify,hk']
  have hsz:w.heap.size = (w.setCell ⟨C.bx p,0,none⟩ (.pointer (some ⟨C.bx p,0,none⟩))).heap.size:=by simp [World.setCell]
  obtain ⟨k1,k2⟩:=hI.write hL hlt (us:=[.pointer (some ⟨C.bx p,0,none⟩),v1]) (cs:=bldC p t l) (e:=152) hnew (.cons (.bld _ _ _ _ _ (by rw [hI.nb]; exact hlt) _ _ hh (.inr rfl) hU) (.cons h1 .nil)) (fun T cs0 h0 => by rw [hh] at h0; simp only [sI,Obj.cells.injEq] at h0; exact h0.2.1) hsz hother;rw [set_self hp] at k1;exact ⟨rfl,⟨k1,k2,rfl,rfl,rfl,hsz.symm,hother,hnew⟩⟩
 ·refine (zeG (C.bx p) w c0).mono ?_
  rintro e w' ⟨rfl,rfl⟩;exact ⟨rfl,⟨hI,Fix.refl _ _,rfl,rfl,rfl,rfl,fun _ _ => rfl,hh⟩⟩
def WrP (C:Cx) (w:World) (bx:LP PC) (live:List Nat) (T:World -> Prop) (p t:Nat) (l:L8) (w':World):Prop :=
 ∃ C',Inv ngl T C' (bx.set p (bldC p C.nt l)) (· ∈ C.nt :: live.filter (· != t)) w' /\ C'.nt = C.nt + 1 /\ Ext C w C' (bx.set p (bldC p C.nt l)).length (· ∈ C.nt :: live.filter (· != t)) w'
theorem bld_done (hL:Low ngl T) {C:Cx} {bx:LP PC} {live:List Nat} {w w1 w2 w':World} (hI:Inv ngl T C bx (· ∈ live) w1) (hE:Ext C w C bx.length (· ∈ live) w1) (hn2:2 <= C.nt) {p t:Nat} {l l':L8} (hp:bx[p]? = some (bldC p t l)) {u self:Value} {g:Option Nat} {cap:Nat}
  (k2:Inv ngl T (C.tok g cap (pcB l').length 1) bx (· ∈ C.nt :: live.filter (· != t)) w2) (k3:Fix C w1 w2) (k4:RpC (C.tok g cap (pcB l').length 1) w2 (.sl C.nt (pcB l')) u) (k5:w2.os = w1.os) (k6:w2.tape = w1.tape) (k7:w2.output = w1.output) (k8:w1.heap.size <= w2.heap.size)
  (k9:∀ k,k < w1.heap.size -> g ≠ some k -> w2.heap[k]? = w1.heap[k]?) (k10:∀ b,g = some b -> (w1.heap.size <= b /\ ∃ cs,w2.heap[b]? = some (.cells cs 5 (0,0))) \/ (t ∈ live /\ C.tk t = some b))
  (hs:self = .pointer (some ⟨C.bx p,0,none⟩)) (hw2:∃ v1,w2.heap[C.bx p]? = some (.cells #[self,v1] 152 (0,0)))
  (hw:w' = w2.setCell ⟨C.bx p,1,none⟩ u):WrP C w bx live T p t l' w':=by
 obtain ⟨v1,hw2⟩:=hw2;subst hw
 have hlt:p < bx.length:=by
  rcases Nat.lt_or_ge p bx.length with h' | h'
  ·exact h'
  ·rw [getElem?_eq_none h'] at hp; cases hp
 have hbx:(C.tok g cap (pcB l').length 1).bx p = C.bx p:=rfl
 have hnew:(w2.setCell ⟨C.bx p,1,none⟩ u).heap[C.bx p]? = some (.cells #[self,u] 152 (0,0)):=by
  simp [World.setCell,Array.getElem?_modify,hw2]
 have hother:∀ k,k ≠ C.bx p -> (w2.setCell ⟨C.bx p,1,none⟩ u).heap[k]? = w2.heap[k]?:=by
  intro k hk;have hk':C.bx p ≠ k:=fun h => hk h.symm
  simp [World.setCell,Array.getElem?_modify,hk']
 have hsz:w2.heap.size = (w2.setCell ⟨C.bx p,1,none⟩ u).heap.size:=by simp [World.setCell]
 obtain ⟨v0',v1',hh1,_,_,hU⟩:=zhH hI hp;have htok:=(Cx.tok_new C g cap (pcB l').length 1).1
 have hgw:∀ b,g = some b -> w.heap.size <= b \/ ∃ s,C.old s /\ C.tk s = some b:=by
  intro b hb
  rcases k10 b hb with ⟨h,_⟩ | ⟨h,h'⟩
  ·have:=hE.size; exact .inl (by omega)
  ·exact hE.newT t b h h'
 obtain ⟨q1,q2⟩:=k2.write hL hlt (us:=[self,u]) (cs:=bldC p C.nt l') (e:=152) hnew (.cons (.bld _ _ _ _ _ (by show p < C.nb; rw [hI.nb]; exact hlt) _ _ hw2 (.inr hs) (.inr ⟨hn2,by simp [Cx.tok],fun b hb => by
   rw [htok] at hb
   rcases k10 b hb with ⟨_,cs,h⟩ | ⟨h,h'⟩
   ·exact ⟨cs,_,h⟩
   ·rcases hU with rfl | ⟨_,_,h3⟩
    ·have:=(hI.tok 1 h).1; omega
    ·obtain ⟨cs,fz,h4⟩:=h3 b h'
     exact k3.2 _ _ _ _ h4⟩)) (.cons k4 .nil)) (fun T cs0 h0 => by rw [hbx,hw2] at h0; simp only [sI,Obj.cells.injEq] at h0; exact h0.2.1) hsz hother
 refine ⟨_,q1,by simp [Cx.tok],?_⟩
 have hE2:Ext C w (C.tok g cap (pcB l').length 1) bx.length (· ∈ C.nt :: live.filter (· != t)) w2:=by
  refine hE.step (Cx.tok_le _ _ _ _ _) k3 k5 k6 k7 k8 (fun k hk _ ho => k9 k (by have:=hE.size; omega) (fun hgk => by
   rcases hgw k hgk with h | ⟨t,h1,h2⟩
   ·omega
   ·exact ho t h1 h2)) ?_ ?_ (fun p hp hp2 => hE.newB p hp hp2)
  ·rintro b o (hb | ⟨hb,_⟩)
   ·exact .inl hb
   ·exact .inr (hgw b hb)
  ·intro s b htl hb
   simp only [mem_cons,mem_filter] at htl;by_cases htn:s = C.nt
   ·subst htn; rw [htok] at hb; exact hgw b hb
   ·have hm:s ∈ live:=(htl.resolve_left htn).1
    rw [((Cx.tok_le C _ _ _ _).tk s (hI.tok s hm).2.1).1] at hb; exact hE.newT s b hm hb
 have hE3:=hE2.step (C':=C.tok g cap (pcB l').length 1) (nb':=bx.length) (live':=(· ∈ C.nt :: live.filter (· != t))) (CxLe.refl _) q2 rfl rfl rfl (by omega) (fun k hk hne _ => hother k fun hkp => hne p (by rw [hI.nb]; exact hlt) hkp.symm) (fun b o x => .inl x) hE2.newT hE2.newB;rw [length_set]; exact hE3
theorem zbu {bx:LP PC} {nt p t:Nat} {live:List Nat} {l:L8} (s:L8) (hp:bx[p]? = some (bldC p t l)) (ht:t = 1 \/ t ∈ live) (hlen:l.length + s.length <= 4294967296) :
  FnG (env T hT) 131 [.ref p 0,.d (pS s)] bx nt live (fun _ bx' nt' live' => bx' = bx.set p (bldC p nt (l ++ s)) /\ nt' = nt + 1 /\ live' = nt :: live.filter (· != t)):=by
 intro C w vs hI hnt hold hn2 hl hv
 match vs,hl with
 | [a0,a1],_ =>
  have g0:=hv 0 _ _ rfl rfl; have g1:=hv 1 _ _ rfl rfl
  have e1:a1 = .string ⟨s.toArray⟩:=by
   cases g1 with
   | d _ _ h => cases h; rfl
  have e0:a0 = .pointer (some ⟨C.bx p,0,none⟩):=by
   cases g0; rfl
  subst e0; subst e1
  obtain ⟨i0,hi,hz0,hz1,hz2⟩:=info_parts zgE;obtain ⟨v1,hc,hr1⟩:=ccheck hI hp hT;have HC:=Lib.hid hc; clear hc
  have hE0:=Ext.start hI hold
  have HF:=Lib.hid (fun w' (h:WrP C w bx live T p t (l ++ s) w') => show ∃ u x bx' nt' live' C',Ending.returned (.tuple #[.int .i64 s.length,.nilIface]) = .returned u /\ (bx' = bx.set p (bldC p nt (l ++ s)) /\ nt' = nt + 1 /\ live' = nt :: live.filter (· != t)) /\ Inv ngl T C' bx' (· ∈ live') w' /\ C'.nt = nt' /\ Ext C w C' bx'.length (· ∈ live') w' /\ RpV C' w' x u by
   obtain ⟨C',h1,h2,h3⟩:=h;rw [hnt] at h1 h2 h3;exact ⟨_,.raw _,_,_,_,C',rfl,⟨rfl,rfl,rfl⟩,h1,h2,h3,.raw _⟩)
  have HD:=Lib.hid (fun w1 w2 w' u self g cap hI1 hE1 => bld_done (C:=C) (w:=w) (w1:=w1) (w2:=w2) (w':=w') (u:=u) (self:=self) (g:=g) (cap:=cap) (l:=l) (l':=l ++ s) (bx:=bx) (live:=live) hT hI1 hE1 (by omega) hp);obtain ⟨b,hb⟩:∃ b,b = C.bx p:=⟨_,rfl⟩;rw [<- hb] at HC HD ⊢;have HB:=Lib.hid hb; clear hb
  show Calls Tryz.prog 131 #[.pointer (some ⟨b,0,none⟩),.string ⟨s.toArray⟩] w _
  go_enter Tryz.func131,Tryz.ntmps131
  go_wp2_with (go_at_call 177; refine HC.out.mono ?_)
  rintro e1 w1 rfl ⟨hI1,hF1,o1,o2,o3,o4,o5,hbk⟩;have hE1:Ext C w C bx.length (· ∈ live) w1:=hE0.step (CxLe.refl C) hF1 o1 o2 o3 (by omega) (fun k _ hne _ => o5 k fun h => hne p (by rw [hI.nb]; rcases Nat.lt_or_ge p bx.length with h' | h'; exact h'; rw [getElem?_eq_none h'] at hp; cases hp) (by rw [h]; exact HB.out.symm)) (fun b o x => .inl x) hE0.newT hE0.newB;have c0:w1.cell? ⟨b,0,none⟩ = some (.pointer (some ⟨b,0,none⟩)):=by rw [Lib.cell_of_heap hbk]; rfl
  have c1:w1.cell? ⟨b,1,none⟩ = some v1:=by rw [Lib.cell_of_heap hbk]; rfl
  obtain ⟨u,w2,g,cap,k1,k2,k3,k4,k5,k6,k7,k8,k9,k10⟩:=apps_run (P:=Tryz.prog) hT hI1 (by omega) (t:=150) (t':=9) (e:=5) (i:=i0) Tryz.underlying150 Tryz.underlying9 hi hz0 hz1 hz2 (hr1.frame (CxLe.refl C) hF1) ht s (by rw [zb0]; exact hlen) (zd1 l) 150;have hcat:pcB l ++ pcB s = pcB (l ++ s):=by simp [pcB]
  rw [hcat] at k2 k4
  have hne:g ≠ some b:=fun h => by
   rcases k10 b h with ⟨h1,_⟩ | ⟨h1,h2⟩
   ·have:=zaA hbk; omega
   ·obtain ⟨_,_,⟨z,_⟩ | ⟨b',cur,e',d1,_,d3,_,_,_,_,_,_,d9⟩⟩:=hI1.tok t h1
    ·rw [z] at h2; cases h2
    ·rw [h2] at d1; simp only [sI] at d1; subst d1
     exact d9 p (by rcases Nat.lt_or_ge p bx.length with h' | h'; exact h'; rw [getElem?_eq_none h'] at hp; cases hp) HB.out.symm
  have hb2:w2.heap[b]? = some (.cells #[.pointer (some ⟨b,0,none⟩),v1] 152 (0,0)):=(k9 b (zaA hbk) hne).trans hbk;have HW:=Lib.hid (HD.out w1 _ _ _ _ _ _ hI1 hE1 k2 k3 k4 k5 k6 k7 k8 k9 k10 rfl ⟨v1,hb2⟩ rfl);have d0:w2.cell? ⟨b,0,none⟩ = some (.pointer (some ⟨b,0,none⟩)):=by rw [Lib.cell_of_heap hb2]; rfl
  have d1:w2.cell? ⟨b,1,none⟩ = some v1:=by rw [Lib.cell_of_heap hb2]; rfl
  have f1:w2.frozen? ⟨b,1,none⟩ = false:=Lib.frozen_of_heap hb2 1;obtain ⟨ao,cp,rfl,_⟩:=sl_form k4;clear k2 k3 k4 k5 k6 k7 k8 k9 k10 hI hI1 hE0 hE1 hF1 HD o1 o2 o3 o4 o5 hr1
  go_wp2_with (at_builtin; refine zbZ rfl _ _ 150 9 rfl _ _ _ _ rfl rfl k1 ?_)
  go_wp2
  go_ret2
  exact HF.out _ HW.out
theorem zfB {bx:LP PC} {nt p t:Nat} {live:List Nat} {l:L8} (s:UInt8) (hp:bx[p]? = some (bldC p t l)) (ht:t = 1 \/ t ∈ live) (hlen:l.length + 1 <= 4294967296) :
  FnG (env T hT) 179 [.ref p 0,.d (.v (.int .u8 s.toNat))] bx nt live (fun _ bx' nt' live' => bx' = bx.set p (bldC p nt (l ++ [s])) /\ nt' = nt + 1 /\ live' = nt :: live.filter (· != t)):=by
 intro C w vs hI hnt hold hn2 hl hv
 match vs,hl with
 | [a0,a1],_ =>
  have g0:=hv 0 _ _ rfl rfl; have g1:=hv 1 _ _ rfl rfl
  have e1:a1 = .int .u8 s.toNat:=by
   cases g1 with
   | d _ _ h => cases h; rfl
  have e0:a0 = .pointer (some ⟨C.bx p,0,none⟩):=by
   cases g0; rfl
  subst e0; subst e1
  obtain ⟨i0,hi,hz0,hz1,hz2⟩:=info_parts zgE;obtain ⟨v1,hc,hr1⟩:=ccheck hI hp hT;have HC:=Lib.hid hc; clear hc
  have hE0:=Ext.start hI hold
  have HF:=Lib.hid (fun w' (h:WrP C w bx live T p t (l ++ [s]) w') => show ∃ u x bx' nt' live' C',Ending.returned (.nilIface) = .returned u /\ (bx' = bx.set p (bldC p nt (l ++ [s])) /\ nt' = nt + 1 /\ live' = nt :: live.filter (· != t)) /\ Inv ngl T C' bx' (· ∈ live') w' /\ C'.nt = nt' /\ Ext C w C' bx'.length (· ∈ live') w' /\ RpV C' w' x u by
   obtain ⟨C',h1,h2,h3⟩:=h;rw [hnt] at h1 h2 h3;exact ⟨_,.raw _,_,_,_,C',rfl,⟨rfl,rfl,rfl⟩,h1,h2,h3,.raw _⟩)
  have HD:=Lib.hid (fun w1 w2 w' u self g cap hI1 hE1 => bld_done (C:=C) (w:=w) (w1:=w1) (w2:=w2) (w':=w') (u:=u) (self:=self) (g:=g) (cap:=cap) (l:=l) (l':=l ++ [s]) (bx:=bx) (live:=live) hT hI1 hE1 (by omega) hp);obtain ⟨b,hb⟩:∃ b,b = C.bx p:=⟨_,rfl⟩;rw [<- hb] at HC HD ⊢;have HB:=Lib.hid hb; clear hb
  show Calls Tryz.prog 179 #[.pointer (some ⟨b,0,none⟩),.int .u8 s.toNat] w _
  go_enter Tryz.func179,Tryz.ntmps179
  go_wp2_with (go_at_call 177; refine HC.out.mono ?_)
  rintro e1 w0 rfl ⟨hI1,hF1,o1,o2,o3,o4,o5,hbk⟩
  have hplt:p < bx.length:=by
   rcases Nat.lt_or_ge p bx.length with h' | h'
   ·exact h'
   ·rw [getElem?_eq_none h'] at hp; cases hp
  have hE1:Ext C w C bx.length (· ∈ live) w0:=hE0.step (CxLe.refl C) hF1 o1 o2 o3 (by omega) (fun k _ hne _ => o5 k fun h => hne p (by rw [hI.nb]; exact hplt) (by rw [h]; exact HB.out.symm)) (fun b o x => .inl x) hE0.newT hE0.newB;obtain ⟨w1,hw1⟩:∃ w1,w1 = w0.alloc (.cells #[.int .u8 s.toNat] 5):=⟨_,rfl⟩;have hI2:Inv ngl T C bx (· ∈ live) w1:=by rw [hw1]; exact hI1.alloc hT _
  have hF2:Fix C w0 w1:=by rw [hw1]; exact zc0 hI1.fin _
  have hE2:Ext C w C bx.length (· ∈ live) w1:=hE1.step (CxLe.refl C) hF2 (by rw [hw1]; rfl) (by rw [hw1]; rfl) (by rw [hw1]; rfl) (by rw [hw1]; simp) (fun k hk _ _ => by rw [hw1]; exact heap_alloc_old w0 _ (by have:=hE1.size; omega)) (fun b o x => .inl x) hE1.newT hE1.newB;have hcell:w1.cell? ⟨w0.heap.size,0,none⟩ = some (.int .u8 s.toNat):=by rw [hw1,Lib.cell_of_heap (zaR w0 _)]; rfl
  have hbk1:w1.heap[b]? = some (.cells #[.pointer (some ⟨b,0,none⟩),v1] 152 (0,0)):=by rw [hw1]; exact (heap_alloc_old w0 _ (zaA hbk)).trans hbk
  have c0:w1.cell? ⟨b,0,none⟩ = some (.pointer (some ⟨b,0,none⟩)):=by rw [Lib.cell_of_heap hbk1]; rfl
  have c1:w1.cell? ⟨b,1,none⟩ = some v1:=by rw [Lib.cell_of_heap hbk1]; rfl
  have c2:w0.cell? ⟨b,1,none⟩ = some v1:=by rw [Lib.cell_of_heap hbk]; rfl
  obtain ⟨u,w2,g,cap,k1,k2,k3,k4,k5,k6,k7,k8,k9,k10⟩:=appc_run (P:=Tryz.prog) hT hI2 (by omega) (t:=150) (e:=5) (i:=i0) Tryz.underlying150 hi hz0 hz1 hz2 ((hr1.frame (CxLe.refl C) hF1).frame (CxLe.refl C) hF2) ht s (cy:=1) hcell (by rw [zb0]; exact hlen) (zd1 l) 150;have hcat:pcB l ++ pcB [s] = pcB (l ++ [s]):=by simp [pcB]
  rw [hcat] at k2 k4
  have hne:g ≠ some b:=fun h => by
   rcases k10 b h with ⟨h1,_⟩ | ⟨h1,h2⟩
   ·have:=zaA hbk1; omega
   ·obtain ⟨_,_,⟨z,_⟩ | ⟨b',cur,e',d1,_,d3,_,_,_,_,_,_,d9⟩⟩:=hI2.tok t h1
    ·rw [z] at h2; cases h2
    ·rw [h2] at d1; simp only [sI] at d1; subst d1
     exact d9 p hplt HB.out.symm
  have hb2:w2.heap[b]? = some (.cells #[.pointer (some ⟨b,0,none⟩),v1] 152 (0,0)):=(k9 b (zaA hbk1) hne).trans hbk1;have HW:=Lib.hid (HD.out w1 _ _ _ _ _ _ hI2 hE2 k2 k3 k4 k5 k6 k7 k8 k9 k10 rfl ⟨v1,hb2⟩ rfl);have d0:w2.cell? ⟨b,0,none⟩ = some (.pointer (some ⟨b,0,none⟩)):=by rw [Lib.cell_of_heap hb2]; rfl
  have d1:w2.cell? ⟨b,1,none⟩ = some v1:=by rw [Lib.cell_of_heap hb2]; rfl
  have f1:w2.frozen? ⟨b,1,none⟩ = false:=Lib.frozen_of_heap hb2 1;obtain ⟨ao,cp,rfl,_⟩:=sl_form k4;clear k2 k3 k4 k5 k6 k7 k8 k9 k10 hI hI1 hI2 hE0 hE1 hE2 hF1 hF2 HD o1 o2 o3 o4 o5 hr1;subst hw1
  go_wp2_with (at_builtin; refine zbZ rfl _ _ 150 150 rfl _ _ _ _ rfl rfl k1 ?_)
  go_wp2;go_ret;exact HF.out _ HW.out
theorem cellsByteB:(Tryz.prog.cellsOf 5) = 1:=by kernel_rfl
theorem bstr_fn {bx:LP PC} {nt p t:Nat} {live:List Nat} {l:L8} (hl0:l ≠ []) (hp:bx[p]? = some (bldC p t l)) (ht:t = 1 \/ t ∈ live) :
  FnG (env T hT) 134 [.ref p 0] bx nt live (fun x bx' nt' live' => x = .d (pS l) /\ bx' = bx /\ nt' = nt /\ live' = live.filter (· != t)):=by
 intro C w vs hI hnt hold hn2 hl hv
 match vs,hl with
 | [a0],_ =>
  have g0:=hv 0 _ _ rfl rfl
  have e0:a0 = .pointer (some ⟨C.bx p,0,none⟩):=by
   cases g0; rfl
  subst e0;obtain ⟨v0,v1,hh,hv0,h1,hU⟩:=zhH hI hp;have hE0:=Ext.start hI hold;have hne:pcB l ≠ []:=by simpa [pcB] using hl0
  have hpl:0 < l.length:=by cases l with | nil => exact absurd rfl hl0 | cons => simp
  obtain ⟨g,cap,cur,rfl,htl,htk,hg,hcp,hcm,hcs,hcell⟩:∃ g cap cur,v1 = .slice (some ⟨g,0,none⟩) l.length cap /\ t ∈ live /\ C.tk t = some g /\ w.heap[g]? = some (.cells cur 5 (0,0)) /\ l.length <= cap /\ cap <= maxLen /\ l.length <= cur.size /\ ∀ j x,l[j]? = some x -> w.cell? ((⟨g,0,none⟩:Addr).add j) = some (.int .u8 x.toNat):=by
   generalize hes:pcB l = es at h1 hne
   cases h1 with
   | emp => exact absurd rfl hne
   | nil => exact absurd rfl hne
   | nilo => exact absurd rfl hne
   | rd es b o n c u hl hc hr h =>
    rcases ht with h0 | h0
    ·cases h0
    ·have:=(hI.tok 0 h0).1; omega
   | own t es b u h2 hlt hb hlen hcl hc hr h =>
    have htl:t ∈ live:=ht.resolve_left (by omega);subst hes;obtain ⟨_,_,⟨z,_⟩ | ⟨b',cur,e',d1,_,d3,d4,d5,d6,d7,_,_,_⟩⟩:=hI.tok t htl
    ·rw [hb] at z; cases z
    rw [hb] at d1; simp only [sI] at d1; subst d1
    obtain ⟨_,_,h3⟩:=hU.resolve_left (by omega);obtain ⟨cs,fz,h4⟩:=h3 b hb;rw [d3] at h4; simp only [sI,Obj.cells.injEq] at h4
    obtain ⟨_,rfl,_⟩:=h4
    have hn1:C.tn t = 1:=by
     obtain ⟨d,hd⟩:=exists_mem_of_ne_nil _ hne;rw [<- hr.wid d hd,zd1 l d hd]
    rw [hn1] at d4;rw [zb0] at hcl ⊢;refine ⟨b,C.cp t,cur,rfl,htl,hb,d3,hcl,hc,by omega,fun j x hx => ?_⟩
    have hj:j < l.length:=by
     rcases Nat.lt_or_ge j l.length with h' | h'
     ·exact h'
     ·rw [getElem?_eq_none h'] at hx; cases hx
    have q1:=hr.cell j 0 (by rw [zb0]; exact hj) (by omega);have q2:=h j 0 [.v (.int .u8 x.toNat)] _ (by simp [pcB,hx]) rfl;rw [hn1,Nat.one_mul,Nat.add_zero,Nat.zero_add] at q1;rw [zaT,Nat.zero_add,q1];generalize u j 0 = y at q2
    cases q2; rfl
  obtain ⟨b,hb⟩:∃ b,b = C.bx p:=⟨_,rfl⟩;obtain ⟨hId,hFd⟩:=hI.drewn hT (w.drawn + 1);obtain ⟨q1,q2,q3,q4,q5,q6,q7⟩:=hId.froze hT (n:=l.length) htl htk;have hE1:Ext C w C bx.length (· ∈ live) { w with drawn:=w.drawn + 1 }:=hE0.step (CxLe.refl C) hFd rfl rfl rfl lR (fun _ _ _ _ => rfl) (fun b o x => .inl x) hE0.newT hE0.newB;have hE2:=hE1.step (CxLe.refl C) (live':=(· ∈ live.filter (· != t))) (nb':=bx.length) q2 q3 q4 q5 (by omega) (fun k hk hne ho => q7 k fun h => ho t (by rw [hold]; exact htl) (by rw [htk,h])) (fun b o x => .inl x) (fun s b hs hb => hE1.newT s b (mem_filter.1 hs).1 hb) hE1.newB;have HF:=Lib.hid (show ∃ u x bx' nt' live' C',Ending.returned (.string ⟨l.toArray⟩) = .returned u /\ (x = .d (pS l) /\ bx' = bx /\ nt' = nt /\ live' = live.filter (· != t)) /\ Inv ngl T C' bx' (· ∈ live') (w.drew.freeze ⟨g,0,none⟩ l.length) /\ C'.nt = nt' /\ Ext C w C' bx'.length (· ∈ live') (w.drew.freeze ⟨g,0,none⟩ l.length) /\ RpV C' (w.drew.freeze ⟨g,0,none⟩ l.length) x u from ⟨_,_,bx,nt,_,C,rfl,⟨rfl,rfl,rfl,rfl⟩,q1,hnt,hE2,.d _ _ (.v _ rfl)⟩)
  rw [<- hb] at hh hv0 ⊢;clear hb
  have c1:w.drew.cell? ⟨b,1,none⟩ = some (.slice (some ⟨g,0,none⟩) l.length cap):=by
   have:w.drew.heap[b]? = some (.cells #[v0,.slice (some ⟨g,0,none⟩) l.length cap] 152 (0,0)):=hh
   rw [Lib.cell_of_heap this]; rfl
  have hSD:(Builtin.unsafeSliceData_ #[150] 201 #[.slice (some ⟨g,0,none⟩) l.length cap]).run Tryz.prog w.drew = .ok (.pointer (some ⟨g,0,none⟩)) w.drew :=
   Lib.run_unsafeSliceData_row _ _ _ _ _ _ (by omega)
  have hUS:(Builtin.unsafeString_ #[201,3] 9 #[.pointer (some ⟨g,0,none⟩),.int .i64 l.length]).run Tryz.prog w.drew = .ok (.string ⟨l.toArray⟩) (w.drew.freeze ⟨g,0,none⟩ l.length):=by
   refine Lib.run_unsafeString_row w.drew 201 3 9 5 Tryz.underlying201 cellsByteB g cur.size (by have hg':w.drew.heap[g]? = some (.cells cur 5 (0,0)):=hg; simp [World.shape?,hg']) l hl0 (by omega) (by unfold maxLen at hcm; omega) ?_;intro j x hx;exact hcell j x hx
  clear q1 q2 q3 q4 q5 q6 q7 hE1 hE2 hE0 hI hId hFd hcell h1 hU hcs;show Calls Tryz.prog 134 #[.pointer (some ⟨b,0,none⟩)] w _
  go_enter Tryz.func134,Tryz.ntmps134
  go_wp2
  go_region
  all_goals (go_wp2; go_ret; exact HF.out)
end
section
variable {T:World -> Prop} {hT:Low ngl T}
attribute [local irreducible] po mw pt
def WrN (t:Nat) (live:List Nat) (nt:Nat) (t' nt':Nat) (live':List Nat):Prop:=(t' = 1 \/ t' ∈ live') /\ nt <= nt' /\ (∀ s ∈ live,s < nt -> s ≠ t -> s ∈ live') /\ (t' = t \/ nt <= t')
theorem WrN.step {t nt n1:Nat} {live l1:List Nat} (hn:nt <= n1) (hl:∀ s ∈ live,s ∈ l1):WrN t live nt n1 (n1 + 1) (n1 :: l1.filter (· != t)) :=
 ⟨.inr (mem_cons_self ..),by omega,fun s hs _ hne => mem_cons_of_mem _ (mem_filter.2 ⟨hl s hs,by simpa using hne⟩),.inr hn⟩
theorem WrN.trans {t t1 t2 nt n1 n2:Nat} {live l1 l2:List Nat} (h:WrN t live nt t1 n1 l1) (k:WrN t1 l1 n1 t2 n2 l2):WrN t live nt t2 n2 l2:=by
 obtain ⟨_,h2,h3,h4⟩:=h;obtain ⟨k1,k2,k3,k4⟩:=k;exact ⟨k1,by omega,fun s hs hlt hne => k3 s (h3 s hs hlt hne) (by omega) (by omega),by omega⟩
mutual
theorem er_lw:∀ {c:PC},c.er = c -> c.lw 0
 | .v _,_ => by simp only [PC.lw]
 | .bld _ _ _ _,h => by simp [PC.er] at h
 | .anyp,_ => by simp only [PC.lw]
 | .row _ _ _,h => by simp [PC.er] at h
 | .sl t es,h => by
  simp only [PC.er,PC.sl.injEq] at h;simp only [PC.lw];exact erLL_lw h.2
theorem erL_lw:∀ {c:List PC},erL c = c -> lwL 0 c
 | [],_ => by simp only [lwL]
 | c :: cs,h => by
  simp only [erL,cons.injEq] at h;simp only [lwL];exact ⟨er_lw h.1,erL_lw h.2⟩
theorem erLL_lw:∀ {c:LP PC},erLL c = c -> lwLL 0 c
 | [],_ => by simp only [lwLL]
 | c :: cs,h => by
  simp only [erLL,cons.injEq] at h;simp only [lwLL];exact ⟨erL_lw h.1,erLL_lw h.2⟩
end
theorem lw_vC (v:V):lwL 0 (vC v):=erL_lw (zfj v)
theorem V.wf_num {v:V} (h:v.wf):i64ok v.num:=by obtain ⟨k,n,e,s,kids⟩:=v; exact h.2.1
theorem V.wf_exp {v:V} (h:v.wf):i64ok v.exp:=by obtain ⟨k,n,e,s,kids⟩:=v; exact h.2.2.1
theorem zfC (t:Nat) (l:L8):∀ y ∈ bldC 0 t l,okC0 y:=by
 intro y hy;simp only [bldC,mem_cons,mem_nil_iff,or_false] at hy
 rcases hy with rfl | rfl
 ·rfl
 ·show PC.lw 0 (.sl t (pcB l))
  simp only [PC.lw];unfold pcB
  induction l with
  | nil => simp [lwLL]
  | cons b l ih => simp only [map_cons,lwLL,lwL,PC.lw,true_and]; exact ih
theorem V.ok_kind9 {v:V} (h:v.ok = true) (h0:¬ v.kind = 0) (h1:¬ v.kind = 1) (h2:¬ v.kind = 2) (h3:¬ v.kind = 3) (h4:¬ v.kind = 4) (h5:¬ v.kind = 5) (h6:¬ v.kind = 6) (h7:¬ v.kind = 7) (h8:¬ v.kind = 8):v.kind = 9:=by
 obtain ⟨k,n,e,s,kids⟩:=v;unfold V.ok at h;simp only [V.rightBy,Bool.and_eq_true,decide_eq_true_eq] at h;have h2':=h.1.2.2;simp only [V.kind] at *;simp only [V.selfBy] at h2';rw [if_neg (by omega)] at h2';simp only [h3,h4,h5,h6,h7,h8,if_false] at h2'
 split at h2'
 ·assumption
 ·cases h2'
def PmG (T:World -> Prop) (hT:Low ngl T) (v:V):Prop:=∀ (t nt:Nat) (live:List Nat) (l:L8),(t = 1 \/ t ∈ live) -> l.length + (msg v).length <= 4294967296 ->
 FnG (env T hT) 133 [.ref 0 0,.ag (vC v)] [bldC 0 t l] nt live (fun x b n l' => ∃ c' rest,b = c' :: rest /\ x.lw 0 /\ (∀ y ∈ c',okC0 y) /\ ∃ t',c' = bldC 0 t' (l ++ msg v) /\ WrN t live nt t' n l')
def PmL (v:V) (l:L8) (t nt:Nat) (live:List Nat) (m:Nat) (s:St):Prop:=∃ i:Nat,i <= v.kids.length /\ m = v.kids.length - i /\ has s.tm [(0,.ref 0 0),(91,.d (.sl 0 (vK v.kids))),(92,.d (pI v.kids.length)),(93,.d (pI i))] /\
 ∃ t' rest,s.bx = bldC 0 t' (l ++ (msgHd v ++ msgs (v.kids.take i))) :: vC v :: rest /\ WrN t live nt t' s.nt s.live
theorem pm_step {v:V} (hw:v.wf) (hk:v.ok = true) (hkid:∀ (i:Nat) (h:i < v.kids.length),PmG T hT v.kids[i]):PmG T hT v:=by
 intro t nt live l ht htot;obtain ⟨hml,htl⟩:=V.ok_msg hk;have hvlen:(vK v.kids).length = v.kids.length:=zbh _;have hkl:=V.ok_len hk;have mm:=zbr;have wnum:i64ok v.num:=V.wf_num hw;have wexp:i64ok v.exp:=V.wf_exp hw;have hnum:=putNum_fn (T:=T) (hT:=hT) v.num wnum;have hwide:=fun x k h hx => zhC (T:=T) (hT:=hT) x k h hx
 have hlen5:=fun n a b c d h1 h2 h3 => putLen_fn (T:=T) (hT:=hT) n a b c d h1 h2 h3
 have hM:(msg v).length = (msgHd v).length + (msgs v.kids).length:=by rw [zec,length_append]
 have ht2:t = 1 \/ t ∈ nt :: live:=ht.imp id fun h => mem_cons_of_mem _ h
 refine zaU (zak zhA) (by show 2 <= 101; decide) fun B hB => ?_
 unfold m_i_putMsg;refine mO ?_;refine zbV rfl ?_;refine zaa ?_;refine zau (fun s => has s.tm [(0,.ref 0 0),(3,.ref 1 0)] /\ ∃ t',s.bx = [bldC 0 t' (l ++ msgHd v),vC v] /\ WrN t live nt t' s.nt s.live) ?_ ?_
 ·refine mO ?_
  (iterate 2 refine mS ?_);refine zaa ?_;refine zag (zah (zad ?_));by_cases h0:v.kind = 0
  ·refine zai rfl rfl (decide_eq_true h0) ?_
   refine mT ?_;have e:msgHd v = [192]:=by unfold msgHd; simp [h0]
   have hlen:1 <= (msg v).length:=by rw [hM,e]; exact Nat.le_add_right 1 _
   refine zad ?_;refine mS ?_;refine po_g rfl (zfB 192 (l:=l) (t:=t) rfl ht (by omega)) ?_;rintro x _ _ _ ⟨rfl,rfl,rfl⟩;refine zaa ?_;exact ⟨⟨rfl,rfl,trivial⟩,nt,by rw [e]; rfl,WrN.step lR fun _ h => h⟩
  refine zam rfl rfl (decide_eq_false h0) ?_;refine mF ?_;refine mO ?_;by_cases h1:v.kind = 1
  ·refine zai rfl rfl (decide_eq_true h1) ?_
   refine mT ?_;have e:msgHd v = [194]:=by unfold msgHd; simp [h1]
   have hlen:1 <= (msg v).length:=by rw [hM,e]; exact Nat.le_add_right 1 _
   refine zad ?_;refine mS ?_;refine po_g rfl (zfB 194 (l:=l) (t:=t) rfl ht (by omega)) ?_;rintro x _ _ _ ⟨rfl,rfl,rfl⟩;refine zaa ?_;exact ⟨⟨rfl,rfl,trivial⟩,nt,by rw [e]; rfl,WrN.step lR fun _ h => h⟩
  refine zam rfl rfl (decide_eq_false h1) ?_;refine mF ?_;refine mO ?_;by_cases h2:v.kind = 2
  ·refine zai rfl rfl (decide_eq_true h2) ?_
   refine mT ?_;have e:msgHd v = [195]:=by unfold msgHd; simp [h2]
   have hlen:1 <= (msg v).length:=by rw [hM,e]; exact Nat.le_add_right 1 _
   refine zad ?_;refine mS ?_;refine po_g rfl (zfB 195 (l:=l) (t:=t) rfl ht (by omega)) ?_;rintro x _ _ _ ⟨rfl,rfl,rfl⟩;refine zaa ?_;exact ⟨⟨rfl,rfl,trivial⟩,nt,by rw [e]; rfl,WrN.step lR fun _ h => h⟩
  refine zam rfl rfl (decide_eq_false h2) ?_;refine mF ?_;refine mO ?_;by_cases h3:v.kind = 3
  ·refine zai rfl rfl (decide_eq_true h3) ?_
   refine mT ?_;have e:msgHd v = msgInt v.num:=by unfold msgHd; simp [h3]
   have hlen:(msgInt v.num).length <= (msg v).length:=by rw [hM,e]; exact Nat.le_add_right _ _
   refine zad ?_;(iterate 3 refine mS ?_);refine zac rfl hnum ?_;refine po_g rfl (zbu (msgInt v.num) (l:=l) (t:=t) rfl ht (by omega)) ?_;rintro x _ _ _ ⟨rfl,rfl,rfl⟩;refine zaa ?_;exact ⟨⟨rfl,rfl,trivial⟩,nt,by rw [e]; rfl,WrN.step lR (fun _ h => h)⟩
  refine zam rfl rfl (decide_eq_false h3) ?_;refine mF ?_;refine mO ?_;by_cases h5:v.kind = 5
  ·refine zai rfl rfl (decide_eq_true h5) ?_
   refine mT ?_;have e:msgHd v = msgMany v.text.length 32 160 217 218 ++ v.text:=by unfold msgHd; simp [h5]
   have hlen:(msgMany v.text.length 32 160 217 218 ++ v.text).length <= (msg v).length:=by rw [hM,e]; exact Nat.le_add_right _ _
   refine zad ?_;(iterate 4 refine mS ?_);(iterate 2 refine mS ?_);refine zac (args:=[.d (pI v.text.length),.d (pI 160),.d (pI 32),.d (pI 217),.d (pI 218)]) rfl (hlen5 v.text.length 32 160 217 218 (by omega) (by omega) (by omega)) ?_;refine zax (lb:=v.text) rfl rfl rfl (by have:=mm v.text.length 32 160 217 218; omega) ?_;refine po_g rfl (zbu (msgMany v.text.length 32 160 217 218 ++ v.text) (l:=l) (t:=t) rfl ht (by omega)) ?_;rintro x _ _ _ ⟨rfl,rfl,rfl⟩;refine zaa ?_;exact ⟨⟨rfl,rfl,trivial⟩,nt,by rw [e]; rfl,WrN.step lR (fun _ h => h)⟩
  refine zam rfl rfl (decide_eq_false h5) ?_;refine mF ?_;refine mO ?_;by_cases h6:v.kind = 6
  ·refine zai rfl rfl (decide_eq_true h6) ?_
   refine mT ?_;have e:msgHd v = msgMany v.text.length 0 0 196 197 ++ v.text:=by unfold msgHd; simp [h6]
   have hlen:(msgMany v.text.length 0 0 196 197 ++ v.text).length <= (msg v).length:=by rw [hM,e]; exact Nat.le_add_right _ _
   refine zad ?_;(iterate 4 refine mS ?_);(iterate 2 refine mS ?_);refine zac (args:=[.d (pI v.text.length),.d (pI 0),.d (pI 0),.d (pI 196),.d (pI 197)]) rfl (hlen5 v.text.length 0 0 196 197 (by omega) (by omega) (by omega)) ?_;refine zax (lb:=v.text) rfl rfl rfl (by have:=mm v.text.length 0 0 196 197; omega) ?_;refine po_g rfl (zbu (msgMany v.text.length 0 0 196 197 ++ v.text) (l:=l) (t:=t) rfl ht (by omega)) ?_;rintro x _ _ _ ⟨rfl,rfl,rfl⟩;refine zaa ?_;exact ⟨⟨rfl,rfl,trivial⟩,nt,by rw [e]; rfl,WrN.step lR (fun _ h => h)⟩
  refine zam rfl rfl (decide_eq_false h6) ?_;refine mF ?_;refine mO ?_;by_cases h7:v.kind = 7
  ·refine zai rfl rfl (decide_eq_true h7) ?_
   refine mT ?_;have e:msgHd v = msgMany v.kids.length 16 144 0 220:=by unfold msgHd; simp [h7]
   have hlen:(msgMany v.kids.length 16 144 0 220).length <= (msg v).length:=by rw [hM,e]; exact Nat.le_add_right _ _
   refine zad ?_;(iterate 3 refine mS ?_);refine zaK (n:=v.kids.length) rfl rfl hvlen ?_;refine zac (args:=[.d (pI v.kids.length),.d (pI 144),.d (pI 16),.d (pI 0),.d (pI 220)]) rfl (hlen5 v.kids.length 16 144 0 220 (by omega) (by omega) (by omega)) ?_;refine po_g rfl (zbu (msgMany v.kids.length 16 144 0 220) (l:=l) (t:=t) rfl ht (by omega)) ?_;rintro x _ _ _ ⟨rfl,rfl,rfl⟩;refine zaa ?_;exact ⟨⟨rfl,rfl,trivial⟩,nt,by rw [e]; rfl,WrN.step lR (fun _ h => h)⟩
  refine zam rfl rfl (decide_eq_false h7) ?_;refine mF ?_;refine mO ?_;by_cases h8:v.kind = 8
  ·refine zai rfl rfl (decide_eq_true h8) ?_
   refine mT ?_;have e:msgHd v = msgMany ((v.kids.length / 2:Nat):Int) 16 128 0 222:=by unfold msgHd; simp [h8]
   have hlen:(msgMany ((v.kids.length / 2:Nat):Int) 16 128 0 222).length <= (msg v).length:=by rw [hM,e]; exact Nat.le_add_right _ _
   refine zad ?_;(iterate 3 refine mS ?_);refine zaK (n:=v.kids.length) rfl rfl hvlen ?_;refine po_q (v:=.d (pI ((v.kids.length / 2:Nat):Int))) rfl (by show some (PV.d (.v (.int .i64 (IntKind.wrap .i64 (((v.kids.length:Nat):Int).tdiv 2))))) = _; rw [show IntKind.wrap .i64 (((v.kids.length:Nat):Int).tdiv 2) = ((v.kids.length / 2:Nat):Int) by rw [IntKind.wrap_i64,Int.tdiv_eq_ediv_of_nonneg (by omega)]; omega]; rfl) ?_;refine zac (args:=[.d (pI ((v.kids.length / 2:Nat):Int)),.d (pI 128),.d (pI 16),.d (pI 0),.d (pI 222)]) rfl (hlen5 ((v.kids.length / 2:Nat):Int) 16 128 0 222 (by omega) (by omega) (by omega)) ?_;refine po_g rfl (zbu (msgMany ((v.kids.length / 2:Nat):Int) 16 128 0 222) (l:=l) (t:=t) rfl ht (by omega)) ?_;rintro x _ _ _ ⟨rfl,rfl,rfl⟩;refine zaa ?_;exact ⟨⟨rfl,rfl,trivial⟩,nt,by rw [e]; rfl,WrN.step lR (fun _ h => h)⟩
  refine zam rfl rfl (decide_eq_false h8) ?_;refine mF ?_;refine mO ?_;by_cases h4:v.kind = 4
  ·refine zai rfl rfl (decide_eq_true h4) ?_
   refine mT ?_;have e:msgHd v = [199,9,4] ++ be 1 (lo64 v.exp) ++ be 8 (lo64 v.num):=by unfold msgHd; simp [h4]
   have hlen:([199,9,4] ++ be 1 (lo64 v.exp) ++ be 8 (lo64 v.num)).length <= (msg v).length:=by rw [hM,e]; exact Nat.le_add_right _ _
   refine zbq ?_;refine zal ?_;refine mS ?_;refine mS ?_;refine mS ?_;refine mS ?_;refine mL ?_;refine zas ?_;refine zat ?_ ?_
   ·refine zay (es:=[[.v (.int .u8 199)],[.v (.int .u8 9)],[.v (.int .u8 4)]]) rfl ?_
    refine zaa ?_;refine zal ?_;refine mL ?_;refine zas ?_;refine zat ?_ zar;refine zac rfl (hwide v.exp 1 (by omega) wexp) ?_;refine zaa ?_;refine zal ?_;refine zax (la:=[199,9,4]) (lb:=be 1 (lo64 v.exp)) rfl rfl rfl (by rw [zab]; simp) ?_;refine zaa ?_;refine zas ?_;refine zat ?_ zar;refine zac rfl (hwide v.num 8 (by omega) wnum) ?_;refine zaa ?_;refine zal ?_;refine zax (la:=[199,9,4] ++ be 1 (lo64 v.exp)) (lb:=be 8 (lo64 v.num)) rfl rfl rfl (by rw [length_append,zab,zab]; simp) ?_;refine zaa ?_;refine zas ?_;refine zat ?_ zar;refine po_g rfl (zbu ([199,9,4] ++ be 1 (lo64 v.exp) ++ be 8 (lo64 v.num)) (l:=l) (t:=t) rfl ht2 (by omega)) ?_;rintro x _ _ _ ⟨rfl,rfl,rfl⟩;refine zaa ?_;refine zal ?_;refine zaa ?_;refine zaP ?_;exact ⟨⟨rfl,rfl,trivial⟩,nt + 1,by rw [e]; rfl,WrN.step (Nat.le_succ _) fun _ h => mem_cons_of_mem _ h⟩
   refine zat ?_ zar;refine zac rfl (hwide v.exp 1 (by omega) wexp) ?_;refine zaa ?_;refine zal ?_;refine zaa ?_;refine zas ?_;refine zat ?_ ?_
   ·refine zay (es:=[[.v (.int .u8 199)],[.v (.int .u8 9)],[.v (.int .u8 4)]]) rfl ?_
    refine zaa ?_;refine zal ?_;refine mS ?_;refine zax (la:=[199,9,4]) (lb:=be 1 (lo64 v.exp)) rfl rfl rfl (by rw [zab]; simp) ?_;refine zaa ?_;refine zas ?_;refine zat ?_ zar;refine zac rfl (hwide v.num 8 (by omega) wnum) ?_;refine zaa ?_;refine zal ?_;refine zax (la:=[199,9,4] ++ be 1 (lo64 v.exp)) (lb:=be 8 (lo64 v.num)) rfl rfl rfl (by rw [length_append,zab,zab]; simp) ?_;refine zaa ?_;refine zas ?_;refine zat ?_ zar;refine po_g rfl (zbu ([199,9,4] ++ be 1 (lo64 v.exp) ++ be 8 (lo64 v.num)) (l:=l) (t:=t) rfl ht2 (by omega)) ?_;rintro x _ _ _ ⟨rfl,rfl,rfl⟩;refine zaa ?_;refine zal ?_;refine zaa ?_;refine zaP ?_;exact ⟨⟨rfl,rfl,trivial⟩,nt + 1,by rw [e]; rfl,WrN.step (Nat.le_succ _) fun _ h => mem_cons_of_mem _ h⟩
   refine zat ?_ zar;refine zac rfl (hwide v.num 8 (by omega) wnum) ?_;refine zaa ?_;refine zal ?_;refine zaa ?_;refine zas ?_;refine zat ?_ zar;refine zay (es:=[[.v (.int .u8 199)],[.v (.int .u8 9)],[.v (.int .u8 4)]]) rfl ?_;refine zaa ?_;refine zal ?_;refine mS ?_;refine zax (la:=[199,9,4]) (lb:=be 1 (lo64 v.exp)) rfl rfl rfl (by rw [zab]; simp) ?_;refine zax (la:=[199,9,4] ++ be 1 (lo64 v.exp)) (lb:=be 8 (lo64 v.num)) rfl rfl rfl (by rw [length_append,zab,zab]; simp) ?_;refine zaa ?_;refine zas ?_;refine zat ?_ zar;refine po_g rfl (zbu ([199,9,4] ++ be 1 (lo64 v.exp) ++ be 8 (lo64 v.num)) (l:=l) (t:=t) rfl ht2 (by omega)) ?_;rintro x _ _ _ ⟨rfl,rfl,rfl⟩;refine zaa ?_;refine zal ?_;refine zaa ?_;refine zaP ?_;exact ⟨⟨rfl,rfl,trivial⟩,nt + 1,by rw [e]; rfl,WrN.step (Nat.le_succ _) fun _ h => mem_cons_of_mem _ h⟩
  refine zam rfl rfl (decide_eq_false h4) ?_;refine mF ?_;refine mO ?_;have h9:v.kind = 9:=V.ok_kind9 hk h0 h1 h2 h3 h4 h5 h6 h7 h8;refine zai rfl rfl (decide_eq_true h9) ?_;refine mT ?_;have e:msgHd v = [199,4,6] ++ be 4 (lo64 v.num):=by unfold msgHd; simp [h9]
  have hlen:([199,4,6] ++ be 4 (lo64 v.num)).length <= (msg v).length:=by rw [hM,e]; exact Nat.le_add_right _ _
  refine zbq ?_;refine zal ?_;refine mS ?_;refine mS ?_;refine mL ?_;refine zas ?_;refine zat ?_ ?_
  ·refine zay (es:=[[.v (.int .u8 199)],[.v (.int .u8 4)],[.v (.int .u8 6)]]) rfl ?_
   refine zaa ?_;refine zal ?_;refine mL ?_;refine zas ?_;refine zat ?_ zar;refine zac rfl (hwide v.num 4 (by omega) wnum) ?_;refine zaa ?_;refine zal ?_;refine zax (la:=[199,4,6]) (lb:=be 4 (lo64 v.num)) rfl rfl rfl (by rw [zab]; simp) ?_;refine zaa ?_;refine zas ?_;refine zat ?_ zar;refine po_g rfl (zbu ([199,4,6] ++ be 4 (lo64 v.num)) (l:=l) (t:=t) rfl ht2 (by omega)) ?_;rintro x _ _ _ ⟨rfl,rfl,rfl⟩;refine zaa ?_;refine zal ?_;refine zaa ?_;refine zaP ?_;exact ⟨⟨rfl,rfl,trivial⟩,nt + 1,by rw [e]; rfl,WrN.step (Nat.le_succ _) fun _ h => mem_cons_of_mem _ h⟩
  refine zat ?_ zar;refine zac rfl (hwide v.num 4 (by omega) wnum) ?_;refine zaa ?_;refine zal ?_;refine zaa ?_;refine zas ?_;refine zat ?_ zar;refine zay (es:=[[.v (.int .u8 199)],[.v (.int .u8 4)],[.v (.int .u8 6)]]) rfl ?_;refine zaa ?_;refine zal ?_;refine mS ?_;refine zax (la:=[199,4,6]) (lb:=be 4 (lo64 v.num)) rfl rfl rfl (by rw [zab]; simp) ?_;refine zaa ?_;refine zas ?_;refine zat ?_ zar;refine po_g rfl (zbu ([199,4,6] ++ be 4 (lo64 v.num)) (l:=l) (t:=t) rfl ht2 (by omega)) ?_;rintro x _ _ _ ⟨rfl,rfl,rfl⟩;refine zaa ?_;refine zal ?_;refine zaa ?_;refine zaP ?_;exact ⟨⟨rfl,rfl,trivial⟩,nt + 1,by rw [e]; rfl,WrN.step (Nat.le_succ _) fun _ h => mem_cons_of_mem _ h⟩
 rintro tm bx nt1 live1 ⟨ht0,t1,hbx,hW⟩;obtain ⟨tm0,rfl⟩:=zae ht0;simp only at hbx hW; subst hbx
 clear ht0;refine mO ?_;(iterate 2 refine mS ?_);refine zaK (n:=v.kids.length) rfl rfl hvlen ?_;refine mN ?_;refine zag ?_;refine zaz (PmL v l t nt live) v.kids.length ⟨0,Nat.zero_le _,by simp,⟨rfl,rfl,rfl,rfl,trivial⟩,t1,[],by rw [take_zero]; show [bldC 0 t1 (l ++ msgHd v),vC v] = [bldC 0 t1 (l ++ (msgHd v ++ [])),vC v]; rw [append_nil],hW⟩ ?_;rintro m tm bx n2 live2 ⟨i,hi,rfl,ht0,t2,rest,hbx,hV⟩;obtain ⟨tm0,rfl⟩:=zae ht0;simp only at hbx hV; subst hbx
 clear ht0;refine mO ?_;refine po_b rfl rfl (fun b hb => ?_);refine zaa ?_;refine zah ?_;refine zbe (p:=(i:Int) < (v.kids.length:Int)) hb rfl (fun h _ => ?_) (fun h _ => ?_)
 ·have hil:i < v.kids.length:=by omega
  have hT1:=zf6 hil;have hL:=zc9 (i + 1) v.kids;rw [hT1,length_append] at hL;refine zaj ?_;refine zah (zag (zah (zad ?_)));refine zaW (es:=vK v.kids) (e:=vC v.kids[i]) rfl rfl rfl ⟨by omega,by rw [Int.toNat_natCast]; exact zco hil⟩ rfl ?_;refine mS ?_;refine zb5 (cs:=vC v.kids[i]) rfl rfl rfl rfl ?_;refine zaa ?_;refine zad ?_;refine mS ?_;refine zbb (cs:=vC v.kids[i]) (v:=.ag (vC v.kids[i])) rfl rfl (za3 (bldC 0 t2 (l ++ (msgHd v ++ msgs (v.kids.take i))) :: vC v :: rest) _) (Nat.le_refl 5) rfl ?_;refine po_g rfl (FnG.liftM (p:=0) (hkid i hil t2 n2 live2 (l ++ (msgHd v ++ msgs (v.kids.take i))) hV.1 (by simp only [length_append] at *; omega)) ⟨lw_vC _,trivial⟩ (zfC _ _) rfl) ?_;rintro x _ n3 live3 ⟨c',rfl,t3,rfl,hW2⟩;refine zaa ?_;refine zad ?_;refine zaq (n:=((i + 1:Nat):Int)) rfl rfl rfl (by omega) (by omega) ?_
  refine mN ?_;refine ⟨v.kids.length - (i + 1),by omega,i + 1,hil,rfl,⟨rfl,rfl,rfl,rfl,trivial⟩,t3,rest ++ [vC v.kids[i]],?_,hV.trans hW2⟩;rw [hT1]; simp only [append_assoc]; rfl
 ·refine zaH ?_
  have hie:i = v.kids.length:=by omega
  subst hie;refine ⟨.inl rfl,[],rfl,_,_,rfl,?_,zfC t2 _,t2,?_,hV⟩
  ·trivial
  ·rw [take_length,zec]
theorem pm_all:∀ (N:Nat) (v:V),v.nodes <= N -> v.wf -> v.ok = true -> PmG T hT v
 | 0,v,hn,_,_ => by obtain ⟨k,n,e,s,kids⟩:=v; simp only [V.nodes] at hn; omega
 | N + 1,v,hn,hw,hk => pm_step hw hk fun i h => pm_all N v.kids[i] (V.nodes_kid hn i h) (V.wf_kid hw i h) (V.ok_kid hk i h)
theorem V.ok_right {v:V} (h:v.ok = true):v.rightBy pairsOk 12 = true:=by
 unfold V.ok at h; simp only [Bool.and_eq_true] at h; exact h.1
theorem msg_ne {v:V} (hw:v.wf) (h:v.ok = true):msg v ≠ []:=by
 obtain ⟨b,t,_,_,e⟩:=zel (V.ok_right h) (V.ok_len h) (V.wf_num hw);rw [e]; exact fun h => by cases h
theorem putMsgI_fn (hTab:∀ w,T w -> Tabs w) (v:V) (hw:v.wf) (hb:v.bulk <= 4294967295):FnV (env T hT) 128 [.ag (vC v)] (.d (pS (msgTop v))):=by
 have hvok:=voki_fn (T:=T) (hT:=hT) hTab v hw hb;have hpm:=fun hk => pm_all (T:=T) (hT:=hT) v.nodes v lR hw hk
 refine zaV (zak zhz) (by show 1 <= 10; decide) fun B hB => ?_
 unfold m_i_PutMsg;refine mP ?_;refine mM ?_;refine mS ?_;refine zac (zc6 v) hvok ?_;refine mN ?_;unfold msgTop;by_cases hk:v.ok = true
 ·rw [if_pos hk,hk]
  refine mwF ?_;refine zaj ?_;refine mO ?_;refine po_zbld ?_;refine zaa ?_;refine mQ ?_;have hml:=V.ok_msg hk;refine po_g rfl (FnG.liftM (p:=1) (hpm hk 1 _ _ [] (.inl rfl) (by rw [zec,length_append]; simp only [length_nil]; omega)) ⟨lw_vC _,trivial⟩ (zfC 1 []) rfl) ?_;rintro x _ n1 live1 ⟨c',rfl,t1,rfl,hW⟩;refine zaa ?_;refine mO ?_;refine po_g rfl (bstr_fn (p:=1) (t:=t1) (l:=[] ++ msg v) (msg_ne hw hk) rfl hW.1) ?_;rintro x _ _ _ ⟨rfl,rfl,rfl,rfl⟩;refine mN ?_;exact mR
 ·have hk':v.ok = false:=by simpa using hk
  rw [if_neg hk,hk'];refine mwT ?_;refine mP ?_;exact mR
theorem headI_fn (m n:Int) (hm:0 <= m /\ m <= 7) (hn:0 <= n /\ n <= 18446744073709551615):FnV (env T hT) 132 [.d (pI m),.d (.v (.int .u64 n))] (.d (pS (hd m.toNat n.toNat))):=by
 refine FnV.old rfl fun w C vs hF _ _ hlen hv => ?_
 match vs,hlen with
 | [x,y],_ =>
  have h1:=zbj (hv 0 _ _ rfl rfl); have h2:=zbj (hv 1 _ _ rfl rfl)
  subst h1; subst h2
  exact zdG m n w hm hn
def DnI (ns:List (L8)) (vs:List V) (m:Nat) (s:St):Prop:=∃ i t:Nat,i <= ns.length /\ m = ns.length - i /\ has s.tm [(1,.ref 0 0),(3,.ref 1 0),(15,.d (pSs ns)),(16,.d (pI ns.length)),(17,.d (pI i))] /\ s.bx = [dC ns vs,bldC 1 t (hd 4 ns.length ++ nmsT (ns.take i))] /\ (t = 1 \/ t ∈ s.live)
def DvI (ns:List (L8)) (vs:List V) (m:Nat) (s:St):Prop:=∃ (i t:Nat) (rest:LP PC),i <= vs.length /\ m = vs.length - i /\ has s.tm [(3,.ref 1 0),(36,.d (.sl 0 (vK vs))),(37,.d (pI vs.length)),(38,.d (pI i))] /\ s.bx = dC ns vs :: bldC 1 t (hd 4 ns.length ++ nmsT ns ++ hd 4 vs.length ++ msgs (vs.take i)) :: rest /\ (t = 1 \/ t ∈ s.live)
theorem zeu (ns:List (L8)) (vs:List V) (hn:nmsB ns = true) (hv:tabB vs = true) (d4:∀ v ∈ vs,v.wf):FnV (env T hT) 69 [.ag (dC ns vs)] (.d (pS (dictT ns vs))):=by
 have hhd:=fun (m n:Nat) (h:m <= 7 /\ n <= 18446744073709551615) => headI_fn (T:=T) (hT:=hT) m n (by omega) (by omega)
 obtain ⟨n1,n2⟩:=zfv hn;obtain ⟨v1,v2⟩:=zfu hv;have hd4:=za9 4 ns.length;have hd4v:=za9 4 vs.length;have ht0:=zcD hn;have hm0:=zeS hv;have htN:=zcD hn ns.length;rw [take_length] at htN;refine zaV (zak zgt) (by show 1 <= 46; decide) fun B hB => ?_
 unfold m_i_putDict;refine mP ?_;refine mO ?_;refine po_zbld ?_;refine zaa ?_;refine mO ?_;(iterate 2 refine mS ?_);refine zaK (n:=ns.length) rfl rfl (za0 ns) ?_;refine zbs (n:=(ns.length:Int)) rfl rfl (by rw [IntKind.wrap_u64]; omega) ?_;refine zac (args:=[.d (pI (4:Nat)),.d (.v (.int .u64 (ns.length:Nat)))]) rfl (hhd 4 ns.length (by omega)) ?_;refine po_g rfl (zbu (hd 4 ns.length) (p:=1) (l:=[]) (t:=1) rfl (.inl rfl) (by simp only [length_nil]; omega)) ?_;rintro x b2 nt2 l2 ⟨rfl,rfl,rfl⟩;refine zaa ?_;refine zau (fun s => has s.tm [(1,.ref 0 0),(3,.ref 1 0)] /\ ∃ t,s.bx = [dC ns vs,bldC 1 t (hd 4 ns.length ++ nmsT ns)] /\ (t = 1 \/ t ∈ s.live)) ?_ ?_
 ·refine mO ?_
  (iterate 2 refine mS ?_);refine zaK (n:=ns.length) rfl rfl (za0 ns) ?_;refine mN ?_;refine zag ?_;refine zaz (DnI ns vs) ns.length ⟨0,_,Nat.zero_le _,rfl,⟨rfl,rfl,rfl,rfl,rfl,trivial⟩,by rw [take_zero]; show _ = [dC ns vs,bldC 1 _ (hd 4 ns.length ++ [])]; rw [append_nil]; rfl,.inr (mem_cons_self ..)⟩ ?_;rintro m tm bx nt live ⟨i,t,hi,rfl,ht,hbx,htl⟩;obtain ⟨tm0,rfl⟩:=zae ht;simp only at hbx htl; subst hbx
  refine mO ?_;refine po_b rfl rfl (fun b hb => ?_);refine zaa ?_;refine zah ?_;refine zbe (p:=(i:Int) < ns.length) hb rfl (fun h _ => ?_) (fun h _ => ?_)
  ·have hil:i < ns.length:=by omega
   have hnl:=n2 _ (getElem_mem hil);have hh3:=za9 3 ns[i].length;have hti:=ht0 i;refine zaj ?_;refine zah (zag (zah (zad ?_)));refine zaW (es:=pSr ns) (e:=[pS ns[i]]) rfl rfl rfl ⟨by omega,by rw [Int.toNat_natCast]; exact zbz hil⟩ rfl ?_;refine mN ?_;refine zad ?_;refine mS ?_;refine po_q (v:=.d (pI ns[i].length)) rfl rfl ?_;refine zbs (n:=(ns[i].length:Int)) rfl rfl (by rw [IntKind.wrap_u64]; omega) ?_;refine zac (args:=[.d (pI (3:Nat)),.d (.v (.int .u64 (ns[i].length:Nat)))]) rfl (hhd 3 ns[i].length (by omega)) ?_;refine mS ?_;refine zax (la:=hd 3 ns[i].length) (lb:=ns[i]) rfl rfl rfl (by omega) ?_;refine po_g rfl (zbu (hd 3 ns[i].length ++ ns[i]) (p:=1) (l:=hd 4 ns.length ++ nmsT (ns.take i)) (t:=t) rfl htl (by simp only [length_append]; omega)) ?_;rintro x b3 nt3 l3 ⟨rfl,rfl,rfl⟩;refine zaa ?_;refine zad ?_;refine zaq (n:=((i + 1:Nat):Int)) rfl rfl rfl (by omega) (by omega) ?_
   refine mN ?_;exact ⟨ns.length - (i + 1),by omega,i + 1,_,hil,rfl,⟨rfl,rfl,rfl,rfl,rfl,trivial⟩,by rw [show hd 4 ns.length ++ nmsT (ns.take (i + 1)) = hd 4 ns.length ++ nmsT (ns.take i) ++ (hd 3 ns[i].length ++ ns[i]) by rw [zgm hil,append_assoc]]; rfl,.inr (mem_cons_self ..)⟩
  ·refine zaH ?_
   have:i = ns.length:=by omega
   subst this;exact ⟨⟨rfl,rfl,trivial⟩,t,by rw [take_length],htl⟩
 rintro tm bx nt live ⟨ht,t,hbx,htl⟩;obtain ⟨tm0,rfl⟩:=zae ht;simp only at hbx htl; subst hbx
 clear ht;refine mO ?_;(iterate 2 refine mS ?_);refine zaK (n:=vs.length) rfl rfl (zbh vs) ?_;refine zbs (n:=(vs.length:Int)) rfl rfl (by rw [IntKind.wrap_u64]; omega) ?_;refine zac (args:=[.d (pI (4:Nat)),.d (.v (.int .u64 (vs.length:Nat)))]) rfl (hhd 4 vs.length (by omega)) ?_;refine po_g rfl (zbu (hd 4 vs.length) (p:=1) (l:=hd 4 ns.length ++ nmsT ns) (t:=t) rfl htl (by simp only [length_append]; omega)) ?_;rintro x b2 nt2 l2 ⟨rfl,rfl,rfl⟩;refine zaa ?_;refine zau (fun s => has s.tm [(3,.ref 1 0)] /\ ∃ t rest,s.bx = dC ns vs :: bldC 1 t (dictT ns vs) :: rest /\ (t = 1 \/ t ∈ s.live)) ?_ ?_
 ·refine mO ?_
  (iterate 2 refine mS ?_);refine zaK (n:=vs.length) rfl rfl (zbh vs) ?_;refine mN ?_;refine zag ?_;refine zaz (DvI ns vs) vs.length ⟨0,_,[],Nat.zero_le _,rfl,⟨rfl,rfl,rfl,rfl,trivial⟩,by rw [take_zero]; show _ = [dC ns vs,bldC 1 _ (hd 4 ns.length ++ nmsT ns ++ hd 4 vs.length ++ [])]; rw [append_nil]; rfl,.inr (mem_cons_self ..)⟩ ?_;rintro m tm bx nt live ⟨i,t,rest,hi,rfl,ht,hbx,htl⟩;obtain ⟨tm0,rfl⟩:=zae ht;simp only at hbx htl; subst hbx
  refine mO ?_;refine po_b rfl rfl (fun b hb => ?_);refine zaa ?_;refine zah ?_;refine zbe (p:=(i:Int) < vs.length) hb rfl (fun h _ => ?_) (fun h _ => ?_)
  ·have hil:i < vs.length:=by omega
   have hmem:=getElem_mem hil;have hok:=v2 _ hmem;have hmi:=hm0 i;have hml:=zem hok;have hpm:=pm_all (T:=T) (hT:=hT) vs[i].nodes vs[i] lR (d4 _ hmem) hok;refine zaj ?_;refine zah (zag (zah (zad ?_)));refine zaW (es:=vK vs) (e:=vC vs[i]) rfl rfl rfl ⟨by omega,by rw [Int.toNat_natCast]; exact zco hil⟩ rfl ?_;refine po_q (v:=.ag (vC vs[i])) rfl rfl ?_;refine zb5 (cs:=vC vs[i]) rfl rfl rfl rfl ?_;refine zaa ?_;refine zad ?_;refine zbb (cs:=vC vs[i]) (v:=.ag (vC vs[i])) rfl rfl (za3 (dC ns vs :: bldC 1 t (hd 4 ns.length ++ nmsT ns ++ hd 4 vs.length ++ msgs (vs.take i)) :: rest) _) (Nat.le_of_ble_eq_true rfl) rfl ?_;refine po_g rfl (FnG.liftM (p:=1) (hpm t nt live (hd 4 ns.length ++ nmsT ns ++ hd 4 vs.length ++ msgs (vs.take i)) htl (by simp only [length_append]; omega)) ⟨lw_vC _,trivial⟩ (zfC _ _) rfl) ?_;rintro x b3 nt3 l3 ⟨c',rfl,t3,rfl,hW2⟩
   refine zaa ?_;refine zad ?_;refine zaq (n:=((i + 1:Nat):Int)) rfl rfl rfl (by omega) (by omega) ?_;refine mN ?_;exact ⟨vs.length - (i + 1),by omega,i + 1,t3,rest ++ [vC vs[i]],hil,rfl,⟨rfl,rfl,rfl,rfl,trivial⟩,by rw [zeQ hil,<- append_assoc]; rfl,hW2.1⟩
  ·refine zaH ?_
   have:i = vs.length:=by omega
   subst this;exact ⟨⟨rfl,trivial⟩,t,rest,by rw [take_length]; rfl,htl⟩
 rintro tm bx nt live ⟨ht,t,rest,hbx,htl⟩;obtain ⟨tm0,rfl⟩:=zae ht;simp only at hbx htl; subst hbx
 have hne:dictT ns vs ≠ []:=fun h => by have:=zgn ns vs; rw [h] at this; simp at this
 refine mO ?_;refine po_g rfl (bstr_fn (p:=1) (t:=t) (l:=dictT ns vs) hne rfl htl) ?_;rintro x _ _ _ ⟨rfl,rfl,rfl,rfl⟩;refine mN ?_;exact mR
theorem dats_d {ns:List (L8)} {vs:List V} {cs:List PC} {a:PV} (ha:a = .ag cs) (he:erL cs = dC ns vs):PV.dats [a] = some [.ag (dC ns vs)]:=by subst ha; exact zf3 he
theorem dictOkI_fn (hTab:∀ w,T w -> Tabs w) (ns:List (L8)) (vs:List V) (hD:DSm ns vs):FnV (env T hT) 68 [.ag (dC ns vs)] (.d (pB (dictB ns vs))):=by
 obtain ⟨d1,d2,d3,d4,d5⟩:=hD;have hnm:=zhy (T:=T) (hT:=hT) hTab ns d1 d2;have htb:=zhG (T:=T) (hT:=hT) hTab vs d3 d4 d5;refine zaV (zak zhu) (by show 1 <= 17; decide) fun B hB => ?_
 unfold m_i_DictOk;refine mP ?_;refine mO ?_;(iterate 2 refine mS ?_);refine zac (nms_arg ns) hnm ?_;refine mS ?_;unfold dictB
 cases hn:nmsB ns with
 | false =>
  refine mZ ?_;(iterate 2 refine mS ?_);refine mZ ?_;refine mN ?_
  exact mR
 | true =>
 (iterate 2 refine mS ?_);refine zaI (b:=true) (args:=[.d (.sl 0 (vK vs))]) rfl (fun _ => dats_tab rfl) (fun _ => htb) ?_;(iterate 2 refine mS ?_)
 cases hv:tabB vs with
 | false =>
  refine mZ ?_;refine mN ?_
  exact mR
 | true =>
 refine zbb (p:=0) (cs:=dC ns vs) (v:=.ag (dC ns vs)) rfl rfl rfl (Nat.le_of_ble_eq_true rfl) rfl ?_;refine zaI (b:=true) (args:=[.ag (dC ns vs)]) rfl (fun _ => dats_d rfl (dC_er ns vs)) (fun _ => zeu ns vs hn hv d4) ?_;refine po_q (v:=.d (pI (dictT ns vs).length)) rfl rfl ?_;refine po_b rfl rfl (fun b hb => ?_);refine mN ?_
 have:(true && true && decide ((dictT ns vs).length <= 60000)) = b:=by rw [hb]; simp only [Bool.true_and]; exact decide_eq_decide.2 (by omega)
 rw [this];exact mR
def GotU (s:L8) (d:Int) (a cnt:Nat) (bad:Bool) (nt:Nat) (live:List Nat) (x:PV) (a' cnt':Nat) (bad':Bool) (nt':Nat) (live':List Nat):Prop :=
 ∃ cs:List PC,x = .ag cs /\ cs.length = 5 /\ NewL nt nt' cs /\ (∀ t ∈ toksL cs,t ∈ live') /\ (∀ t ∈ live,2 <= t -> t < nt -> t ∈ live') /\ nt <= nt' /\ (a <= a' /\ a' <= s.length /\ cnt' <= 301) /\ (bad = true -> bad' = true) /\
 (bad' = false -> cnt' <= 300 /\ ∃ u:V,erL cs = vC u /\ u.wf /\ a < a' /\ u.bulk + 1 <= 2 * (a' - a)) /\
 (bad = false -> ∀ v:V,v.wf -> v.rightBy pairsOk (12 - d) = true -> cnt + v.nodes <= 300 -> At s a (msg v) -> bad' = false /\ a' = a + (msg v).length /\ erL cs = vC v /\ cnt' = cnt + v.nodes)
def ValU (T:World -> Prop) (hT:Low ngl T) (s:L8) (d:Int):Prop:=∀ (a cnt:Nat) (bad:Bool) (nt:Nat) (live:List Nat),a <= s.length -> cnt <= 300 -> 2 <= nt ->
 FnG (env T hT) 127 [.ref 0 0,.d (pI d)] [uC s a cnt bad] nt live (fun x b n l => ∃ c' rest,b = c' :: rest /\ x.lw 0 /\ lwL 0 c' /\ ∃ a' cnt' bad',c' = uC s a' cnt' bad' /\ GotU s d a cnt bad nt live x a' cnt' bad' n l)
def GotM (s:L8) (d many:Int) (a cnt:Nat) (bad:Bool) (nt:Nat) (live:List Nat) (x:PV) (a' cnt':Nat) (bad':Bool) (nt':Nat) (live':List Nat):Prop :=
 ∃ (tk:Nat) (rows:LP PC),x = .d (.sl tk rows) /\ NewL nt nt' [.sl tk rows] /\ (∀ t ∈ toksL [.sl tk rows],t ∈ live') /\ (∀ t ∈ live,2 <= t -> t < nt -> t ∈ live') /\ nt <= nt' /\ (a <= a' /\ a' <= s.length /\ cnt' <= 301) /\ (bad = true -> bad' = true) /\
 (bad' = false -> cnt' <= 300 /\ ∃ vs:List V,erLL rows = vK vs /\ V.wfs vs /\ (vs.length:Int) = many /\ V.bulks vs + vs.length <= 2 * (a' - a)) /\
 (bad = false -> ∀ us:List V,V.wfs us -> V.rightsBy pairsOk (12 - d) us = true -> cnt + V.nodess us <= 300 -> (us.length:Int) = many -> At s a (msgs us) -> bad' = false /\ a' = a + (msgs us).length /\ erLL rows = vK us /\ cnt' = cnt + V.nodess us)
def MnP (s:L8) (d many:Int) (a cnt:Nat) (bad:Bool) (k:Nat) (rows:LP PC) (a1 cnt1:Nat) (bad1:Bool):Prop :=
 rows.length = k /\ (∀ e ∈ rows,e.length = 5) /\ (a <= a1 /\ a1 <= s.length /\ cnt1 <= 301) /\ (bad = true -> bad1 = true) /\
 (bad1 = false -> cnt1 <= 300 /\ ∃ vs:List V,erLL rows = vK vs /\ V.wfs vs /\ V.bulks vs + vs.length <= 2 * (a1 - a)) /\
 (bad = false -> ∀ us:List V,V.wfs us -> V.rightsBy pairsOk (12 - d) us = true -> cnt + V.nodess us <= 300 -> (us.length:Int) = many -> At s a (msgs us) -> bad1 = false /\ erLL rows = vK (us.take k) /\ a1 = a + (msgs (us.take k)).length /\ cnt1 = cnt + V.nodess (us.take k))
def MnI (s:L8) (d many:Int) (a cnt:Nat) (bad:Bool) (nt:Nat) (live:List Nat) (m:Nat) (st:St):Prop:=∃ (k tk:Nat) (rows:LP PC) (a1 cnt1:Nat) (bad1:Bool),(k:Int) <= many /\ (m:Int) = many - k /\
 has st.tm [(0,.ref 0 0),(1,.d (pI (many - k))),(2,.d (pI d)),(7,.d (.sl tk rows))] /\ st.bx = [uC s a1 cnt1 bad1] /\ 2 <= tk /\ OwnL st.nt st.live ([] ++ .sl tk rows :: []) /\ (∀ t ∈ toksL [.sl tk rows],nt <= t) /\ nt <= st.nt /\ (∀ t ∈ live,2 <= t -> t < nt -> t ∈ st.live) /\ MnP s d many a cnt bad k rows a1 cnt1 bad1
theorem many_g {s:L8} (_hs:s.length <= 2147483647) {d:Int} (hV:ValU T hT s d) (many:Int) (hm:0 <= many /\ many <= 131072) (a cnt:Nat) (bad:Bool) (nt:Nat) (live:List Nat) (ha:a <= s.length) (hcnt:cnt <= 300) (hnt:2 <= nt) :
  FnG (env T hT) 168 [.ref 0 0,.d (pI many),.d (pI d)] [uC s a cnt bad] nt live (fun x b n l => ∃ c' rest,b = c' :: rest /\ x.lw 0 /\ lwL 0 c' /\ ∃ a' cnt' bad',c' = uC s a' cnt' bad' /\ GotM s d many a cnt bad nt live x a' cnt' bad' n l):=by
 refine zaU (zak zdj) (by show 3 <= 27; decide) fun B hB => ?_
 unfold m_i_unpacker_many;refine mP ?_;refine mO ?_;refine zay (es:=[]) rfl ?_;refine mN ?_;refine zau (fun st => ∃ (tk:Nat) (rows:LP PC) (a1 cnt1:Nat) (bad1:Bool),has st.tm [(0,.ref 0 0),(7,.d (.sl tk rows))] /\ st.bx = [uC s a1 cnt1 bad1] /\ GotM s d many a cnt bad nt live (.d (.sl tk rows)) a1 cnt1 bad1 st.nt st.live) ?_ ?_
 ·refine zag ?_
  refine zaz (MnI s d many a cnt bad nt live) many.toNat ⟨0,nt,[],a,cnt,bad,hm.1,by omega,⟨rfl,by rw [show many - ((0:Nat):Int) = many by omega]; rfl,rfl,rfl,trivial⟩,rfl,hnt,⟨by simp [ownedL,PC.owned,ownedLL],by simp [toksL,zaF hnt,toksLL],fun t ht => by
    have:t = nt:=by simpa [toksL,zaF hnt,toksLL] using ht
    subst this; exact ⟨mem_cons_self ..,Nat.lt_succ_self _⟩⟩,(fun t ht => by
    have:t = nt:=by simpa [toksL,zaF hnt,toksLL] using ht
    omega),Nat.le_succ _,fun t ht _ _ => mem_cons_of_mem _ ht,rfl,(fun e he => by cases he),⟨lR,ha,by omega⟩,fun h => h,fun _ => ⟨hcnt,[],rfl,trivial,by simp [V.bulks]⟩,fun hb us _ _ _ _ _ => ⟨hb,by simp [erLL,vK],by simp [msgs],by simp [V.nodess]⟩⟩ ?_
  rintro m tm bx n1 l1 ⟨k,tk,rows,a1,cnt1,bad1,hk,hmk,ht,hbx,htk2,hown,hge,hn1,hlv,hrl,hrw,⟨haa,has1,hc1⟩,hbb,hgood,hcp⟩;obtain ⟨tm0,rfl⟩:=zae ht;simp only at hbx hown hn1 hlv; subst hbx
  clear ht
  have hdone:∀ (hx:bad1 = true \/ (k:Int) = many),∃ (tk':Nat) (rows':LP PC) (a1' cnt1':Nat) (bad1':Bool),tk' = tk /\ rows' = rows /\ a1' = a1 /\ cnt1' = cnt1 /\ bad1' = bad1 /\ GotM s d many a cnt bad nt live (.d (.sl tk rows)) a1 cnt1 bad1 n1 l1:=fun hx =>
   ⟨tk,rows,a1,cnt1,bad1,rfl,rfl,rfl,rfl,rfl,tk,rows,rfl,⟨hown.own,hown.nd,fun t ht => ⟨hge t ht,(hown.mem t ht).2⟩⟩,fun t ht => (hown.mem t ht).1,hlv,hn1,⟨haa,has1,hc1⟩,hbb,(fun hb => by
    obtain ⟨q1,vs,q2,q3,q4⟩:=hgood hb
    have:vs.length = rows.length:=by have:=zcz q2; rw [zbh] at this; omega
    exact ⟨q1,vs,q2,q3,by rcases hx with hx | hx; (rw [hb] at hx; cases hx); omega,q4⟩),fun hb us h1 h2 h3 h4 h5 => by
    obtain ⟨e1,e2,e3,e4⟩:=hcp hb us h1 h2 h3 h4 h5
    have hkm:(k:Int) = many:=by
     rcases hx with hx | hx
     ·rw [hx] at e1; cases e1
     ·exact hx
    have:us.take k = us:=take_of_length_le (by omega)
    rw [this] at e2 e3 e4;exact ⟨e1,e3,e2,e4⟩⟩
  refine zah ?_;refine zau (fun st => has st.tm [(0,.ref 0 0),(1,.d (pI (many - k))),(2,.d (pI d)),(7,.d (.sl tk rows)),(17,.d (pB (decide ((k:Int) < many) && !bad1)))] /\ st.bx = [uC s a1 cnt1 bad1] /\ st.nt = n1 /\ st.live = l1) ?_ ?_
  ·refine zad ?_
   refine mS ?_;by_cases hlt:(k:Int) < many
   ·refine zai rfl rfl (decide_eq_true (show many - (k:Int) > 0 by omega)) ?_
    refine mN ?_;exact ⟨⟨rfl,rfl,rfl,rfl,by rw [decide_eq_true hlt]; rfl,trivial⟩,rfl,rfl,rfl⟩
   ·refine zam rfl rfl (decide_eq_false (show ¬ many - (k:Int) > 0 by omega)) ?_
    refine mS ?_;refine mZ ?_;refine mN ?_;exact ⟨⟨rfl,rfl,rfl,rfl,by rw [decide_eq_false hlt]; rfl,trivial⟩,rfl,rfl,rfl⟩
  rintro tm bx n1' l1' ⟨ht,hb',hn',hl'⟩;simp only at hb' hn' hl'; subst hb'; subst n1'; subst l1'
  obtain ⟨tm1,rfl⟩:=zae ht;clear ht;refine zaO (t:=decide ((k:Int) < many) && !bad1) rfl (fun hc => ?_) (fun hc => ?_)
  ·simp only [Bool.and_eq_true,decide_eq_true_eq,Bool.not_eq_true'] at hc
   obtain ⟨hlt,rfl⟩:=hc;clear hdone;obtain ⟨hc300,vs,hvr,hvw,hvb⟩:=hgood rfl;clear hgood;have hb0:bad = false:=by cases bad with | false => rfl | true => cases hbb rfl
   refine zaj ?_;refine zah (zag (zad ?_));(iterate 3 refine mS ?_);refine po_g rfl (FnG.lift1 (p:=0) (hV a1 cnt1 false n1 l1 has1 hc300 (by omega)) (args:=[.d (pI d)]) ⟨trivial,trivial⟩ (za5 _ _ _ _) rfl) ?_;rintro x _ n2 l2 ⟨c',rfl,a2,cnt2,bad2,rfl,cs,rfl,hc5,hnew,hctk,hlv2,hn2,⟨ha2,ha2s,hc2⟩,_,hg2,hcomp⟩
   refine zay (es:=[cs]) (by
    show (if cs.length = 5 then some [cs] else none) = some [cs];rw [if_pos hc5]) ?_
   have hmem:tk ∈ l2:=by
    have h1:=(hown.mem tk (by simp [toksL,zaF htk2]));exact hlv2 tk h1.1 htk2 h1.2
   refine zcL (t:=tk) (t':=n2) (es:=rows) (ds:=[cs]) rfl rfl (.inr (mem_cons_of_mem _ hmem)) (by simp only [length_singleton]; omega) (fun e he => by simp only [mem_singleton] at he; subst he; exact hc5) hrw ?_;refine mN ?_;refine zad ?_;refine mS ?_;refine zaQ (n:=many - ((k + 1:Nat):Int)) rfl rfl rfl (by omega) (by omega) ?_;refine mN ?_;have h0:OwnL n1 (l1.filter (fun t => decide (t < n1))) ([] ++ .sl tk rows :: []):=⟨hown.own,hown.nd,fun t ht => ⟨mem_filter.2 ⟨(hown.mem t ht).1,decide_eq_true (hown.mem t ht).2⟩,(hown.mem t ht).2⟩⟩
   have hpush:OwnL (n2 + 2) ((n2 + 1) :: (n2 :: l2).filter (· != tk)) ([] ++ .sl (n2 + 1) (rows ++ [cs]) :: []):=by
    have:=h0.pushA (nt':=n2 + 1) (e:=cs) (.inr htk2) (by omega) hnew.own hnew.nd (fun t ht => by have:=hnew.mem t ht; omega) (by omega)
    refine this.mono2 (by omega) fun t ht h22 hlt => ?_
    rcases mem_cons.1 ht with rfl | ht
    ·exact mem_cons_self ..
    ·obtain ⟨m1,m2⟩:=mem_filter.1 ht
     refine mem_cons_of_mem _ (mem_filter.2 ⟨?_,m2⟩)
     rcases mem_append.1 m1 with m1 | m1
     ·exact mem_cons_of_mem _ (hctk t m1)
     ·obtain ⟨m3,m4⟩:=mem_filter.1 m1
      exact mem_cons_of_mem _ (hlv2 t m3 h22 (of_decide_eq_true m4))
   have htkn:nt <= tk:=hge tk (by simp [toksL,zaF htk2]);refine ⟨m - 1,by omega,k + 1,n2 + 1,rows ++ [cs],a2,cnt2,bad2,by omega,by omega,⟨rfl,rfl,rfl,rfl,trivial⟩,rfl,by omega,hpush,?_,(show nt <= n2 + 2 by omega),?_,by simp [hrl],?_,⟨by omega,ha2s,hc2⟩,(fun h => by rw [hb0] at h; cases h),?_,?_⟩
   ·intro t ht
    have ht:t ∈ PC.toks (.sl (n2 + 1) (rows ++ [cs])):=by simpa [toksL] using ht
    rw [zaF (by omega),zaZ] at ht
    rcases mem_cons.1 ht with rfl | ht
    ·omega
    ·rcases mem_append.1 ht with ht | ht
     ·exact hge t (by simp [toksL,zaF htk2,ht])
     ·have ht:t ∈ toksL cs:=by simpa [toksLL] using ht
      have:=hnew.mem t ht; omega
   ·intro t ht h22 hlt
    refine mem_cons_of_mem _ (mem_filter.2 ⟨mem_cons_of_mem _ (hlv2 t (hlv t ht h22 hlt) h22 (by omega)),?_⟩);simp only [bne_iff_ne,ne_eq]; omega
   ·intro e he
    rcases mem_append.1 he with he | he
    ·exact hrw e he
    ·simp only [mem_singleton] at he; subst he; exact hc5
   ·intro hb2
    obtain ⟨r1,u,r2,r3,r4,r5⟩:=hg2 hb2;refine ⟨r1,vs ++ [u],?_,V.wfs_app hvw ⟨r3,trivial⟩,?_⟩
    ·rw [zbI,hvr,zb4,zb4,map_append]; simp only [erLL,r2]; rfl
    ·rw [V.bulks_app,length_append]; simp only [V.bulks,length_singleton]; omega
   ·intro _ us h3 h4 h5 h6 h8
    obtain ⟨_,e1,e2,e3⟩:=hcp hb0 us h3 h4 h5 h6 h8;have hku:k < us.length:=by omega
    have hA:=zhs h8 k hku;rw [<- e2] at hA;have hnd:=nodess_take us k hku;have h4':=h4;rw [V.rightsBy_all,all_eq_true] at h4';obtain ⟨q1,q2,q3,q4⟩:=hcomp rfl us[k] (V.wfs_get h3 k hku) (h4' _ (getElem_mem hku)) (by omega) hA;refine ⟨q1,?_,?_,?_⟩
    ·rw [zbI,e1,take_succ_eq_append_getElem hku,zb4,zb4,map_append]; simp only [erLL,q3]; rfl
    ·rw [take_succ_eq_append_getElem hku,zc8,length_append]; omega
    ·rw [take_succ_eq_append_getElem hku,V.nodess_app]; simp only [V.nodess]; omega
  ·refine zaH ?_
   obtain ⟨_,_,_,_,_,rfl,rfl,rfl,rfl,rfl,hG⟩:=hdone (by
    simp only [Bool.and_eq_false_iff,decide_eq_false_iff_not,Bool.not_eq_false'] at hc
    rcases hc with hc | hc
    ·exact .inr (by omega)
    ·exact .inl hc)
   exact ⟨_,_,_,_,_,⟨rfl,rfl,trivial⟩,rfl,hG⟩
 rintro tm bx n1 l1 ⟨tk,rows,a1,cnt1,bad1,ht,rfl,hG⟩;obtain ⟨tm0,rfl⟩:=zae ht;refine mP ?_
 have hlw:PV.lw 0 (.d (.sl tk rows)):=by
  obtain ⟨tk',rows',e,hN,_⟩:=hG;simp only [PV.d.injEq] at e;rw [<- e] at hN;exact (zaC hN.own).1
 exact zaf ⟨.inr rfl,[.d (.sl tk rows)],rfl,_,_,rfl,hlw,za5 _ _ _ _,a1,cnt1,bad1,rfl,hG⟩
def GotXU (s:L8) (d:Int) (p cnt:Nat) (bad:Bool) (nt:Nat) (live:List Nat) (x:PV) (a' cnt':Nat) (bad':Bool) (nt':Nat) (live':List Nat):Prop :=
 ∃ cs:List PC,x = .ag cs /\ cs.length = 5 /\ NewL nt nt' cs /\ (∀ t ∈ toksL cs,t ∈ live') /\ (∀ t ∈ live,2 <= t -> t < nt -> t ∈ live') /\ nt <= nt' /\ (p <= a' /\ a' <= s.length /\ cnt' <= 301) /\ (bad = true -> bad' = true) /\
 (bad' = false -> cnt' <= 300 /\ ∃ u:V,erL cs = vC u /\ u.wf /\ u.bulk <= 1 + 2 * (a' - p)) /\
 (bad = false -> ∀ (v:V) (t0:L8),v.wf -> v.rightBy pairsOk (12 - d) = true -> cnt + v.nodes <= 301 -> MsgTop v 199 t0 -> At s p t0 -> bad' = false /\ a' = p + t0.length /\ erL cs = vC v /\ cnt' + 1 = cnt + v.nodes)
theorem zdx {s:L8} {d:Int} {p cnt a':Nat} {bad:Bool} {nt nt':Nat} {live live':List Nat} (hn:nt <= nt') (hlv:∀ t ∈ live,2 <= t -> t < nt -> t ∈ live') (ha:p <= a' /\ a' <= s.length) (hc:cnt <= 301) (h:bad = false -> ∀ (v:V) (t0:L8),v.wf -> v.rightBy pairsOk (12 - d) = true -> MsgTop v 199 t0 -> ¬ At s p t0) (k n e:Int) (t:L8) :
  GotXU s d p cnt bad nt live (.ag (fV k n e t)) a' cnt true nt' live' :=
 ⟨_,rfl,rfl,za7 _ _ _ _ _ _,(fun t ht => by rw [zbB] at ht; cases ht),hlv,hn,⟨ha.1,ha.2,hc⟩,fun _ => rfl,(fun hb => by cases hb),fun hb v t0 a b c d e => absurd e (h hb v t0 a b d)⟩
theorem row_new {a b:Nat} {cs:List PC} (h:NewL a b cs) (hab:a <= b) (h2:2 <= b) (x0 x1 x2 x3:Value):NewL a (b + 1) [.v x0,.v x1,.v x2,.v x3,.sl b [cs]]:=by
 refine ⟨?_,?_,?_⟩
 ·have:=h.own
  simp [ownedL,PC.owned,ownedLL,this]; omega
 ·simp only [toksL,PC.toks,nil_append,if_pos h2,toksLL,append_nil]
  refine nodup_cons.2 ⟨fun hb => by have:=h.mem b hb; omega,h.nd⟩
 ·intro t ht
  simp only [toksL,PC.toks,nil_append,if_pos h2,toksLL,append_nil] at ht
  rcases mem_cons.1 ht with rfl | ht
  ·omega
  ·have:=h.mem t ht; omega
theorem extU_g {s:L8} (hs:s.length <= 2147483647) {d:Int} (hd:0 <= d /\ d <= 12) (hV:ValU T hT s (d + 1)) (p cnt:Nat) (bad:Bool) (nt:Nat) (live:List Nat) (hp:p <= s.length) (hcnt:cnt <= 300) (hnt:2 <= nt) :
  FnG (env T hT) 171 [.ref 0 0,.d (pI d)] [uC s p cnt bad] nt live (fun x b n l => ∃ c' rest,b = c' :: rest /\ x.lw 0 /\ lwL 0 c' /\ ∃ a' cnt' bad',c' = uC s a' cnt' bad' /\ GotXU s d p cnt bad nt live x a' cnt' bad' n l):=by
 refine zaU (zak zce) (by show 2 <= 47; decide) fun B hB => ?_
 unfold m_i_unpacker_extended;have live0:∀ t ∈ live,2 <= t -> t < nt -> t ∈ live:=fun t ht _ _ => ht
 refine mP ?_;refine zah ?_
 refine zau (fun st => ∃ (L K:Int) (a1:Nat) (b1:Bool),has st.tm [(0,.ref 0 0),(1,.d (pI d)),(4,.ref 1 0),(5,.d (pI L)),(6,.d (pI K))] /\ st.bx = [uC s a1 cnt b1,fV 0 0 0 []] /\ st.nt = nt /\ st.live = live /\ p <= a1 /\ a1 <= s.length /\
  ((b1 = false /\ bad = false /\ a1 = p + 2 /\ L = gwN s p 1 /\ K = gwN s (p + 1) 1) \/ (b1 = true /\ (bad = true \/ ¬ p + 2 <= s.length) /\ K = 0))) ?_ ?_
 ·refine zad ?_
  refine mS ?_;refine po_g rfl (FnG.lift1 (p:=0) (zbl s p 1 cnt bad (by decide) hp hs nt live) (args:=[.d (pI ((1:Nat):Int))]) ⟨trivial,trivial⟩ (za5 _ _ _ _) rfl) ?_;rintro x _ _ _ ⟨c',rfl,rfl,rfl,⟨hb0,hle,rfl,rfl⟩ | ⟨hbad,rfl,rfl⟩⟩
  ·refine mS ?_
   refine po_g rfl (FnG.lift1 (p:=0) (zbl s (p + 1) 1 cnt false (by decide) (by omega) hs _ _) (args:=[.d (pI ((1:Nat):Int))]) ⟨trivial,trivial⟩ (za5 _ _ _ _) rfl) ?_;rintro x _ _ _ ⟨c',rfl,rfl,rfl,⟨_,hle2,rfl,rfl⟩ | ⟨hbad,rfl,rfl⟩⟩
   ·refine mN ?_
    exact ⟨_,_,p + 2,false,⟨rfl,rfl,rfl,rfl,rfl,trivial⟩,rfl,rfl,rfl,by omega,by omega,.inl ⟨rfl,hb0,rfl,rfl,rfl⟩⟩
   ·refine mN ?_
    exact ⟨_,_,p + 1,true,⟨rfl,rfl,rfl,rfl,rfl,trivial⟩,rfl,rfl,rfl,by omega,by omega,.inr ⟨rfl,.inr (by rcases hbad with h | h; (cases h); omega),rfl⟩⟩
  ·refine mS ?_
   refine po_g rfl (FnG.lift1 (p:=0) (zbl s p 1 cnt true (by decide) hp hs _ _) (args:=[.d (pI ((1:Nat):Int))]) ⟨trivial,trivial⟩ (za5 _ _ _ _) rfl) ?_;rintro x _ _ _ ⟨c',rfl,rfl,rfl,⟨hx,_⟩ | ⟨_,rfl,rfl⟩⟩
   ·cases hx
   ·refine mN ?_
    exact ⟨_,_,p,true,⟨rfl,rfl,rfl,rfl,rfl,trivial⟩,rfl,rfl,rfl,lR,hp,.inr ⟨rfl,hbad.imp id fun h => by omega,rfl⟩⟩
 rintro tm bx n1 l1 ⟨L,K,a1,b1,ht,hbx,hn,hl,hpa,has1,hcase⟩;obtain ⟨tm0,rfl⟩:=zae ht;simp only at hbx hn hl; subst hbx; subst n1; subst l1
 clear ht
 have hnone:b1 = true -> bad = false -> ∀ (v:V) (t0:L8),v.wf -> v.rightBy pairsOk (12 - d) = true -> MsgTop v 199 t0 -> ¬ At s p t0:=by
  intro hb1 hbf v t0 h1 h2 h4 h5
  rcases hcase with ⟨h,_⟩ | ⟨_,h,_⟩
  ·rw [hb1] at h; cases h
  ·rcases h with h | h
   ·rw [hbf] at h; cases h
   ·rcases zcd h4 with ⟨n,e,he,hn,rfl,rfl⟩ | ⟨m,kid,hm,rfl,rfl⟩
    ·have:=(zcb hp h5 he (by unfold i64ok; omega)).1; omega
    ·have:=(zcc hp h5 hm).1; omega
 refine zag ?_;refine zau (fun st => has st.tm [(0,.ref 0 0),(1,.d (pI d)),(4,.ref 1 0),(5,.d (pI L)),(6,.d (pI K)),(13,.d (pB (decide (L = 9 /\ K = 4))))] /\ st.bx = [uC s a1 cnt b1,fV 0 0 0 []] /\ st.nt = nt /\ st.live = live) ?_ ?_
 ·refine zad ?_
  refine mS ?_;by_cases c1:L = 9
  ·refine zai rfl rfl (decide_eq_true c1) ?_
   (iterate 2 refine mS ?_);refine po_b rfl rfl (fun b2 hb2 => ?_);refine mN ?_
   have:decide (L = 9 /\ K = 4) = b2:=by rw [hb2]; exact decide_eq_decide.2 ⟨fun h => h.2,fun h => ⟨c1,h⟩⟩
   exact ⟨⟨rfl,rfl,rfl,rfl,rfl,by rw [this]; rfl,trivial⟩,rfl,rfl,rfl⟩
  ·refine zam rfl rfl (decide_eq_false c1) ?_
   refine mS ?_;refine mZ ?_;refine mN ?_;exact ⟨⟨rfl,rfl,rfl,rfl,rfl,by rw [decide_eq_false (fun h => c1 h.1)]; rfl,trivial⟩,rfl,rfl,rfl⟩
 rintro tm bx n1 l1 ⟨ht,hbx,hn,hl⟩;obtain ⟨tm1,rfl⟩:=zae ht;simp only at hbx hn hl; subst hbx; subst n1; subst l1
 clear ht;refine zca (p:=L = 9 /\ K = 4) rfl (fun hc => ?_) (fun hc => ?_)
 ·obtain ⟨rfl,hbf,rfl,hL,hK⟩ | ⟨_,_,hK0⟩:=hcase
  case inr => omega
  refine mQ ?_;refine po_g rfl (FnG.lift1 (p:=0) (zbl s (p + 2) 1 cnt false (by decide) has1 hs nt live) (args:=[.d (pI ((1:Nat):Int))]) ⟨trivial,trivial⟩ (za5 _ _ _ _) rfl) ?_;rintro x _ _ _ ⟨c',rfl,rfl,rfl,⟨_,hle,rfl,rfl⟩ | ⟨hbad,rfl,rfl⟩⟩
  ·have hsg:i64ok (sgw (gwN s (p + 2) 1) 1):=by
    have:=zbw s (p + 2) 1 (by decide)
    unfold sgw i64ok;rw [if_pos (by decide),show ((256 ^ 1:Nat):Int) = 256 from rfl,show ((256 ^ 1 / 2:Nat):Int) = 128 from rfl]
    split <;> omega
   refine zac (args:=[.d (pI (gwN s (p + 2) 1)),.d (pI ((1:Nat):Int))]) rfl (zfx (gwN s (p + 2) 1) 1 (by decide) (zdH _ _ _)) ?_;refine mN ?_;refine mO ?_;(iterate 2 refine mS ?_);refine po_g rfl (FnG.lift1 (p:=0) (zbl s (p + 2 + 1) 8 cnt false (by decide) (by omega) hs _ _) (args:=[.d (pI ((8:Nat):Int))]) ⟨trivial,trivial⟩ (za5 _ _ _ _) rfl) ?_;rintro x _ _ _ ⟨c',rfl,rfl,rfl,⟨_,hle2,rfl,rfl⟩ | ⟨hbad,rfl,rfl⟩⟩
   ·refine mS ?_
    refine zao (p:=1) (cs:=fV 4 (gwN s (p + 2 + 1) 8) (sgw (gwN s (p + 2) 1) 1) []) rfl rfl rfl rfl rfl rfl ?_;refine zaa ?_;refine zaf ⟨.inr rfl,[.ag (fV 4 (gwN s (p + 2 + 1) 8) (sgw (gwN s (p + 2) 1) 1) [])],rfl,_,_,rfl,zaC (c:=fV 4 (gwN s (p + 2 + 1) 8) (sgw (gwN s (p + 2) 1) 1) []) rfl,za5 _ _ _ _,p + 2 + 1 + 8,cnt,false,rfl,_,rfl,rfl,za7 _ _ _ _ _ _,(fun t ht => by rw [zbB] at ht; cases ht),live0,lR,⟨by omega,hle2,by omega⟩,(fun h => by rw [hbf] at h; cases h),(fun _ => ⟨hcnt,.mk 4 (gwN s (p + 2 + 1) 8) (sgw (gwN s (p + 2) 1) 1) [] [],rfl,⟨by unfold i64ok; omega,zdH _ _ _,hsg,by unfold strok; simp,by simp,trivial⟩,by simp [V.bulk,V.bulks]⟩),fun _ v t0 h1 h2 h3 h4 h5 => ?_⟩
    rcases zcd h4 with ⟨n,e,he,hn,rfl,rfl⟩ | ⟨m,kid,hm,rfl,rfl⟩
    ·obtain ⟨q1,q2,q3,q4,q5⟩:=zcb hp h5 he (by unfold i64ok; omega)
     refine ⟨rfl,?_,?_,?_⟩
     ·simp [zab]
     ·rw [q4,q5]; rfl
     ·simp [V.nodes,V.nodess]
    ·have:=(zcc hp h5 hm).2.1; omega
   ·refine mS ?_
    refine zao (p:=1) (cs:=fV 4 0 (sgw (gwN s (p + 2) 1) 1) []) rfl rfl rfl rfl rfl rfl ?_;refine zaa ?_;refine zaf ⟨.inr rfl,[.ag (fV 4 0 (sgw (gwN s (p + 2) 1) 1) [])],rfl,_,_,rfl,zaC (c:=fV 4 0 (sgw (gwN s (p + 2) 1) 1) []) rfl,za5 _ _ _ _,p + 2 + 1,cnt,true,rfl,zdx lR live0 ⟨by omega,by omega⟩ (by omega) (fun _ v t0 h1 h2 h4 h5 => ?_) _ _ _ _⟩;have hbad:¬ p + 2 + 1 + 8 <= s.length:=hbad.resolve_left (fun h => by cases h)
    rcases zcd h4 with ⟨n,e,he,hn,rfl,rfl⟩ | ⟨m,kid,hm,rfl,rfl⟩
    ·have:=(zcb hp h5 he (by unfold i64ok; omega)).1; omega
    ·have:=(zcc hp h5 hm).2.1; omega
  ·have hbad:¬ p + 2 + 1 <= s.length:=hbad.resolve_left (fun h => by cases h)
   refine zac (args:=[.d (pI 0),.d (pI ((1:Nat):Int))]) rfl (zfx 0 1 (by decide) (by unfold i64ok; omega)) ?_;refine mN ?_;refine mO ?_;(iterate 2 refine mS ?_);refine po_g rfl (FnG.lift1 (p:=0) (zbl s (p + 2) 8 cnt true (by decide) has1 hs _ _) (args:=[.d (pI ((8:Nat):Int))]) ⟨trivial,trivial⟩ (za5 _ _ _ _) rfl) ?_;rintro x _ _ _ ⟨c',rfl,rfl,rfl,⟨hx,_⟩ | ⟨_,rfl,rfl⟩⟩
   ·cases hx
   ·refine mS ?_
    refine zao (p:=1) (cs:=fV 4 0 (sgw 0 1) []) rfl rfl rfl rfl rfl rfl ?_;refine zaa ?_;refine zaf ⟨.inr rfl,[.ag (fV 4 0 (sgw 0 1) [])],rfl,_,_,rfl,zaC (c:=fV 4 0 (sgw 0 1) []) rfl,za5 _ _ _ _,p + 2,cnt,true,rfl,zdx lR live0 ⟨by omega,by omega⟩ (by omega) (fun _ v t0 h1 h2 h4 h5 => ?_) _ _ _ _⟩
    rcases zcd h4 with ⟨n,e,he,hn,rfl,rfl⟩ | ⟨m,kid,hm,rfl,rfl⟩
    ·have:=(zcb hp h5 he (by unfold i64ok; omega)).1; omega
    ·have:=(zcc hp h5 hm).2.1; omega
 refine zau (fun st => has st.tm [(0,.ref 0 0),(1,.d (pI d)),(4,.ref 1 0),(27,.d (pB (decide (L = 4 /\ K = 6))))] /\ st.bx = [uC s a1 cnt b1,fV 0 0 0 []] /\ st.nt = nt /\ st.live = live) ?_ ?_
 ·refine zad ?_
  refine mS ?_;by_cases c1:L = 4
  ·refine zai rfl rfl (decide_eq_true c1) ?_
   (iterate 2 refine mS ?_);refine po_b rfl rfl (fun b2 hb2 => ?_);refine mN ?_
   have:decide (L = 4 /\ K = 6) = b2:=by rw [hb2]; exact decide_eq_decide.2 ⟨fun h => h.2,fun h => ⟨c1,h⟩⟩
   exact ⟨⟨rfl,rfl,rfl,by rw [this]; rfl,trivial⟩,rfl,rfl,rfl⟩
  ·refine zam rfl rfl (decide_eq_false c1) ?_
   refine mS ?_;refine mZ ?_;refine mN ?_;exact ⟨⟨rfl,rfl,rfl,by rw [decide_eq_false (show ¬ (L = 4 /\ K = 6) from fun h => c1 h.1)]; rfl,trivial⟩,rfl,rfl,rfl⟩
 rintro tm bx n1 l1 ⟨ht,hbx,hn,hl⟩;obtain ⟨tm2,rfl⟩:=zae ht;simp only at hbx hn hl; subst hbx; subst n1; subst l1
 clear ht;refine zca (p:=L = 4 /\ K = 6) rfl (fun hc6 => ?_) (fun hc6 => ?_)
 ·obtain ⟨rfl,hbf,rfl,hL,hK⟩ | ⟨_,_,hK0⟩:=hcase
  case inr => omega
  refine mQ ?_;refine po_g rfl (FnG.lift1 (p:=0) (zbl s (p + 2) 4 cnt false (by decide) has1 hs nt live) (args:=[.d (pI ((4:Nat):Int))]) ⟨trivial,trivial⟩ (za5 _ _ _ _) rfl) ?_
  have main:∀ (r:Int) (a2:Nat) (b2:Bool) (x:PV) (c':List PC),WideR s (p + 2) 4 cnt false nt live x c' nt live -> ∃ (r:Int) (a2:Nat) (b2:Bool),x = .d (pI r) /\ c' = uC s a2 cnt b2 /\ i64ok r /\ p + 2 <= a2 /\ a2 <= s.length /\ ((b2 = false /\ a2 = p + 6 /\ r = gwN s (p + 2) 4) \/ (b2 = true /\ ¬ p + 6 <= s.length)):=by
   rintro _ _ _ x c' ⟨_,_,⟨_,hle,rfl,rfl⟩ | ⟨hbad,rfl,rfl⟩⟩
   ·exact ⟨_,_,_,rfl,rfl,zdH _ _ _,by omega,hle,.inl ⟨rfl,rfl,rfl⟩⟩
   ·exact ⟨_,_,_,rfl,rfl,by unfold i64ok; omega,lR,has1,.inr ⟨rfl,hbad.resolve_left (fun h => by cases h)⟩⟩
  rintro x _ n2 l2 ⟨c',rfl,hW⟩;obtain ⟨rfl,rfl,hW2⟩:=id hW;obtain ⟨r,a2,b2,rfl,rfl,hr,ha2,ha2s,hcs⟩:=main 0 0 false x c' hW;clear main hW hW2;refine mN ?_;refine mO ?_;(iterate 3 refine mS ?_);refine zaq (n:=d + 1) rfl rfl rfl rfl (by omega) ?_;refine po_g rfl (FnG.lift1 (p:=0) (hV a2 cnt b2 _ _ ha2s hcnt hnt) (args:=[.d (pI (d + 1))]) ⟨trivial,trivial⟩ (za5 _ _ _ _) rfl) ?_;rintro x _ n3 l3 ⟨c',rfl,a3,cnt3,b3,rfl,cs,rfl,hc5,hnew,hctk,hlv3,hn3,⟨ha3,ha3s,hc3⟩,hb23,hg3,hcomp⟩
  refine zay (es:=[cs]) (by
   show (if cs.length = 5 then some [cs] else none) = some [cs];rw [if_pos hc5]) ?_
  refine mS ?_;refine zao (p:=1) (cs:=[pI 9,pI r,pI 0,pS [],.sl n3 [cs]]) rfl rfl rfl rfl rfl rfl ?_;refine zaa ?_;have hN:=row_new hnew hn3 (by omega) (.int .i64 9) (.int .i64 r) (.int .i64 0) (.string ⟨#[]⟩);refine zaf ⟨.inr rfl,[.ag [pI 9,pI r,pI 0,pS [],.sl n3 [cs]]],rfl,_,_,rfl,zaC (c:=[pI 9,pI r,pI 0,pS [],.sl n3 [cs]]) hN.own,za5 _ _ _ _,a3,cnt3,b3,rfl,_,rfl,rfl,hN,?_,fun t ht h22 hlt => mem_cons_of_mem _ (hlv3 t ht h22 hlt),Nat.le_succ_of_le hn3,⟨by omega,ha3s,hc3⟩,(fun h => by rw [hbf] at h; cases h),(fun hb3 => ?_),fun _ v t0 h1 h2 h3 h4 h5 => ?_⟩
  ·intro t ht
   have h22:2 <= n3:=by omega
   simp only [toksL,PC.toks,pI,pS,nil_append,if_pos h22,toksLL,append_nil] at ht
   rcases mem_cons.1 ht with rfl | ht
   ·exact mem_cons_self ..
   ·exact mem_cons_of_mem _ (hctk t ht)
  ·obtain ⟨r1,u,r2,r3,r4,r5⟩:=hg3 hb3
   refine ⟨r1,.mk 9 r 0 [] [u],?_,⟨by unfold i64ok; omega,hr,by unfold i64ok; omega,by unfold strok; simp,by simp,r3,trivial⟩,by simp only [V.bulk,V.bulks,length_nil,length_cons]; omega⟩
   have:vK [u] = [vC u]:=by rw [zb4]; rfl
   simp only [erL,PC.er,erLL,r2,vC,V.kids,this]; rfl
  ·rcases zcd h4 with ⟨n,e,he,hn,rfl,rfl⟩ | ⟨m,kid,hm,rfl,rfl⟩
   ·have:=(zcb hp h5 he (by unfold i64ok; omega)).2.1; omega
   ·obtain ⟨q1,q2,q3,q4,q5⟩:=zcc hp h5 hm
    obtain ⟨rfl,rfl,rfl⟩ | ⟨_,hx⟩:=hcs
    case inr => exact absurd q1 hx
    have h2':=h2;simp only [V.rightBy,V.rightsBy,Bool.and_eq_true] at h2';obtain ⟨s1,s2,s3,s4⟩:=hcomp rfl kid h1.2.2.2.2.2.1 (by rw [show 12 - (d + 1) = 12 - d - 1 by omega]; exact h2'.1.1) (by simp only [V.nodes,V.nodess] at h3; omega) q5;refine ⟨s1,?_,?_,?_⟩
    ·rw [s2]; simp [zab]; omega
    ·rw [q4]
     have:vK [kid] = [vC kid]:=by rw [zb4]; rfl
     simp only [erL,PC.er,erLL,s3,vC,V.kids,this]; rfl
    ·simp only [V.nodes,V.nodess]; omega
 ·refine zaj ?_
  refine mO ?_;(iterate 3 refine mS ?_);refine zaw (p:=0) (o':=3) (cs:=[pB true]) (z:=uC s a1 cnt b1) rfl rfl rfl ⟨rfl,Nat.le_of_ble_eq_true rfl⟩ rfl ?_;refine zaa ?_;refine mQ ?_;refine zao (p:=1) (cs:=fV 0 0 0 []) rfl rfl rfl rfl rfl rfl ?_;refine zaa ?_;refine zaf ⟨.inr rfl,[.ag (fV 0 0 0 [])],rfl,uC s a1 cnt true,_,rfl,zaC (c:=fV 0 0 0 []) rfl,za5 _ _ _ _,a1,cnt,true,rfl,zdx lR live0 ⟨hpa,has1⟩ (by omega) (fun hbf v t0 h1 h2 h4 h5 => ?_) _ _ _ _⟩
  rcases hcase with ⟨_,_,_,hL,hK⟩ | ⟨hb1,_,_⟩
  ·rcases zcd h4 with ⟨n,e,he,hn,rfl,rfl⟩ | ⟨m,kid,hm,rfl,rfl⟩
   ·have:=zcb hp h5 he (by unfold i64ok; omega); exact hc ⟨hL.trans this.2.1,hK.trans this.2.2.1⟩
   ·have:=zcc hp h5 hm; exact hc6 ⟨hL.trans this.2.1,hK.trans this.2.2.1⟩
  ·exact hnone hb1 hbf v t0 h1 h2 h4 h5
end
section
theorem gw_one {s:L8} {a:Nat} (h:a < s.length):gwN s a 1 = ((s[a]).toNat:Nat):=by
 refine zgk (t:=s.drop (a + 1)) ⟨[],?_⟩;rw [append_nil]; exact drop_eq_getElem_cons h
theorem zev {s:L8} {d left:Int} {a bb cnt a' cnt' nt nt':Nat} {live live':List Nat} {cs:List PC} (HC:HdC s d left a bb) (hleft:left = 300 - cnt) (h5:cs.length = 5) (hN:NewL nt nt' cs) (hct:∀ t ∈ toksL cs,t ∈ live') (hn:nt <= nt') (hlv:∀ t ∈ live,2 <= t -> t < nt -> t ∈ live') (ha:a <= a' /\ a' <= s.length /\ cnt' <= 301)
  (hc:∀ (v:V) (t0:L8),v.wf -> MsgTop v bb t0 -> ¬ At s (a + 1) t0):GotU s d a cnt false nt live (.ag cs) a' cnt' true nt' live' :=
 ⟨cs,rfl,h5,hN,hct,hlv,hn,ha,fun _ => rfl,(fun hb => by cases hb),fun _ v h1 h2 h3 h4 => by
  obtain ⟨t0,q1,q2,_⟩:=HC v h1 h2 (by omega) h4;exact absurd q2 (hc v t0 h1 q1)⟩
theorem zbM {s:L8} {d left:Int} {a bb cnt a' nt nt':Nat} {live live':List Nat} {cs:List PC} {u:V} (HC:HdC s d left a bb) (hleft:left = 300 - cnt) (he:erL cs = vC u) (h5:cs.length = 5) (ho:ownedL cs = true) (ht:toksL cs = []) (hk:u.nodes = 1) (hw:u.wf) (ha:a < a' /\ a' <= s.length) (hb:u.bulk + 1 <= 2 * (a' - a)) (hl:cnt + 1 <= 300) (hn:nt <= nt') (hlv:∀ t ∈ live,2 <= t -> t < nt -> t ∈ live')
  (hc:∀ (v:V) (t0:L8),v.wf -> MsgTop v bb t0 -> At s (a + 1) t0 -> v = u /\ a' = a + 1 + t0.length):GotU s d a cnt false nt live (.ag cs) a' (cnt + 1) false nt' live' :=
 ⟨cs,rfl,h5,⟨ho,by rw [ht]; exact nodup_nil,fun t h => by rw [ht] at h; cases h⟩,(fun t h => by rw [ht] at h; cases h),hlv,hn,by omega,fun h => h,fun _ => ⟨hl,u,he,hw,ha.1,hb⟩,fun _ v h1 h2 h3 h4 => by
  obtain ⟨t0,q1,q2,q3⟩:=HC v h1 h2 (by omega) h4;obtain ⟨rfl,q4⟩:=hc v t0 h1 q1 q2;exact ⟨rfl,by omega,he,by rw [hk]⟩⟩
theorem zdn {s:L8} {d left kind many:Int} {a bb cnt a2 a3 c a' cnt' nt nt':Nat} {b0 bad':Bool} {live live':List Nat} {x:PV} (hs:s.length <= 2147483647) (HC:HdC s d left a bb) (hleft:left = 300 - cnt) (hkind:i64ok kind) (h3:a3 <= a2 /\ a + 1 <= a3) (hG:GotM s (d + 1) many a3 (cnt + 1) b0 nt live x a' cnt' bad' nt' live')
  (h2:b0 = false -> a3 = a2 /\ a2 = a + 1 + c)
  (hc:∀ (v:V) (t0:L8),v.wf -> MsgTop v bb t0 -> At s (a + 1) t0 -> b0 = false /\ ∃ us,v = .mk kind 0 0 [] us /\ (us.length:Int) = many /\ At s a2 (msgs us) /\ t0.length = c + (msgs us).length):∃ tk rows,x = .d (.sl tk rows) /\ GotU s d a cnt false nt live (.ag [pI kind,pI 0,pI 0,pS [],.sl tk rows]) a' cnt' bad' nt' live':=by
 obtain ⟨tk,rows,rfl,hN,hct,hlv,hn,⟨ha1,ha2,hc1⟩,hbb,hg,hcomp⟩:=hG;have htok:toksL [pI kind,pI 0,pI 0,pS [],.sl tk rows] = toksL [.sl tk rows]:=rfl;refine ⟨tk,rows,rfl,_,rfl,rfl,⟨hN.own,by rw [htok]; exact hN.nd,fun t ht => hN.mem t (by rw [<- htok]; exact ht)⟩,fun t ht => hct t (by rw [<- htok]; exact ht),hlv,hn,⟨by omega,ha2,hc1⟩,(fun h => by cases h),fun hb => ?_,fun _ v h1 h2' h3' h4 => ?_⟩
 ·obtain ⟨q1,vs,q2,q3,q4,q5⟩:=hg hb
  have hb0:b0 = false:=by cases b0 with | false => rfl | true => rw [hbb rfl] at hb; cases hb
  obtain ⟨e1,e2⟩:=h2 hb0;refine ⟨q1,.mk kind 0 0 [] vs,by simp only [erL,PC.er,q2]; rfl,⟨hkind,by unfold i64ok; omega,by unfold i64ok; omega,by unfold strok; simp,by omega,q3⟩,by omega,by simp only [V.bulk,length_nil]; omega⟩
 ·obtain ⟨t0,q1,q2,q3⟩:=HC v h1 h2' (by omega) h4
  obtain ⟨hb0,us,rfl,e2,e3,e4⟩:=hc v t0 h1 q1 q2;obtain ⟨e5,e6⟩:=h2 hb0;simp only [V.rightBy,Bool.and_eq_true] at h2';obtain ⟨r1,r2,r3,r4⟩:=hcomp hb0 us h1.2.2.2.2.2 (by rw [show 12 - (d + 1) = 12 - d - 1 by omega]; exact h2'.1) (by simp only [V.nodes] at h3'; omega) e2 (by rw [e5]; exact e3);exact ⟨r1,by omega,by simp only [erL,PC.er,r3]; rfl,by rw [r4]; simp only [V.nodes]; omega⟩
theorem zew {s:L8} {d left kind:Int} {a bb cnt a2 a3 c k nt:Nat} {b0:Bool} {live:List Nat} {x:PV} {c':List PC} {n:Nat} {l:List Nat} (hs:s.length <= 2147483647) (HC:HdC s d left a bb) (hleft:left = 300 - cnt) (hl:cnt + 1 <= 300) (hkind:i64ok kind) (h3:a3 <= a2 /\ a + 1 <= a3 /\ a3 <= s.length) (hT:TextR s a3 k (cnt + 1) b0 nt live x c' n l)
  (h2:b0 = false -> a3 = a2 /\ a2 = a + 1 + c)
  (hc:∀ (v:V) (t0:L8),v.wf -> MsgTop v bb t0 -> At s (a + 1) t0 -> b0 = false /\ ∃ tx,v = .mk kind 0 0 tx [] /\ tx.length = k /\ At s a2 tx /\ t0.length = c + tx.length):n = nt /\ l = live /\ ∃ tx a' bad',x = .d (pS tx) /\ c' = uC s a' (cnt + 1) bad' /\ GotU s d a cnt false nt live (.ag (fV kind 0 0 tx)) a' (cnt + 1) bad' nt live:=by
 obtain ⟨rfl,rfl,⟨hb0,hle,rfl,rfl⟩ | ⟨hbad,rfl,rfl⟩⟩:=hT
 ·obtain ⟨e1,e2⟩:=h2 hb0
  have hlen:((s.drop a3).take k).length = k:=by rw [length_take,length_drop]; omega
  refine ⟨rfl,rfl,_,_,_,rfl,rfl,zbM HC hleft (fV_er kind 0 0 _) rfl rfl (zbB _ _ _ _) (by simp [V.nodes,V.nodess]) ⟨hkind,by unfold i64ok; omega,by unfold i64ok; omega,by unfold strok; omega,by simp,trivial⟩ (by omega) (by simp only [V.bulk,V.bulks,length_nil]; omega) hl lR (fun t ht _ _ => ht) fun v t0 h1 h4 h5 => ?_⟩;obtain ⟨_,tx,rfl,e3,e4,e5⟩:=hc v t0 h1 h4 h5
  have:=e4.take
  rw [e3,<- e1] at this;exact ⟨by rw [this],by omega⟩
 ·refine ⟨rfl,rfl,_,_,_,rfl,rfl,zev HC hleft rfl (za7 _ _ _ _ _ _) (fun t ht => by rw [zbB] at ht; cases ht) lR (fun t ht _ _ => ht) ⟨by omega,h3.2.2,by omega⟩ fun v t0 h1 h4 h5 => ?_⟩
  obtain ⟨hb0,tx,rfl,e3,e4,e5⟩:=hc v t0 h1 h4 h5;obtain ⟨e1,e2⟩:=h2 hb0
  have:=e4.len (by omega)
  rcases hbad with hbad | hbad
  ·rw [hb0] at hbad; cases hbad
  ·omega
theorem gotU_int {s:L8} {d left:Int} {a bb cnt k nt:Nat} {live:List Nat} {x:PV} {c':List PC} {n:Nat} {l:List Nat} (f:Int -> Int) (hf:∀ z,i64ok z -> i64ok (f z)) (HC:HdC s d left a bb) (hleft:left = 300 - cnt) (hl:cnt + 1 <= 300) (ha:a + 1 <= s.length) (hW:WideR s (a + 1) k (cnt + 1) false nt live x c' n l) (hk1:1 <= k)
  (hc:∀ (v:V) (t0:L8),v.wf -> MsgTop v bb t0 -> At s (a + 1) t0 -> t0.length = k /\ v = .mk 3 (f (gwN s (a + 1) k)) 0 [] []):n = nt /\ l = live /\ ∃ z a' bad',x = .d (pI z) /\ i64ok z /\ c' = uC s a' (cnt + 1) bad' /\ GotU s d a cnt false nt live (.ag (fV 3 (f z) 0 [])) a' (cnt + 1) bad' nt live:=by
 obtain ⟨rfl,rfl,⟨_,hle,rfl,rfl⟩ | ⟨hbad,rfl,rfl⟩⟩:=hW
 ·refine ⟨rfl,rfl,_,_,_,rfl,zdH _ _ _,rfl,zbM HC hleft (fV_er 3 _ 0 _) rfl rfl (zbB _ _ _ _) (by simp [V.nodes,V.nodess]) ⟨by unfold i64ok; omega,hf _ (zdH _ _ _),by unfold i64ok; omega,by unfold strok; simp,by simp,trivial⟩ (by omega) (by simp only [V.bulk,V.bulks,length_nil]; omega) hl lR (fun t ht _ _ => ht) fun v t0 h1 h4 h5 => ?_⟩
  obtain ⟨e1,e2⟩:=hc v t0 h1 h4 h5;exact ⟨e2,by omega⟩
 ·refine ⟨rfl,rfl,0,_,_,rfl,by unfold i64ok; omega,rfl,zev HC hleft rfl (za7 _ _ _ _ _ _) (fun t ht => by rw [zbB] at ht; cases ht) lR (fun t ht _ _ => ht) ⟨by omega,ha,by omega⟩ fun v t0 h1 h4 h5 => ?_⟩
  have e1:=(hc v t0 h1 h4 h5).1
  have:=h5.len ha
  rcases hbad with hbad | hbad
  ·cases hbad
  ·omega
theorem gotU_ext {s:L8} {d left:Int} {a cnt a' cnt' nt nt':Nat} {bad':Bool} {live live':List Nat} {x:PV} (HC:HdC s d left a 199) (hleft:left = 300 - cnt) (hG:GotXU s d (a + 1) (cnt + 1) false nt live x a' cnt' bad' nt' live'):GotU s d a cnt false nt live x a' cnt' bad' nt' live':=by
 obtain ⟨cs,rfl,h5,hN,hct,hlv,hn,⟨ha1,ha2,hc1⟩,hbb,hg,hcomp⟩:=hG;refine ⟨cs,rfl,h5,hN,hct,hlv,hn,⟨by omega,ha2,hc1⟩,hbb,fun hb => ?_,fun _ v h1 h2 h3 h4 => ?_⟩
 ·obtain ⟨q1,u,q2,q3,q4⟩:=hg hb
  exact ⟨q1,u,q2,q3,by omega,by omega⟩
 ·obtain ⟨t0,q1,q2,q3⟩:=HC v h1 h2 (by omega) h4
  obtain ⟨r1,r2,r3,r4⟩:=hcomp rfl v t0 h1 h2 (by omega) q1 q2;exact ⟨r1,by omega,r3,by omega⟩
end
section
variable {T:World -> Prop} {hT:Low ngl T}
attribute [local irreducible] po mw pt
def ValR (s:L8) (d:Int) (a cnt:Nat) (bad:Bool) (nt:Nat) (live:List Nat) (x:PV) (b:LP PC) (n:Nat) (l:List Nat):Prop:=∃ c' rest,b = c' :: rest /\ x.lw 0 /\ lwL 0 c' /\ ∃ a' cnt' bad',c' = uC s a' cnt' bad' /\ GotU s d a cnt bad nt live x a' cnt' bad' n l
theorem za8 {s:L8} {d:Int} {a cnt a' cnt' nt n:Nat} {bad bad':Bool} {live l:List Nat} {cs:List PC} {rest:LP PC} (h:GotU s d a cnt bad nt live (.ag cs) a' cnt' bad' n l):ValR s d a cnt bad nt live (.ag cs) (uC s a' cnt' bad' :: rest) n l:=by
 refine ⟨_,_,rfl,?_,za5 _ _ _ _,a',cnt',bad',rfl,h⟩;obtain ⟨cs',e,_,hN,_⟩:=h;simp only [PV.ag.injEq] at e;subst e;exact zaC hN.own
theorem ress_1 {tm:Nat -> PV} {bx:LP PC} {nt:Nat} {live:List Nat} {n t p:Nat} {cs:List PC} (ht:tm t = .ref p 0) (hb:bx[p]? = some cs) (hn:cs.length = n):ressM ⟨tm,bx,nt,live⟩ [.cell true n t] = some [.ag cs]:=ress_box ht hb hn
theorem shl4:∀ j:Nat,j < 4 -> IntKind.wrap .i64 (1 * 2 ^ (min (j:Int).toNat 64)) = ((2 ^ j:Nat):Int)
 | 0,_ => by decide
 | 1,_ => by decide
 | 2,_ => by decide
 | 3,_ => by decide
 | j + 4,h => by omega
theorem wide_hc {s:L8} {a bb j:Nat} (hb:bb = 204 + j) (hj:j < 4):∀ (v:V) (t0:L8),v.wf -> MsgTop v bb t0 -> At s (a + 1) t0 -> t0.length = 2 ^ j /\ v = .mk 3 (id (gwN s (a + 1) (2 ^ j))) 0 [] []:=by
 intro v t0 hw hM hA
 cases hM with
 | uint j' hj' n h =>
  obtain rfl:j' = j:=by omega
  exact ⟨by rw [zab],by rw [id,hA.gw_id h.1 h.2]⟩
 | _ => exfalso; omega
theorem sign_hc {s:L8} {a bb j:Nat} (hb:bb = 208 + j) (hj:j < 4):∀ (v:V) (t0:L8),v.wf -> MsgTop v bb t0 -> At s (a + 1) t0 -> t0.length = 2 ^ j /\ v = .mk 3 (sgw (gwN s (a + 1) (2 ^ j)) (2 ^ j)) 0 [] []:=by
 intro v t0 hw hM hA
 cases hM with
 | sint j' hj' n h =>
  obtain rfl:j' = j:=by omega
  refine ⟨by rw [zab],?_⟩
  have h2:2 ^ j' = 1 \/ 2 ^ j' = 2 \/ 2 ^ j' = 4 \/ 2 ^ j' = 8:=by
   have:j' = 0 \/ j' = 1 \/ j' = 2 \/ j' = 3:=by omega
   rcases this with rfl | rfl | rfl | rfl <;> decide
  rw [hA.gw,zdQ n (2 ^ j') h2 ⟨h.2,by have:=Nat.pow_pos (n:=8 * 2 ^ j' - 1) (show 0 < 2 by decide); omega⟩]
 | _ => exfalso; omega
theorem sgw_i64 (z:Int) (j:Nat) (hz:i64ok z):i64ok (sgw z (2 ^ j)):=by
 unfold sgw;split
 ·rename_i h
  have hp:=zdd (k:=2 ^ j) h.2;have h1:=Int.emod_nonneg z (show ((256 ^ 2 ^ j:Nat):Int) ≠ 0 by omega);have h2:=Int.emod_lt_of_pos z (show (0:Int) < ((256 ^ 2 ^ j:Nat):Int) by omega);unfold i64ok
  split <;> omega
 ·exact hz
theorem val_g {s:L8} (hs:s.length <= 2147483647) {d:Int} (hd:0 <= d /\ d <= 13) (hV:d <= 12 -> ValU T hT s (d + 1)):ValU T hT s d:=by
 intro a cnt bad nt live ha hcnt hnt;refine zaU (R:=ValR s d a cnt bad nt live) (zak zcV) (by show 2 <= 154; decide) fun B hB => ?_
 unfold m_i_unpacker_value;have live0:∀ t ∈ live,2 <= t -> t < nt -> t ∈ live:=fun t ht _ _ => ht
 refine mP ?_;refine mO ?_;(iterate 4 refine mS ?_);refine zaq (n:=((cnt + 1:Nat):Int)) rfl rfl rfl (by omega) (by omega) ?_;(iterate 2 refine mS ?_);refine zaw (p:=0) (o':=2) (cs:=[pI ((cnt + 1:Nat):Int)]) (z:=uC s a cnt bad) rfl rfl rfl ⟨rfl,Nat.le_of_ble_eq_true rfl⟩ rfl ?_;refine zaa ?_
 refine zau (fun st => ∃ (c:Int) (a1:Nat) (b1:Bool),has st.tm [(0,.ref 0 0),(1,.d (pI d)),(4,.ref 1 0),(5,.d (pI c))] /\ st.bx = [uC s a1 (cnt + 1) b1,fV 0 0 0 []] /\ st.nt = nt /\ st.live = live /\
  ((b1 = false /\ bad = false /\ a + 1 <= s.length /\ a1 = a + 1 /\ c = gwN s a 1) \/ (b1 = true /\ a1 = a /\ (bad = true \/ ¬ a + 1 <= s.length)))) ?_ ?_
 ·refine zad ?_
  refine mS ?_;refine po_g rfl (FnG.lift1 (p:=0) (zbl s a 1 (cnt + 1) bad (by decide) ha hs nt live) (args:=[.d (pI ((1:Nat):Int))]) ⟨trivial,trivial⟩ (za5 _ _ _ _) rfl) ?_;rintro x _ _ _ ⟨c',rfl,rfl,rfl,⟨hb0,hle,rfl,rfl⟩ | ⟨hbad,rfl,rfl⟩⟩
  ·refine mN ?_
   exact ⟨_,a + 1,false,⟨rfl,rfl,rfl,rfl,trivial⟩,rfl,rfl,rfl,.inl ⟨rfl,hb0,hle,rfl,rfl⟩⟩
  ·refine mN ?_
   exact ⟨_,a,true,⟨rfl,rfl,rfl,rfl,trivial⟩,rfl,rfl,rfl,.inr ⟨rfl,rfl,hbad⟩⟩
 rintro tm bx n1 l1 ⟨c,a1,b1,ht,hbx,hn,hl,hcase⟩;obtain ⟨tm0,rfl⟩:=zae ht;simp only at hbx hn hl; subst hbx; subst n1; subst l1
 clear ht;refine zah ?_;refine zau (fun st => has st.tm [(0,.ref 0 0),(1,.d (pI d)),(4,.ref 1 0),(5,.d (pI c)),(30,.d (pB (b1 || (decide (cnt + 1 > 300) || decide (d > 12)))))] /\ st.bx = [uC s a1 (cnt + 1) b1,fV 0 0 0 []] /\ st.nt = nt /\ st.live = live) ?_ ?_
 ·refine zad ?_
  (iterate 5 refine mS ?_)
  cases b1 with
  | true =>
   refine mZ ?_;(iterate 2 refine mS ?_);refine mZ ?_;refine mN ?_
   exact ⟨⟨rfl,rfl,rfl,rfl,rfl,trivial⟩,rfl,rfl,rfl⟩
  | false =>
   (iterate 4 refine mS ?_);by_cases c1:cnt + 1 > 300
   ·refine zai rfl rfl (decide_eq_true (show ((cnt + 1:Nat):Int) > 300 by omega)) ?_
    (iterate 2 refine mS ?_);refine mZ ?_;refine mN ?_;exact ⟨⟨rfl,rfl,rfl,rfl,by rw [decide_eq_true c1]; rfl,trivial⟩,rfl,rfl,rfl⟩
   ·refine zam rfl rfl (decide_eq_false (show ¬ ((cnt + 1:Nat):Int) > 300 by omega)) ?_
    (iterate 3 refine mS ?_);refine po_b rfl rfl (fun b2 hb2 => ?_);refine mN ?_;exact ⟨⟨rfl,rfl,rfl,rfl,by rw [decide_eq_false c1,hb2]; rfl,trivial⟩,rfl,rfl,rfl⟩
 rintro tm bx n1 l1 ⟨ht,hbx,hn,hl⟩;obtain ⟨tm1,rfl⟩:=zae ht;simp only at hbx hn hl; subst hbx; subst n1; subst l1
 clear ht;refine zaO (t:=b1 || (decide (cnt + 1 > 300) || decide (d > 12))) rfl (fun hc => ?_) (fun hc => ?_)
 ·refine mO ?_
  (iterate 3 refine mS ?_);refine zaw (p:=0) (o':=3) (cs:=[pB true]) (z:=uC s a1 (cnt + 1) b1) rfl rfl rfl ⟨rfl,Nat.le_of_ble_eq_true rfl⟩ rfl ?_;refine zaa ?_;refine mQ ?_;refine zao (p:=1) (cs:=fV 0 0 0 []) rfl rfl rfl rfl rfl rfl ?_;refine zaa ?_;refine zaf ⟨.inr rfl,[.ag (fV 0 0 0 [])],rfl,za8 (a':=a1) (cnt':=cnt + 1) (bad':=true) ⟨_,rfl,rfl,za7 _ _ _ _ _ _,(fun t ht => by rw [zbB] at ht; cases ht),live0,lR,⟨by omega,by omega,by omega⟩,fun _ => rfl,(fun hb => by cases hb),fun hb v h1 h2 h3 h4 => ?_⟩⟩;exfalso;have hnp:=v.nodes_pos
  have h2':0 <= 12 - d:=by
   obtain ⟨k,n,e,x,kids⟩:=v;simp only [V.rightBy,Bool.and_eq_true,decide_eq_true_eq] at h2;exact h2.2.1
  obtain ⟨b,t0,_,_,he⟩:=zel h2 (by
   obtain ⟨k,n,e,x,kids⟩:=v
   have:=V.kids_nodes kids
   simp only [V.nodes] at h3;show kids.length <= 300
   omega) (by obtain ⟨k,n,e,x,kids⟩:=v; exact h1.2.1)
  rw [he] at h4;have hlt:=h4.lt
  have hb1:b1 = false:=by
   rcases hcase with ⟨h,_⟩ | ⟨_,_,h | h⟩
   ·exact h
   ·rw [hb] at h; cases h
   ·omega
  rw [hb1,decide_eq_false (by omega),decide_eq_false (by omega)] at hc
  cases hc
 simp only [Bool.or_eq_false_iff,decide_eq_false_iff_not] at hc;obtain ⟨rfl,hc300,hd12⟩:=hc;obtain ⟨_,rfl,hal,rfl,hcc⟩ | ⟨hx,_⟩:=hcase
 case inr => cases hx
 have hil:a < s.length:=by omega
 have hl1:cnt + 1 <= 300:=by omega
 have hV:=hV (by omega);obtain ⟨left,hleft⟩:∃ left:Int,left = 300 - cnt:=⟨_,rfl⟩;have HC:=hdC (d:=d) (left:=left) (by omega) hil;have hbt:=(s[a]).toNat_lt;rw [gw_one hil] at hcc;subst c;generalize s[a].toNat = bb at HC hbt;refine zaj ?_;refine zbN (fun st => has st.tm [(0,.ref 0 0),(1,.d (pI d)),(4,.ref 1 0),(5,.d (pI bb))] /\ st.bx = [uC s (a + 1) (cnt + 1) false,fV 0 0 0 []] /\ st.nt = nt /\ st.live = live) ⟨⟨rfl,rfl,rfl,rfl,trivial⟩,rfl,rfl,rfl⟩ (fun tm bx n2 l2 hh => ?_);obtain ⟨ht,hbx,hn,hlv⟩:=hh;obtain ⟨tm1,rfl⟩:=zae ht;simp only at hbx hn hlv; subst hbx; subst n2; subst l2
 clear ht;have hu:=za5 s (a + 1) (cnt + 1) false;refine zah (zag ?_);refine mQ ?_;by_cases k:(bb:Int) < 128
 ·refine zai rfl rfl (decide_eq_true k) ?_
  refine mT ?_;refine mQ ?_;refine mS ?_;refine zao (p:=1) (cs:=fV 3 bb 0 []) rfl rfl rfl rfl rfl rfl ?_;refine zaa ?_;refine zaf ⟨.inr rfl,[.ag (fV 3 bb 0 [])],rfl,za8 (zbM HC hleft (u:=.mk 3 bb 0 [] []) rfl rfl rfl rfl (by simp [V.nodes,V.nodess]) ⟨by unfold i64ok; omega,by unfold i64ok; omega,by unfold i64ok; omega,by unfold strok; simp,by simp,trivial⟩ (by omega) (by simp only [V.bulk,V.bulks,length_nil]; omega) hl1 lR live0 fun v t0 h1 hM hA => ?_)⟩
  cases hM <;> first | (exfalso; omega) | exact ⟨rfl,rfl⟩
 refine zam rfl rfl (decide_eq_false k) ?_;refine mF ?_;refine mQ ?_;by_cases k:(bb:Int) < 144
 ·refine zai rfl rfl (decide_eq_true k) ?_
  refine mT ?_;refine mQ ?_;refine mS ?_;refine zaQ (n:=(bb:Int) - 128) rfl rfl rfl rfl (by omega) ?_;refine zc7 (n:=2 * ((bb:Int) - 128)) rfl rfl rfl rfl (by omega) ?_;refine mS ?_;refine zaq (n:=d + 1) rfl rfl rfl rfl (by omega) ?_;refine po_g rfl (FnG.lift1 (p:=0) (many_g hs hV (2 * ((bb:Int) - 128)) (by omega) (a + 1) (cnt + 1) false nt live (by omega) (by omega) hnt) (args:=[.d (pI (2 * ((bb:Int) - 128))),.d (pI (d + 1))]) ⟨trivial,trivial,trivial⟩ (za5 _ _ _ _) rfl) ?_;rintro x _ n3 l3 ⟨c',rfl,a',cnt',bad',rfl,hGM⟩
  obtain ⟨tk,rows,rfl,hGU⟩:=zdn (bb:=bb) (kind:=8) (many:=2 * ((bb:Int) - 128)) (a2:=a + 1) (a3:=a + 1) (c:=0) (b0:=false) hs HC hleft (by unfold i64ok; omega) (by omega) hGM (fun _ => ⟨rfl,rfl⟩) (fun v t0 h1 hM hA => by
   cases hM with
   | map n h kids hl => exact ⟨rfl,kids,rfl,by omega,hA,by simp⟩
   | _ => exfalso; omega)
  refine mS ?_;refine zao (p:=1) (cs:=[pI 8,pI 0,pI 0,pS [],.sl tk rows]) rfl rfl rfl rfl rfl rfl ?_;refine zaa ?_;exact zaf ⟨.inr rfl,[.ag [pI 8,pI 0,pI 0,pS [],.sl tk rows]],rfl,za8 hGU⟩
 refine zam rfl rfl (decide_eq_false k) ?_;refine mF ?_;refine mQ ?_;by_cases k:(bb:Int) < 160
 ·refine zai rfl rfl (decide_eq_true k) ?_
  refine mT ?_;refine mQ ?_;refine mS ?_;refine zaQ (n:=(bb:Int) - 144) rfl rfl rfl rfl (by omega) ?_;refine mS ?_;refine zaq (n:=d + 1) rfl rfl rfl rfl (by omega) ?_;refine po_g rfl (FnG.lift1 (p:=0) (many_g hs hV ((bb:Int) - 144) (by omega) (a + 1) (cnt + 1) false nt live (by omega) (by omega) hnt) (args:=[.d (pI ((bb:Int) - 144)),.d (pI (d + 1))]) ⟨trivial,trivial,trivial⟩ (za5 _ _ _ _) rfl) ?_;rintro x _ n3 l3 ⟨c',rfl,a',cnt',bad',rfl,hGM⟩
  obtain ⟨tk,rows,rfl,hGU⟩:=zdn (bb:=bb) (kind:=7) (many:=(bb:Int) - 144) (a2:=a + 1) (a3:=a + 1) (c:=0) (b0:=false) hs HC hleft (by unfold i64ok; omega) (by omega) hGM (fun _ => ⟨rfl,rfl⟩) (fun v t0 h1 hM hA => by
   cases hM with
   | list kids h => exact ⟨rfl,kids,rfl,by omega,hA,by simp⟩
   | _ => exfalso; omega)
  refine mS ?_;refine zao (p:=1) (cs:=[pI 7,pI 0,pI 0,pS [],.sl tk rows]) rfl rfl rfl rfl rfl rfl ?_;refine zaa ?_;exact zaf ⟨.inr rfl,[.ag [pI 7,pI 0,pI 0,pS [],.sl tk rows]],rfl,za8 hGU⟩
 refine zam rfl rfl (decide_eq_false k) ?_;refine mF ?_;refine mQ ?_;by_cases k:(bb:Int) < 192
 ·refine zai rfl rfl (decide_eq_true k) ?_
  refine mT ?_;refine mQ ?_;refine mS ?_;refine zaQ (n:=((bb - 160:Nat):Int)) rfl rfl rfl (by omega) (by omega) ?_;refine po_g rfl (FnG.lift1 (p:=0) (zhE s (a + 1) (bb - 160) (cnt + 1) false (by omega) (by omega) hs nt live) (args:=[.d (pI ((bb - 160:Nat):Int))]) ⟨trivial,trivial⟩ (za5 _ _ _ _) rfl) ?_;rintro x _ n3 l3 ⟨c',rfl,hTX⟩
  obtain ⟨rfl,rfl,tx,a',bad',rfl,rfl,hGU⟩:=zew (bb:=bb) (kind:=5) (k:=bb - 160) (a2:=a + 1) (a3:=a + 1) (c:=0) (b0:=false) hs HC hleft hl1 (by unfold i64ok; omega) (by omega) hTX (fun _ => ⟨rfl,rfl⟩) (fun v t0 h1 hM hA => by
   cases hM with
   | text tx h => exact ⟨rfl,t0,rfl,by omega,hA,by simp⟩
   | _ => exfalso; omega)
  refine mS ?_;refine zao (p:=1) (cs:=fV 5 0 0 tx) rfl rfl rfl rfl rfl rfl ?_;refine zaa ?_;exact zaf ⟨.inr rfl,[.ag (fV 5 0 0 tx)],rfl,za8 hGU⟩
 refine zam rfl rfl (decide_eq_false k) ?_;refine mF ?_;refine mQ ?_;by_cases k:(bb:Int) ≥ 224
 ·refine zai rfl rfl (decide_eq_true k) ?_
  refine mT ?_;refine mQ ?_;refine zaQ (n:=(bb:Int) - 256) rfl rfl rfl rfl (by omega) ?_;refine mS ?_;refine zao (p:=1) (cs:=fV 3 ((bb:Int) - 256) 0 []) rfl rfl rfl rfl rfl rfl ?_;refine zaa ?_;refine zaf ⟨.inr rfl,[.ag (fV 3 ((bb:Int) - 256) 0 [])],rfl,za8 (zbM HC hleft (u:=.mk 3 ((bb:Int) - 256) 0 [] []) rfl rfl rfl rfl (by simp [V.nodes,V.nodess]) ⟨by unfold i64ok; omega,by unfold i64ok; omega,by unfold i64ok; omega,by unfold strok; simp,by simp,trivial⟩ (by omega) (by simp only [V.bulk,V.bulks,length_nil]; omega) hl1 lR live0 fun v t0 h1 hM hA => ?_)⟩
  cases hM <;> first | (exfalso; omega) | exact ⟨rfl,rfl⟩
 refine zam rfl rfl (decide_eq_false k) ?_;refine mF ?_;refine mQ ?_;refine zac rfl (zbY bb 204 207) ?_;by_cases k6:(204:Int) <= bb /\ (bb:Int) <= 207
 ·rw [decide_eq_true k6]
  refine mT ?_;refine mO ?_;obtain ⟨j,rfl⟩:∃ j,bb = 204 + j:=⟨bb - 204,by omega⟩;have hj:j < 4:=by omega
  have hp2:1 <= 2 ^ j /\ 2 ^ j <= 8:=by
   have:j = 0 \/ j = 1 \/ j = 2 \/ j = 3:=by omega
   rcases this with rfl | rfl | rfl | rfl <;> decide
  (iterate 2 refine mS ?_);refine zaQ (n:=(j:Int)) rfl rfl rfl (by omega) (by omega) ?_;refine zgC (n:=((2 ^ j:Nat):Int)) rfl rfl rfl (by omega) (shl4 j hj) ?_;refine po_g rfl (FnG.lift1 (p:=0) (zbl s (a + 1) (2 ^ j) (cnt + 1) false hp2 hal hs nt live) (args:=[.d (pI ((2 ^ j:Nat):Int))]) ⟨trivial,trivial⟩ (za5 _ _ _ _) rfl) ?_;rintro x _ n3 l3 ⟨c',rfl,hW⟩;obtain ⟨rfl,rfl,z,a',bad',rfl,_,rfl,hGU⟩:=gotU_int id (fun _ h => h) HC hleft hl1 hal hW hp2.1 (wide_hc rfl hj);refine mS ?_;refine zao (p:=1) (cs:=fV 3 z 0 []) rfl rfl rfl rfl rfl rfl ?_;refine zaa ?_;exact zaf ⟨.inr rfl,[.ag (fV 3 z 0 [])],rfl,za8 hGU⟩
 rw [decide_eq_false k6];refine mF ?_;refine mQ ?_;refine zac rfl (zbY bb 208 211) ?_;by_cases k7:(208:Int) <= bb /\ (bb:Int) <= 211
 ·rw [decide_eq_true k7]
  refine mT ?_;refine mO ?_;obtain ⟨j,rfl⟩:∃ j,bb = 208 + j:=⟨bb - 208,by omega⟩;have hj:j < 4:=by omega
  have hp2:1 <= 2 ^ j /\ 2 ^ j <= 8:=by
   have:j = 0 \/ j = 1 \/ j = 2 \/ j = 3:=by omega
   rcases this with rfl | rfl | rfl | rfl <;> decide
  refine mS ?_;refine zaQ (n:=(j:Int)) rfl rfl rfl (by omega) (by omega) ?_;refine zgC (n:=((2 ^ j:Nat):Int)) rfl rfl rfl (by omega) (shl4 j hj) ?_;refine mN ?_;refine mO ?_;(iterate 2 refine mS ?_);refine po_g rfl (FnG.lift1 (p:=0) (zbl s (a + 1) (2 ^ j) (cnt + 1) false hp2 hal hs nt live) (args:=[.d (pI ((2 ^ j:Nat):Int))]) ⟨trivial,trivial⟩ (za5 _ _ _ _) rfl) ?_;rintro x _ n3 l3 ⟨c',rfl,hW⟩;obtain ⟨rfl,rfl,z,a',bad',rfl,hz,rfl,hGU⟩:=gotU_int (fun z => sgw z (2 ^ j)) (fun z h => sgw_i64 z j h) HC hleft hl1 hal hW hp2.1 (sign_hc rfl hj);refine mS ?_;refine zac (args:=[.d (pI z),.d (pI ((2 ^ j:Nat):Int))]) rfl (zfx z (2 ^ j) hp2 hz) ?_;refine mS ?_;refine zao (p:=1) (cs:=fV 3 (sgw z (2 ^ j)) 0 []) rfl rfl rfl rfl rfl rfl ?_;refine zaa ?_;exact zaf ⟨.inr rfl,[.ag (fV 3 (sgw z (2 ^ j)) 0 [])],rfl,za8 hGU⟩
 rw [decide_eq_false k7];refine mK ?_;refine zbN (fun st => has st.tm [(0,.ref 0 0),(1,.d (pI d)),(4,.ref 1 0),(5,.d (pI bb))] /\ st.bx = [uC s (a + 1) (cnt + 1) false,fV 0 0 0 []] /\ st.nt = nt /\ st.live = live) ⟨⟨rfl,rfl,rfl,rfl,trivial⟩,rfl,rfl,rfl⟩ (fun tm bx n2 l2 hh => ?_);obtain ⟨ht,hbx,hn,hlv⟩:=hh;obtain ⟨tm2,rfl⟩:=zae ht;simp only at hbx hn hlv; subst hbx; subst n2; subst l2
 clear ht;refine mM ?_;refine mN ?_;refine zag (zah (zad ?_));by_cases q192:(bb:Int) = 192
 ·refine zai rfl rfl (decide_eq_true q192) ?_
  refine mT ?_;refine mQ ?_;refine zao (p:=1) (cs:=fV 0 0 0 []) rfl rfl rfl rfl rfl rfl ?_;refine zaa ?_;refine zaf ⟨.inr rfl,[.ag (fV 0 0 0 [])],rfl,za8 (zbM HC hleft (u:=.mk 0 0 0 [] []) rfl rfl rfl rfl (by simp [V.nodes,V.nodess]) ⟨by unfold i64ok; omega,by unfold i64ok; omega,by unfold i64ok; omega,by unfold strok; simp,by simp,trivial⟩ (by omega) (by simp only [V.bulk,V.bulks,length_nil]; omega) hl1 lR live0 fun v t0 h1 hM hA => ?_)⟩
  cases hM <;> first | (exfalso; omega) | exact ⟨rfl,rfl⟩
 refine zam rfl rfl (decide_eq_false q192) ?_;refine mF ?_;refine mO ?_;by_cases q194:(bb:Int) = 194
 ·refine zai rfl rfl (decide_eq_true q194) ?_
  refine mT ?_;refine mQ ?_;refine zao (p:=1) (cs:=fV 1 0 0 []) rfl rfl rfl rfl rfl rfl ?_;refine zaa ?_;refine zaf ⟨.inr rfl,[.ag (fV 1 0 0 [])],rfl,za8 (zbM HC hleft (u:=.mk 1 0 0 [] []) rfl rfl rfl rfl (by simp [V.nodes,V.nodess]) ⟨by unfold i64ok; omega,by unfold i64ok; omega,by unfold i64ok; omega,by unfold strok; simp,by simp,trivial⟩ (by omega) (by simp only [V.bulk,V.bulks,length_nil]; omega) hl1 lR live0 fun v t0 h1 hM hA => ?_)⟩
  cases hM <;> first | (exfalso; omega) | exact ⟨rfl,rfl⟩
 refine zam rfl rfl (decide_eq_false q194) ?_;refine mF ?_;refine mO ?_;by_cases q195:(bb:Int) = 195
 ·refine zai rfl rfl (decide_eq_true q195) ?_
  refine mT ?_;refine mQ ?_;refine zao (p:=1) (cs:=fV 2 0 0 []) rfl rfl rfl rfl rfl rfl ?_;refine zaa ?_;refine zaf ⟨.inr rfl,[.ag (fV 2 0 0 [])],rfl,za8 (zbM HC hleft (u:=.mk 2 0 0 [] []) rfl rfl rfl rfl (by simp [V.nodes,V.nodess]) ⟨by unfold i64ok; omega,by unfold i64ok; omega,by unfold i64ok; omega,by unfold strok; simp,by simp,trivial⟩ (by omega) (by simp only [V.bulk,V.bulks,length_nil]; omega) hl1 lR live0 fun v t0 h1 hM hA => ?_)⟩
  cases hM <;> first | (exfalso; omega) | exact ⟨rfl,rfl⟩
 refine zam rfl rfl (decide_eq_false q195) ?_;refine mF ?_;refine zau (fun st => has st.tm [(0,.ref 0 0),(1,.d (pI d)),(4,.ref 1 0),(5,.d (pI bb)),(96,.d (pI bb)),(106,.d (pB (decide ((bb:Int) = 196 \/ (bb:Int) = 197))))] /\ st.bx = [uC s (a + 1) (cnt + 1) false,fV 0 0 0 []] /\ st.nt = nt /\ st.live = live) ?_ ?_
 ·refine mO ?_
  by_cases q:(bb:Int) = 196
  ·refine zai rfl rfl (decide_eq_true q) ?_
   refine mT ?_;refine zaj ?_;exact ⟨⟨rfl,rfl,rfl,rfl,rfl,by rw [decide_eq_true (show (bb:Int) = 196 \/ (bb:Int) = 197 from .inl q)]; rfl,trivial⟩,rfl,rfl,rfl⟩
  ·refine zam rfl rfl (decide_eq_false q) ?_
   refine mF ?_;refine zad ?_;refine po_b rfl rfl (fun b2 hb2 => ?_);refine mN ?_
   have:decide ((bb:Int) = 196 \/ (bb:Int) = 197) = b2:=by rw [hb2]; exact decide_eq_decide.2 ⟨fun h => h.resolve_left q,.inr⟩
   exact ⟨⟨rfl,rfl,rfl,rfl,rfl,by rw [this]; rfl,trivial⟩,rfl,rfl,rfl⟩
 rintro tm bx n2 l2 ⟨ht,hbx,hn,hlv⟩;obtain ⟨tm3,rfl⟩:=zae ht;simp only at hbx hn hlv; subst hbx; subst n2; subst l2
 clear ht;refine zca (p:=(bb:Int) = 196 \/ (bb:Int) = 197) rfl (fun q196 => ?_) (fun q196 => ?_)
 ·refine mQ ?_
  refine mS ?_;refine mS ?_;obtain ⟨j,hj,hj2⟩:∃ j:Nat,(bb:Int) - 195 = j /\ (j = 1 \/ j = 2):=⟨bb - 195,by omega,by omega⟩;refine zaQ (n:=(j:Int)) rfl rfl rfl hj (by omega) ?_;refine po_g rfl (FnG.lift1 (p:=0) (zbl s (a + 1) j (cnt + 1) false (by omega) hal hs nt live) (args:=[.d (pI (j:Int))]) ⟨trivial,trivial⟩ (za5 _ _ _ _) rfl) ?_;rintro x _ n3 l3 ⟨c',rfl,rfl,rfl,hW⟩
  obtain ⟨m,a3,b0,rfl,rfl,hm,ha3,hb0⟩:∃ (m a3:Nat) (b0:Bool),x = .d (pI (m:Int)) /\ c' = uC s a3 (cnt + 1) b0 /\ m <= 65536 /\ (a + 1 <= a3 /\ a3 <= a + 1 + j /\ a3 <= s.length) /\ ((b0 = false /\ a3 = a + 1 + j /\ (m:Int) = gwN s (a + 1) j) \/ (b0 = true /\ ¬ a + 1 + j <= s.length)):=by
   rcases hW with ⟨_,hle,rfl,rfl⟩ | ⟨hbad,rfl,rfl⟩
   ·have:=zbw s (a + 1) j (by omega)
    have h256:(256:Int) ^ j <= 65536:=by rcases hj2 with rfl | rfl <;> decide
    exact ⟨(gwN s (a + 1) j).toNat,_,_,by rw [Int.toNat_of_nonneg this.1],rfl,by omega,by omega,.inl ⟨rfl,rfl,by omega⟩⟩
   ·exact ⟨0,_,_,rfl,rfl,by omega,by omega,.inr ⟨rfl,hbad.resolve_left (fun h => by cases h)⟩⟩
  have two:∀ {n:Nat} {l t0:L8},n < 256 ^ j -> t0 = be j n ++ l -> At s (a + 1) t0 -> b0 = false /\ n = m /\ At s (a + 1 + j) l /\ t0.length = j + l.length:=by
   rintro n l t0 hl rfl hA;have h1:=hA.app.1;have h2:=hA.app.2;have h3:=h1.len (by omega);rw [zab] at h2 h3;have h256:256 ^ j <= 65536:=by rcases hj2 with rfl | rfl <;> decide
   have h4:=h1.gw_id hl (by omega)
   rcases hb0 with ⟨e1,e2,e3⟩ | ⟨_,e2⟩
   ·exact ⟨e1,by omega,h2,by rw [length_append,zab]⟩
   ·exact absurd h3 e2
  refine po_g rfl (FnG.lift1 (p:=0) (zhE s (a3) (m) (cnt + 1) b0 (by omega) (by omega) hs n3 l3) (args:=[.d (pI ((m:Nat):Int))]) ⟨trivial,trivial⟩ (za5 _ _ _ _) rfl) ?_;rintro x _ n3 l3 ⟨c',rfl,hTX⟩
  obtain ⟨rfl,rfl,tx,a',bad',rfl,rfl,hGU⟩:=zew (bb:=bb) (kind:=6) (k:=m) (a2:=a + 1 + j) (a3:=a3) (c:=j) (b0:=b0) hs HC hleft hl1 (by unfold i64ok; omega) (by omega) hTX (fun h => ⟨(by rcases hb0 with ⟨_,e2,_⟩ | ⟨e1,_⟩; exact e2; rw [h] at e1; cases e1),rfl⟩) (fun v t0 h1 hM hA => by
   have hbb:bb = 195 + j:=by omega
   rcases hj2 with rfl | rfl
   ·cases hM with
    | bytes1 tx h =>
     obtain ⟨e1,e2,e3,e4⟩:=two (n:=tx.length) (l:=tx) (by have:(256:Nat) ^ 1 = 256:=rfl; omega) rfl hA
     exact ⟨e1,tx,rfl,e2,e3,e4⟩
    | _ => exfalso; omega
   ·cases hM with
    | bytes2 tx h =>
     obtain ⟨e1,e2,e3,e4⟩:=two (n:=tx.length) (l:=tx) (by have:(256:Nat) ^ 2 = 65536:=rfl; omega) rfl hA
     exact ⟨e1,tx,rfl,e2,e3,e4⟩
    | _ => exfalso; omega)
  refine mS ?_;refine zao (p:=1) (cs:=fV 6 0 0 tx) rfl rfl rfl rfl rfl rfl ?_;refine zaa ?_;exact zaf ⟨.inr rfl,[.ag (fV 6 0 0 tx)],rfl,za8 hGU⟩
 refine mO ?_;by_cases q199:(bb:Int) = 199
 ·refine zai rfl rfl (decide_eq_true q199) ?_
  refine mT ?_;refine mQ ?_;refine mS ?_
  obtain rfl:bb = 199:=by omega
  refine po_g rfl (FnG.lift1 (p:=0) (extU_g hs (by omega) hV (a + 1) (cnt + 1) false nt live hal (by omega) hnt) (args:=[.d (pI d)]) ⟨trivial,trivial⟩ (za5 _ _ _ _) rfl) ?_;rintro x _ n3 l3 ⟨c',rfl,a',cnt',bad',rfl,hGX⟩;have hGU:=gotU_ext HC hleft hGX;obtain ⟨cs,rfl,hc5,_⟩:=hGX;refine zao (p:=1) (cs:=cs) rfl rfl rfl hc5 rfl rfl ?_;refine zaa ?_;exact zaf ⟨.inr rfl,[.ag cs],ress_1 rfl rfl hc5,za8 hGU⟩
 refine zam rfl rfl (decide_eq_false q199) ?_;refine mF ?_;refine zau (fun st => has st.tm [(0,.ref 0 0),(1,.d (pI d)),(4,.ref 1 0),(5,.d (pI bb)),(96,.d (pI bb)),(121,.d (pB (decide ((bb:Int) = 217 \/ (bb:Int) = 218))))] /\ st.bx = [uC s (a + 1) (cnt + 1) false,fV 0 0 0 []] /\ st.nt = nt /\ st.live = live) ?_ ?_
 ·refine mO ?_
  by_cases q:(bb:Int) = 217
  ·refine zai rfl rfl (decide_eq_true q) ?_
   refine mT ?_;refine zaj ?_;exact ⟨⟨rfl,rfl,rfl,rfl,rfl,by rw [decide_eq_true (show (bb:Int) = 217 \/ (bb:Int) = 218 from .inl q)]; rfl,trivial⟩,rfl,rfl,rfl⟩
  ·refine zam rfl rfl (decide_eq_false q) ?_
   refine mF ?_;refine zad ?_;refine po_b rfl rfl (fun b2 hb2 => ?_);refine mN ?_
   have:decide ((bb:Int) = 217 \/ (bb:Int) = 218) = b2:=by rw [hb2]; exact decide_eq_decide.2 ⟨fun h => h.resolve_left q,.inr⟩
   exact ⟨⟨rfl,rfl,rfl,rfl,rfl,by rw [this]; rfl,trivial⟩,rfl,rfl,rfl⟩
 rintro tm bx n2 l2 ⟨ht,hbx,hn,hlv⟩;obtain ⟨tm3,rfl⟩:=zae ht;simp only at hbx hn hlv; subst hbx; subst n2; subst l2
 clear ht;refine zca (p:=(bb:Int) = 217 \/ (bb:Int) = 218) rfl (fun q217 => ?_) (fun q217 => ?_)
 ·refine mQ ?_
  refine mS ?_;refine mS ?_;obtain ⟨j,hj,hj2⟩:∃ j:Nat,(bb:Int) - 216 = j /\ (j = 1 \/ j = 2):=⟨bb - 216,by omega,by omega⟩;refine zaQ (n:=(j:Int)) rfl rfl rfl hj (by omega) ?_;refine po_g rfl (FnG.lift1 (p:=0) (zbl s (a + 1) j (cnt + 1) false (by omega) hal hs nt live) (args:=[.d (pI (j:Int))]) ⟨trivial,trivial⟩ (za5 _ _ _ _) rfl) ?_;rintro x _ n3 l3 ⟨c',rfl,rfl,rfl,hW⟩
  obtain ⟨m,a3,b0,rfl,rfl,hm,ha3,hb0⟩:∃ (m a3:Nat) (b0:Bool),x = .d (pI (m:Int)) /\ c' = uC s a3 (cnt + 1) b0 /\ m <= 65536 /\ (a + 1 <= a3 /\ a3 <= a + 1 + j /\ a3 <= s.length) /\ ((b0 = false /\ a3 = a + 1 + j /\ (m:Int) = gwN s (a + 1) j) \/ (b0 = true /\ ¬ a + 1 + j <= s.length)):=by
   rcases hW with ⟨_,hle,rfl,rfl⟩ | ⟨hbad,rfl,rfl⟩
   ·have:=zbw s (a + 1) j (by omega)
    have h256:(256:Int) ^ j <= 65536:=by rcases hj2 with rfl | rfl <;> decide
    exact ⟨(gwN s (a + 1) j).toNat,_,_,by rw [Int.toNat_of_nonneg this.1],rfl,by omega,by omega,.inl ⟨rfl,rfl,by omega⟩⟩
   ·exact ⟨0,_,_,rfl,rfl,by omega,by omega,.inr ⟨rfl,hbad.resolve_left (fun h => by cases h)⟩⟩
  have two:∀ {n:Nat} {l t0:L8},n < 256 ^ j -> t0 = be j n ++ l -> At s (a + 1) t0 -> b0 = false /\ n = m /\ At s (a + 1 + j) l /\ t0.length = j + l.length:=by
   rintro n l t0 hl rfl hA;have h1:=hA.app.1;have h2:=hA.app.2;have h3:=h1.len (by omega);rw [zab] at h2 h3;have h256:256 ^ j <= 65536:=by rcases hj2 with rfl | rfl <;> decide
   have h4:=h1.gw_id hl (by omega)
   rcases hb0 with ⟨e1,e2,e3⟩ | ⟨_,e2⟩
   ·exact ⟨e1,by omega,h2,by rw [length_append,zab]⟩
   ·exact absurd h3 e2
  refine po_g rfl (FnG.lift1 (p:=0) (zhE s (a3) (m) (cnt + 1) b0 (by omega) (by omega) hs n3 l3) (args:=[.d (pI ((m:Nat):Int))]) ⟨trivial,trivial⟩ (za5 _ _ _ _) rfl) ?_;rintro x _ n3 l3 ⟨c',rfl,hTX⟩
  obtain ⟨rfl,rfl,tx,a',bad',rfl,rfl,hGU⟩:=zew (bb:=bb) (kind:=5) (k:=m) (a2:=a + 1 + j) (a3:=a3) (c:=j) (b0:=b0) hs HC hleft hl1 (by unfold i64ok; omega) (by omega) hTX (fun h => ⟨(by rcases hb0 with ⟨_,e2,_⟩ | ⟨e1,_⟩; exact e2; rw [h] at e1; cases e1),rfl⟩) (fun v t0 h1 hM hA => by
   have hbb:bb = 216 + j:=by omega
   rcases hj2 with rfl | rfl
   ·cases hM with
    | text1 tx h =>
     obtain ⟨e1,e2,e3,e4⟩:=two (n:=tx.length) (l:=tx) (by have:(256:Nat) ^ 1 = 256:=rfl; omega) rfl hA
     exact ⟨e1,tx,rfl,e2,e3,e4⟩
    | _ => exfalso; omega
   ·cases hM with
    | text2 tx h =>
     obtain ⟨e1,e2,e3,e4⟩:=two (n:=tx.length) (l:=tx) (by have:(256:Nat) ^ 2 = 65536:=rfl; omega) rfl hA
     exact ⟨e1,tx,rfl,e2,e3,e4⟩
    | _ => exfalso; omega)
  refine mS ?_;refine zao (p:=1) (cs:=fV 5 0 0 tx) rfl rfl rfl rfl rfl rfl ?_;refine zaa ?_;exact zaf ⟨.inr rfl,[.ag (fV 5 0 0 tx)],rfl,za8 hGU⟩
 refine mO ?_;by_cases q220:(bb:Int) = 220
 ·refine zai rfl rfl (decide_eq_true q220) ?_
  refine mT ?_;refine mQ ?_;refine mS ?_;refine po_g rfl (FnG.lift1 (p:=0) (zbl s (a + 1) 2 (cnt + 1) false (by omega) hal hs nt live) (args:=[.d (pI ((2:Nat):Int))]) ⟨trivial,trivial⟩ (za5 _ _ _ _) rfl) ?_;rintro x _ n3 l3 ⟨c',rfl,rfl,rfl,hW⟩
  obtain ⟨m,a3,b0,rfl,rfl,hm,ha3,hb0⟩:∃ (m a3:Nat) (b0:Bool),x = .d (pI (m:Int)) /\ c' = uC s a3 (cnt + 1) b0 /\ m <= 65536 /\ (a + 1 <= a3 /\ a3 <= a + 1 + 2 /\ a3 <= s.length) /\ ((b0 = false /\ a3 = a + 1 + 2 /\ (m:Int) = gwN s (a + 1) 2) \/ (b0 = true /\ ¬ a + 1 + 2 <= s.length)):=by
   rcases hW with ⟨_,hle,rfl,rfl⟩ | ⟨hbad,rfl,rfl⟩
   ·have:=zbw s (a + 1) 2 (by omega)
    have h256:(256:Int) ^ 2 = 65536:=rfl;exact ⟨(gwN s (a + 1) 2).toNat,_,_,by rw [Int.toNat_of_nonneg this.1],rfl,by omega,by omega,.inl ⟨rfl,rfl,by omega⟩⟩
   ·exact ⟨0,_,_,rfl,rfl,by omega,by omega,.inr ⟨rfl,hbad.resolve_left (fun h => by cases h)⟩⟩
  have two:∀ {n:Nat} {l t0:L8},n < 65536 -> t0 = be 2 n ++ l -> At s (a + 1) t0 -> b0 = false /\ n = m /\ At s (a + 1 + 2) l /\ t0.length = 2 + l.length:=by
   rintro n l t0 hl rfl hA;have h1:=hA.app.1;have h2:=hA.app.2;have h3:=h1.len (by omega);rw [zab] at h2 h3;have h4:=h1.gw_id (by have:(256:Nat) ^ 2 = 65536:=rfl; omega) (by omega)
   rcases hb0 with ⟨e1,e2,e3⟩ | ⟨_,e2⟩
   ·exact ⟨e1,by omega,h2,by rw [length_append,zab]⟩
   ·exact absurd h3 e2
  refine mS ?_;refine zaq (n:=d + 1) rfl rfl rfl rfl (by omega) ?_;refine po_g rfl (FnG.lift1 (p:=0) (many_g hs hV ((m:Int)) (by omega) (a3) (cnt + 1) b0 n3 l3 (by omega) (by omega) hnt) (args:=[.d (pI ((m:Int))),.d (pI (d + 1))]) ⟨trivial,trivial,trivial⟩ (za5 _ _ _ _) rfl) ?_;rintro x _ n4 l4 ⟨c',rfl,a',cnt',bad',rfl,hGM⟩
  obtain ⟨tk,rows,rfl,hGU⟩:=zdn (bb:=bb) (kind:=7) (many:=(m:Int)) (a2:=a + 1 + 2) (a3:=a3) (c:=2) (b0:=b0) hs HC hleft (by unfold i64ok; omega) (by omega) hGM (fun h => ⟨(by rcases hb0 with ⟨_,e2,_⟩ | ⟨e1,_⟩; exact e2; rw [h] at e1; cases e1),rfl⟩) (fun v t0 h1 hM hA => by
   cases hM with
   | list2 ks h =>
    obtain ⟨e1,e2,e3,e4⟩:=two (n:=ks.length) (l:=msgs ks) (by omega) rfl hA
    exact ⟨e1,ks,rfl,by omega,e3,e4⟩
   | _ => exfalso; omega)
  refine mS ?_;refine zao (p:=1) (cs:=[pI 7,pI 0,pI 0,pS [],.sl tk rows]) rfl rfl rfl rfl rfl rfl ?_;refine zaa ?_;exact zaf ⟨.inr rfl,[.ag [pI 7,pI 0,pI 0,pS [],.sl tk rows]],rfl,za8 hGU⟩
 refine zam rfl rfl (decide_eq_false q220) ?_;refine mF ?_;refine mO ?_;by_cases q222:(bb:Int) = 222
 ·refine zai rfl rfl (decide_eq_true q222) ?_
  refine mT ?_;refine mQ ?_;refine mS ?_;refine po_g rfl (FnG.lift1 (p:=0) (zbl s (a + 1) 2 (cnt + 1) false (by omega) hal hs nt live) (args:=[.d (pI ((2:Nat):Int))]) ⟨trivial,trivial⟩ (za5 _ _ _ _) rfl) ?_;rintro x _ n3 l3 ⟨c',rfl,rfl,rfl,hW⟩
  obtain ⟨m,a3,b0,rfl,rfl,hm,ha3,hb0⟩:∃ (m a3:Nat) (b0:Bool),x = .d (pI (m:Int)) /\ c' = uC s a3 (cnt + 1) b0 /\ m <= 65536 /\ (a + 1 <= a3 /\ a3 <= a + 1 + 2 /\ a3 <= s.length) /\ ((b0 = false /\ a3 = a + 1 + 2 /\ (m:Int) = gwN s (a + 1) 2) \/ (b0 = true /\ ¬ a + 1 + 2 <= s.length)):=by
   rcases hW with ⟨_,hle,rfl,rfl⟩ | ⟨hbad,rfl,rfl⟩
   ·have:=zbw s (a + 1) 2 (by omega)
    have h256:(256:Int) ^ 2 = 65536:=rfl;exact ⟨(gwN s (a + 1) 2).toNat,_,_,by rw [Int.toNat_of_nonneg this.1],rfl,by omega,by omega,.inl ⟨rfl,rfl,by omega⟩⟩
   ·exact ⟨0,_,_,rfl,rfl,by omega,by omega,.inr ⟨rfl,hbad.resolve_left (fun h => by cases h)⟩⟩
  have two:∀ {n:Nat} {l t0:L8},n < 65536 -> t0 = be 2 n ++ l -> At s (a + 1) t0 -> b0 = false /\ n = m /\ At s (a + 1 + 2) l /\ t0.length = 2 + l.length:=by
   rintro n l t0 hl rfl hA;have h1:=hA.app.1;have h2:=hA.app.2;have h3:=h1.len (by omega);rw [zab] at h2 h3;have h4:=h1.gw_id (by have:(256:Nat) ^ 2 = 65536:=rfl; omega) (by omega)
   rcases hb0 with ⟨e1,e2,e3⟩ | ⟨_,e2⟩
   ·exact ⟨e1,by omega,h2,by rw [length_append,zab]⟩
   ·exact absurd h3 e2
  refine zc7 (n:=2 * (m:Int)) rfl rfl rfl rfl (by omega) ?_;refine mS ?_;refine zaq (n:=d + 1) rfl rfl rfl rfl (by omega) ?_;refine po_g rfl (FnG.lift1 (p:=0) (many_g hs hV (2 * (m:Int)) (by omega) (a3) (cnt + 1) b0 n3 l3 (by omega) (by omega) hnt) (args:=[.d (pI (2 * (m:Int))),.d (pI (d + 1))]) ⟨trivial,trivial,trivial⟩ (za5 _ _ _ _) rfl) ?_;rintro x _ n4 l4 ⟨c',rfl,a',cnt',bad',rfl,hGM⟩
  obtain ⟨tk,rows,rfl,hGU⟩:=zdn (bb:=bb) (kind:=8) (many:=2 * (m:Int)) (a2:=a + 1 + 2) (a3:=a3) (c:=2) (b0:=b0) hs HC hleft (by unfold i64ok; omega) (by omega) hGM (fun h => ⟨(by rcases hb0 with ⟨_,e2,_⟩ | ⟨e1,_⟩; exact e2; rw [h] at e1; cases e1),rfl⟩) (fun v t0 h1 hM hA => by
   cases hM with
   | map2 n h ks hl =>
    obtain ⟨e1,e2,e3,e4⟩:=two (n:=n) (l:=msgs ks) (by omega) rfl hA
    exact ⟨e1,ks,rfl,by omega,e3,e4⟩
   | _ => exfalso; omega)
  refine mS ?_;refine zao (p:=1) (cs:=[pI 8,pI 0,pI 0,pS [],.sl tk rows]) rfl rfl rfl rfl rfl rfl ?_;refine zaa ?_;exact zaf ⟨.inr rfl,[.ag [pI 8,pI 0,pI 0,pS [],.sl tk rows]],rfl,za8 hGU⟩
 refine zam rfl rfl (decide_eq_false q222) ?_;refine mK ?_;refine mO ?_;(iterate 3 refine mS ?_);refine zaw (p:=0) (o':=3) (cs:=[pB true]) (z:=uC s (a + 1) (cnt + 1) false) rfl rfl rfl ⟨rfl,Nat.le_of_ble_eq_true rfl⟩ rfl ?_;refine zaa ?_;refine mQ ?_;refine zao (p:=1) (cs:=fV 0 0 0 []) rfl rfl rfl rfl rfl rfl ?_;refine zaa ?_;refine zaf ⟨.inr rfl,[.ag (fV 0 0 0 [])],rfl,za8 (a':=a + 1) (cnt':=cnt + 1) (bad':=true) (zev HC hleft rfl (za7 _ _ _ _ _ _) (fun t ht => by rw [zbB] at ht; cases ht) lR live0 ⟨by omega,hal,by omega⟩ fun v t0 h1 hM hA => ?_)⟩
 cases hM <;> (exfalso; omega)
theorem valU_all {s:L8} (hs:s.length <= 2147483647):∀ n:Nat,n <= 13 -> ValU T hT s ((13 - n:Nat):Int)
 | 0,_ => val_g hs (by omega) fun h => by omega
 | n + 1,h => by
  refine val_g hs (by omega) fun _ => ?_
  rw [show ((13 - (n + 1):Nat):Int) + 1 = ((13 - n:Nat):Int) by omega];exact valU_all hs n (by omega)
theorem getMsgI_g (hTab:∀ w,T w -> Tabs w) {s:L8} (hs:s.length <= 2147483647) (i:Int) (nt:Nat) (live:List Nat) (hnt:2 <= nt) :
  FnG (env T hT) 67 [.d (pS s),.d (pI i)] [] nt live (fun x _ n l => x.lw 0 /\ GmR s i nt live x n l):=by
 have hput:=fun v hw hb => putMsgI_fn (T:=T) (hT:=hT) hTab v hw hb
 refine zaU (zak zhD) (by show 2 <= 42; decide) fun B hB => ?_
 unfold m_i_GetMsg;refine mP ?_;refine mM ?_;(iterate 2 refine mS ?_);refine po_q (v:=.d (pI s.length)) rfl rfl ?_;refine zac rfl (zbY i 0 s.length) ?_
 have hfl:∀ (n2:Nat) (l2:List Nat),nt <= n2 -> (∀ t ∈ live,2 <= t -> t < nt -> t ∈ l2) -> (∀ v:V,v.wf -> v.ok = true -> 0 <= i -> ¬ At s i.toNat (msg v)) -> GmR s i nt live (.tup [.ag (fV 0 0 0 []),.d (pI (-1))]) n2 l2:=fun n2 l2 h1 h2 h3 =>
  ⟨_,_,rfl,rfl,za7 _ _ _ _ _ _,(fun t ht => by rw [zbB] at ht; cases ht),h2,h1,.inl ⟨rfl,rfl,h3⟩⟩
 by_cases hc:0 <= i /\ i <= s.length
 case neg =>
  rw [decide_eq_false hc];refine mT ?_;refine mQ ?_;refine zao (p:=0) (cs:=fV 0 0 0 []) rfl rfl rfl rfl rfl rfl ?_;refine mN ?_;refine zaf ⟨.inr rfl,[.ag (fV 0 0 0 []),.d (pI (-1))],rfl,zbx (za7 _ _ _ _ 0 0) _,hfl _ _ lR (fun t ht _ _ => ht) fun v h1 h2 h3 h4 => ?_⟩
  have:=zht h1 h2
  obtain ⟨r,hr⟩:=h4;rw [drop_of_length_le (by omega)] at hr
  have:=congrArg length hr
  simp only [length_nil,length_append] at this; omega
 case pos =>
 rw [decide_eq_true hc];refine mF ?_;obtain ⟨k,rfl⟩:=Int.eq_ofNat_of_zero_le hc.1;have hk:k <= s.length:=by omega
 refine zaj ?_;refine mP ?_;refine mQ ?_;refine po_g rfl (FnG.lift1 (p:=1) (by have:=valU_all (T:=T) (hT:=hT) hs 13 (by omega) k 0 false nt live hk (by omega) hnt; exact this) (args:=[.d (pI 0)]) ⟨trivial,trivial⟩ (za5 s k 0 false) rfl) ?_;rintro x _ n2 l2 ⟨c',rfl,a',cnt',bad',rfl,cs,rfl,hc5,hnew,hctk,hlv,hn2,⟨ha1,ha2,_⟩,_,hres,hcomp⟩
 have hcomp:∀ v:V,v.wf -> v.ok = true -> At s k (msg v) -> bad' = false /\ a' = k + (msg v).length /\ erL cs = vC v:=fun v h1 h2 h3 => by
  obtain ⟨q1,q2,q3,_⟩:=hcomp rfl v h1 (zeo h2) (by have:=ok_nodes h2; omega) h3;exact ⟨q1,q2,q3⟩
 refine zb5 (cs:=cs) rfl hc5 rfl rfl ?_;refine zaa ?_;refine zah ?_
 obtain ⟨f,hf⟩:∃ f:Bool,f = true ↔ ¬ ∃ v:V,v.wf /\ v.ok = true /\ At s k (msg v):=by
  by_cases h:∃ v:V,v.wf /\ v.ok = true /\ At s k (msg v)
  ·exact ⟨false,by simp only [h,not_true]; decide⟩
  ·exact ⟨true,by simp only [h,not_false_iff]⟩
 refine zau (fun st => has st.tm [(4,.ref 0 0),(6,.ref 1 0),(7,.ref 2 0),(35,.d (pB f))] /\ st.bx = [fV 0 0 0 [],uC s a' cnt' bad',cs] /\ st.nt = n2 /\ st.live = l2) ?_ ?_
 ·refine zad ?_
  (iterate 5 refine mS ?_)
  cases bad' with
  | true =>
   refine mZ ?_;refine mN ?_
   have:f = true:=hf.2 (by
    rintro ⟨v,h1,h2,h3⟩
    have:=(hcomp v h1 h2 h3).1
    cases this)
   exact ⟨⟨rfl,rfl,rfl,by rw [this]; rfl,trivial⟩,rfl,rfl,rfl⟩
  | false =>
   obtain ⟨_,u,he,huw,hka,hub⟩:=hres rfl;clear hres;refine za1 (p:=2) (cs:=cs) rfl rfl rfl hc5 ?_;(iterate 6 refine mS ?_);refine zbA (a:=k) (b:=a') (rs:=(s.drop k).take (a' - k)) rfl rfl (zaN rfl rfl) (zaN rfl rfl) (by omega) rfl ?_;refine zaI (b:=true) (args:=[.ag (vC u)]) rfl (fun _ => zf3 he) (fun _ => hput u huw (by omega)) ?_;refine po_ne (la:=msgTop u) (lb:=(s.drop k).take (a' - k)) rfl rfl rfl ?_;refine mN ?_;refine ⟨⟨rfl,rfl,rfl,?_,trivial⟩,rfl,rfl,rfl⟩
   have hiff:(msgTop u ≠ (s.drop k).take (a' - k)) ↔ ¬ ∃ v:V,v.wf /\ v.ok = true /\ At s k (msg v):=by
    constructor
    ·rintro hne ⟨v,h1,h2,h3⟩
     obtain ⟨_,q1,q2⟩:=hcomp v h1 h2 h3;have huv:u = v:=zeU (he.symm.trans q2);subst huv
     apply hne
     unfold msgTop;rw [if_pos h2,show a' - k = (msg u).length by omega,h3.take]
    ·intro hno heq
     apply hno
     by_cases hok:u.ok = true
     ·refine ⟨u,huw,hok,?_⟩
      unfold msgTop at heq;rw [if_pos hok] at heq;exact zeV heq
     ·exfalso
      unfold msgTop at heq;rw [if_neg hok] at heq
      have:=congrArg length heq
      rw [length_take,length_drop,length_nil] at this;omega
   have:decide (msgTop u ≠ (s.drop k).take (a' - k)) = f:=by rw [Bool.eq_iff_iff,decide_eq_true_iff,hiff,hf]
   rw [<- this]; rfl
 rintro tm bx n3 l3 ⟨ht,rfl,hn3,hl3⟩;obtain ⟨tm1,rfl⟩:=zae ht;simp only at hn3 hl3; subst n3; subst l3
 clear ht;refine zaO (t:=f) rfl (fun hno => ?_) (fun hyes => ?_)
 ·have hno:=hf.1 hno
  refine mQ ?_;refine zao (p:=0) (cs:=fV 0 0 0 []) rfl rfl rfl rfl rfl rfl ?_;refine mN ?_;exact zaf ⟨.inr rfl,[.ag (fV 0 0 0 []),.d (pI (-1))],rfl,zbx (za7 _ _ _ _ 0 0) _,hfl _ _ hn2 hlv fun v h1 h2 h3 h4 => hno ⟨v,h1,h2,h4⟩⟩
 ·obtain ⟨v,h1,h2,h3⟩:∃ v:V,v.wf /\ v.ok = true /\ At s k (msg v):=Classical.byContradiction fun h => by rw [hf.2 h] at hyes; cases hyes
  obtain ⟨q0,q1,q2⟩:=hcomp v h1 h2 h3;refine zaj ?_;refine mO ?_;refine za1 (p:=2) (cs:=cs) rfl rfl rfl hc5 ?_;(iterate 4 refine mS ?_);refine zao (p:=0) (cs:=cs) rfl rfl rfl hc5 rfl rfl ?_;refine mN ?_;refine zaf ⟨.inr rfl,[.ag cs,.d (pI a')],zbg rfl rfl hc5 rfl,zbx hnew _,cs,a',rfl,hc5,hnew,hctk,hlv,hn2,.inr ⟨k,v,rfl,h1,h2,h3,by rw [q1],h3.len (by omega),q2,fun v' r1 r2 r3 => zeU ((hcomp v' r1 r2 r3).2.2.symm.trans q2)⟩⟩
theorem zdy {s:L8} {p nt n:Nat} {bad:Bool} {live l:List Nat} {x:PV} {c':List PC} (hp:p <= s.length) (h:HeadR s p bad nt live x c' n l):n = nt /\ l = live /\ ∃ (mm:Int) (n1 p1:Nat) (bad1:Bool),c' = deC s p1 bad1 /\ x = .tup [.d (pI mm),.d (.v (.int .u64 (n1:Nat)))] /\ n1 < 18446744073709551616 /\ p <= p1 /\ p1 <= s.length /\
  ((bad1 = true /\ (bad = true \/ getHd s p = none) /\ p1 = p) \/ (bad1 = false /\ bad = false /\ p < p1 /\ ∃ m,getHd s p = some (m,n1,p1))):=by
 obtain ⟨rfl,rfl,⟨h1,h2,h3⟩ | ⟨m,k,y,h1,h2,h3,h4⟩⟩:=h
 ·exact ⟨rfl,rfl,-1,0,p,true,h2,h3,by decide,lR,hp,.inl ⟨rfl,h1,rfl⟩⟩
 ·obtain ⟨g1,g2,g3,g4,g5,g6⟩:=zbt h2
  exact ⟨rfl,rfl,m,k,y,false,h3,h4,g5,by omega,g3,.inr ⟨rfl,h1,g2,m,h2⟩⟩
theorem zhI {s:L8} {p k nt n:Nat} {bad:Bool} {live l:List Nat} {x:PV} {c':List PC} (hp:p <= s.length) (h:BytesR s p k bad nt live x c' n l):n = nt /\ l = live /\ ∃ (p1:Nat) (bad1:Bool) (name:L8),c' = deC s p1 bad1 /\ x = .d (pS name) /\ name.length <= s.length /\ p <= p1 /\ p1 <= s.length /\
  ((bad1 = true /\ (bad = true \/ ¬ p + k <= s.length) /\ p1 = p) \/ (bad1 = false /\ bad = false /\ p1 = p + k /\ p + k <= s.length /\ name = (s.drop p).take k)):=by
 obtain ⟨rfl,rfl,⟨h1,h2,h3,h4⟩ | ⟨h1,h2,h3⟩⟩:=h
 ·exact ⟨rfl,rfl,p + k,false,_,h3,h4,by rw [length_take,length_drop]; omega,by omega,h2,.inr ⟨rfl,h1,rfl,h2,rfl⟩⟩
 ·exact ⟨rfl,rfl,p,true,[],h2,h3,Nat.zero_le _,lR,hp,.inl ⟨rfl,h1,rfl⟩⟩
def NmP (s:L8) (nt:Nat) (live:List Nat) (nt1:Nat) (l1:List Nat) (n p tk:Nat) (bad:Bool) (ns:List (L8)):Prop :=
 (tk = 1 /\ pSr ns = [] \/ 2 <= tk) /\ OwnL nt1 l1 ([] ++ .sl tk (pSr ns) :: [.sl 1 []]) /\ (∀ t ∈ toksL ([] ++ .sl tk (pSr ns) :: [.sl 1 []]),nt <= t) /\ nt <= nt1 /\ (∀ t ∈ live,2 <= t -> t < nt -> t ∈ l1) /\
 p <= s.length /\ ns.length <= p + (if bad then 1 else 0) /\ (∀ x ∈ ns,x.length <= s.length) /\ n < 18446744073709551616 /\
 ∀ (ns':List (L8)) (vs':List V),Good s ns' vs' -> bad = false /\ ns = ns'.take ns.length /\ n + ns.length = ns'.length /\ p = (hd 4 ns'.length).length + (nmsT ns).length
def GnI (s:L8) (nt:Nat) (live:List Nat) (m:Nat) (st:St):Prop:=∃ (n p tk:Nat) (bad:Bool) (ns:List (L8)),has st.tm [(0,.d (pS s)),(2,.ref 0 0),(4,.ref 1 0),(5,.ref 2 0),(7,.d (.v (.int .u64 (n:Nat))))] /\
 st.bx = [d0,[.sl tk (pSr ns),.sl 1 []],deC s p bad] /\ NmP s nt live st.nt st.live n p tk bad ns /\ m = (if bad then 0 else s.length + 1 - p)
theorem nmP_start {s:L8} {nt:Nat} {live:List Nat} {n1 p1:Nat} {bad1:Bool} (hn:n1 < 18446744073709551616) (hp1:p1 <= s.length) (h:(bad1 = true /\ (false = true \/ getHd s 0 = none) /\ p1 = 0) \/ (bad1 = false /\ false = false /\ 0 < p1 /\ ∃ m,getHd s 0 = some (m,n1,p1))) :
  NmP s nt live nt live n1 p1 1 bad1 []:=by
 refine ⟨.inl ⟨rfl,rfl⟩,⟨rfl,nodup_nil,fun t ht => by cases ht⟩,(fun t ht => by cases ht),lR,fun t ht _ _ => ht,hp1,Nat.zero_le _,(fun x hx => by cases hx),hn,fun ns' vs' hg => ?_⟩;obtain ⟨g1,g2,g3,g4,g5,g6,g7,g8⟩:=hg.at;have hh:=zcC (by decide) (by omega) (Nat.zero_le _) g1
 rcases h with ⟨_,h2,_⟩ | ⟨h1,_,_,m,h2⟩
 ·rcases h2 with h2 | h2
  ·cases h2
  ·rw [hh] at h2; cases h2
 ·rw [hh] at h2
  simp only [sI,Prod.mk.injEq] at h2;refine ⟨h1,by simp,?_,?_⟩
  ·simp only [length_nil]; omega
  ·simp only [nmsT,length_nil]; omega
theorem nmP_step {s:L8} {nt nt1 n p tk n1 p1 p2:Nat} {live l1:List Nat} {bad1 bad2:Bool} {ns:List (L8)} {name:L8} (hP:NmP s nt live nt1 l1 n p tk false ns) (hn0:0 < n) (h22:2 <= nt1)
  (hH:(bad1 = true /\ (false = true \/ getHd s p = none) /\ p1 = p) \/ (bad1 = false /\ false = false /\ p < p1 /\ ∃ m,getHd s p = some (m,n1,p1)))
  (hp12:p1 <= p2) (hp2:p2 <= s.length) (hnl:name.length <= s.length) (hB:(bad2 = true /\ (bad1 = true \/ ¬ p1 + n1 <= s.length) /\ p2 = p1) \/ (bad2 = false /\ bad1 = false /\ p2 = p1 + n1 /\ p1 + n1 <= s.length /\ name = (s.drop p1).take n1)) :
  NmP s nt live (nt1 + 1) (nt1 :: l1.filter (· != tk)) (n - 1) p2 nt1 bad2 (ns ++ [name]) /\ (if bad2 then 0 else s.length + 1 - p2) < s.length + 1 - p:=by
 obtain ⟨htk,hown,hge,hnt,hlv,hp,hlen,hnb,hn,hcp⟩:=hP;have hpp:p <= p1:=by rcases hH with ⟨_,_,rfl⟩ | ⟨_,_,h,_⟩ <;> omega
 have hpush:pSr (ns ++ [name]) = pSr ns ++ [[pS name]]:=by unfold pSr; rw [map_append]; rfl
 have hown2:OwnL (nt1 + 1) (nt1 :: l1.filter (· != tk)) ([] ++ .sl nt1 (pSr ns ++ [[pS name]]) :: [.sl 1 []]) /\ (∀ t ∈ toksL ([] ++ .sl nt1 (pSr ns ++ [[pS name]]) :: [.sl 1 []]),nt <= t):=by
  have e:toksL ([] ++ .sl nt1 (pSr ns ++ [[pS name]]) :: [.sl 1 []]) = [nt1]:=by
   show PC.toks (.sl nt1 (pSr ns ++ [[pS name]])) ++ [] = _;rw [zaF h22,<- hpush,pSr_tok]; rfl
  refine ⟨⟨?_,by rw [e]; simp,fun t ht => ?_⟩,fun t ht => ?_⟩
  ·show (PC.owned (.sl nt1 (pSr ns ++ [[pS name]])) && true) = true
   rw [zbW h22,<- hpush,pSr_own]; rfl
  ·rw [e] at ht; simp at ht; subst ht; exact ⟨mem_cons_self ..,Nat.lt_succ_self _⟩
  ·rw [e] at ht; simp at ht; omega
 refine ⟨⟨.inr h22,?_,?_,by omega,?_,hp2,?_,?_,by omega,fun ns' vs' hg => ?_⟩,?_⟩
 ·rw [hpush]; exact hown2.1
 ·rw [hpush]; exact hown2.2
 ·intro t ht h2 hlt
  refine mem_cons_of_mem _ (mem_filter.2 ⟨hlv t ht h2 hlt,?_⟩)
  have:=tk_ge htk hge
  simp only [bne_iff_ne,ne_eq]; omega
 ·rw [length_append,length_singleton]
  rcases hB with ⟨rfl,_,rfl⟩ | ⟨rfl,h1,rfl,_,_⟩
  ·simp at hlen ⊢; omega
  ·rcases hH with ⟨h3,_,_⟩ | ⟨_,_,h3,_⟩
   ·rw [h1] at h3; cases h3
   ·simp at hlen ⊢; omega
 ·intro x hx
  rcases mem_append.1 hx with hx | hx
  ·exact hnb x hx
  ·simp only [mem_singleton] at hx; subst hx; exact hnl
 ·obtain ⟨_,e1,e2,e3⟩:=hcp ns' vs' hg
  obtain ⟨g1,g2,g3,g4,g5,g6,g7,g8⟩:=hg.at;have hku:ns.length < ns'.length:=by omega
  have hA:=nms_at g2 ns.length hku;rw [<- e1,<- e3] at hA;have hul:=g6 _ (getElem_mem hku);have hh:=zcC (by decide) (by omega) hp hA.app.1;have hA2:=hA.app.2;have hAl:=hA2.len (by have:=hA.app.1.len hp; exact this)
  rcases hH with ⟨_,h2,_⟩ | ⟨hb1,_,_,m,h2⟩
  ·rcases h2 with h2 | h2
   ·cases h2
   ·rw [hh] at h2; cases h2
  rw [hh] at h2;simp only [sI,Prod.mk.injEq] at h2;obtain ⟨_,h3,h4⟩:=h2
  rcases hB with ⟨_,h5,_⟩ | ⟨hb2,_,h5,h6,h7⟩
  ·rcases h5 with h5 | h5
   ·rw [hb1] at h5; cases h5
   ·omega
  have hT:=hA2.take;rw [h4,h3] at hT;refine ⟨hb2,?_,?_,?_⟩
  ·rw [length_append,length_singleton,take_succ_eq_append_getElem hku,<- e1,h7,hT]
  ·rw [length_append,length_singleton]; omega
  ·rw [zdc,length_append,h7,hT]
   simp only [nmsT,length_append,length_nil]; omega
 ·rcases hB with ⟨rfl,_,rfl⟩ | ⟨rfl,h1,rfl,_,_⟩
  ·simp; omega
  ·rcases hH with ⟨h3,_,_⟩ | ⟨_,_,h3,_⟩
   ·rw [h1] at h3; cases h3
   ·simp; omega
def TbP (s:L8) (nt:Nat) (live:List Nat) (nt1:Nat) (l1:List Nat) (n p tk t2:Nat) (bad:Bool) (ns:List (L8)) (rows:LP PC) (vs:List V):Prop :=
 (t2 = 1 /\ rows = [] \/ 2 <= t2) /\ OwnL nt1 l1 ([.sl tk (pSr ns)] ++ .sl t2 rows :: []) /\ (∀ t ∈ toksL ([.sl tk (pSr ns)] ++ .sl t2 rows :: []),nt <= t) /\ nt <= nt1 /\ (∀ t ∈ live,2 <= t -> t < nt -> t ∈ l1) /\
 p <= s.length /\ ns.length <= s.length + 1 /\ (∀ x ∈ ns,x.length <= s.length) /\ n < 18446744073709551616 /\ erLL rows = vK vs /\ vs.length <= p /\ (∀ v ∈ vs,v.wf /\ v.ok = true) /\
 ∀ (ns':List (L8)) (vs':List V),Good s ns' vs' -> bad = false /\ ns = ns' /\ vs = vs'.take vs.length /\ n + vs.length = vs'.length /\ p = (hd 4 ns'.length).length + (nmsT ns').length + (hd 4 vs'.length).length + (msgs vs).length
def GtI (s:L8) (nt:Nat) (live:List Nat) (m:Nat) (st:St):Prop:=∃ (n p tk t2:Nat) (bad:Bool) (ns:List (L8)) (rows:LP PC) (vs:List V) (rest:LP PC),has st.tm [(0,.d (pS s)),(2,.ref 0 0),(4,.ref 1 0),(5,.ref 2 0),(11,.d (.v (.int .u64 (n:Nat))))] /\
 st.bx = d0 :: [.sl tk (pSr ns),.sl t2 rows] :: deC s p bad :: rest /\ TbP s nt live st.nt st.live n p tk t2 bad ns rows vs /\ m = (if bad then 0 else s.length + 1 - p)
theorem tbP_start {s:L8} {nt nt1 n p tk n1 p1:Nat} {live l1:List Nat} {bad bad1:Bool} {ns:List (L8)} (hP:NmP s nt live nt1 l1 n p tk bad ns) (hend:n = 0 \/ bad = true) (hn1:n1 < 18446744073709551616) (hp1:p1 <= s.length)
  (hH:(bad1 = true /\ (bad = true \/ getHd s p = none) /\ p1 = p) \/ (bad1 = false /\ bad = false /\ p < p1 /\ ∃ m,getHd s p = some (m,n1,p1))) :
  TbP s nt live nt1 l1 n1 p1 tk 1 bad1 ns [] []:=by
 obtain ⟨htk,hown,hge,hnt,hlv,hp,hlen,hnb,hn,hcp⟩:=hP;refine ⟨.inl ⟨rfl,rfl⟩,hown,hge,hnt,hlv,hp1,?_,hnb,hn1,rfl,Nat.zero_le _,(fun v hv => by cases hv),fun ns' vs' hg => ?_⟩
 ·cases bad <;> simp at hlen <;> omega
 ·obtain ⟨e0,e1,e2,e3⟩:=hcp ns' vs' hg
  obtain ⟨g1,g2,g3,g4,g5,g6,g7,g8⟩:=hg.at;have hn0:n = 0:=hend.resolve_right (by rw [e0]; decide);have hns:ns = ns':=by rw [e1]; exact take_of_length_le (by omega)
  rw [hns] at e3;rw [<- e3] at g3;have hh:=zcC (by decide) (by omega) hp g3
  rcases hH with ⟨_,h2,_⟩ | ⟨hb1,_,_,m,h2⟩
  ·rcases h2 with h2 | h2
   ·rw [e0] at h2; cases h2
   ·rw [hh] at h2; cases h2
  rw [hh] at h2;simp only [sI,Prod.mk.injEq] at h2;obtain ⟨_,h3,h4⟩:=h2;exact ⟨hb1,hns,by simp,by simp only [length_nil]; omega,by simp only [msgs,length_nil]; omega⟩
theorem tbP_step {s:L8} {nt n1 n2 n p tk t2:Nat} {live l1 l2:List Nat} {ns:List (L8)} {rows:LP PC} {vs:List V} {cs:List PC} {v:V} (hP:TbP s nt live n1 l1 n p tk t2 false ns rows vs) (hn0:0 < n) (h22:2 <= n2) (hn2:n1 <= n2)
  (hnew:NewL n1 n2 cs) (hctk:∀ t ∈ toksL cs,t ∈ l2) (hlv2:∀ t ∈ l1,2 <= t -> t < n1 -> t ∈ l2) (hvw:v.wf) (hvo:v.ok = true) (hle:p + (msg v).length <= s.length) (he:erL cs = vC v) (huniq:∀ v':V,v'.wf -> v'.ok = true -> At s p (msg v') -> v' = v) :
  TbP s nt live (n2 + 2) ((n2 + 1) :: (n2 :: l2).filter (· != t2)) (n - 1) (p + (msg v).length) tk (n2 + 1) false ns (rows ++ [cs]) (vs ++ [v]) /\ s.length + 1 - (p + (msg v).length) < s.length + 1 - p:=by
 obtain ⟨ht2,hown,hge,hnt,hlv,hp,hlen,hnb,hn,hrows,hvl,hvb,hcp⟩:=hP;obtain ⟨o1,o2⟩:=zdT (n2:=n2) (l2:=l2) hown ht2 hge hnt hn2 h22 hnew hctk hlv2;have hml:=zht hvw hvo;refine ⟨⟨.inr (by omega),o1,o2,by omega,zeq (tk_ge ht2 hge) hnt hlv hlv2,hle,hlen,hnb,by omega,?_,by rw [length_append,length_singleton]; omega,?_,fun ns' vs' hg => ?_⟩,by omega⟩
 ·rw [zbI,hrows,zb4,zb4,map_append]; simp only [erLL,he]; rfl
 ·intro u hu
  rcases mem_append.1 hu with hu | hu
  ·exact hvb u hu
  ·simp only [mem_singleton] at hu; subst hu; exact ⟨hvw,hvo⟩
 ·obtain ⟨_,e1,e2,e3,e4⟩:=hcp ns' vs' hg
  obtain ⟨g1,g2,g3,g4,g5,g6,g7,g8,_⟩:=hg.at;have hku:vs.length < vs'.length:=by omega
  have hA:=zfw g4 vs.length hku;rw [<- e2,<- e4] at hA;have hu:=g8 _ (getElem_mem hku);have huv:=huniq _ hu.1 hu.2 hA;refine ⟨rfl,e1,?_,?_,?_⟩
  ·rw [length_append,length_singleton,take_succ_eq_append_getElem hku,<- e2,huv]
  ·rw [length_append,length_singleton]; omega
  ·rw [zcq,length_append]; simp only [msgs,append_nil]; omega
theorem tbP_bad {s:L8} {nt n1 n2 n p tk t2:Nat} {live l1 l2:List Nat} {ns:List (L8)} {rows:LP PC} {vs:List V} (hP:TbP s nt live n1 l1 n p tk t2 false ns rows vs) (hn0:0 < n) (hn2:n1 <= n2) (hlv2:∀ t ∈ l1,2 <= t -> t < n1 -> t ∈ l2)
  (hno:∀ v:V,v.wf -> v.ok = true -> ¬ At s p (msg v)):TbP s nt live n2 l2 n p tk t2 true ns rows vs:=by
 obtain ⟨ht2,hown,hge,hnt,hlv,hp,hlen,hnb,hn,hrows,hvl,hvb,hcp⟩:=hP;refine ⟨ht2,hown.mono2 hn2 hlv2,hge,by omega,fun t ht h2 hlt => hlv2 t (hlv t ht h2 hlt) h2 (by omega),hp,hlen,hnb,hn,hrows,hvl,hvb,fun ns' vs' hg => ?_⟩;obtain ⟨_,e1,e2,e3,e4⟩:=hcp ns' vs' hg;obtain ⟨g1,g2,g3,g4,g5,g6,g7,g8,_⟩:=hg.at;have hku:vs.length < vs'.length:=by omega
 have hA:=zfw g4 vs.length hku;rw [<- e2,<- e4] at hA;have hu:=g8 _ (getElem_mem hku);exact absurd hA (hno _ hu.1 hu.2)
theorem dec1 {n:Nat} (h:0 < n) (hn:n < 18446744073709551616):IntKind.wrap .u64 ((n:Int) - 1) = ((n - 1:Nat):Int):=by rw [IntKind.wrap_u64]; omega
theorem getDictI_g (hTab:∀ w,T w -> Tabs w) {s:L8} (hs:s.length <= 2147483647) (nt:Nat) (live:List Nat) (hnt:2 <= nt) :
  FnG (env T hT) 15 [.d (pS s)] [] nt live (fun x _ n' l => x.lw 0 /\ DictR s nt live x n' l):=by
 refine zaU (zak zgs) (by show 1 <= 108; decide) fun B hB => ?_
 unfold m_i_GetDict;refine mP ?_;refine mM ?_;refine mS ?_;refine po_q (v:=.d (pI s.length)) rfl rfl ?_;refine po_b rfl rfl (fun b60 hb60 => ?_);refine zaa ?_;refine zbe (p:=(s.length:Int) > 60000) hb60 rfl (fun h60 _ => ?_) (fun h60 _ => ?_)
 ·refine mQ ?_
  refine zao (p:=0) (cs:=d0) rfl rfl rfl rfl rfl rfl ?_;refine mN ?_;refine zaf ⟨.inr rfl,[.ag d0,.d (pB false)],rfl,zcE (fun ns' vs' h => ?_) (fun t ht _ _ => ht) lR⟩;obtain ⟨g1,g2,g3,g4,g5,g6,g7,g8,g9⟩:=h.at;omega
 refine zaj ?_;refine mQ ?_;refine zb5 (cs:=d0) rfl rfl rfl rfl ?_;refine zaa ?_;refine mO ?_;(iterate 2 refine mS ?_);refine zbV (cs:=deC s 0 false) rfl ?_;refine mN ?_;refine mQ ?_;refine po_g rfl (FnG.lift1 (p:=2) (zfA s 0 false (Nat.zero_le _) hs nt live) trivial (zdJ _ _ _) rfl) ?_;rintro x _ n1 l1 ⟨c',rfl,hR⟩;obtain ⟨rfl,rfl,mm,k1,p1,bad1,rfl,rfl,hk1,_,hp1,hH⟩:=zdy (Nat.zero_le _) hR;refine mN ?_;have hstart:=nmP_start (s:=s) (nt:=n1) (live:=l1) hk1 hp1 (hH.imp id fun h => ⟨h.1,h.2.1,h.2.2.1,h.2.2.2⟩);refine zau (fun st => ∃ (n p tk:Nat) (bad:Bool) (ns:List (L8)),has st.tm [(0,.d (pS s)),(2,.ref 0 0),(4,.ref 1 0),(5,.ref 2 0)] /\ st.bx = [d0,[.sl tk (pSr ns),.sl 1 []],deC s p bad] /\ NmP s n1 l1 st.nt st.live n p tk bad ns /\ (n = 0 \/ bad = true)) ?_ ?_
 ·refine zag ?_
  refine zaz (GnI s n1 l1) _ ⟨k1,p1,1,bad1,[],⟨rfl,rfl,rfl,rfl,rfl,trivial⟩,rfl,hstart,rfl⟩ ?_;rintro m tm bx nt2 live2 ⟨n,p,tk,bad,ns,ht,hbx,hP,rfl⟩;obtain ⟨tm0,rfl⟩:=zae ht;simp only at hbx hP; subst hbx
  clear ht;have hn64:=hP.2.2.2.2.2.2.2.2.1;have hpl:=hP.2.2.2.2.2.1;have hlen:=hP.2.2.2.2.2.2.1;have hnt2:=hP.2.2.2.1;refine mM ?_;refine mS ?_;by_cases hn0:0 < n
  case neg =>
   refine zam rfl rfl (decide_eq_false (show ¬ ((n:Nat):Int) > 0 by omega)) ?_;refine mS ?_;refine mZ ?_;refine mF ?_;refine zaH ?_;exact ⟨n,p,tk,bad,ns,⟨rfl,rfl,rfl,rfl,trivial⟩,rfl,hP,.inl (by omega)⟩
  refine zai rfl rfl (decide_eq_true (show ((n:Nat):Int) > 0 by omega)) ?_
  cases bad with
  | true =>
   refine mF ?_;refine zaH ?_
   exact ⟨n,p,tk,true,ns,⟨rfl,rfl,rfl,rfl,trivial⟩,rfl,hP,.inr rfl⟩
  | false =>
  refine mT ?_;refine zaj ?_;refine zah (zag (zah (zad ?_)));refine mS ?_;refine po_g rfl (FnG.lift1 (p:=2) (zfA s p false hpl hs nt2 live2) trivial (zdJ _ _ _) rfl) ?_;rintro x _ n3 l3 ⟨c',rfl,hR3⟩;obtain ⟨rfl,rfl,mm3,k3,p3,bad3,rfl,rfl,hk3,hpp3,hp3,hH3⟩:=zdy hpl hR3;refine mN ?_;refine zad ?_;(iterate 4 refine mS ?_);refine po_gk rfl (FnG.lift1 (p:=2) (deBytes_g s p3 k3 bad3 hk3 hp3 hs n3 l3) ⟨trivial,trivial⟩ (zdJ _ _ _) rfl) ?_ ?_
  ·rintro x b n4 l4 ⟨c',rfl,_⟩ y hy
   rw [mem_singleton] at hy; subst hy
   rfl
  rintro x _ n4 l4 ⟨c',rfl,hB4⟩;obtain ⟨rfl,rfl,p4,bad4,name,rfl,rfl,hnl,hpp4,hp4,hB⟩:=zhI hp3 hB4;refine mS ?_;refine zcL (t:=tk) (t':=0) (es:=pSr ns) (ds:=[[pS name]]) rfl rfl (hP.1.imp (fun h => h.1) fun h => (hP.2.1.mem tk (by show tk ∈ PC.toks (.sl tk (pSr ns)) ++ _; rw [zaF h]; simp)).1) (by simp only [length_singleton,za0]; simp at hlen; omega) (fun e he => by simp only [mem_singleton] at he; subst he; rfl) (zea ns) ?_;refine mS ?_;refine zaw (p:=1) (o':=0) (cs:=[.sl n4 (pSr ns ++ [[pS name]])]) (z:=[.sl tk (pSr ns),.sl 1 []]) rfl rfl rfl ⟨rfl,Nat.le_of_ble_eq_true rfl⟩ rfl ?_;refine zaa ?_;refine zad ?_;refine mS ?_;refine po_q (v:=.d (.v (.int .u64 ((n - 1:Nat):Int)))) rfl (by show some (PV.d (.v (.int .u64 (IntKind.wrap .u64 ((n:Int) - 1))))) = _; rw [dec1 hn0 hn64]) ?_;refine mN ?_;obtain ⟨q1,q2⟩:=nmP_step hP hn0 (by omega) hH3 hpp4 hp4 hnl hB
  have hpush:pSr (ns ++ [name]) = pSr ns ++ [[pS name]]:=by unfold pSr; rw [map_append]; rfl
  exact ⟨_,q2,n - 1,p4,n4,bad4,ns ++ [name],⟨rfl,rfl,rfl,rfl,rfl,trivial⟩,by rw [hpush]; rfl,q1,rfl⟩
 rintro tm bx n2 l2 ⟨n,p,tk,bad,ns,ht,hbx,hP,hend⟩;obtain ⟨tm0,rfl⟩:=zae ht;simp only at hbx hP; subst hbx
 clear ht;have hpl:=hP.2.2.2.2.2.1;refine mQ ?_;refine po_g rfl (FnG.lift1 (p:=2) (zfA s p bad hpl hs n2 l2) trivial (zdJ _ _ _) rfl) ?_;rintro x _ n3 l3 ⟨c',rfl,hR3⟩;obtain ⟨rfl,rfl,mm3,k3,p3,bad3,rfl,rfl,hk3,hpp3,hp3,hH3⟩:=zdy hpl hR3;refine mN ?_;have hT0:=tbP_start hP hend hk3 hp3 hH3;refine zau (fun st => ∃ (n p tk t2:Nat) (bad:Bool) (ns:List (L8)) (rows:LP PC) (vs:List V) (rest:LP PC),has st.tm [(0,.d (pS s)),(2,.ref 0 0),(4,.ref 1 0),(5,.ref 2 0)] /\ st.bx = d0 :: [.sl tk (pSr ns),.sl t2 rows] :: deC s p bad :: rest /\ TbP s n1 l1 st.nt st.live n p tk t2 bad ns rows vs /\ (n = 0 \/ bad = true)) ?_ ?_
 ·refine zag ?_
  refine zaz (GtI s n1 l1) _ ⟨k3,p3,tk,1,bad3,ns,[],[],[],⟨rfl,rfl,rfl,rfl,rfl,trivial⟩,rfl,hT0,rfl⟩ ?_;clear hT0 hH3 hP hend hH hstart;rintro m tm bx nt2 live2 ⟨n,p,tk,t2,bad,ns,rows,vs,rest,ht,hbx,hP,rfl⟩;obtain ⟨tm0,rfl⟩:=zae ht;simp only at hbx hP; subst hbx
  clear ht;obtain ⟨ht2,hown,hge,hntl,hlv,hpl,hnsl,hnb,hn64,hrows,hvl,hvb,hcp⟩:=id hP;refine mM ?_;refine mS ?_;by_cases hn0:0 < n
  case neg =>
   refine zam rfl rfl (decide_eq_false (show ¬ ((n:Nat):Int) > 0 by omega)) ?_;refine mS ?_;refine mZ ?_;refine mF ?_;refine zaH ?_;exact ⟨n,p,tk,t2,bad,ns,rows,vs,rest,⟨rfl,rfl,rfl,rfl,trivial⟩,rfl,hP,.inl (by omega)⟩
  refine zai rfl rfl (decide_eq_true (show ((n:Nat):Int) > 0 by omega)) ?_
  cases bad with
  | true =>
   refine mF ?_;refine zaH ?_
   exact ⟨n,p,tk,t2,true,ns,rows,vs,rest,⟨rfl,rfl,rfl,rfl,trivial⟩,rfl,hP,.inr rfl⟩
  | false =>
  refine mT ?_;refine zaj ?_;refine zah (zag (zah (zad ?_)));(iterate 5 refine mS ?_);have hg:=getMsgI_g (T:=T) (hT:=hT) hTab hs (p:Int) nt2 live2 (by omega);refine po_g rfl (FnG.lift0 (bx:=d0 :: [.sl tk (pSr ns),.sl t2 rows] :: deC s p false :: rest) hg ⟨trivial,trivial,trivial⟩) ?_;rintro x b2 n5 l5 ⟨rfl,cs,next,rfl,hc5,hnew,hctk,hlv2,hn5,hres⟩;(iterate 3 refine mS ?_);refine zb5 (cs:=cs) rfl hc5 rfl rfl ?_;refine mL ?_;refine mM ?_;refine mS ?_;refine po_b rfl rfl (fun b3 hb3 => ?_);refine zaa ?_;refine zbe (p:=next < 0) hb3 rfl (fun h3 _ => ?_) (fun h3 _ => ?_)
  ·rcases hres with ⟨hnx,_,hno⟩ | ⟨k',v,_,_,_,_,hnx,_⟩
   case inr => omega
   refine mO ?_;(iterate 3 refine mS ?_);refine zaw (p:=2) (o':=4) (cs:=[pB true]) (z:=deC s p false) rfl rfl rfl ⟨rfl,Nat.le_of_ble_eq_true rfl⟩ rfl ?_;refine zaa ?_;refine zaH ?_;exact ⟨n,p,tk,t2,true,ns,rows,vs,rest ++ [cs],⟨rfl,rfl,rfl,rfl,trivial⟩,rfl,tbP_bad hP hn0 hn5 hlv2 (fun v k1 k2 => by have:=hno v k1 k2 (by omega); rwa [Int.toNat_natCast] at this),.inr rfl⟩
  ·rcases hres with ⟨hnx,_,_⟩ | ⟨j',v,hjj,hvw,hvo,hAt,hnx,hle,he,huniq⟩
   ·omega
   obtain rfl:j' = p:=by omega
   refine zaj ?_;refine mO ?_;(iterate 2 refine mS ?_);refine za1 (p:=(d0 :: [PC.sl tk (pSr ns),.sl t2 rows] :: deC s j' false :: rest).length) (cs:=cs) rfl rfl (za3 _ cs) hc5 ?_
   refine zay (es:=[cs]) (by
    show (if cs.length = 5 then some [cs] else none) = some [cs];rw [if_pos hc5]) ?_
   have hrl:rows.length = vs.length:=by rw [zcz hrows,zbh]
   have hown2:OwnL n5 l5 ([.sl tk (pSr ns)] ++ .sl t2 rows :: []):=hown.mono2 hn5 hlv2;refine zcL (t:=t2) (t':=n5) (es:=rows) (ds:=[cs]) rfl rfl (hown2.app ht2 [n5]) (by simp only [length_singleton]; omega) (fun e he => by simp only [mem_singleton] at he; subst he; exact hc5) (fun e he => zfg hrows (vK_wid vs) e he) ?_;refine mS ?_;refine zaw (p:=1) (o':=1) (cs:=[.sl (n5 + 1) (rows ++ [cs])]) (z:=[.sl tk (pSr ns),.sl t2 rows]) rfl rfl rfl ⟨rfl,Nat.le_of_ble_eq_true rfl⟩ rfl ?_;refine zaa ?_;refine zad ?_;(iterate 4 refine mS ?_);refine zaw (p:=2) (o':=1) (cs:=[pI next]) (z:=deC s j' false) rfl rfl rfl ⟨rfl,Nat.le_of_ble_eq_true rfl⟩ rfl ?_;refine zaa ?_;refine zad ?_;refine mS ?_;refine po_q (v:=.d (.v (.int .u64 ((n - 1:Nat):Int)))) rfl (by show some (PV.d (.v (.int .u64 (IntKind.wrap .u64 ((n:Int) - 1))))) = _; rw [dec1 hn0 hn64]) ?_;refine mN ?_
   obtain ⟨q1,q2⟩:=tbP_step hP hn0 (by omega) hn5 hnew hctk hlv2 hvw hvo hle he huniq;exact ⟨s.length + 1 - (j' + (msg v).length),q2,n - 1,j' + (msg v).length,tk,n5 + 1,false,ns,rows ++ [cs],vs ++ [v],rest ++ [cs],⟨rfl,rfl,rfl,rfl,rfl,trivial⟩,by rw [hnx]; rfl,q1,rfl⟩
 clear hT0 hH3 hP hend hH hstart;rintro tm bx n2 l2 ⟨n,p,tk,t2,bad,ns,rows,vs,rest,ht,hbx,hP,hend⟩;obtain ⟨tm0,rfl⟩:=zae ht;simp only at hbx hP; subst hbx
 clear ht;obtain ⟨ht2,hown,hge,hntl,hlv,hpl,hnsl,hnb,hn64,hrows,hvl,hvb,hcp⟩:=id hP
 have her:erL [PC.sl tk (pSr ns),.sl t2 rows] = dC ns vs:=by
  show [PC.sl 0 (erLL (pSr ns)),.sl 0 (erLL rows)] = _;rw [zf0,hrows]; rfl
 have hlen2:[PC.sl tk (pSr ns),.sl t2 rows].length = 2:=rfl
 have hcp2:∀ ns' vs',Good s ns' vs' -> bad = false /\ ns' = ns /\ vs' = vs:=fun ns' vs' h => by
  obtain ⟨e0,e1,e2,e3,e4⟩:=hcp ns' vs' h;have hn0:n = 0:=hend.resolve_right (by rw [e0]; decide);exact ⟨e0,e1.symm,by rw [e2,take_of_length_le (by omega)]⟩
 have hDS:DSm ns vs:=⟨by omega,fun n hn => Nat.le_trans (hnb n hn) (by omega),by omega,fun v hv => (hvb v hv).1,fun v hv => Nat.le_trans (V.ok_bulk (hvb v hv).2) (by decide)⟩;have hok:=dictOkI_fn (T:=T) (hT:=hT) hTab ns vs hDS;refine zah ?_
 obtain ⟨f,hf⟩:∃ f:Bool,f = true ↔ ¬ (bad = false /\ Good s ns vs):=by
  by_cases h:bad = false /\ Good s ns vs
  ·exact ⟨false,by simp only [h]; decide⟩
  ·exact ⟨true,by simp only [h,not_false_iff]⟩
 refine zau (fun st => has st.tm [(2,.ref 0 0),(4,.ref 1 0),(105,.d (pB f))] /\ st.bx = d0 :: [PC.sl tk (pSr ns),.sl t2 rows] :: deC s p bad :: rest /\ st.nt = n2 /\ st.live = l2) ?_ ?_
 ·refine zad ?_
  (iterate 5 refine mS ?_)
  cases bad with
  | true =>
   have hft:f = true:=hf.2 (fun h => by cases h.1);subst hft;refine mZ ?_;(iterate 2 refine mS ?_);refine mZ ?_;refine mN ?_
   exact ⟨⟨rfl,rfl,rfl,trivial⟩,rfl,rfl,rfl⟩
  | false =>
  refine za1 (p:=1) (cs:=[.sl tk (pSr ns),.sl t2 rows]) rfl rfl rfl hlen2 ?_;refine zaI (b:=true) (args:=[.ag (dC ns vs)]) rfl (fun _ => zf3 her) (fun _ => hok) ?_;(iterate 3 refine mS ?_)
  cases hdb:dictB ns vs with
  | false =>
   have hft:f = true:=hf.2 (fun h => by have:=h.2.1; rw [hdb] at this; cases this);subst hft;refine mZ ?_;refine mN ?_
   exact ⟨⟨rfl,rfl,rfl,trivial⟩,rfl,rfl,rfl⟩
  | true =>
  have hdb2:=hdb;unfold dictB at hdb2;simp only [Bool.and_eq_true] at hdb2;have hpd:=zeu (T:=T) (hT:=hT) ns vs hdb2.1.1 hdb2.1.2 (fun v hv => (hvb v hv).1);refine za1 (p:=1) (cs:=[.sl tk (pSr ns),.sl t2 rows]) rfl rfl rfl hlen2 ?_;refine zaI (b:=true) (args:=[.ag (dC ns vs)]) rfl (fun _ => zf3 her) (fun _ => hpd) ?_;refine mS ?_;refine po_ne (la:=dictT ns vs) (lb:=s) rfl rfl rfl ?_;refine mN ?_
  have:decide (dictT ns vs ≠ s) = f:=by
   rw [Bool.eq_iff_iff,decide_eq_true_iff,hf]
   constructor
   ·intro h1 h2; exact h1 h2.2.2.1
   ·intro h1 h2; exact h1 ⟨rfl,hdb,h2,fun v hv => (hvb v hv).1⟩
  exact ⟨⟨rfl,rfl,by rw [<- this]; rfl,trivial⟩,rfl,rfl,rfl⟩
 rintro tm bx n3 l3 ⟨ht,hbx,hnn,hll⟩;obtain ⟨tm0,rfl⟩:=zae ht;simp only at hbx hnn hll
 subst hbx; subst hnn; subst hll
 clear ht;refine zaO (t:=f) rfl (fun hc => ?_) (fun hc => ?_)
 ·refine mQ ?_
  refine zao (p:=0) (cs:=d0) rfl rfl rfl rfl rfl rfl ?_;refine mN ?_;refine zaf ⟨.inr rfl,[.ag d0,.d (pB false)],rfl,zcE (fun ns' vs' h => ?_) hlv hntl⟩;obtain ⟨e1,e2,e3⟩:=hcp2 ns' vs' h
  subst e2; subst e3
  exact hf.1 hc ⟨e1,h⟩
 ·have hgood:bad = false /\ Good s ns vs:=Classical.byContradiction fun h => by rw [hf.2 h] at hc; cases hc
  refine zaj ?_;refine mO ?_;refine za1 (p:=1) (cs:=[.sl tk (pSr ns),.sl t2 rows]) rfl rfl rfl hlen2 ?_;refine zao (p:=0) (cs:=[.sl tk (pSr ns),.sl t2 rows]) rfl rfl rfl hlen2 rfl rfl ?_;refine mN ?_;have hN:=ownNew hown hge;exact zaf ⟨.inr rfl,[.ag [.sl tk (pSr ns),.sl t2 rows],.d (pB true)],zbg rfl rfl hlen2 rfl,⟨zaC hN.own,trivial,trivial⟩,_,true,rfl,rfl,hN,(fun t ht => (hown.mem t ht).1),hlv,hntl,ns,vs,her,fun _ => hgood.2,(fun h => by cases h),fun ns' vs' h => ⟨rfl,(hcp2 ns' vs' h).2.1,(hcp2 ns' vs' h).2.2⟩⟩
end
section
def m_l_szStore:M:=so [qo 2 (.box 0),qo 4 (.mv (ci 0))] (so [qm 5 1,qF 6 0 2,ql 7 1 6,qo 8 (.lens 7),qo 9 (.bin .sub false 5 8),qm 1 9] (.seq (so [qm 10 1,qo 11 (.bin .lss false 10 (ci 0))] (.cond 11 (so [qo 4 (.mv (ci (-1)))] .ret) .skip)) (so [qm 12 1,qm 4 12] .ret)))
theorem zgF:look Tryz.prog 36 = some (13,m_l_szStore,[.tm 4]):=by kernel_rfl
def m_l_toStore:M:=so [qo 1 (.box 0),⟨some 2,.zero [.string ⟨[].toArray⟩,.int .i64 0],none,[]⟩] (so [⟨some 3,.zero [.string ⟨[].toArray⟩,.int .i64 0],none,[]⟩] (so [qF 4 0 1,ql 5 1 4,qF 6 0 3,qS 1 6 5] (so [qF 7 1 1,ql 8 1 7,qF 9 1 3,qS 1 9 8] (so [qL 10 2 3,qS 2 2 10] .ret))))
theorem zgG:look Tryz.prog 38 = some (11,m_l_toStore,[.cell true 2 2]):=by kernel_rfl
end
section
theorem Tabs.low:Low ngl Tabs:=by
 intro w w' h hs hk;have h1:0 < ngl:=of_decide_eq_true (by unfold ngl; kernel_rfl);have h2:1 < ngl:=of_decide_eq_true (by unfold ngl; kernel_rfl);refine ⟨fun c hc => ?_,fun i hi => ?_⟩
 ·rw [World.cell?_of_block (a:=⟨_,_,none⟩) (hk _ h1)]; exact h.1 c hc
 ·rw [World.cell?_of_block (a:=⟨_,_,none⟩) (hk _ h2),World.cell?_of_block (a:=⟨_,_,none⟩) (hk _ h2)]; exact h.2 i hi
end
section
theorem ngl_of {w:World} (h:w.ShapedOpen Tryz.prog):ngl <= w.heap.size:=by
 have hlt:ngl < (begin Tryz.prog (fun _ _ => 0) default).world.heap.size:=of_decide_eq_true (by unfold ngl; kernel_rfl);obtain ⟨o,_,h2,_⟩:=h.2 ngl lR hlt;exact Nat.le_of_lt (zaA h2)
section
variable {T:World -> Prop} {hT:Low ngl T} {w:World} {hn:ngl <= w.heap.size}
end
theorem FnV.bool {E:Env} {f:Nat} {args:List PV} {b:Bool} (h:FnV E f args (.d (pB b))) {w:World} (hng:E.NG <= w.heap.size) (hT:E.T w) {vs:List Value} (hl:vs.length = args.length) (hv:∀ (j:Nat) (x:PV) (y:Value),args[j]? = some x -> vs[j]? = some y -> RpV (C0 w) w x y) :
  Calls E.P f vs.toArray w fun e w' => e = .returned (.bool b) /\ Below w.heap.size w w':=by
 refine (Fn.use h hng hT hl hv).mono ?_;rintro e w' ⟨u,x,bx,live,C',rfl,h1,_,h3,h4,_⟩
 have hx:x = .d (pB b):=by
  cases x with
  | d c =>
   simp only [PV.dat,sI,PV.d.injEq] at h1
   cases c with
   | v y => simp only [PC.er] at h1; rw [h1]
   | sl t es => simp [PC.er,pB] at h1
   | bld p T t U => simp [PC.er,pB] at h1
   | anyp => simp [PC.er,pB] at h1
   | row => simp [PC.er,pB] at h1
  | _ => simp [PV.dat] at h1
 subst hx
 cases h3 with
 | d _ _ h => cases h; exact ⟨rfl,h4⟩
end
section
def mt (k:Nat):L8:=109 :: Lib.decDigits k
mutual
def V.cnt:V -> Nat
 | .mk _ _ _ _ kids => 4 + V.cnts kids
def V.cnts:List V -> Nat
 | [] => 0
 | v :: vs => V.cnt v + V.cnts vs
end
mutual
def V.mark1:Nat -> V -> V
 | k,.mk _ _ _ _ kids => .mk (k:Nat) ((k + 1:Nat):Int) ((k + 2:Nat):Int) (mt (k + 3)) (V.marks (k + 4) kids)
def V.marks:Nat -> List V -> List V
 | _,[] => []
 | k,v :: vs => V.mark1 k v :: V.marks (k + V.cnt v) vs
end
def mtS:Nat -> List (L8) -> List (L8)
 | _,[] => []
 | k,_ :: ls => mt k :: mtS (k + 1) ls
theorem V.marks_length:∀ (k:Nat) (vs:List V),(V.marks k vs).length = vs.length
 | _,[] => rfl
 | k,v :: vs => by simp [V.marks,V.marks_length _ vs]
theorem za2:∀ (k:Nat) (vs:List (L8)),(mtS k vs).length = vs.length
 | _,[] => rfl
 | k,v :: vs => by simp [mtS,za2 _ vs]
theorem V.cnts_snoc (v:V):∀ vs:List V,V.cnts (vs ++ [v]) = V.cnts vs + V.cnt v
 | [] => by simp [V.cnts]
 | u :: vs => by simp only [cons_append,V.cnts,V.cnts_snoc v vs]; omega
theorem V.marks_snoc (v:V):∀ (k:Nat) (vs:List V),V.marks k (vs ++ [v]) = V.marks k vs ++ [V.mark1 (k + V.cnts vs) v]
 | k,[] => by simp [V.marks,V.cnts]
 | k,u :: vs => by simp only [cons_append,V.marks,V.marks_snoc v (k + V.cnt u) vs,V.cnts,Nat.add_assoc]
theorem mtS_get:∀ (k:Nat) (ls:List (L8)) (j:Nat) (h:j < ls.length),(mtS k ls)[j]'(by rw [za2]; exact h) = mt (k + j)
 | k,l :: ls,0,_ => rfl
 | k,l :: ls,j + 1,h => by simp only [mtS,getElem_cons_succ]; rw [mtS_get (k + 1) ls j (by simpa using h)]; congr 1; omega
theorem V.cnts_take (vs:List V) (j:Nat) (h:j < vs.length):V.cnts (vs.take (j + 1)) = V.cnts (vs.take j) + V.cnt vs[j]:=by
 rw [take_succ_eq_append_getElem h,V.cnts_snoc]
theorem V.cnts_le:∀ (vs:List V) (j:Nat),V.cnts (vs.take j) <= V.cnts vs
 | [],j => by simp
 | v :: vs,0 => by simp [V.cnts]
 | v :: vs,j + 1 => by have:=V.cnts_le vs j; simp only [take_succ_cons,V.cnts]; omega
def V.half (k:Nat) (vs:List V) (j:Nat):List V:=V.marks k (vs.take j) ++ vs.drop j
def halfS (k:Nat) (vs:List (L8)) (j:Nat):List (L8):=mtS k (vs.take j) ++ vs.drop j
theorem mtS_snoc (v:L8):∀ (k:Nat) (vs:List (L8)),mtS k (vs ++ [v]) = mtS k vs ++ [mt (k + vs.length)]
 | k,[] => by simp [mtS]
 | k,u :: vs => by simp only [cons_append,mtS,mtS_snoc v (k + 1) vs,length_cons]; rw [show k + 1 + vs.length = k + (vs.length + 1) by omega]
theorem half_set {α:Type} {a:List α} {vs:List α} {j:Nat} (h:j < vs.length) (ha:a.length = j) (x:α):(a ++ vs.drop j).set j x = (a ++ [x]) ++ vs.drop (j + 1):=by
 rw [set_append_right _ _ (by omega),ha,Nat.sub_self,drop_eq_getElem_cons h,set_cons_zero]; simp
theorem half_get {α:Type} {a:List α} {vs:List α} {j:Nat} (h:j < vs.length) (ha:a.length = j):(a ++ vs.drop j)[j]'(by simp; omega) = vs[j]:=by
 rw [getElem_append_right (by omega)]; simp [ha]
theorem V.half_set (k:Nat) (vs:List V) (j:Nat) (h:j < vs.length):(V.half k vs j).set j (V.mark1 (k + V.cnts (vs.take j)) vs[j]) = V.half k vs (j + 1):=by
 unfold V.half;rw [Go.Proofs.YtanlnhkagepniaaGreatDoor.half_set h (by rw [V.marks_length,length_take]; omega),<- V.marks_snoc,<- take_succ_eq_append_getElem h]
theorem halfS_set (k:Nat) (vs:List (L8)) (j:Nat) (h:j < vs.length):(halfS k vs j).set j (mt (k + j)) = halfS k vs (j + 1):=by
 unfold halfS;rw [Go.Proofs.YtanlnhkagepniaaGreatDoor.half_set h (by rw [za2,length_take]; omega),take_succ_eq_append_getElem h,mtS_snoc,length_take,Nat.min_eq_left (by omega)]
theorem TreeCs.at {w:World} {n:Nat}:∀ {ds:List D} {fp:List Nat} {cs:List Value},TreeCs w ds fp cs -> (∀ e ∈ ds,D.width e = n) -> fp.Nodup -> ∀ i (hi:i < ds.length),
  ∃ fi ci,fi.Nodup /\ (∀ b ∈ fi,b ∈ fp) /\ TreeC w ds[i] fi ci /\ ci.length = n /\ (cs.drop (n * i)).take n = ci /\
   ∀ (w':World) (d':D) (ci':List Value),D.width d' = n -> (∀ b ∈ fp,b ∉ fi -> w'.heap[b]? = w.heap[b]?) -> TreeC w' d' fi ci' -> TreeCs w' (ds.set i d') fp (cs.take (n * i) ++ (ci' ++ cs.drop (n * i + n)))
 | [],fp,cs,h,hw,hn,i,hi => by simp at hi
 | d :: ds,fp,cs,h,hw,hn,i,hi => by
  simp only [TreeCs] at h; obtain ⟨f1,f2,c1,c2,rfl,rfl,h1,h2,h3⟩:=h
  have hd:=hw d (by simp);rw [hd] at h1;rw [nodup_append] at hn;obtain ⟨n1,n2,n3⟩:=hn
  match i with
  | 0 =>
   refine ⟨f1,c1,n1,fun b hb => by simp [hb],h2,h1,by simp [<- h1],fun w' d' ci' hd' hs ht => ?_⟩;simp only [Nat.mul_zero,take_zero,nil_append,set_cons_zero,Nat.zero_add,TreeCs]
   refine ⟨f1,f2,ci',c2,rfl,by rw [<- h1]; simp,by rw [ht.len],ht,h3.frame fun b hb => hs b (by simp [hb]) fun hb1 => n3 b hb1 b hb rfl⟩
  | i + 1 =>
   obtain ⟨fi,ci,k1,k2,k3,k4,k5,k6⟩:=TreeCs.at h3 (fun e he => hw e (by simp [he])) n2 i (by simpa using hi);have e1:n * (i + 1) = c1.length + n * i:=by rw [h1,Nat.mul_succ]; omega
   refine ⟨fi,ci,k1,fun b hb => by simp [k2 b hb],by simpa using k3,k4,?_,fun w' d' ci' hd' hs ht => ?_⟩
   ·rw [e1,drop_length_add_append]; exact k5
   ·have:=k6 w' d' ci' hd' (fun b hb hb' => hs b (by simp [hb]) hb') ht
    simp only [set_cons_succ,TreeCs];refine ⟨f1,f2,c1,_,rfl,?_,by rw [h1,hd],h2.frame fun b hb => hs b (by simp [hb]) fun hb2 => n3 b hb b (k2 b hb2) rfl,this⟩;rw [e1,take_length_add_append,append_assoc,Nat.add_assoc,drop_length_add_append]
def Blk (w:World) (g:Nat) (e:TypeId) (sz:Nat):Prop:=∃ cur,w.heap[g]? = some (.cells cur e (0,0)) /\ cur.size = sz
theorem Blk.lt {w:World} {g sz:Nat} {e:TypeId} (h:Blk w g e sz):g < w.heap.size:=by obtain ⟨cur,h,_⟩:=h; exact zaA h
theorem Blk.free {w:World} {g sz:Nat} {e:TypeId} (h:Blk w g e sz) (o:Nat):w.frozen? ⟨g,o,none⟩ = false:=by obtain ⟨cur,h,_⟩:=h; simp [World.frozen?,h]
theorem Blk.same {w w':World} {g sz:Nat} {e:TypeId} (h:Blk w g e sz) (hs:w'.heap[g]? = w.heap[g]?):Blk w' g e sz:=by obtain ⟨cur,h,h2⟩:=h; exact ⟨cur,by rw [hs]; exact h,h2⟩
theorem Blk.below {w w':World} {g sz:Nat} {e:TypeId} (h:Blk w g e sz) (hb:Below w.heap.size w w'):Blk w' g e sz:=h.same (hb.block g h.lt)
theorem Blk.keep {S:Nat -> Prop} {w w':World} {g sz:Nat} {e:TypeId} (h:Blk w g e sz) (hk:Keep S w w') (hg:¬ S g):Blk w' g e sz:=h.same (hk.block g h.lt hg)
theorem Blk.setCell {w:World} {g sz:Nat} {e:TypeId} (h:Blk w g e sz) (o:Nat) (v:Value):Blk (w.setCell ⟨g,o,none⟩ v) g e sz:=by
 obtain ⟨cur,h,h2⟩:=h; exact ⟨_,zdY h v,by simpa using h2⟩
theorem Keep.same {S:Nat -> Prop} {w w':World} (h:Keep S w w') {T:Nat -> Prop} (hT:∀ b,T b -> b < w.heap.size /\ ¬ S b):SameOn T w w':=fun b hb => h.block b (hT b hb).1 (hT b hb).2
def Row (w:World) (n g:Nat) (e:TypeId) (sz:Nat) (fr:List Nat) (ds:List D):Prop :=
 ∃ cur,w.heap[g]? = some (.cells cur e (0,0)) /\ cur.size = sz /\ n * ds.length <= sz /\ (∀ d ∈ ds,D.width d = n) /\ TreeCs w ds fr (cur.toList.take (n * ds.length))
theorem Row.blk {w:World} {n g sz:Nat} {e:TypeId} {fr:List Nat} {ds:List D} (h:Row w n g e sz fr ds):Blk w g e sz:=by obtain ⟨cur,h,h2,_⟩:=h; exact ⟨cur,h,h2⟩
theorem list_put (l c:List Value) (j n m:Nat) (hl:c.length = n) (h:n * j + n <= n * m) (hm:n * m <= l.length) (l':List Value) (hl':l'.length = l.length) (h1:∀ i,i < n -> l'[j * n + i]? = c[i]?) (h2:∀ o,o < j * n \/ j * n + n <= o -> l'[o]? = l[o]?) :
  l'.take (n * m) = (l.take (n * m)).take (n * j) ++ (c ++ (l.take (n * m)).drop (n * j + n)):=by
 have hjn:j * n = n * j:=Nat.mul_comm j n;rw [hjn] at h1 h2
 apply ext_getElem?
 intro o;by_cases ho:o < n * m
 ·rw [getElem?_take,if_pos ho]
  by_cases ha:o < n * j
  ·rw [getElem?_append_left (by simp only [length_take]; omega),getElem?_take,if_pos ha,getElem?_take,if_pos ho,h2 o (.inl ha)]
  ·rw [getElem?_append_right (by simp only [length_take]; omega)]
   have hlen:((l.take (n * m)).take (n * j)).length = n * j:=by simp only [length_take]; omega
   rw [hlen];by_cases hb:o < n * j + n
   ·rw [getElem?_append_left (by omega),<- h1 (o - n * j) (by omega)]; congr 1; omega
   ·rw [getElem?_append_right (by omega),getElem?_drop,getElem?_take,h2 o (.inr (by omega)),hl]
    rw [if_pos (by omega)]; congr 1; omega
 ·rw [getElem?_eq_none (by simp only [length_take]; omega),getElem?_eq_none]
  simp only [length_append,length_take,length_drop]; omega
theorem Row.at {w:World} {n g sz:Nat} {e:TypeId} {fr:List Nat} {ds:List D} (h:Row w n g e sz fr ds) (hn:(g :: fr).Nodup) (j:Nat) (hj:j < ds.length):∃ fi ci,fi.Nodup /\ (∀ b ∈ fi,b ∈ fr) /\ g ∉ fi /\ TreeC w ds[j] fi ci /\ ci.length = n /\ j * n + n <= sz /\
  (∀ i u,i < n -> ci[i]? = some u -> w.cell? ⟨g,j * n + i,none⟩ = some u) /\
  ∀ w' d' ci',D.width d' = n -> Blk w' g e sz -> (∀ i,i < n -> w'.cell? ⟨g,j * n + i,none⟩ = ci'[i]?) -> (∀ o,o < j * n \/ j * n + n <= o -> w'.cell? ⟨g,o,none⟩ = w.cell? ⟨g,o,none⟩) -> (∀ b ∈ fr,b ∉ fi -> w'.heap[b]? = w.heap[b]?) -> TreeC w' d' fi ci' ->
   Row w' n g e sz fr (ds.set j d'):=by
 obtain ⟨cur,h1,h2,h3,h4,h5⟩:=h;rw [nodup_cons] at hn;obtain ⟨fi,ci,k1,k2,k3,k4,k5,k6⟩:=TreeCs.at h5 h4 hn.2 j hj;have hm:n * j + n <= n * ds.length:=by rw [<- Nat.mul_succ]; exact Nat.mul_le_mul_left n hj
 refine ⟨fi,ci,k1,k2,fun hb => hn.1 (k2 g hb),k3,k4,by rw [Nat.mul_comm j n]; omega,fun i u hi hu => ?_,fun w' d' ci' hd hbk hc1 hc2 hs ht => ?_⟩
 ·rw [zav h1,<- hu,<- k5,getElem?_take,if_pos hi,getElem?_drop,getElem?_take,if_pos (by omega),Nat.mul_comm j n]; simp
 ·obtain ⟨cur',g1,g2⟩:=hbk
  have:=k6 w' d' ci' hd hs ht
  refine ⟨cur',g1,g2,by simpa using h3,?_,?_⟩
  ·intro x hx
   rcases mem_or_eq_of_mem_set hx with hx | rfl
   ·exact h4 x hx
   ·exact hd
  ·rw [length_set,list_put cur.toList ci' j n ds.length (by rw [ht.len,hd]) hm (by simpa [h2] using h3) cur'.toList (by simp [h2,g2]) ?_ ?_]
   ·exact this
   ·intro i hi
    have:=hc1 i hi
    rw [zav g1] at this;simpa using this
   ·intro o ho
    have:=hc2 o ho
    rw [zav g1,zav h1] at this;simpa using this
theorem TreeC.row {w:World} {n:Nat} {es:List D} {fp:List Nat} {v:Value} (h:TreeC w (.sl n es) fp [v]):∃ a c,v = .slice a es.length c /\ (es ≠ [] -> ∃ g fr e sz,a = some ⟨g,0,none⟩ /\ fp = g :: fr /\ (es.length <= c /\ sz = c * n) /\ c <= maxLen /\ Row w n g e sz fr es):=by
 simp only [TreeC] at h;obtain ⟨a,c,hv,h⟩:=h;simp only [cons.injEq,and_true] at hv;refine ⟨a,c,hv,fun hne => ?_⟩
 rcases h with h | ⟨b,fr,cur,e,ha,hf,hb,hn,h1,h2,hw,ht⟩
 ·exact absurd h.1 hne
 ·refine ⟨b,fr,e,cur.size,ha,hf,h1,h2,cur,hb,rfl,?_,hw,ht⟩
  have:=ht.len
  have hwd:D.widths es = n * es.length:=by
   clear ht h1 hb this hne hv
   induction es with
   | nil => simp [D.widths]
   | cons x xs ih => simp only [D.widths,hw x (by simp),ih (fun e he => hw e (by simp [he])),length_cons,Nat.mul_succ]; omega
  rw [hwd,length_take] at this;simp at this; omega
theorem Row.tree {w:World} {n g sz:Nat} {e:TypeId} {fr:List Nat} {es:List D} {c:Nat} (h:Row w n g e sz fr es) (hn:0 < n) (hc:(es.length <= c /\ sz = c * n) /\ c <= maxLen):TreeC w (.sl n es) (g :: fr) [.slice (some ⟨g,0,none⟩) es.length c]:=by
 obtain ⟨cur,h1,h2,h3,h4,h5⟩:=h;simp only [TreeC];exact ⟨_,c,rfl,.inr ⟨g,fr,cur,e,rfl,rfl,h1,hn,⟨hc.1.1,by rw [h2,hc.1.2]⟩,hc.2,h4,h5⟩⟩
theorem V.ds_set (es:List V) (j:Nat) (v:V):(V.ds es).set j v.d = V.ds (es.set j v):=by rw [V.ds_map,V.ds_map,map_set]
theorem V.tree {w:World} {k n e:Int} {s:L8} {kids:List V} {fp:List Nat} {cs:List Value} (h:TreeC w (V.d (.mk k n e s kids)) fp cs):∃ v,cs = [.int .i64 k,.int .i64 n,.int .i64 e,.string ⟨s.toArray⟩,v] /\ TreeC w (.sl 5 (V.ds kids)) fp [v]:=by
 simp only [V.d,TreeC,TreeCs,dI,dS,D.width] at h;obtain ⟨f1,r1,c1,d1,rfl,rfl,_,⟨rfl,rfl⟩,f2,r2,c2,d2,rfl,rfl,_,⟨rfl,rfl⟩,f3,r3,c3,d3,rfl,rfl,_,⟨rfl,rfl⟩,f4,r4,c4,d4,rfl,rfl,_,⟨rfl,rfl⟩,f5,r5,c5,d5,rfl,rfl,_,⟨a,c,rfl,h5⟩,rfl,rfl⟩:=h;refine ⟨_,rfl,?_⟩;simp only [TreeC,nil_append,append_nil];exact ⟨a,c,rfl,h5⟩
theorem V.tree_mk {w:World} {k n e:Int} {s:L8} {kids:List V} {fp:List Nat} {v:Value} (h:TreeC w (.sl 5 (V.ds kids)) fp [v]):TreeC w (V.d (.mk k n e s kids)) fp [.int .i64 k,.int .i64 n,.int .i64 e,.string ⟨s.toArray⟩,v]:=by
 simp only [V.d,TreeC,TreeCs,dI,dS,D.width];exact ⟨[],fp,[_],_,rfl,rfl,rfl,⟨rfl,rfl⟩,[],fp,[_],_,rfl,rfl,rfl,⟨rfl,rfl⟩,[],fp,[_],_,rfl,rfl,rfl,⟨rfl,rfl⟩,[],fp,[_],_,rfl,rfl,rfl,⟨rfl,rfl⟩,fp,[],[_],[],by simp,rfl,rfl,by simpa only [TreeC] using h,rfl,rfl⟩
end
section
theorem byte48 {r:Nat}:byteOf (48 + (r:Int)).toNat = UInt8.ofNat (48 + r):=by
 rw [<- cb_ofNat]; congr 1
theorem zbi (k:Nat) (w:World) (hk:k <= 9223372036854775807) (h0:0 < k) :
  Calls Tryz.prog 101 #[.int .i64 k] w fun e w' => e = .returned (.string ⟨(mt k).toArray⟩) /\ Below w.heap.size w w':=by
 obtain ⟨res,hres⟩:∃ res,Lib.decDigits k = res:=⟨_,rfl⟩;have hrl:res.length <= 20:=by rw [<- hres]; exact zct (by omega)
 have HM:=Lib.hid (show mt k = 109 :: res by unfold mt; rw [hres]);have hk1:¬ (k:Int) <= 0:=by omega
 go_enter Tryz.func101,Tryz.ntmps101
 go_wp2
 go_loopw [0,3] (fun m o wr => ∃ (l:L8) (q:Nat),o = .string ⟨l.toArray⟩ /\ m = .int .i64 q /\ q <= 9223372036854775807 /\ decOn q l = res /\ Below w.heap.size w wr) (fun m _ _ => (intOf m).toNat)
 case atStart => exact ⟨[],k,rfl,rfl,hk,by unfold decOn; rw [if_neg (by omega),hres]; simp,Below.refl _ _⟩
 case round =>
  obtain ⟨l,q,rfl,rfl,hq,hd,hbel⟩:=hrel;by_cases hq0:q = 0
  ·subst hq0
   have hl:l = res:=by rw [<- hd]; rfl
   subst hl;clear hd;go_wp2;go_ret;exact ⟨by rw [HM.out]; rfl,hbel⟩
  ·have ll:l.length <= 20:=by
    have:=congrArg length hd; unfold decOn at this; rw [if_neg hq0,length_append] at this; omega
   have st:=zeZ hq0 l;rw [hd] at st;have ST:=Lib.hid st;clear hd st;have gq:(0:Int) < q:=by omega
   have hr:q % 10 < 10:=Nat.mod_lt _ (by decide);have e1:Int.tmod (q:Int) 10 = ((q % 10:Nat):Int):=by rw [Int.tmod_eq_emod_of_nonneg (by omega)]; rfl
   have e2:Int.tdiv (q:Int) 10 = ((q / 10:Nat):Int):=by rw [Int.tdiv_eq_ediv_of_nonneg (by omega)]; rfl
   have B:=byte48 (r:=q % 10);have hcv:=fun b c w => conv1 (P:=Tryz.prog) Tryz.underlying150 Tryz.underlying5 Tryz.underlying9 b c w
   generalize hrr:q % 10 = r at *;go_wp2;go_roundw
   case rel => exact ⟨_,q / 10,rfl,by first | rfl | go_num,by omega,by first | exact ST.out | (rw [B]; exact ST.out) | simpa using ST.out,by first | exact hbel | exact hbel.alloc hbel.size _⟩
   case measure => simp [intOf]; omega
end
section
theorem halfS_zero (k:Nat) (ls:List (L8)):halfS k ls 0 = ls:=by simp [halfS,mtS]
theorem halfS_all (k:Nat) (ls:List (L8)):halfS k ls ls.length = mtS k ls:=by simp [halfS]
theorem zgH (k:Nat) (ls:List (L8)) (j:Nat) (h:j <= ls.length):(halfS k ls j).length = ls.length:=by simp [halfS,za2]; omega
theorem dS_set (ls:List (L8)) (j:Nat) (s:L8):(ls.map dS).set j (dS s) = (ls.set j s).map dS:=by rw [map_set]
end
section
def setA (w:World) (g o:Nat) (q:Nat):World:=((w.setCell ⟨g,o,none⟩ (.int .i64 (q:Int))).setCell ⟨g,o + 1,none⟩ (.int .i64 ((q:Int) + 1))).setCell ⟨g,o + 2,none⟩ (.int .i64 ((q:Int) + 1 + 1))
theorem setA_block {w:World} {g o q b:Nat} (h:b ≠ g):(setA w g o q).heap[b]? = w.heap[b]?:=by
 unfold setA; rw [Below.heap_setCell _ _ _ _ (by simpa using h),Below.heap_setCell _ _ _ _ (by simpa using h),Below.heap_setCell _ _ _ _ (by simpa using h)]
theorem zex {w:World} {g o q:Nat}:(setA w g o q).heap.size = w.heap.size:=by simp [setA,World.setCell]
theorem setA_cell {w:World} {g o q p:Nat} (h0:∃ v,w.cell? ⟨g,o,none⟩ = some v) (h1:∃ v,w.cell? ⟨g,o + 1,none⟩ = some v) (h2:∃ v,w.cell? ⟨g,o + 2,none⟩ = some v) :
  (setA w g o q).cell? ⟨g,p,none⟩ = if p = o + 2 then some (.int .i64 ((q + 2:Nat):Int)) else if p = o + 1 then some (.int .i64 ((q + 1:Nat):Int)) else if p = o then some (.int .i64 (q:Nat)) else w.cell? ⟨g,p,none⟩:=by
 obtain ⟨v0,h0⟩:=h0; obtain ⟨v1,h1⟩:=h1; obtain ⟨v2,h2⟩:=h2
 unfold setA;rw [show ((q + 2:Nat):Int) = (q:Int) + 1 + 1 from rfl,show ((q + 1:Nat):Int) = (q:Int) + 1 from rfl];by_cases e2:p = o + 2
 ·subst e2; simp [go_sem,h2]
 by_cases e1:p = o + 1
 ·subst e1; simp [go_sem,h1]
 by_cases e0:p = o
 ·subst e0; simp [go_sem,h0]
 ·simp [go_sem,e0,e1,e2]
theorem setA_keep {S:Nat -> Prop} {w:World} {g o q:Nat} (h:S g):Keep S w (setA w g o q):=(((Keep.refl S w).setCell (p:=⟨g,o,none⟩) (.inl h) _).setCell (p:=⟨g,o + 1,none⟩) (.inl h) _).setCell (p:=⟨g,o + 2,none⟩) (.inl h) _
theorem RowV.round {w:World} {g sz:Nat} {e:TypeId} {fr:List Nat} {es:List V} (h:Row w 5 g e sz fr (V.ds es)) (hn:(g :: fr).Nodup) (j:Nat) (hj:j < es.length) (q:Nat):∃ fi kn nn en sn kids v,es[j] = .mk kn nn en sn kids /\ fi.Nodup /\
  w.cell? ⟨g,j * 5,none⟩ = some (.int .i64 kn) /\ w.cell? ⟨g,j * 5 + 1,none⟩ = some (.int .i64 nn) /\ w.cell? ⟨g,j * 5 + 2,none⟩ = some (.int .i64 en) /\ (∀ o,w.frozen? ⟨g,o,none⟩ = false) /\ g < w.heap.size /\
  ∀ w1,Below (setA w g (j * 5) q).heap.size (setA w g (j * 5) q) w1 -> w1.cell? ⟨g,j * 5 + 3,none⟩ = some (.string ⟨sn.toArray⟩) /\ w1.frozen? ⟨g,j * 5 + 3,none⟩ = false /\ w1.cell? ⟨g,j * 5 + 4,none⟩ = some v /\
   TreeC (w1.setCell ⟨g,j * 5 + 3,none⟩ (.string ⟨(mt (q + 3)).toArray⟩)) (.sl 5 (V.ds kids)) fi [v] /\
   ∀ wD,Keep (· ∈ fi) (w1.setCell ⟨g,j * 5 + 3,none⟩ (.string ⟨(mt (q + 3)).toArray⟩)) wD -> TreeC wD (.sl 5 (V.ds (V.marks (q + 4) kids))) fi [v] ->
    Row wD 5 g e sz fr (V.ds (es.set j (V.mark1 q es[j]))) /\ Keep (· ∈ g :: fr) w wD:=by
 obtain ⟨kn,nn,en,sn,kids,hes⟩:∃ kn nn en sn kids,es[j] = .mk kn nn en sn kids:=by cases es[j]; exact ⟨_,_,_,_,_,rfl⟩
 have hblk:=h.blk;have hj':j < (V.ds es).length:=by rw [V.ds_map,length_map]; exact hj
 obtain ⟨fi,ci,k1,k2,hgf,ht,hci,hsz,hcell,hput⟩:=h.at hn j hj';have hd:(V.ds es)[j] = es[j].d:=by simp [V.ds_map]
 rw [hd,hes] at ht;obtain ⟨v,rfl,htk⟩:=V.tree ht;clear ht;have ht:=htk;have hg:=hblk.lt;have hfl:∀ b ∈ fi,b < w.heap.size:=ht.lt;have hgr:g ∉ fr:=(nodup_cons.1 hn).1;have c0:=hcell 0 _ (by decide) rfl;have c1:=hcell 1 _ (by decide) rfl;have c2:=hcell 2 _ (by decide) rfl;have c3:=hcell 3 _ (by decide) rfl;have c4:=hcell 4 _ (by decide) rfl;rw [Nat.add_zero] at c0;have hlt:∀ b ∈ fr,b < w.heap.size:=by obtain ⟨_,_,_,_,_,hts⟩:=h; exact hts.lt
 refine ⟨fi,kn,nn,en,sn,kids,v,hes,k1,c0,c1,c2,hblk.free,hg,fun w1 hB => ?_⟩;have hAg:g < (setA w g (j * 5) q).heap.size:=by rw [zex]; exact hg
 have hbA:Blk (setA w g (j * 5) q) g e sz:=((hblk.setCell _ _).setCell _ _).setCell _ _;have hb1:Blk w1 g e sz:=hbA.below hB;have hA:=@setA_cell w g (j * 5) q;have h1c:∀ p,w1.cell? ⟨g,p,none⟩ = (setA w g (j * 5) q).cell? ⟨g,p,none⟩:=fun p => (zaY hB).1 _ _ hAg
 have e3:w1.cell? ⟨g,j * 5 + 3,none⟩ = some (.string ⟨sn.toArray⟩):=by rw [h1c,hA ⟨_,c0⟩ ⟨_,c1⟩ ⟨_,c2⟩,if_neg (by omega),if_neg (by omega),if_neg (by omega),c3]
 have e4:w1.cell? ⟨g,j * 5 + 4,none⟩ = some v:=by rw [h1c,hA ⟨_,c0⟩ ⟨_,c1⟩ ⟨_,c2⟩,if_neg (by omega),if_neg (by omega),if_neg (by omega),c4]
 have hC:∀ b,b < w.heap.size -> b ≠ g -> (w1.setCell ⟨g,j * 5 + 3,none⟩ (.string ⟨(mt (q + 3)).toArray⟩)).heap[b]? = w.heap[b]?:=by
  intro b hb hbg;rw [Below.heap_setCell _ _ _ _ (by simpa using hbg),hB.block b (by rw [zex]; exact hb),setA_block hbg]
 refine ⟨e3,hb1.free _,e4,ht.frame fun b hb => hC b (hfl b hb) (fun e => hgf (e ▸ hb)),fun wD hK hT => ?_⟩
 have hKg:Keep (· ∈ g :: fr) w wD :=
  (((setA_keep (S:=(· ∈ g :: fr)) (by simp)).then hB).setCell (.inl (by simp)) _).trans (hK.mono fun b _ hb => by simp [k2 b hb])
 refine ⟨?_,hKg⟩;have hz1:=hB.size;rw [zex] at hz1;have hgC:g < (w1.setCell ⟨g,j * 5 + 3,none⟩ (.string ⟨(mt (q + 3)).toArray⟩)).heap.size:=by simp [World.setCell]; omega
 have hDc:∀ p,wD.cell? ⟨g,p,none⟩ = (w1.setCell ⟨g,j * 5 + 3,none⟩ (.string ⟨(mt (q + 3)).toArray⟩)).cell? ⟨g,p,none⟩:=fun p => hK.cell hgC hgf
 have hCc:∀ p,p ≠ j * 5 + 3 -> (w1.setCell ⟨g,j * 5 + 3,none⟩ (.string ⟨(mt (q + 3)).toArray⟩)).cell? ⟨g,p,none⟩ = w1.cell? ⟨g,p,none⟩:=by
  intro p hp; simp [go_sem]
 rw [<- V.ds_set];refine hput wD _ [.int .i64 (q:Nat),.int .i64 ((q + 1:Nat):Int),.int .i64 ((q + 2:Nat):Int),.string ⟨(mt (q + 3)).toArray⟩,v] (V.width _) ((hb1.setCell _ _).keep hK hgf) ?_ ?_ ?_ (by rw [hes]; exact V.tree_mk hT)
 ·intro i hi
  rw [hDc]
  match i,hi with
  | 0,_ => rw [hCc _ (by omega),h1c,hA ⟨_,c0⟩ ⟨_,c1⟩ ⟨_,c2⟩,if_neg (by omega),if_neg (by omega),if_pos (by omega)]; rfl
  | 1,_ => rw [hCc _ (by omega),h1c,hA ⟨_,c0⟩ ⟨_,c1⟩ ⟨_,c2⟩,if_neg (by omega),if_pos (by omega)]; rfl
  | 2,_ => rw [hCc _ (by omega),h1c,hA ⟨_,c0⟩ ⟨_,c1⟩ ⟨_,c2⟩,if_pos (by omega)]; rfl
  | 3,_ => simp [go_sem,e3]
  | 4,_ => rw [hCc _ (by omega),e4]; rfl
 ·intro o ho
  rw [hDc,hCc _ (by omega),h1c,hA ⟨_,c0⟩ ⟨_,c1⟩ ⟨_,c2⟩,if_neg (by omega),if_neg (by omega),if_neg (by omega)]
 ·intro b hb hbi
  have hne:b ≠ g:=fun e => hgr (e ▸ hb)
  rw [hK.block b (by simp [World.setCell]; have:=hlt b hb; omega) hbi,hC b (hlt b hb) hne]
end
section
theorem V.half_zero (k:Nat) (ls:List V):V.half k ls 0 = ls:=by simp [V.half,V.marks]
theorem V.half_all (k:Nat) (ls:List V):V.half k ls ls.length = V.marks k ls:=by simp [V.half]
theorem V.half_length (k:Nat) (ls:List V) (j:Nat) (h:j <= ls.length):(V.half k ls j).length = ls.length:=by simp [V.half,V.marks_length]; omega
theorem V.half_at (k:Nat) (ls:List V) (j:Nat) (h:j < ls.length):(V.half k ls j)[j]'(by rw [V.half_length _ _ _ (by omega)]; exact h) = ls[j]:=half_get h (by rw [V.marks_length,length_take]; omega)
theorem V.cnts_get:∀ (vs:List V) i (h:i < vs.length),V.cnts (vs.take i) + V.cnt vs[i] <= V.cnts vs:=fun vs i h => by
 have:=V.cnts_take vs i h; have:=V.cnts_le vs (i + 1); omega
def VMk (n:Nat):Prop:=∀ (vs:List V) (v:Value) (k:Nat) (fp:List Nat) (w:World),V.nodess vs <= n -> TreeC w (.sl 5 (V.ds vs)) fp [v] -> fp.Nodup -> vs.length + V.bulks vs <= 4294967295 -> 0 < k -> k + V.cnts vs <= 4611686018427387904 ->
 Calls Tryz.prog 96 #[v,.int .i64 k] w fun e w' => e = .returned (.int .i64 ((k + V.cnts vs:Nat):Int)) /\ Keep (· ∈ fp) w w' /\ TreeC w' (.sl 5 (V.ds (V.marks k vs))) fp [v]
theorem zgI (v:Value) (k:Nat) (fp:List Nat) (w:World) (h:TreeC w (.sl 5 (V.ds [])) fp [v]) :
  Calls Tryz.prog 96 #[v,.int .i64 k] w fun e w' => e = .returned (.int .i64 ((k + V.cnts []:Nat):Int)) /\ Keep (· ∈ fp) w w' /\ TreeC w' (.sl 5 (V.ds (V.marks k []))) fp [v]:=by
 have h0:=h;obtain ⟨a,c,rfl,_⟩:=TreeC.row h;have H0:=Lib.hid h0;clear h h0
 go_enter Tryz.func96,Tryz.ntmps96
 go_wp2
 go_loopw [1,5] (fun kk i wr => kk = .int .i64 k /\ i = .int .i64 (0:Int) /\ wr = w) (fun _ _ _ => 0)
 case atStart => exact ⟨rfl,rfl,rfl⟩
 case round =>
  obtain ⟨rfl,rfl,rfl⟩:=hrel;go_wp2;go_ret;exact ⟨rfl,Keep.refl _ _,H0.out⟩
theorem VMk_of {n:Nat} (hA:VMk n):VMk (n + 1):=by
 intro vs v k fp w hnn h hn hl hk hk2;by_cases hne:vs = []
 ·subst hne
  exact zgI v k fp w h
 ·obtain ⟨a,c,rfl,hg⟩:=TreeC.row h
  obtain ⟨g,fr,e,sz,rfl,rfl,hc1,hc2,hrow⟩:=hg (by rw [V.ds_map]; simpa using hne);have hvl:(V.ds vs).length = vs.length:=by rw [V.ds_map,length_map]
  rw [hvl] at hc1 ⊢;clear hg h;have HC:=Lib.hid (show (vs.length <= c /\ sz = c * 5) /\ c <= maxLen from ⟨hc1,hc2⟩);clear hc1 hc2
  go_enter Tryz.func96,Tryz.ntmps96
  go_wp2
  go_loopw [1,5] (fun kk i wr => ∃ j q:Nat,j <= vs.length /\ q = k + V.cnts (vs.take j) /\ kk = .int .i64 q /\ i = .int .i64 j /\ Row wr 5 g e sz fr (V.ds (V.half k vs j)) /\ Keep (· ∈ g :: fr) w wr) (fun _ i _ => vs.length - (intOf i).toNat)
  case atStart => exact ⟨0,k,Nat.zero_le _,by simp [V.cnts],rfl,rfl,by rw [V.half_zero]; exact hrow,Keep.refl _ _⟩
  case round =>
   obtain ⟨j,q,hj,hq,rfl,rfl,hr,hkp⟩:=hrel;have HQ:=Lib.hid hq;by_cases hlt:j < vs.length
   ·have hqc:=V.cnts_get vs j hlt
    have hq1:0 < q:=by omega
    have hq2:q + V.cnt vs[j] <= 4611686018427387904:=by omega
    have HQ2:=Lib.hid (show q + V.cnt vs[j] = k + V.cnts (vs.take (j + 1)) by rw [V.cnts_take vs j hlt]; omega);clear hq hqc;have hjl:j < (V.half k vs j).length:=by rw [V.half_length _ _ _ hj]; exact hlt
    obtain ⟨fi,kn,nn,en,sn,kids,u,hes,hnf,d0,d1,d2,hfr,hgl,hrest⟩:=RowV.round hr hn j hjl q;have hes':vs[j] = .mk kn nn en sn kids:=by rw [<- V.half_at k vs j hlt]; exact hes
    have hnj:=V.nodes_get vs j hlt;have hbj:=V.bulks_snoc vs j hlt;have hbt:=V.bulks_take vs (j + 1);have hnk:V.nodess kids <= n:=by rw [hes'] at hnj; simp only [V.nodes] at hnj; omega
    have hbk:kids.length + V.bulks kids <= 4294967295:=by rw [hes'] at hbj; simp only [V.bulk] at hbj; omega
    have hck:V.cnt vs[j] = 4 + V.cnts kids:=by rw [hes']; rfl
    have hqk:q + 4 + V.cnts kids <= 4611686018427387904:=by omega
    have HQ3:=Lib.hid (show q + 4 + V.cnts kids = k + V.cnts (vs.take (j + 1)) by rw [<- HQ2.out]; omega);have HSET:=Lib.hid (show (V.half k vs j).set j (V.mark1 q ((V.half k vs j)[j]'hjl)) = V.half k vs (j + 1) by rw [V.half_at k vs j hlt,HQ.out]; exact V.half_set k vs j hlt);have HR:=Lib.hid hrest;have HMT:=fun W => Lib.hid (zbi (q + 3) W (by omega) (by omega))
    have f0:=hfr (j * 5);have f1:=hfr (j * 5 + 1);have f2:=hfr (j * 5 + 2);have i1:(0:Int) <= j:=by omega
    have i2:(j:Int) < vs.length:=by omega
    have HHA:=fun W h1 => Lib.hid (hA kids u (q + 4) fi W hnk h1 hnf hbk (by omega) hqk)
    have HKP:=Lib.hid hkp;clear hes hes' hnj hbj hbt hnk hbk hck hrest hr hfr hnf hA hrow hkp
    go_wp2_with (first | (go_at_call 101; refine (HMT _).out.mono ?_; rintro e1 w1 ⟨rfl,hb1⟩; obtain ⟨c3,f3,c4,htk,hfin⟩:=HR.out w1 hb1) | (go_at_call 96; refine (HHA _ htk).out.mono ?_; rintro e1 w2 ⟨rfl,hk2',ht2⟩; obtain ⟨hrow2,hkp2⟩:=hfin w2 hk2' ht2))
    go_roundw
    case rel => exact ⟨j + 1,q + 4 + V.cnts kids,by omega,HQ3.out,by go_num,by go_num,by rw [<- HSET.out]; exact hrow2,HKP.out.trans hkp2⟩
    case measure => simp [intOf]; omega
   ·obtain rfl:j = vs.length:=by omega
    rw [V.half_all] at hr;rw [take_length] at HQ;clear hq;go_wp2;go_ret;have hml:(V.ds (V.marks k vs)).length = vs.length:=by rw [V.ds_map,length_map,V.marks_length]
    have:=Row.tree (c:=c) hr (by decide) (by rw [hml]; exact HC.out)
    rw [hml] at this;exact ⟨by rw [<- HQ.out]; rfl,hkp,this⟩
theorem VMk_all:∀ n,VMk n
 | 0 => by
  intro vs v k fp w hnn h hn hl hk hk2
  have:vs = []:=by
   cases vs with
   | nil => rfl
   | cons x r => have:=x.nodes_pos; simp only [V.nodess] at hnn; omega
  subst this
  exact zgI v k fp w h
 | n + 1 => VMk_of (VMk_all n)
def VHd (n:Nat):Prop:=∀ (vs:List V) (v:Value) (k:Nat) (w:World),V.nodess vs <= n -> Rd w (.sl 5 (V.ds (V.marks k vs))) [v] -> vs.length + V.bulks vs <= 4294967295 -> 0 < k -> k + V.cnts vs <= 4611686018427387904 ->
 Calls Tryz.prog 98 #[v,.int .i64 k] w fun e w' => e = .returned (.int .i64 ((k + V.cnts vs:Nat):Int)) /\ Below w.heap.size w w'
theorem V.marks_get:∀ (k:Nat) (vs:List V) (j:Nat) (h:j < vs.length),(V.marks k vs)[j]'(by rw [V.marks_length]; exact h) = V.mark1 (k + V.cnts (vs.take j)) vs[j]
 | k,v :: vs,0,_ => by simp [V.marks,V.cnts]
 | k,v :: vs,j + 1,h => by simp only [V.marks,getElem_cons_succ,take_succ_cons,V.cnts]; rw [V.marks_get (k + V.cnt v) vs j (by simpa using h),Nat.add_assoc]
theorem VHd_of {n:Nat} (hA:VHd n):VHd (n + 1):=by
 intro vs v k w hnn h hl hk hk2;obtain ⟨a,c,rfl,hg⟩:=h.values;rw [V.marks_length];clear h
 go_enter Tryz.func98,Tryz.ntmps98
 go_wp2
 go_loopw [1,5] (fun kk i wr => ∃ j q:Nat,j <= vs.length /\ q = k + V.cnts (vs.take j) /\ kk = .int .i64 q /\ i = .int .i64 j /\ Below w.heap.size w wr) (fun _ i _ => vs.length - (intOf i).toNat)
 case atStart => exact ⟨0,k,Nat.zero_le _,by simp [V.cnts],rfl,rfl,Below.refl _ _⟩
 case round =>
  obtain ⟨j,q,hj,hq,rfl,rfl,hbel⟩:=hrel;have HQ:=Lib.hid hq;by_cases hlt:j < vs.length
  ·have hqc:=V.cnts_get vs j hlt
   have hq1:0 < q:=by omega
   have hq2:q + V.cnt vs[j] <= 4611686018427387904:=by omega
   have HQ2:=Lib.hid (show q + V.cnt vs[j] = k + V.cnts (vs.take (j + 1)) by rw [V.cnts_take vs j hlt]; omega);obtain ⟨_,_,b,o,rfl,hb,hcell⟩:=hg (by intro e; have:=congrArg length e; simp [V.marks_length] at this; subst this; simp at hlt);obtain ⟨v0,v1,v2,v3,v4,hr,d0,d1,d2,d3,d4⟩:=hcell j (by rw [V.marks_length]; exact hlt);rw [V.marks_get k vs j hlt,<- hq] at hr;obtain ⟨kn,nn,en,sn,kids,hes'⟩:∃ kn nn en sn kids,vs[j] = .mk kn nn en sn kids:=by cases vs[j]; exact ⟨_,_,_,_,_,rfl⟩
   rw [hes'] at hr;obtain ⟨k',n',e',s',kids',u,hm,hcs,hrk⟩:=V.lay hr;simp only [V.mark1,V.mk.injEq] at hm;obtain ⟨rfl,rfl,rfl,rfl,rfl⟩:=hm;simp only [cons.injEq,and_true] at hcs;obtain ⟨rfl,rfl,rfl,rfl,rfl⟩:=hcs;have hnj:=V.nodes_get vs j hlt;have hbj:=V.bulks_snoc vs j hlt;have hbt:=V.bulks_take vs (j + 1);have hnk:V.nodess kids <= n:=by rw [hes'] at hnj; simp only [V.nodes] at hnj; omega
   have hbk:kids.length + V.bulks kids <= 4294967295:=by rw [hes'] at hbj; simp only [V.bulk] at hbj; omega
   have hck:V.cnt vs[j] = 4 + V.cnts kids:=by rw [hes']; rfl
   have hqk:q + 4 + V.cnts kids <= 4611686018427387904:=by omega
   have HQ3:=Lib.hid (show q + 4 + V.cnts kids = k + V.cnts (vs.take (j + 1)) by rw [<- HQ2.out]; omega);have hbc:=(zaY hbel).1;rw [<- hbc _ _ hb] at d0 d1 d2 d3 d4;have hb':b < wr.heap.size:=Nat.lt_of_lt_of_le hb hbel.size;have hwr:=Below.refl wr.heap.size wr;have KB:Hid (∀ W,Below wr.heap.size wr W -> W.cell? ⟨b,o + j * 5 + 3,none⟩ = some (.string ⟨(mt (q + 3)).toArray⟩) /\ W.cell? ⟨b,o + j * 5 + 4,none⟩ = some v4):=fun W hW => by rw [(zaY hW).1 _ _ hb',(zaY hW).1 _ _ hb']; exact ⟨d3,d4⟩
   have i1:(0:Int) <= j:=by omega
   have i2:(j:Int) < vs.length:=by omega
   have HMT:=fun W => Lib.hid (show Calls Tryz.prog 101 #[.int .i64 ((q:Int) + 1 + 1 + 1)] W _ from zbi (q + 3) W (by omega) (by omega))
   have HHA:=fun W (hB:Below wr.heap.size wr W) => Lib.hid (hA kids v4 (q + 4) W hnk ((hrk.below hbel).below hB) hbk (by omega) hqk)
   clear hes' hnj hbj hbt hnk hbk hck hA hrk hcell hg hbc hq hqc HQ2
   go_wp2_with fail
   go_region_held3 (fun W => W.cell? ⟨b,o + j * 5 + 3,none⟩ = some (.string ⟨(mt (q + 3)).toArray⟩) /\ W.cell? ⟨b,o + j * 5 + 4,none⟩ = some v4) (first | exact KB.out _ hwr | exact KB.out _ hwr.drew)
    ((go_at_call 101; with_reducible refine (HMT _).out.mono ?_; rintro e1 w1 ⟨rfl,hb1⟩; replace hwr:=zan (by first | exact hwr | exact hwr.drew) hb1 lR))
   obtain ⟨p3,p4⟩:=KB.out _ hwr
   go_wp2_with (go_at_call 98; refine (HHA _ hwr).out.mono ?_; rintro e1 w2 ⟨rfl,hb2⟩)
   go_roundw
   case rel => exact ⟨j + 1,q + 4 + V.cnts kids,by omega,HQ3.out,by go_num,by go_num,zan hbel (zan hwr hb2 lR) lR⟩
   case measure => simp [intOf]; omega
  ·obtain rfl:j = vs.length:=by omega
   rw [take_length] at HQ;clear hq;go_wp2;go_ret;exact ⟨by rw [<- HQ.out]; rfl,hbel⟩
theorem VHd_all:∀ n,VHd n
 | 0 => by
  intro vs v k w hnn h hl hk hk2
  have:vs = []:=by
   cases vs with
   | nil => rfl
   | cons x r => have:=x.nodes_pos; simp only [V.nodess] at hnn; omega
  subst this;obtain ⟨a,c,rfl,_⟩:=h.values;clear h;rw [V.marks_length]
  go_enter Tryz.func98,Tryz.ntmps98
  go_wp2
  go_loopw [1,5] (fun kk i wr => kk = .int .i64 k /\ i = .int .i64 (0:Int) /\ wr = w) (fun _ _ _ => 0)
  case atStart => exact ⟨rfl,rfl,rfl⟩
  case round =>
   obtain ⟨rfl,rfl,rfl⟩:=hrel;go_wp2;go_ret
   exact ⟨rfl,Below.refl _ _⟩
 | n + 1 => VHd_of (VHd_all n)
end
section
section
variable {T:World -> Prop} {hT:Low ngl T} {w:World} {hn:ngl <= w.heap.size}
theorem eqV_fn {E:Env} (hP:E.P = Tryz.prog) (x y:V) (hx:x.bulk <= 1048576) (hy:y.bulk <= 1048576):FnV E 25 [.ag x.d.pc,.ag y.d.pc] (.d (pB (decide (x = y)))):=by
 refine FnV.old rfl fun W C vs hF _ _ hlen hv => ?_
 match vs,hlen with
 | [a,b],_ =>
  obtain ⟨cs,rfl,h1⟩:=vRd hF (V.wfd x) (hv 0 _ _ rfl rfl);obtain ⟨ds,rfl,h2⟩:=vRd hF (V.wfd y) (hv 1 _ _ rfl rfl);rw [hP]; exact zhv x y cs ds W h1 h2 hx hy
end
mutual
theorem V.cnt_b4:∀ x:V,V.cnt x <= 5 + 5 * x.bulk
 | .mk _ _ _ s kids => by have:=V.cnts_b4 kids; simp only [V.cnt,V.bulk]; omega
theorem V.cnts_b4:∀ xs:List V,V.cnts xs <= 5 * (xs.length + V.bulks xs)
 | [] => by simp [V.cnts]
 | x :: xs => by have:=V.cnt_b4 x; have:=V.cnts_b4 xs; simp only [V.cnts,V.bulks,length_cons]; omega
end
end
section
def m_l_eqDict:M:=so [qo 2 (.box 0),qo 3 (.box 1),qo 4 (.mv (cB false))] (.seq (so [qF 5 0 2,ql 6 1 5,qF 7 0 3,ql 8 1 7,qc 9 70 [6,8] 1,qo 10 (.not 9)] (.cond 10 (so [qo 4 (.mv (cB false))] .ret) .skip)) (.seq (so [qF 11 1 2,ql 12 1 11,qF 13 1 3,ql 14 1 13,qc 15 71 [12,14] 1,qo 16 (.not 15)] (.cond 16 (so [qo 4 (.mv (cB false))] .ret) .skip)) (so [qo 4 (.mv (cB true))] .ret)))
theorem zhJ:look Tryz.prog 16 = some (17,m_l_eqDict,[.tm 4]):=by kernel_rfl
def m_l_eqNames:M:=so [qo 4 (.mv (cB false))] (.seq (so [qm 6 0,qo 7 (.len 6),qm 8 1,qo 9 (.len 8),qo 10 (.bin .neq false 7 9)] (.cond 10 (so [qo 4 (.mv (cB false))] .ret) .skip)) (.seq (so [qo 5 (.mv (ci 0))] (.block 0 (.loop (.seq (so [qm 11 5,qm 12 0,qo 13 (.len 12),qo 14 (.bin .lss false 11 13)] (.cond 14 .skip (.exit 0))) (.seq (.block 1 (so [qm 17 0,qm 18 5,qo 19 (.ix 1 17 18),ql 20 1 19,qm 21 1,qm 22 5,qo 23 (.ix 1 21 22),ql 24 1 23,qo 25 (.bin .neq false 20 24)] (.cond 25 (so [qo 4 (.mv (cB false))] .ret) .skip))) (.ops [qm 15 5,qo 16 (.bin .add false 15 (ci 1)),qm 5 16])))))) (so [qo 4 (.mv (cB true))] .ret)))
theorem zgJ:look Tryz.prog 70 = some (26,m_l_eqNames,[.tm 4]):=by kernel_rfl
def m_l_eqTable:M:=so [qo 4 (.mv (cB false))] (.seq (so [qm 6 0,qo 7 (.len 6),qm 8 1,qo 9 (.len 8),qo 10 (.bin .neq false 7 9)] (.cond 10 (so [qo 4 (.mv (cB false))] .ret) .skip)) (.seq (so [qo 5 (.mv (ci 0))] (.block 0 (.loop (.seq (so [qm 11 5,qm 12 0,qo 13 (.len 12),qo 14 (.bin .lss false 11 13)] (.cond 14 .skip (.exit 0))) (.seq (.block 1 (so [qm 17 0,qm 18 5,qo 19 (.ix 5 17 18),qL 20 5 19,qm 21 1,qm 22 5,qo 23 (.ix 5 21 22),qL 24 5 23,qc 25 25 [20,24] 0,qo 26 (.not 25)] (.cond 26 (so [qo 4 (.mv (cB false))] .ret) .skip))) (.ops [qm 15 5,qo 16 (.bin .add false 15 (ci 1)),qm 5 16])))))) (so [qo 4 (.mv (cB true))] .ret)))
theorem zgK:look Tryz.prog 71 = some (27,m_l_eqTable,[.tm 4]):=by kernel_rfl
end
section
attribute [local irreducible] po mw pt
section
variable {E:Env} (hP:E.P = Tryz.prog)
include hP
def EqNI (ns:List (L8)) (m:Nat) (st:St):Prop:=∃ i:Nat,i <= ns.length /\ m = ns.length - i /\ has st.tm [(0,.d (pSs ns)),(1,.d (pSs ns)),(5,.d (pI i))]
theorem eqN_fn (ns:List (L8)) (hl:ns.length <= 4294967295):FnV E 70 [.d (pSs ns),.d (pSs ns)] (.d (pB true)):=by
 refine zaV (by rw [hP]; exact zgJ) (by show 2 <= 26; decide) fun B hB => ?_
 unfold m_l_eqNames;refine mP ?_;refine mM ?_;refine mS ?_;refine zaK (n:=ns.length) rfl rfl (za0 ns) ?_;refine mS ?_;refine zaK (n:=ns.length) rfl rfl (za0 ns) ?_;refine zam rfl rfl (by simp) ?_;refine mK ?_;refine zau (fun s => True) ?_ ?_
 ·refine mP ?_
  refine zag ?_;refine zaz (EqNI ns) ns.length ⟨0,Nat.zero_le _,rfl,⟨rfl,rfl,rfl,trivial⟩⟩ ?_;rintro m tm bx nt live ⟨i,hi,rfl,ht⟩;obtain ⟨tm0,rfl⟩:=zae ht;refine mM ?_;(iterate 2 refine mS ?_);refine zaK (n:=ns.length) rfl rfl (za0 ns) ?_;refine po_b rfl rfl (fun b hb => ?_);refine zaa ?_;refine zbe (p:=(i:Int) < ns.length) hb rfl (fun h _ => ?_) (fun h _ => ?_)
  ·have hil:i < ns.length:=by omega
   refine zaj ?_;refine zah (zag (zah (zad ?_)));(iterate 2 refine mS ?_);refine zaW (es:=pSr ns) (e:=[pS ns[i]]) rfl rfl rfl ⟨by omega,by rw [Int.toNat_natCast]; exact zbz hil⟩ rfl ?_;(iterate 3 refine mS ?_);refine zaW (es:=pSr ns) (e:=[pS ns[i]]) rfl rfl rfl ⟨by omega,by rw [Int.toNat_natCast]; exact zbz hil⟩ rfl ?_;refine mS ?_;refine po_ne (la:=ns[i]) (lb:=ns[i]) rfl rfl rfl ?_;refine mN ?_;refine zca (p:=ns[i] ≠ ns[i]) rfl (fun hc => absurd rfl hc) (fun hc => ?_);refine zaj ?_;refine zad ?_;refine mS ?_;refine zaq (n:=((i + 1:Nat):Int)) rfl rfl rfl (by omega) (by omega) ?_;refine mN ?_;exact ⟨ns.length - (i + 1),by omega,i + 1,hil,rfl,⟨rfl,rfl,rfl,trivial⟩⟩
  ·refine zaH ?_
   trivial
 intro tm bx nt live _;refine mP ?_;exact mR
def EqTI (vs:List V) (m:Nat) (st:St):Prop:=∃ i:Nat,i <= vs.length /\ m = vs.length - i /\ has st.tm [(0,.d (.sl 0 (vK vs))),(1,.d (.sl 0 (vK vs))),(5,.d (pI i))]
theorem eqT_fn (vs:List V) (hl:vs.length <= 4294967295) (hb0:∀ v ∈ vs,v.bulk <= 1048576):FnV E 71 [.d (.sl 0 (vK vs)),.d (.sl 0 (vK vs))] (.d (pB true)):=by
 refine zaV (by rw [hP]; exact zgK) (by show 2 <= 27; decide) fun B hB => ?_
 unfold m_l_eqTable;refine mP ?_;refine mM ?_;refine mS ?_;refine zaK (n:=vs.length) rfl rfl (zbh vs) ?_;refine mS ?_;refine zaK (n:=vs.length) rfl rfl (zbh vs) ?_;refine zam rfl rfl (by simp) ?_;refine mK ?_;refine zau (fun s => True) ?_ ?_
 ·refine mP ?_
  refine zag ?_;refine zaz (EqTI vs) vs.length ⟨0,Nat.zero_le _,rfl,⟨rfl,rfl,rfl,trivial⟩⟩ ?_;rintro m tm bx nt live ⟨i,hi,rfl,ht⟩;obtain ⟨tm0,rfl⟩:=zae ht;refine mM ?_;(iterate 2 refine mS ?_);refine zaK (n:=vs.length) rfl rfl (zbh vs) ?_;refine po_b rfl rfl (fun b hb => ?_);refine zaa ?_;refine zbe (p:=(i:Int) < vs.length) hb rfl (fun h _ => ?_) (fun h _ => ?_)
  ·have hil:i < vs.length:=by omega
   have hv:=hb0 vs[i] (getElem_mem hil);have he:=eqV_fn hP vs[i] vs[i] hv hv;rw [decide_eq_true rfl,V.pc_eq] at he;refine zaj ?_;refine zah (zag (zah (zad ?_)));(iterate 2 refine mS ?_);refine zaW (es:=vK vs) (e:=vC vs[i]) rfl rfl rfl ⟨by omega,by rw [Int.toNat_natCast]; exact zco hil⟩ rfl ?_;refine po_q (v:=.ag (vC vs[i])) rfl rfl ?_;(iterate 2 refine mS ?_);refine zaW (es:=vK vs) (e:=vC vs[i]) rfl rfl rfl ⟨by omega,by rw [Int.toNat_natCast]; exact zco hil⟩ rfl ?_;refine po_q (v:=.ag (vC vs[i])) rfl rfl ?_;refine zac (dats2 (zfj _) (zfj _)) he ?_;refine mK ?_;refine zad ?_;refine mS ?_;refine zaq (n:=((i + 1:Nat):Int)) rfl rfl rfl (by omega) (by omega) ?_;refine mN ?_;exact ⟨vs.length - (i + 1),by omega,i + 1,hil,rfl,⟨rfl,rfl,rfl,trivial⟩⟩
  ·refine zaH ?_
   trivial
 intro tm bx nt live _;refine mP ?_;exact mR
theorem eqD_fn (ns:List (L8)) (vs:List V) (hl:ns.length <= 4294967295) (hl2:vs.length <= 4294967295) (hb:∀ v ∈ vs,v.bulk <= 1048576):FnV E 16 [.ag (dC ns vs),.ag (dC ns vs)] (.d (pB true)):=by
 refine zaV (by rw [hP]; exact zhJ) (by show 2 <= 17; decide) fun B hB => ?_
 unfold m_l_eqDict;refine mP ?_;refine mM ?_;(iterate 4 refine mS ?_);refine zac (args:=[.d (pSs ns),.d (pSs ns)]) (by show some [PV.d (pSs ns).er,PV.d (pSs ns).er] = _; rw [pSs_er]) (eqN_fn hP ns hl) ?_;refine mK ?_;refine mM ?_;(iterate 4 refine mS ?_);refine zac (args:=[.d (.sl 0 (vK vs)),.d (.sl 0 (vK vs))]) (by show some [PV.d (.sl 0 (erLL (vK vs))),PV.d (.sl 0 (erLL (vK vs)))] = _; rw [vK_er]) (eqT_fn hP vs hl2 hb) ?_;refine mK ?_;refine mP ?_;exact mR
end
end
section
theorem zfD (ls:List (L8)) (v:Value) (k:Nat) (fp:List Nat) (w:World) (h:TreeC w (dSs ls) fp [v]) (hn:fp.Nodup) (hl:ls.length <= 4294967296) (hk:0 < k) (hk2:k <= 4611686018427387904) :
  Calls Tryz.prog 72 #[v,.int .i64 k] w fun e w' => e = .returned (.int .i64 ((k + ls.length:Nat):Int)) /\ Keep (· ∈ fp) w w' /\ TreeC w' (dSs (mtS k ls)) fp [v]:=by
 by_cases hne:ls = []
 ·subst hne
  have h0:=h;obtain ⟨a,c,rfl,_⟩:=TreeC.row h;have H0:=Lib.hid h0;clear h h0
  go_enter Tryz.func72,Tryz.ntmps72
  go_wp2
  go_loopw [1,5] (fun kk i wr => kk = .int .i64 k /\ i = .int .i64 (0:Int) /\ wr = w) (fun _ _ _ => 0)
  case atStart => exact ⟨rfl,rfl,rfl⟩
  case round =>
   obtain ⟨rfl,rfl,rfl⟩:=hrel;go_wp2;go_ret;exact ⟨rfl,Keep.refl _ _,H0.out⟩
 ·obtain ⟨a,c,rfl,hg⟩:=TreeC.row h
  obtain ⟨g,fr,e,sz,rfl,rfl,hc1,hc2,hrow⟩:=hg (by simpa using hne);rw [length_map] at hc1 ⊢;clear hg h;have HC:=Lib.hid (show (ls.length <= c /\ sz = c * 1) /\ c <= maxLen from ⟨hc1,hc2⟩);clear hc1 hc2
  go_enter Tryz.func72,Tryz.ntmps72
  go_wp2
  go_loopw [1,5] (fun kk i wr => ∃ j:Nat,j <= ls.length /\ kk = .int .i64 ((k + j:Nat):Int) /\ i = .int .i64 j /\ Row wr 1 g e sz fr ((halfS k ls j).map dS) /\ Keep (· ∈ g :: fr) w wr) (fun _ i _ => ls.length - (intOf i).toNat)
  case atStart => exact ⟨0,Nat.zero_le _,rfl,rfl,by rw [halfS_zero]; exact hrow,Keep.refl _ _⟩
  case round =>
   obtain ⟨j,hj,rfl,rfl,hr,hkp⟩:=hrel;by_cases hlt:j < ls.length
   ·have hjl:j < ((halfS k ls j).map dS).length:=by rw [length_map,zgH _ _ _ hj]; exact hlt
    obtain ⟨fi,ci,_,_,hgf,ht,hci,hsz,hcell,hput⟩:=hr.at hn j hjl;simp only [getElem_map,dS,TreeC] at ht;obtain ⟨rfl,rfl⟩:=ht;have d0:=hcell 0 _ (by decide) rfl;have hfr:=hr.blk.free (j * 1);have hlt2:=hr.blk.lt;simp only [Nat.mul_one,Nat.add_zero] at d0 hfr hsz;have i1:(0:Int) <= j:=by omega
    have i2:(j:Int) < ls.length:=by omega
    have hkj:0 < k + j:=by omega
    have hkj2:k + j <= 9223372036854775806:=by omega
    have HMT:=Lib.hid (zbi (k + j) wr (by omega) hkj);have HFR:=Lib.hid hr.blk;have HSET:=Lib.hid (halfS_set k ls j hlt)
    go_wp2_with (go_at_call 101; refine HMT.out.mono ?_; rintro e1 w1 ⟨rfl,hb1⟩; have c1:w1.cell? ⟨g,j,none⟩ = some _:=(by rw [(zaY hb1).1 _ _ hlt2]; exact d0); have c2:w1.frozen? ⟨g,j,none⟩ = false:=(by rw [(zaY hb1).2 _ _ hlt2]; exact hfr))
    go_roundw
    case rel =>
     refine ⟨j + 1,by omega,by go_num,by go_num,?_,?_⟩
     ·rw [<- HSET.out,<- dS_set]
      refine hput _ _ [.string ⟨(mt (k + j)).toArray⟩] rfl ((HFR.out.below hb1).setCell _ _) ?_ ?_ ?_ (by simp [TreeC,dS])
      ·intro i hi
       obtain rfl:i = 0:=by omega
       simp only [Nat.mul_one,Nat.add_zero];simp [go_sem,c1]
      ·intro o ho
       rw [<- (zaY hb1).1 _ _ hlt2]
       have:o ≠ j:=by omega
       simp [go_sem]
      ·intro b hb _
       have hne:b ≠ g:=fun e => by subst e; exact (nodup_cons.1 hn).1 hb
       have hbl:b < wr.heap.size:=by obtain ⟨_,_,_,_,_,hts⟩:=hr; exact hts.lt b hb
       rw [Below.heap_setCell _ _ _ _ (by simpa using hne),hb1.block b hbl]
     ·exact (hkp.then hb1).setCell (.inl (by simp)) _
    case measure => simp [intOf]; omega
   ·obtain rfl:j = ls.length:=by omega
    rw [halfS_all] at hr;go_wp2;go_ret
    have:=Row.tree (c:=c) hr (by decide) (by simpa [za2] using HC.out)
    rw [length_map,za2] at this;exact ⟨rfl,hkp,this⟩
theorem zfE (ls:List (L8)) (v:Value) (k:Nat) (w:World) (h:Rd w (dSs (mtS k ls)) [v]) (hl:ls.length <= 4294967296) (hk:0 < k) (hk2:k <= 4611686018427387904) :
  Calls Tryz.prog 74 #[v,.int .i64 k] w fun e w' => e = .returned (.int .i64 ((k + ls.length:Nat):Int)) /\ Below w.heap.size w w':=by
 obtain ⟨a,c,rfl,hg⟩:=h.strs;rw [za2];clear h
 go_enter Tryz.func74,Tryz.ntmps74
 go_wp2
 go_loopw [1,5] (fun kk i wr => ∃ j q:Nat,j <= ls.length /\ q = k + j /\ kk = .int .i64 q /\ i = .int .i64 j /\ Below w.heap.size w wr) (fun _ i _ => ls.length - (intOf i).toNat)
 case atStart => exact ⟨0,k,Nat.zero_le _,rfl,rfl,rfl,Below.refl _ _⟩
 case round =>
  obtain ⟨j,q,hj,hq,rfl,rfl,hbel⟩:=hrel;have HQ:=Lib.hid hq;by_cases hlt:j < ls.length
  ·obtain ⟨_,_,b,o,rfl,hb,hcell⟩:=hg (by intro e; have:=congrArg length e; simp [za2] at this; subst this; simp at hlt)
   have d0:=hcell j (by rw [za2]; exact hlt);rw [mtS_get k ls j hlt,<- (zaY hbel).1 _ _ hb] at d0;rw [<- hq] at d0;have i1:(0:Int) <= j:=by omega
   have hq2:q <= 4611686018427387904 + 4294967296:=by omega
   have hq3:0 < q:=by omega
   clear hq;have i2:(j:Int) < ls.length:=by omega
   have hb':b < wr.heap.size:=Nat.lt_of_lt_of_le hb hbel.size;have HMT:=fun W => Lib.hid (zbi q W (by omega) (by omega))
   have hwr:=Below.refl wr.heap.size wr;have KB:Hid (∀ W,Below wr.heap.size wr W -> W.cell? ⟨b,o + j,none⟩ = some (.string ⟨(mt q).toArray⟩)):=fun W hW => by rw [(zaY hW).1 _ _ hb']; exact d0
   clear hcell hg d0
   go_wp2_with fail
   go_region_held3 (fun W => W.cell? ⟨b,o + j,none⟩ = some (.string ⟨(mt q).toArray⟩)) (first | exact KB.out _ hwr | exact KB.out _ hwr.drew)
    ((go_at_call 101; with_reducible refine (HMT _).out.mono ?_; rintro e1 w1 ⟨rfl,hb1⟩; replace hwr:=zan (by first | exact hwr | exact hwr.drew) hb1 lR))
   go_wp2;go_roundw
   case rel => exact ⟨j + 1,q + 1,by omega,by have:=HQ.out; omega,by go_num,by go_num,zan hbel (by first | exact hwr | exact hwr.drew) lR⟩
   case measure => simp [intOf]; omega
  ·obtain rfl:j = ls.length:=by omega
   clear hq;go_wp2;go_ret;exact ⟨by rw [<- HQ.out]; rfl,hbel⟩
theorem markT_nil (v:Value) (k:Nat) (fp:List Nat) (w:World) (h:TreeC w (.sl 5 (V.ds [])) fp [v]) :
  Calls Tryz.prog 73 #[v,.int .i64 k] w fun e w' => e = .returned (.int .i64 ((k + V.cnts []:Nat):Int)) /\ Keep (· ∈ fp) w w' /\ TreeC w' (.sl 5 (V.ds (V.marks k []))) fp [v]:=by
 have h0:=h;obtain ⟨a,c,rfl,_⟩:=TreeC.row h;have H0:=Lib.hid h0;clear h h0
 go_enter Tryz.func73,Tryz.ntmps73
 go_wp2
 go_loopw [1,5] (fun kk i wr => kk = .int .i64 k /\ i = .int .i64 (0:Int) /\ wr = w) (fun _ _ _ => 0)
 case atStart => exact ⟨rfl,rfl,rfl⟩
 case round =>
  obtain ⟨rfl,rfl,rfl⟩:=hrel;go_wp2;go_ret;exact ⟨rfl,Keep.refl _ _,H0.out⟩
theorem zfF (vs:List V) (v:Value) (k:Nat) (fp:List Nat) (w:World) (h:TreeC w (.sl 5 (V.ds vs)) fp [v]) (hn:fp.Nodup) (hl:vs.length + V.bulks vs <= 4294967295) (hk:0 < k) (hk2:k + V.cnts vs <= 4611686018427387904) :
  Calls Tryz.prog 73 #[v,.int .i64 k] w fun e w' => e = .returned (.int .i64 ((k + V.cnts vs:Nat):Int)) /\ Keep (· ∈ fp) w w' /\ TreeC w' (.sl 5 (V.ds (V.marks k vs))) fp [v]:=by
 have hA:=VMk_all;by_cases hne:vs = []
 ·subst hne
  exact markT_nil v k fp w h
 ·obtain ⟨a,c,rfl,hg⟩:=TreeC.row h
  obtain ⟨g,fr,e,sz,rfl,rfl,hc1,hc2,hrow⟩:=hg (by rw [V.ds_map]; simpa using hne);have hvl:(V.ds vs).length = vs.length:=by rw [V.ds_map,length_map]
  rw [hvl] at hc1 ⊢;clear hg h;have HC:=Lib.hid (show (vs.length <= c /\ sz = c * 5) /\ c <= maxLen from ⟨hc1,hc2⟩);clear hc1 hc2
  go_enter Tryz.func73,Tryz.ntmps73
  go_wp2
  go_loopw [1,5] (fun kk i wr => ∃ j q:Nat,j <= vs.length /\ q = k + V.cnts (vs.take j) /\ kk = .int .i64 q /\ i = .int .i64 j /\ Row wr 5 g e sz fr (V.ds (V.half k vs j)) /\ Keep (· ∈ g :: fr) w wr) (fun _ i _ => vs.length - (intOf i).toNat)
  case atStart => exact ⟨0,k,Nat.zero_le _,by simp [V.cnts],rfl,rfl,by rw [V.half_zero]; exact hrow,Keep.refl _ _⟩
  case round =>
   obtain ⟨j,q,hj,hq,rfl,rfl,hr,hkp⟩:=hrel;have HQ:=Lib.hid hq;by_cases hlt:j < vs.length
   ·have hqc:=V.cnts_get vs j hlt
    have hq1:0 < q:=by omega
    have hq2:q + V.cnt vs[j] <= 4611686018427387904:=by omega
    have HQ2:=Lib.hid (show q + V.cnt vs[j] = k + V.cnts (vs.take (j + 1)) by rw [V.cnts_take vs j hlt]; omega);clear hq hqc;have hjl:j < (V.half k vs j).length:=by rw [V.half_length _ _ _ hj]; exact hlt
    obtain ⟨fi,kn,nn,en,sn,kids,u,hes,hnf,d0,d1,d2,hfr,hgl,hrest⟩:=RowV.round hr hn j hjl q;have hes':vs[j] = .mk kn nn en sn kids:=by rw [<- V.half_at k vs j hlt]; exact hes
    have hbj:=V.bulks_snoc vs j hlt;have hbt:=V.bulks_take vs (j + 1);have hnk:=Nat.le_refl (V.nodess kids);have hbk:kids.length + V.bulks kids <= 4294967295:=by rw [hes'] at hbj; simp only [V.bulk] at hbj; omega
    have hck:V.cnt vs[j] = 4 + V.cnts kids:=by rw [hes']; rfl
    have hqk:q + 4 + V.cnts kids <= 4611686018427387904:=by omega
    have HQ3:=Lib.hid (show q + 4 + V.cnts kids = k + V.cnts (vs.take (j + 1)) by rw [<- HQ2.out]; omega);have HSET:=Lib.hid (show (V.half k vs j).set j (V.mark1 q ((V.half k vs j)[j]'hjl)) = V.half k vs (j + 1) by rw [V.half_at k vs j hlt,HQ.out]; exact V.half_set k vs j hlt);have HR:=Lib.hid hrest;have HMT:=fun W => Lib.hid (zbi (q + 3) W (by omega) (by omega))
    have f0:=hfr (j * 5);have f1:=hfr (j * 5 + 1);have f2:=hfr (j * 5 + 2);have i1:(0:Int) <= j:=by omega
    have i2:(j:Int) < vs.length:=by omega
    have HHA:=fun W h1 => Lib.hid (hA (V.nodess kids) kids u (q + 4) fi W hnk h1 hnf hbk (by omega) hqk)
    have HKP:=Lib.hid hkp;clear hes hes' hbj hbt hnk hbk hck hrest hr hfr hnf hA hrow hkp
    go_wp2_with (first | (go_at_call 101; refine (HMT _).out.mono ?_; rintro e1 w1 ⟨rfl,hb1⟩; obtain ⟨c3,f3,c4,htk,hfin⟩:=HR.out w1 hb1) | (go_at_call 96; refine (HHA _ htk).out.mono ?_; rintro e1 w2 ⟨rfl,hk2',ht2⟩; obtain ⟨hrow2,hkp2⟩:=hfin w2 hk2' ht2))
    go_roundw
    case rel => exact ⟨j + 1,q + 4 + V.cnts kids,by omega,HQ3.out,by go_num,by go_num,by rw [<- HSET.out]; exact hrow2,HKP.out.trans hkp2⟩
    case measure => simp [intOf]; omega
   ·obtain rfl:j = vs.length:=by omega
    rw [V.half_all] at hr;rw [take_length] at HQ;clear hq;go_wp2;go_ret;have hml:(V.ds (V.marks k vs)).length = vs.length:=by rw [V.ds_map,length_map,V.marks_length]
    have:=Row.tree (c:=c) hr (by decide) (by rw [hml]; exact HC.out)
    rw [hml] at this;exact ⟨by rw [<- HQ.out]; rfl,hkp,this⟩
theorem zfG (vs:List V) (v:Value) (k:Nat) (w:World) (h:Rd w (.sl 5 (V.ds (V.marks k vs))) [v]) (hl:vs.length + V.bulks vs <= 4294967295) (hk:0 < k) (hk2:k + V.cnts vs <= 4611686018427387904) :
  Calls Tryz.prog 75 #[v,.int .i64 k] w fun e w' => e = .returned (.int .i64 ((k + V.cnts vs:Nat):Int)) /\ Below w.heap.size w w':=by
 have hA:=VHd_all;obtain ⟨a,c,rfl,hg⟩:=h.values;rw [V.marks_length];clear h
 go_enter Tryz.func75,Tryz.ntmps75
 go_wp2
 go_loopw [1,5] (fun kk i wr => ∃ j q:Nat,j <= vs.length /\ q = k + V.cnts (vs.take j) /\ kk = .int .i64 q /\ i = .int .i64 j /\ Below w.heap.size w wr) (fun _ i _ => vs.length - (intOf i).toNat)
 case atStart => exact ⟨0,k,Nat.zero_le _,by simp [V.cnts],rfl,rfl,Below.refl _ _⟩
 case round =>
  obtain ⟨j,q,hj,hq,rfl,rfl,hbel⟩:=hrel;have HQ:=Lib.hid hq;by_cases hlt:j < vs.length
  ·have hqc:=V.cnts_get vs j hlt
   have hq1:0 < q:=by omega
   have hq2:q + V.cnt vs[j] <= 4611686018427387904:=by omega
   have HQ2:=Lib.hid (show q + V.cnt vs[j] = k + V.cnts (vs.take (j + 1)) by rw [V.cnts_take vs j hlt]; omega);obtain ⟨_,_,b,o,rfl,hb,hcell⟩:=hg (by intro e; have:=congrArg length e; simp [V.marks_length] at this; subst this; simp at hlt);obtain ⟨v0,v1,v2,v3,v4,hr,d0,d1,d2,d3,d4⟩:=hcell j (by rw [V.marks_length]; exact hlt);rw [V.marks_get k vs j hlt,<- hq] at hr;obtain ⟨kn,nn,en,sn,kids,hes'⟩:∃ kn nn en sn kids,vs[j] = .mk kn nn en sn kids:=by cases vs[j]; exact ⟨_,_,_,_,_,rfl⟩
   rw [hes'] at hr;obtain ⟨k',n',e',s',kids',u,hm,hcs,hrk⟩:=V.lay hr;simp only [V.mark1,V.mk.injEq] at hm;obtain ⟨rfl,rfl,rfl,rfl,rfl⟩:=hm;simp only [cons.injEq,and_true] at hcs;obtain ⟨rfl,rfl,rfl,rfl,rfl⟩:=hcs;have hbj:=V.bulks_snoc vs j hlt;have hbt:=V.bulks_take vs (j + 1);have hnk:=Nat.le_refl (V.nodess kids);have hbk:kids.length + V.bulks kids <= 4294967295:=by rw [hes'] at hbj; simp only [V.bulk] at hbj; omega
   have hck:V.cnt vs[j] = 4 + V.cnts kids:=by rw [hes']; rfl
   have hqk:q + 4 + V.cnts kids <= 4611686018427387904:=by omega
   have HQ3:=Lib.hid (show q + 4 + V.cnts kids = k + V.cnts (vs.take (j + 1)) by rw [<- HQ2.out]; omega);have hbc:=(zaY hbel).1;rw [<- hbc _ _ hb] at d0 d1 d2 d3 d4;have hb':b < wr.heap.size:=Nat.lt_of_lt_of_le hb hbel.size;have hwr:=Below.refl wr.heap.size wr;have KB:Hid (∀ W,Below wr.heap.size wr W -> W.cell? ⟨b,o + j * 5 + 3,none⟩ = some (.string ⟨(mt (q + 3)).toArray⟩) /\ W.cell? ⟨b,o + j * 5 + 4,none⟩ = some v4):=fun W hW => by rw [(zaY hW).1 _ _ hb',(zaY hW).1 _ _ hb']; exact ⟨d3,d4⟩
   have i1:(0:Int) <= j:=by omega
   have i2:(j:Int) < vs.length:=by omega
   have HMT:=fun W => Lib.hid (show Calls Tryz.prog 101 #[.int .i64 ((q:Int) + 1 + 1 + 1)] W _ from zbi (q + 3) W (by omega) (by omega))
   have HHA:=fun W (hB:Below wr.heap.size wr W) => Lib.hid (hA (V.nodess kids) kids v4 (q + 4) W hnk ((hrk.below hbel).below hB) hbk (by omega) hqk)
   clear hes' hbj hbt hnk hbk hck hA hrk hcell hg hbc hq hqc HQ2
   go_wp2_with fail
   go_region_held3 (fun W => W.cell? ⟨b,o + j * 5 + 3,none⟩ = some (.string ⟨(mt (q + 3)).toArray⟩) /\ W.cell? ⟨b,o + j * 5 + 4,none⟩ = some v4) (first | exact KB.out _ hwr | exact KB.out _ hwr.drew)
    ((go_at_call 101; with_reducible refine (HMT _).out.mono ?_; rintro e1 w1 ⟨rfl,hb1⟩; replace hwr:=zan (by first | exact hwr | exact hwr.drew) hb1 lR))
   obtain ⟨p3,p4⟩:=KB.out _ hwr
   go_wp2_with (go_at_call 98; refine (HHA _ hwr).out.mono ?_; rintro e1 w2 ⟨rfl,hb2⟩)
   go_roundw
   case rel => exact ⟨j + 1,q + 4 + V.cnts kids,by omega,HQ3.out,by go_num,by go_num,zan hbel (zan hwr hb2 lR) lR⟩
   case measure => simp [intOf]; omega
  ·obtain rfl:j = vs.length:=by omega
   rw [take_length] at HQ;clear hq;go_wp2;go_ret;exact ⟨by rw [<- HQ.out]; rfl,hbel⟩
end
section
def dD (ns:List (L8)) (vs:List V):D:=.agg [dSs ns,.sl 5 (V.ds vs)]
theorem dD_pc (ns:List (L8)) (vs:List V):(dD ns vs).pc = dC ns vs:=by
 simp only [dD,D.pc,D.pcs,dSs_pc,D.pcE_map,V.ds_map,map_map,append_nil];rfl
theorem dD_wf (ns:List (L8)) (vs:List V):(dD ns vs).wf:=by
 simp only [dD,D.wf,D.wfs];exact ⟨dSs_wf ns,⟨fun e he => by rw [V.ds_map] at he; obtain ⟨y,_,rfl⟩:=mem_map.1 he; exact V.width y,V.wfds vs⟩,trivial⟩
theorem dD_pl (ns:List (L8)) (vs:List V):(dD ns vs).pl:=by
 simp only [dD,D.pl,D.pls,dSs,and_self]
theorem dD_tree {w:World} {ns:List (L8)} {vs:List V} {fp:List Nat} {cs:List Value} (h0:TreeC w (dD ns vs) fp cs) :
  ∃ v u f1 f2,fp = f1 ++ f2 /\ cs = [v,u] /\ TreeC w (dSs ns) f1 [v] /\ TreeC w (.sl 5 (V.ds vs)) f2 [u]:=by
 simp only [dD,TreeC,TreeCs,dSs,D.width] at h0;obtain ⟨f4,r4,c4,d4,rfl,rfl,_,⟨a4,n4,rfl,h4⟩,f6,r6,c6,d6,rfl,rfl,_,⟨a6,n6,rfl,h6⟩,rfl,rfl⟩:=h0;refine ⟨_,_,f4,f6,by simp,rfl,?_,?_⟩
 ·simp only [dSs,TreeC]; exact ⟨a4,n4,rfl,h4⟩
 ·simp only [TreeC]; exact ⟨a6,n6,rfl,h6⟩
theorem dD_mk {w:World} {ns:List (L8)} {vs:List V} {f1 f2:List Nat} {v u:Value} (h1:TreeC w (dSs ns) f1 [v]) (h2:TreeC w (.sl 5 (V.ds vs)) f2 [u]):TreeC w (dD ns vs) (f1 ++ f2) [v,u]:=by
 simp only [dD,TreeC,TreeCs,dSs,D.width];exact ⟨f1,f2,[_],_,rfl,rfl,rfl,by simpa only [dSs,TreeC] using h1,f2,[],[_],[],by simp,rfl,rfl,by simpa only [TreeC] using h2,rfl,rfl⟩
theorem dD_lay {w:World} {ns:List (L8)} {vs:List V} {cs:List Value} (h:Rd w (dD ns vs) cs):∃ v1 v2,cs = [v1,v2] /\ Rd w (dSs ns) [v1] /\ Rd w (.sl 5 (V.ds vs)) [v2]:=by
 simp only [Rd,dD,RepC,RepCs,dSs,D.width] at h;obtain ⟨c4,r4,rfl,_,⟨a4,n4,rfl,h4⟩,c6,r6,rfl,_,⟨a6,n6,rfl,h6⟩,rfl⟩:=h;refine ⟨_,_,rfl,?_,?_⟩
 ·simp only [Rd,dSs,RepC]; exact ⟨a4,n4,rfl,h4⟩
 ·simp only [Rd,RepC]; exact ⟨a6,n6,rfl,h6⟩
theorem zgL (ks:List (L8)) (kids:List V) (cs:List Value) (k:Nat) (fp:List Nat) (w:World) (h:TreeC w (dD ks kids) fp cs) (hn:fp.Nodup) (hks:ks.length <= 4294967295) (hbk:kids.length + V.bulks kids <= 4294967295) (hk:0 < k) (hk2:k + ks.length + V.cnts kids <= 4611686018427387904) :
  Calls Tryz.prog 17 #[.agg cs.toArray,.int .i64 k] w fun e w' => e = .returned (.int .i64 ((k + ks.length + V.cnts kids:Nat):Int)) /\ Keep (· ∈ fp) w w' /\ TreeC w' (dD (mtS k ks) (V.marks (k + ks.length) kids)) fp cs:=by
 obtain ⟨v,u,f1,f2,rfl,rfl,ht1,ht2⟩:=dD_tree h;rw [nodup_append] at hn;obtain ⟨n1,n2,n3⟩:=hn;obtain ⟨va,vc,rfl,_⟩:=TreeC.row ht1;obtain ⟨ua,uc,rfl,_⟩:=TreeC.row ht2;have e1:(ks.map dS).length = ks.length:=by simp
 have e2:(V.ds kids).length = kids.length:=by rw [V.ds_map]; simp
 rw [e1] at ht1;rw [e2] at ht2;rw [e1,e2];obtain ⟨W0,hW0⟩:∃ W0,W0 = w.alloc (.cells #[.slice va ks.length vc,.slice ua kids.length uc] 27):=⟨_,rfl⟩;have HW:=Lib.hid hW0;have hal:Below w.heap.size w W0:=by rw [hW0]; exact (Below.refl _ _).alloc lR _
 have hz:w.heap.size < W0.heap.size:=by rw [hW0]; simp
 have l1:=ht1.lt;have l2:=ht2.lt;have ht1':TreeC W0 (dSs ks) f1 _:=ht1.frame fun b hb => hal.block b (l1 b hb)
 have ht2':TreeC W0 (.sl 5 (V.ds kids)) f2 _:=ht2.frame fun b hb => hal.block b (l2 b hb)
 have HM:=Lib.hid (zfD ks _ k f1 W0 ht1' n1 (by omega) hk (by omega))
 have KB:Hid (∀ W,Keep (· ∈ f1) W0 W -> W.cell? ⟨w.heap.size,1,none⟩ = some (.slice ua kids.length uc)):=by
  intro W hb;rw [hb.cell hz (fun hx => by have:=l1 _ hx; omega)]
  subst hW0; simp
 have HN:=fun W (hK:Keep (· ∈ f1) W0 W) => Lib.hid (zfF kids _ (k + ks.length) f2 W (ht2'.frame (hK.same fun b hb => ⟨Nat.lt_of_lt_of_le (l2 b hb) hal.size,fun hb1 => n3 b hb1 b hb rfl⟩)) n2 (by omega) (by omega) (by omega))
 have HF:=Lib.hid (show ∀ (cs:List Value) W1 W2,Keep (· ∈ f1) W0 W1 -> TreeC W1 (dSs (mtS k ks)) f1 cs -> Keep (· ∈ f2) W1 W2 -> TreeC W2 (dSs (mtS k ks)) f1 cs from fun cs W1 W2 h1 h2 h3 => h2.frame (h3.same fun b hb => ⟨h2.lt b hb,fun hb2 => n3 b hb b hb2 rfl⟩));have hkl:ks.length <= 4294967295:=by omega
 clear hW0 h ht1 ht2 ht1' ht2'
 go_enter Tryz.func17,Tryz.ntmps17
 go_wp2_with (first | (go_at_call 72; rw [<- HW.out]; refine HM.out.mono ?_; rintro e1 w1 ⟨rfl,hk1,ht1⟩; have p5:=KB.out _ hk1) | (go_at_call 73; refine (HN _ hk1).out.mono ?_; rintro e1 w2 ⟨rfl,hk2',ht2⟩))
 go_ret;exact ⟨rfl,((Keep.of_below hal).trans (hk1.mono fun b _ hb => by simp [hb])).trans (hk2'.mono fun b _ hb => by simp [hb]),dD_mk (HF.out _ _ _ hk1 ht1 hk2') ht2⟩
theorem zgM (ks:List (L8)) (kids:List V) (cs:List Value) (k:Nat) (w:World) (h:Rd w (dD (mtS k ks) (V.marks (k + ks.length) kids)) cs) (hks:ks.length <= 4294967295) (hbk:kids.length + V.bulks kids <= 4294967295) (hk:0 < k) (hk2:k + ks.length + V.cnts kids <= 4611686018427387904) :
  Calls Tryz.prog 18 #[.agg cs.toArray,.int .i64 k] w fun e w' => e = .returned (.int .i64 ((k + ks.length + V.cnts kids:Nat):Int)) /\ Below w.heap.size w w':=by
 obtain ⟨v,u,rfl,hrs,hrk⟩:=dD_lay h;obtain ⟨va,vc,rfl⟩:=Rd.sl_form hrs;obtain ⟨ua,uc,rfl⟩:=Rd.sl_form hrk;have e1:((mtS k ks).map dS).length = ks.length:=by simp [za2]
 have e2:(V.ds (V.marks (k + ks.length) kids)).length = kids.length:=by rw [V.ds_map]; simp [V.marks_length]
 rw [e1] at hrs;rw [e2] at hrk;rw [e1,e2];obtain ⟨W0,hW0⟩:∃ W0,W0 = w.alloc (.cells #[.slice va ks.length vc,.slice ua kids.length uc] 27):=⟨_,rfl⟩;have HW:=Lib.hid hW0;have hal:Below w.heap.size w W0:=by rw [hW0]; exact (Below.refl _ _).alloc lR _
 have hz:w.heap.size < W0.heap.size:=by rw [hW0]; simp
 have HM:=Lib.hid (zfE ks _ k W0 (hrs.below hal) (by omega) hk (by omega))
 have KB:Hid (∀ W,Below W0.heap.size W0 W -> W.cell? ⟨w.heap.size,1,none⟩ = some (.slice ua kids.length uc)):=by
  intro W hb;rw [(zaY hb).1 _ _ hz]
  subst hW0; simp
 have HN:=fun W (hB:Below W0.heap.size W0 W) => Lib.hid (zfG kids _ (k + ks.length) W (hrk.below (zan hal hB lR)) (by omega) (by omega) (by omega))
 have hkl:ks.length <= 4294967295:=by omega
 obtain ⟨q1,hq1⟩:∃ q,q = k + ks.length:=⟨_,rfl⟩;obtain ⟨q2,hq2⟩:∃ q,q = q1 + V.cnts kids:=⟨_,rfl⟩;rw [<- hq1] at HM HN ⊢;rw [<- hq2] at HN ⊢;clear hW0 h hrs hrk hq1 hq2
 go_enter Tryz.func18,Tryz.ntmps18
 go_wp2_with (first | (go_at_call 74; rw [<- HW.out]; refine HM.out.mono ?_; rintro e1 w1 ⟨rfl,hb1⟩; have p5:=KB.out _ hb1) | (go_at_call 75; refine (HN _ hb1).out.mono ?_; rintro e1 w2 ⟨rfl,hb2⟩))
 go_ret;exact ⟨rfl,zan hal (zan hb1 hb2 lR) lR⟩
theorem markD_fn {E:Env} (hP:E.P = Tryz.prog) (ks:List (L8)) (kids:List V) (k:Nat) (hks:ks.length <= 4294967295) (hbk:kids.length + V.bulks kids <= 4294967295) (hk:0 < k) (hk2:k + ks.length + V.cnts kids <= 4611686018427387904):MarkC E 17 (dD ks kids) (dD (mtS k ks) (V.marks (k + ks.length) kids)) k ((k + ks.length + V.cnts kids:Nat):Int):=by
 intro W fp vs h hn;rw [hP]; exact zgL ks kids vs k fp W h hn hks hbk hk hk2
theorem heldD_fn {E:Env} (hP:E.P = Tryz.prog) (ks:List (L8)) (kids:List V) (k:Nat) (hks:ks.length <= 4294967295) (hbk:kids.length + V.bulks kids <= 4294967295) (hk:0 < k) (hk2:k + ks.length + V.cnts kids <= 4611686018427387904):FnV E 18 [.ag (dD (mtS k ks) (V.marks (k + ks.length) kids)).pc,.d (pI k)] (.d (pI ((k + ks.length + V.cnts kids:Nat):Int))):=by
 refine FnV.old rfl fun W C vs hF _ _ hlen hv => ?_
 match vs,hlen with
 | [a,b],_ =>
  obtain ⟨cs,rfl,h1⟩:=vRd hF (dD_wf _ _) (hv 0 _ _ rfl rfl);have hb:=zbj (hv 1 _ _ rfl rfl);subst hb;rw [hP]; exact zgM ks kids cs k W h1 hks hbk hk hk2
end
section
attribute [local irreducible] po mw pt
theorem dict_small {s:L8} {ok:Bool} {ns:List (L8)} {vs:List V} (a:ok = true -> Good s ns vs) (b:ok = false -> ns = [] /\ vs = []):ns.length <= 100 /\ vs.length <= 60 /\ ∀ v ∈ vs,v.bulk <= 1048576:=by
 cases ok with
 | true =>
  obtain ⟨g1,g2,g3,g4,g5,g6,g7,g8,_⟩:=(a rfl).at
  exact ⟨g5,g7,fun v hv => V.ok_bulk (g8 v hv).2⟩
 | false =>
  obtain ⟨rfl,rfl⟩:=b rfl;exact ⟨Nat.zero_le _,Nat.zero_le _,fun v hv => by cases hv⟩
theorem zey:∀ {vs:List V},(∀ v ∈ vs,v.bulk <= 1048576) -> V.bulks vs <= 1048577 * vs.length
 | [],_ => by simp [V.bulks]
 | v :: vs,h => by
  have h1:=h v (mem_cons_self ..);have h2:=zey (vs:=vs) fun x hx => h x (mem_cons_of_mem _ hx)
  simp only [V.bulks,length_cons,Nat.mul_succ]; omega
end
section
theorem laid_of {H:Type} {enc:TypeId × Value -> H} {C:Checked} {os:Os} {f:FuncId} {fn:Func} {s:ChangeSpec} {conds:List PathCond} {fresh handsOn again apart:Bool} (L:List (String × DataW Unit))
  (own:ownKnob C.prog.godebug = none) (started:os.Started) (noInit:C.prog.inits.idxOf? f = none) (hfn:C.prog.funcs[f]? = some fn)
  (wit:∃ (w:World) (tape:Tape) (i:Input),w.os = os /\ (w.forCall tape i).Shaped C.prog /\ i.vars = [] /\ Input.okWide C.prog (w.forCall tape i) .any w.heap.size f i /\
   ((s.pre enc C.prog fn conds apart (w.forCall tape i).memory i.args /\ laidMetH C.prog L (w.forCall tape i).memory) /\ sizedMet enc C.prog fn (OpenSpec.ofChange s) apart (w.forCall tape i).memory i.args) /\ ({}:Assume).holds C.prog (lone (Frame.enter C.prog f i.args .normal) [] (w.forCall tape i)))
  (walk:∀ (W:World) (base:Nat) (args:Array Value) (ds gs:List (DataW H)) (before:List MemPlace),W.ShapedOpen C.prog -> laidMetH C.prog L W ->
   (∀ (j:Nat) t v,fn.params[j]? = some t -> args[j]? = some v -> Value.okWide C.prog W .any base t v) ->
   DataW.Whole enc C.prog fn.params.toList s.vars apart W args.toList ds gs before ->
   conds.all (PathCond.test C.prog ⟨fn.params.toList,ds,s.plain.varTypes C.prog,gs⟩) = true ->
   Calls C.prog f args W fun e W' => ∃ v,e = .returned v /\ s.post enc C.prog fn apart fresh handsOn again W args v W') :
  ReturnsInHanded {} C os f .any (fun w args => (s.pre enc C.prog fn conds apart w args /\ laidMetH C.prog L w) /\ sizedMet enc C.prog fn (OpenSpec.ofChange s) apart w args) (s.post enc C.prog fn apart fresh handsOn again):=by
 refine returnsInHanded_of_calls own started noInit wit fun w tape i _ shaped _ ok pre _ => ?_
 rcases ok with ⟨_,_,_,fn2,h2,_,_,_,_,vals⟩
 cases Option.some.inj (h2.symm.trans hfn)
 rcases pre with ⟨⟨⟨ds,gs,before,whole,cond⟩,met⟩,_⟩
 have met2:laidMetH C.prog L (w.forCall tape i):=laidMetH.of_heap (by rfl) met;refine (walk _ w.heap.size i.args ds gs before shaped met2 vals (DataW.Whole.of_heap (by rfl) whole) cond).mono ?_;rintro e w2 ⟨v,rfl,hp⟩;exact ChangeSpec.post_blind hp
end
section
open Go.RowKit Go.Lib Go.Shelf
theorem first_data:Go.Pinned.utf8First = firstData:=by kernel_rfl
theorem zhK:(Rows.laid_unicode_utf8_acceptRanges:DataW Unit) = acceptData:=by kernel_rfl
theorem tabs_of {w : World} (h3 : VarReads Tryz.prog w "unicode/utf8.first" Go.Pinned.utf8First) (h4 : VarReads Tryz.prog w "unicode/utf8.acceptRanges" Rows.laid_unicode_utf8_acceptRanges) : Tabs w := by
 rw [first_data] at h3; rw [zhK] at h4
 exact utf8Tabs_of_readsT (U8Types.of196 Tryz.laysValid) ⟨by kernel_rfl,by kernel_rfl,by kernel_rfl,by kernel_rfl,by kernel_rfl,by kernel_rfl,by kernel_rfl⟩ h3 h4
end
section
open Go.RowKit Go.Lib Go.Shelf
theorem ten_data:(Rows.laid_internal_strconv_uint64pow10:DataW Unit) = tabData .u64 pow10Tab:=by kernel_rfl
theorem tenTab_of {w : World} (h : VarReads Tryz.prog w "internal/strconv.uint64pow10" Rows.laid_internal_strconv_uint64pow10) : TenTab w := by
 rw [ten_data] at h;obtain ⟨g',t',cs,fuel,p,hg',ht',hvar,hd⟩:=h
 obtain rfl:=Option.some.inj (tenG.symm.trans hg')
 obtain rfl:=Option.some.inj ((show (Tryz.prog.globals[2]?).map (·.type) = some 244 by kernel_rfl).symm.trans ht')
 unfold TenTab TabIs;rw [hvar,<- cells_of_tab Tryz.underlying244 Tryz.underlying98 (by kernel_rfl) (by kernel_rfl) hd]
end
end Go.Proofs.YtanlnhkagepniaaGreatDoor
