/- Part 5 of a proof: AtF, SmM, SmI, CmpDef, CmpM, Cmp, SmeM, CmpS, DoM, DoFn, ValueSz, ValueTo, ValueEq, Mark, MarkT, MarkS, Mark2, MarkV, PvVl, ValueRead, OpM, OpD, DoLM, DoLaw, DoTop, ApM, ApFn, OpSM, OpS, OpMk, ApLM, ApLaw, Laid, Tabs, Ten, ErrTab -/
import Derived.Test.YtaofmfkcfmcmpaaGreatDoorAb4
import Derived.HandedShaped
import Derived.Lay
import Derived.LaidMore
import Derived.Stop.Joined
import Derived.Lib.LaidU8T
namespace Go.Proofs.YtaofmfkcfmcmpaaGreatDoor
open Go.RowKit
set_option maxHeartbeats 4000000
set_option maxRecDepth 100000
open List
section
variable {T:World -> Prop} {hT:Low ngl T}
attribute [local irreducible] po mw pt
def z0V:V:=.mk 0 0 0 [] []
def atO (v:V) (st:List (L8)):Option V:=if stepsOk st = true then atI v st else none
theorem atR_eq (o:Option V):atR o = .tup [.ag (vC (o.getD z0V)),.d (pB o.isSome)]:=by cases o <;> rfl
theorem zgl {Q:V -> Prop} (hQ:∀ v,Q v -> ∀ k ∈ v.kids,Q k):∀ (st:List (L8)) (v x:V),Q v -> atI v st = some x -> Q x
 | [],v,x,hv,h => by rw [atI] at h; simp only [sI] at h; subst h; exact hv
 | s :: r,v,x,hv,h => by
  rw [atI] at h
  split at h
  ·exact zgl hQ r _ x (hQ v hv _ (getElem_mem _)) h
  ·cases h
theorem V.wf_kids {v:V} {n:Nat} (h:v.wf /\ v.bulk <= n):∀ k ∈ v.kids,k.wf /\ k.bulk <= n:=by
 intro k hk;obtain ⟨i,hi,rfl⟩:=List.getElem_of_mem hk;have hkl:v.kids.length + V.bulks v.kids <= n:=by have:=h.2; cases v; simp only [V.bulk] at this; simp only [V.kids]; omega
 exact ⟨V.wf_kid h.1 i hi,V.bulk_get hkl i hi⟩
theorem atT_fn (hTS:∀ w,T w -> TS w) (v:V) (st:List (L8)) (hw:v.wf) (hb:v.bulk <= 2147483647) (hl:st.length <= 4294967295) (hs:∀ s ∈ st,s.length <= 2147483647):FnV (env T hT) 37 [.ag (vC v),.d (pSs st)] (atR (atO v st)):=by
 refine zaU (zaf lk_i_At) (by show 2 <= 21; decide) fun B hB => ?_
 unfold m_i_At;refine mO ?_;refine zal (cs:=vC v) rfl ?_;refine mN ?_;refine mM ?_;refine mS ?_;refine zac (args:=[.d (pSs st)]) (congrArg (fun r => some [PV.d (.sl 0 r)]) (zd6 st)) (zeB (T:=T) (hT:=hT) (fun w hw => (hTS w hw).1) st hl (fun s h => by have:=hs s h; omega)) ?_;unfold atO
 cases hso:stepsOk st with
 | false =>
  refine mT ?_;refine mQ ?_;refine zad (p:=1) (cs:=zC) rfl rfl rfl rfl rfl rfl ?_;refine mN ?_
  exact zab ⟨.inr rfl,[.ag zC,.d (pB false)],rfl,rfl⟩
 | true =>
  refine mK ?_;refine mO ?_;refine zaa (p:=0) (cs:=vC v) rfl rfl rfl rfl ?_;refine mS ?_
  refine zac (args:=[.ag (vC v),.d (pSs st)]) (by
   show some [PV.ag (erL (vC v)),PV.d (.sl 0 (erLL (pSr st)))] = _;rw [zai,zd6]; rfl) (at_fn (T:=T) (hT:=hT) (fun w hw => (hTS w hw).2.1) (fun w hw => (hTS w hw).2.2) v st (by omega) hl hs) ?_
  rw [if_pos rfl,atR_eq];obtain ⟨x,hx⟩:∃ x,(atI v st).getD z0V = x:=⟨_,rfl⟩
  have hxw:x.wf /\ x.bulk <= 2147483647:=by
   cases ha:atI v st with
   | none => rw [ha] at hx; subst hx; exact ⟨by show V.wf (.mk 0 0 0 [] []); simp [V.wf,V.wfs,i64ok,strok],by decide⟩
   | some y => rw [ha] at hx; simp only [Option.getD_some] at hx; subst hx; exact zgl (Q:=fun v => v.wf /\ v.bulk <= 2147483647) (fun v h => V.wf_kids h) st v _ ⟨hw,hb⟩ ha
  rw [hx];generalize (atI v st).isSome = ok;(iterate 3 refine mS ?_);refine zdX (cs:=vC x) rfl rfl rfl rfl ?_;refine mN ?_;refine mO ?_;refine zaa (p:=2) (cs:=vC x) rfl rfl rfl rfl ?_;refine zac (zax x) (own2_fn (T:=T) (hT:=hT) x hxw.1 (by have:=hxw.2; omega)) ?_;refine mS ?_;refine zad (p:=1) (cs:=vC x) rfl rfl rfl rfl rfl rfl ?_;refine mN ?_;exact zab ⟨.inr rfl,[.ag (vC x),.d (pB ok)],rfl,congrArg (fun l => some (PV.tup [.ag l,.d (pB ok)])) (zai x)⟩
end
section
def m_i_Same:M:=so [qo 2 (.box 0),qo 3 (.box 1),qo 4 (.mv (cB false))] (so [qF 5 0 2,ql 6 1 5,qF 7 0 3,ql 8 1 7,qo 9 (.bin .eql false 6 8),qm 10 9,⟨some 11,.fld 1 2,some (10,true),[]⟩,⟨some 12,.load false 1 11,some (10,true),[]⟩,⟨some 13,.fld 1 3,some (10,true),[]⟩,⟨some 14,.load false 1 13,some (10,true),[]⟩,⟨some 15,.bin .eql false 12 14,some (10,true),[]⟩,qo 16 (.pick 10 15 (cB false)),qm 17 16,⟨some 18,.fld 2 2,some (17,true),[]⟩,⟨some 19,.load false 1 18,some (17,true),[]⟩,⟨some 20,.fld 2 3,some (17,true),[]⟩,⟨some 21,.load false 1 20,some (17,true),[]⟩,⟨some 22,.bin .eql false 19 21,some (17,true),[]⟩,qo 23 (.pick 17 22 (cB false)),qm 24 23,⟨some 25,.fld 3 2,some (24,true),[]⟩,⟨some 26,.load false 1 25,some (24,true),[]⟩,⟨some 27,.fld 3 3,some (24,true),[]⟩,⟨some 28,.load false 1 27,some (24,true),[]⟩,⟨some 29,.bin .eql false 26 28,some (24,true),[]⟩,qo 30 (.pick 24 29 (cB false)),qm 31 30,⟨some 32,.fld 4 2,some (31,true),[]⟩,⟨some 33,.load false 1 32,some (31,true),[]⟩,⟨some 34,.fld 4 3,some (31,true),[]⟩,⟨some 35,.load false 1 34,some (31,true),[]⟩,⟨some 36,.call 62 [33,35,.f 39],some (31,true),[.f 1]⟩,qo 37 (.pick 31 36 (cB false)),qm 4 37] .ret)
theorem lk_i_Same:look Tryz.prog 39 = some (38,m_i_Same,[.tm 4]):=by kernel_rfl
def m_slices_EqualFunc_impl_Value_impl_Value_impl_Value_impl_Value:M:=so [qo 6 (.mv (cB false))] (.seq (so [qm 10 0,qo 11 (.len 10),qm 12 1,qo 13 (.len 12),qo 14 (.bin .neq false 11 13)] (.cond 14 (so [qo 6 (.mv (cB false))] .ret) .skip)) (.seq (so [qm 15 0,qo 16 (.len 15),qo 17 (.mv (ci 0))] (.block 0 (.loop (so [qo 18 (.bin .lss false 17 16)] (.seq (.cond 18 .skip (.exit 0)) (.seq (.block 1 (so [qm 19 17,qo 20 (.ix 5 15 17),qL 21 5 20,⟨some 8,.zero [.int .i64 0,.int .i64 0,.int .i64 0,.string ⟨[].toArray⟩,.slice none 0 0],none,[]⟩,qm 7 19,qS 5 8 21] (so [qm 22 1,qm 23 7,qo 24 (.ix 5 22 23),qL 25 5 24,⟨some 9,.zero [.int .i64 0,.int .i64 0,.int .i64 0,.string ⟨[].toArray⟩,.slice none 0 0],none,[]⟩,qS 5 9 25] (so [qm 26 2,qL 27 5 8,qL 28 5 9,⟨some 29,.callv 26 [27,28],none,[.f 1]⟩,qo 30 (.not 29)] (.cond 30 (so [qo 6 (.mv (cB false))] .ret) .skip))))) (.ops [qo 31 (.bin .add false 17 (ci 1)),qm 17 31]))))))) (so [qo 6 (.mv (cB true))] .ret)))
theorem zaA:look Tryz.prog 62 = some (32,m_slices_EqualFunc_impl_Value_impl_Value_impl_Value_impl_Value,[.tm 6]):=by kernel_rfl
end
section
variable {T:World -> Prop} {hT:Low ngl T}
attribute [local irreducible] po mw pt
theorem V.five {a b:V}:a = b ↔ a.kind = b.kind /\ a.num = b.num /\ a.exp = b.exp /\ a.text = b.text /\ a.kids = b.kids:=by
 obtain ⟨k,n,e,s,ks⟩:=a;obtain ⟨k',n',e',s',ks'⟩:=b;simp only [V.mk.injEq,V.kind,V.num,V.exp,V.text,V.kids]
theorem sm_args (a b:V):PV.dats [.ag (vC a),.ag (vC b)] = some [.ag (vC a),.ag (vC b)]:=by
 show some [PV.ag (erL (vC a)),.ag (erL (vC b))] = _;rw [zai,zai]
theorem kid_nd (a:V):∀ x ∈ a.kids,x.nodes < a.nodes:=by
 have key:∀ (l:List V) (x:V),x ∈ l -> x.nodes <= V.nodess l:=by
  intro l
  induction l with
  | nil => intro x hx; cases hx
  | cons y l ih =>
   intro x hx;simp only [V.nodess]
   rcases mem_cons.1 hx with rfl | hx
   ·omega
   ·have:=ih x hx; omega
 intro x hx
 have:=key a.kids x hx
 have hm:a.nodes = 1 + V.nodess a.kids:=by cases a; simp only [V.nodes,V.kids]
 omega
theorem set_lastQ {α:Type} (l:List α) (a b:α):(l ++ [a]).set l.length b = l ++ [b]:=by
 rw [set_append_right _ _ lR,Nat.sub_self]; rfl
theorem smlw (ks:List V):PV.lw 0 (.d (.sl 0 (vK ks))):=by
 have h:=vlw (v:=.mk 0 0 0 [] ks) (zai _);exact h.2.2.2.2.1
def SmiP (T:World -> Prop) (hT:Low ngl T) (N:Nat):Prop:=∀ a b:V,a.nodes <= N -> a.kids.length <= 4294967295 -> a.bulk <= 4294967295 -> b.bulk <= 4294967295 -> FnV (env T hT) 39 [.ag (vC a),.ag (vC b)] (.d (pB (decide (a = b))))
def SfI (ks ls:List V) (n1:Nat) (l1:List Nat) (m:Nat) (st:St):Prop:=∃ i:Nat,i <= ks.length /\ m = ks.length - i /\ has st.tm [(1,.d (.sl 0 (vK ls))),(2,.fn 39 []),(15,.d (.sl 0 (vK ks))),(16,.d (pI ks.length)),(17,.d (pI i))] /\ (ks = ls ↔ ks.drop i = ls.drop i) /\ st.nt = n1 /\ st.live = l1
theorem sameF_g {N:Nat} (ih:SmiP T hT N) (ks ls:List V) (hk:∀ x ∈ ks,x.nodes <= N /\ x.bulk <= 4294967295 /\ x.kids.length <= 4294967295) (hk2:∀ x ∈ ls,x.bulk <= 4294967295) (hb:ks.length <= 4294967295) (nt:Nat) (live:List Nat) :
  FnG (env T hT) 62 [.d (.sl 0 (vK ks)),.d (.sl 0 (vK ls)),.fn 39 []] [] nt live (fun x _ n l => x = .d (pB (decide (ks = ls))) /\ n = nt /\ l = live):=by
 refine zbN (zaf zaA) (by show 3 <= 32; decide) fun B hB => ?_
 unfold m_slices_EqualFunc_impl_Value_impl_Value_impl_Value_impl_Value;refine mP ?_;refine mM ?_;refine mS ?_;refine zay (n:=ks.length) rfl rfl (zam _) ?_;refine mS ?_;refine zay (n:=ls.length) rfl rfl (zam _) ?_;by_cases hl:ks.length = ls.length
 rotate_left
 ·refine zah rfl rfl (bne_iff_ne.2 (by omega)) ?_
  refine mT ?_;refine mP ?_;refine zab ⟨.inr rfl,[.d (pB false)],rfl,?_,rfl,rfl⟩;rw [decide_eq_false (fun h => hl (by rw [h]))]; rfl
 refine zan rfl rfl (bne_eq_false_iff_eq.2 (by omega)) ?_;refine mK ?_;refine zaS (fun st => st.nt = nt /\ st.live = live /\ ks = ls) ?_ ?_
 ·refine mQ ?_
  refine zay (n:=ks.length) rfl rfl (zam _) ?_;refine mN ?_;refine zak ?_;refine zaY (SfI ks ls nt live) ks.length ⟨0,Nat.zero_le _,rfl,⟨rfl,rfl,rfl,rfl,rfl,trivial⟩,by rw [drop_zero,drop_zero],rfl,rfl⟩ ?_;rintro m tm bx n2 l2 ⟨i,hi,rfl,ht,hf,hn,hl1⟩;obtain ⟨tm1,rfl⟩:=zaq ht;simp only at hn hl1; subst hn; subst hl1
  clear ht;refine mO ?_;refine po_b rfl rfl (fun q hq => ?_);refine zaj ?_;refine zau ?_;refine zdy (p:=(i:Int) < ks.length) hq rfl (fun him _ => ?_) (fun him _ => ?_)
  rotate_left
  ·refine za4 ?_
   have:i = ks.length:=by omega
   subst this;exact ⟨rfl,rfl,hf.2 (by rw [drop_length,drop_of_length_le (by omega)])⟩
  have hia:i < ks.length:=by omega
  have hib:i < ls.length:=by omega
  obtain ⟨hk1,hk3,hk4⟩:=hk _ (getElem_mem hia);have hkl:=hk2 _ (getElem_mem hib);rw [drop_eq_getElem_cons hia,drop_eq_getElem_cons hib,cons.injEq] at hf;refine za0 ?_;refine zau (zak ?_);refine mQ ?_;refine za5 (es:=vK ks) (e:=vC ks[i]) rfl rfl rfl ⟨by omega,by rw [Int.toNat_natCast]; exact zbj hia⟩ rfl ?_;refine mS ?_;refine zaH ?_;refine mS ?_;refine zad (cs:=vC ks[i]) (z:=[pI 0,pI 0,pI 0,pS [],.sl 1 []]) rfl rfl (zaQ _ _) rfl rfl rfl ?_;refine zaj ?_;refine mO ?_;(iterate 2 refine mS ?_);refine za5 (es:=vK ls) (e:=vC ls[i]) rfl rfl rfl ⟨by omega,by rw [Int.toNat_natCast]; exact zbj hib⟩ rfl ?_;refine mS ?_;refine zdX (cs:=vC ls[i]) rfl rfl rfl rfl ?_;refine zaj ?_;refine mQ ?_;refine zaa (cs:=vC ks[i]) rfl rfl (by rw [set_lastQ,getElem?_append_left (by simp)]; exact zaQ _ _) rfl ?_;refine zaa (cs:=vC ls[i]) rfl rfl (zaQ _ _) rfl ?_
  refine po_v (f:=39) (cap:=[]) rfl (by kernel_rfl) (sm_args _ _) (ih ks[i] ls[i] hk1 hk4 hk3 hkl) ?_;by_cases h0:ks[i] = ls[i]
  ·rw [decide_eq_true h0]
   refine mK ?_;refine zap ?_;refine zaZ (n:=((i + 1:Nat):Int)) rfl rfl rfl (by omega) (by omega) ?_;refine mN ?_;exact ⟨_,by show ks.length - (i + 1) < ks.length - i; omega,i + 1,by omega,rfl,⟨rfl,rfl,rfl,rfl,rfl,trivial⟩,hf.trans ⟨fun h => h.2,fun h => ⟨h0,h⟩⟩,rfl,rfl⟩
  ·rw [decide_eq_false h0]
   refine mT ?_;refine mP ?_;refine zab ⟨.inr rfl,[.d (pB false)],rfl,?_,rfl,rfl⟩;rw [decide_eq_false (fun h => h0 (hf.1 h).1)]; rfl
 rintro tm bx n1 l1 ⟨hn,hl1,he⟩;simp only at hn hl1; subst hn; subst hl1
 refine mP ?_;refine zab ⟨.inr rfl,[.d (pB true)],rfl,?_,rfl,rfl⟩;rw [decide_eq_true he]; rfl
theorem sameI_step {N:Nat} (ih:SmiP T hT N):SmiP T hT (N + 1):=by
 intro a b hn hkl hab hbb
 have hakb:a.kids.length + V.bulks a.kids <= 4294967295:=by
  obtain ⟨k,n,e,s,ks⟩:=a;simp only [V.bulk] at hab; show ks.length + V.bulks ks <= _; omega
 have hbkb:b.kids.length + V.bulks b.kids <= 4294967295:=by
  obtain ⟨k,n,e,s,ks⟩:=b;simp only [V.bulk] at hbb; show ks.length + V.bulks ks <= _; omega
 have hka:∀ x ∈ a.kids,x.nodes <= N /\ x.bulk <= 4294967295 /\ x.kids.length <= 4294967295:=fun x hx => by
  have h1:=kid_nd a x hx;obtain ⟨i,hi,rfl⟩:=List.getElem_of_mem hx;have h2:a.kids[i].bulk <= 4294967295:=V.bulk_get hakb i hi;refine ⟨by omega,h2,?_⟩;generalize a.kids[i] = y at h2;obtain ⟨k,n,e,s,ks⟩:=y;simp only [V.bulk] at h2; show ks.length <= _; omega
 have hkb:∀ x ∈ b.kids,x.bulk <= 4294967295:=fun x hx => by
  obtain ⟨i,hi,rfl⟩:=List.getElem_of_mem hx;exact V.bulk_get hbkb i hi
 refine zaU (zaf lk_i_Same) (by show 2 <= 38; decide) fun B hB => ?_
 unfold m_i_Same;refine mO ?_;refine zal (cs:=vC a) rfl ?_;refine zal (cs:=vC b) rfl ?_;refine mN ?_;refine mO ?_;(iterate 4 refine mS ?_);by_cases h1:a.kind = b.kind
 rotate_left
 ·refine zan rfl rfl (beq_eq_false_iff_ne.2 h1) ?_
  (iterate 1 refine mS ?_);refine mZ ?_;(iterate 2 refine mS ?_);refine mZ ?_;(iterate 2 refine mS ?_);refine mZ ?_;(iterate 2 refine mS ?_);refine mZ ?_;refine mN ?_;refine zab ⟨.inr rfl,[.d (pB false)],rfl,?_⟩;rw [decide_eq_false (fun h => h1 (V.five.1 h).1)]; rfl
 refine zah rfl rfl (beq_iff_eq.2 h1) ?_;refine mS ?_;(iterate 4 refine mS ?_);by_cases h2:a.num = b.num
 rotate_left
 ·refine zan rfl rfl (beq_eq_false_iff_ne.2 h2) ?_
  (iterate 2 refine mS ?_);refine mZ ?_;(iterate 2 refine mS ?_);refine mZ ?_;(iterate 2 refine mS ?_);refine mZ ?_;refine mN ?_;refine zab ⟨.inr rfl,[.d (pB false)],rfl,?_⟩;rw [decide_eq_false (fun h => h2 (V.five.1 h).2.1)]; rfl
 refine zah rfl rfl (beq_iff_eq.2 h2) ?_;(iterate 2 refine mS ?_);(iterate 4 refine mS ?_);by_cases h3:a.exp = b.exp
 rotate_left
 ·refine zan rfl rfl (beq_eq_false_iff_ne.2 h3) ?_
  (iterate 2 refine mS ?_);refine mZ ?_;(iterate 2 refine mS ?_);refine mZ ?_;refine mN ?_;refine zab ⟨.inr rfl,[.d (pB false)],rfl,?_⟩;rw [decide_eq_false (fun h => h3 (V.five.1 h).2.2.1)]; rfl
 refine zah rfl rfl (beq_iff_eq.2 h3) ?_;(iterate 2 refine mS ?_);(iterate 4 refine mS ?_);refine zd7 (la:=a.text) (lb:=b.text) rfl rfl rfl ?_;by_cases h4:a.text = b.text
 rotate_left
 ·rw [decide_eq_false h4]
  (iterate 2 refine mS ?_);refine mZ ?_;refine mN ?_;refine zab ⟨.inr rfl,[.d (pB false)],rfl,?_⟩;rw [decide_eq_false (fun h => h4 (V.five.1 h).2.2.2.1)]; rfl
 rw [decide_eq_true h4];(iterate 2 refine mS ?_);(iterate 4 refine mS ?_);refine po_gt rfl rfl (FnG.liftR (sameF_g (T:=T) (hT:=hT) ih a.kids b.kids hka hkb hkl _ _) ⟨smlw a.kids,smlw b.kids,trivial,trivial⟩) ?_;rintro x bb n l ⟨x0,b0,rfl,rfl,rfl,rfl,rfl⟩;rw [show ∀ k,PV.shB k (.d (pB (decide (a.kids = b.kids)))) = .d (pB (decide (a.kids = b.kids))) from fun k => congrArg PV.d (zcT (c:=pB _) trivial)];refine mN ?_;refine zab ⟨.inr rfl,[.d (pB (decide (a.kids = b.kids)))],rfl,?_⟩
 have e:decide (a = b) = decide (a.kids = b.kids):=by
  by_cases h5:a.kids = b.kids
  ·rw [decide_eq_true h5,decide_eq_true (V.five.2 ⟨h1,h2,h3,h4,h5⟩)]
  ·rw [decide_eq_false h5,decide_eq_false (fun h => h5 (V.five.1 h).2.2.2.2)]
 rw [e]; rfl
theorem zfw:∀ N,SmiP T hT N
 | 0 => fun a b hn => by have:=a.nodes_pos; omega
 | N + 1 => sameI_step (zfw N)
theorem sameI_fn (a b:V) (ha:a.bulk <= 4294967295) (hb:b.bulk <= 4294967295):FnV (env T hT) 39 [.ag (vC a),.ag (vC b)] (.d (pB (decide (a = b)))) :=
 zfw a.nodes a b lR (by cases a; simp only [V.bulk] at ha; simp only [V.kids]; omega) ha hb
end
section
def lessI (a b:Int):Int:=if a < b then -1 else if b < a then 1 else 0
def lessT (a b:L8):Int:=if Op.bytesLess a b = true then -1 else if Op.bytesLess b a = true then 1 else 0
def firstI:List Int -> Int -> Int
 | [],d => d
 | x :: r,d => if x ≠ 0 then x else firstI r d
mutual
def V.cmp:V -> V -> Int
 | .mk k n e s ks,.mk k' n' e' s' ks' => firstI [lessI k k',lessI n n',lessI e e',lessT s s',lessI ks.length ks'.length] (V.cmps ks ks')
def V.cmps:List V -> List V -> Int
 | x :: xs,y :: ys => if V.cmp x y ≠ 0 then V.cmp x y else V.cmps xs ys
 | _,_ => 0
end
theorem lessI_zero {a b:Int}:lessI a b = 0 ↔ a = b:=by
 unfold lessI
 constructor
 ·intro h; split at h
  ·cases h
  ·split at h
   ·cases h
   ·omega
 ·rintro rfl; rw [if_neg (by omega),if_neg (by omega)]
theorem zbE:∀ a b:L8,Op.bytesLess a b = false -> Op.bytesLess b a = false -> a = b
 | [],[],_,_ => rfl
 | [],y :: b,h,_ => by simp [Op.bytesLess] at h
 | x :: a,[],_,h => by simp [Op.bytesLess] at h
 | x :: a,y :: b,h,k => by
  simp only [Op.bytesLess,Bool.or_eq_false_iff,Bool.and_eq_false_iff,decide_eq_false_iff_not,beq_eq_false_iff_ne] at h k
  have hxy:x = y:=by
   have h1:=h.1; have h2:=k.1
   exact UInt8.toNat_inj.1 (by
    have:¬ x.toNat < y.toNat:=h1
    have:¬ y.toNat < x.toNat:=h2
    omega)
  subst hxy
  have:=zbE a b (h.2.resolve_left (by simp)) (k.2.resolve_left (by simp))
  rw [this]
theorem zcB:∀ a:L8,Op.bytesLess a a = false
 | [] => rfl
 | x :: a => by
  simp only [Op.bytesLess,zcB a,Bool.and_false,Bool.or_false,decide_eq_false_iff_not];show ¬ x.toNat < x.toNat; omega
theorem lessT_zero {a b:L8}:lessT a b = 0 ↔ a = b:=by
 unfold lessT
 constructor
 ·intro h; split at h
  ·cases h
  ·split at h
   ·cases h
   ·exact zbE a b (by simpa using ‹¬ Op.bytesLess a b = true›) (by simpa using ‹¬ Op.bytesLess b a = true›)
 ·rintro rfl; rw [zcB]; rfl
theorem firstI_zero {d:Int}:∀ {l:List Int},firstI l d = 0 ↔ (∀ x ∈ l,x = 0) /\ d = 0
 | [] => by simp [firstI]
 | x :: r => by
  unfold firstI;split
  ·rename_i h; simp only [mem_cons,forall_eq_or_imp]; exact ⟨fun k => absurd k h,fun k => k.1.1⟩
  ·rename_i h; rw [firstI_zero]; simp only [mem_cons,forall_eq_or_imp]; constructor
   ·rintro ⟨a,b⟩; exact ⟨⟨by omega,a⟩,b⟩
   ·rintro ⟨⟨_,a⟩,b⟩; exact ⟨a,b⟩
mutual
theorem V.cmp_zero:∀ a b:V,V.cmp a b = 0 ↔ a = b
 | .mk k n e s ks,.mk k' n' e' s' ks' => by
  unfold V.cmp;rw [firstI_zero];simp only [mem_cons,not_mem_nil,or_false,forall_eq_or_imp,forall_eq,lessI_zero,lessT_zero,V.mk.injEq]
  constructor
  ·rintro ⟨⟨h1,h2,h3,h4,h5⟩,h6⟩
   exact ⟨h1,h2,h3,h4,(V.cmps_zero ks ks' (by omega)).1 h6⟩
  ·rintro ⟨h1,h2,h3,h4,rfl⟩
   exact ⟨⟨h1,h2,h3,h4,rfl⟩,(V.cmps_zero ks ks rfl).2 rfl⟩
theorem V.cmps_zero:∀ a b:List V,a.length = b.length -> (V.cmps a b = 0 ↔ a = b)
 | [],[],_ => by simp [V.cmps]
 | [],y :: b,h => by simp at h
 | x :: a,[],h => by simp at h
 | x :: a,y :: b,h => by
  have h1:=V.cmp_zero x y;have h2:=V.cmps_zero a b (by simpa using h);unfold V.cmps;split
  ·rename_i hne
   simp only [cons.injEq];exact ⟨fun k => absurd k hne,fun k => absurd (h1.2 k.1) hne⟩
  ·rename_i hne
   simp only [cons.injEq];rw [h2];exact ⟨fun k => ⟨h1.1 (by omega),k⟩,fun k => k.2⟩
end
end
section
def m_s_Compare:M:=so [qo 2 (.box 0),qo 3 (.box 1),qo 4 (.mv (ci 0))] (so [qF 9 0 2,ql 10 1 9,qF 11 0 3,ql 12 1 11,qF 14 1 2,ql 15 1 14,qF 16 1 3,ql 17 1 16,qF 19 2 2,ql 20 1 19,qF 21 2 3,ql 22 1 21,qF 24 3 2,ql 25 1 24,qF 26 3 3,ql 27 1 26,qF 29 4 2,ql 30 1 29,qo 31 (.len 30),qF 32 4 3,ql 33 1 32,qo 34 (.len 33),⟨some 13,.call 67 [10,12],none,[.f 0,14,16,19,21,24,26,29,32]⟩,⟨some 18,.call 67 [15,17],none,[.f 0,19,21,24,26,29,32]⟩,⟨some 23,.call 67 [20,22],none,[.f 0,24,26,29,32]⟩,⟨some 28,.call 68 [25,27],none,[.f 0,29,32]⟩,qc 35 67 [31,34] 0,qo 36 (.lit 1 [13,18,23,28,35]),qm 5 36] (.seq (so [qo 6 (.mv (ci 0))] (.block 0 (.loop (.seq (so [qm 37 6,qm 38 5,qo 39 (.len 38),qo 40 (.bin .lss false 37 39)] (.cond 40 .skip (.exit 0))) (.seq (.block 1 (so [qm 43 5,qm 44 6,qo 45 (.ix 1 43 44),ql 46 1 45,qo 47 (.bin .neq false 46 (ci 0))] (.cond 47 (so [qm 48 5,qm 49 6,qo 50 (.ix 1 48 49),ql 51 1 50,qm 4 51] .ret) .skip))) (.ops [qm 41 6,qo 42 (.bin .add false 41 (ci 1)),qm 6 42])))))) (.seq (so [qo 7 (.mv (ci 0))] (.block 2 (.loop (.seq (so [qm 52 7,qF 53 4 2,ql 54 1 53,qo 55 (.len 54),qo 56 (.bin .lss false 52 55)] (.cond 56 .skip (.exit 2))) (.seq (.block 3 (so [qF 59 4 2,ql 60 1 59,qm 61 7,qo 62 (.ix 5 60 61),qL 63 5 62,qF 64 4 3,ql 65 1 64,qm 66 7,qo 67 (.ix 5 65 66),qL 68 5 67,qc 69 53 [63,68] 0,qm 8 69] (so [qm 70 8,qo 71 (.bin .neq false 70 (ci 0))] (.cond 71 (so [qm 72 8,qm 4 72] .ret) .skip)))) (.ops [qm 57 7,qo 58 (.bin .add false 57 (ci 1)),qm 7 58])))))) (so [qo 4 (.mv (ci 0))] .ret))))
theorem zfx:look Tryz.prog 53 = some (73,m_s_Compare,[.tm 4]):=by kernel_rfl
def m_s_l02Less:M:=so [qo 4 (.mv (ci 0))] (.seq (.block 0 (so [qm 6 0,qm 7 1,qo 8 (.bin .lss false 6 7),qm 5 8] (.cond 5 (so [qo 4 (.mv (ci (-1)))] .ret) (so [qm 10 0,qm 11 1,qo 12 (.bin .gtr false 10 11),qm 9 12] (.cond 9 (so [qo 4 (.mv (ci 1))] .ret) .skip))))) (so [qo 4 (.mv (ci 0))] .ret))
theorem zfy:look Tryz.prog 67 = some (13,m_s_l02Less,[.tm 4]):=by kernel_rfl
def m_s_l02Texts:M:=so [qo 4 (.mv (ci 0))] (.seq (.block 0 (so [qm 6 0,qm 7 1,qo 8 (.bin .lss false 6 7),qm 5 8] (.cond 5 (so [qo 4 (.mv (ci (-1)))] .ret) (so [qm 10 0,qm 11 1,qo 12 (.bin .gtr false 10 11),qm 9 12] (.cond 9 (so [qo 4 (.mv (ci 1))] .ret) .skip))))) (so [qo 4 (.mv (ci 0))] .ret))
theorem zeC:look Tryz.prog 68 = some (13,m_s_l02Texts,[.tm 4]):=by kernel_rfl
end
section
variable {T:World -> Prop} {hT:Low ngl T}
attribute [local irreducible] po mw pt
section
variable {E:Env} {K:St -> Prop} {tm:Nat -> PV} {bx:LP PC} {nt d:Nat} {live:List Nat} {r:List MOpr} {g:Option (Nat × Bool)} {c:List X} {x y:X}
theorem po_lsT {la lb:L8} {f:Bool} {e:Bool} (hg:gd g tm = some true) (hx:ev tm x = .d (pS la)) (hy:ev tm y = .d (pS lb)) (he:Op.bytesLess la lb = e) (h:po E r K ⟨up d (.d (pB e)) tm,bx,nt,live⟩):po E (⟨some d,.bin .lss f x y,g,c⟩ :: r) K ⟨tm,bx,nt,live⟩:=by
 refine po_q hg ?_ h;subst he;simp only [qf,hx,hy,pS];show some (PV.d (.v (.bool (Op.bytesLess (ByteArray.mk la.toArray).toList (ByteArray.mk lb.toArray).toList)))) = _;rw [ByteArray.toList_eq,ByteArray.toList_eq];rfl
theorem po_gtT {la lb:L8} {f:Bool} {e:Bool} (hg:gd g tm = some true) (hx:ev tm x = .d (pS la)) (hy:ev tm y = .d (pS lb)) (he:(!(Op.bytesLess la lb || la == lb)) = e) (h:po E r K ⟨up d (.d (pB e)) tm,bx,nt,live⟩):po E (⟨some d,.bin .gtr f x y,g,c⟩ :: r) K ⟨tm,bx,nt,live⟩:=by
 refine po_q hg ?_ h;subst he;simp only [qf,hx,hy,pS];show some (PV.d (.v (.bool (!(Op.bytesLess (ByteArray.mk la.toArray).toList (ByteArray.mk lb.toArray).toList || (ByteArray.mk la.toArray).toList == (ByteArray.mk lb.toArray).toList))))) = _;rw [ByteArray.toList_eq,ByteArray.toList_eq];rfl
end
theorem zeD (a b:Int):PV.dats [.d (pI a),.d (pI b)] = some [.d (pI a),.d (pI b)]:=rfl
theorem dats_ss (a b:L8):PV.dats [.d (pS a),.d (pS b)] = some [.d (pS a),.d (pS b)]:=rfl
theorem zeE (a b:Int):FnV (env T hT) 67 [.d (pI a),.d (pI b)] (.d (pI (lessI a b))):=by
 refine zaU (zaf zfy) (by show 2 <= 13; decide) fun B hB => ?_
 unfold m_s_l02Less;refine mP ?_;refine zau (zak (zau (zap ?_)));(iterate 2 refine mS ?_);by_cases h:a < b
 ·refine zah rfl rfl (decide_eq_true (by omega)) ?_
  refine mT ?_;refine mP ?_;refine zab ⟨.inr rfl,[.d (pI (-1))],rfl,?_⟩;unfold lessI; rw [if_pos h]; rfl
 ·refine zan rfl rfl (decide_eq_false (by omega)) ?_
  refine mF ?_;refine mO ?_;(iterate 2 refine mS ?_);by_cases k:b < a
  ·refine zah rfl rfl (decide_eq_true (by omega)) ?_
   refine mT ?_;refine mP ?_;refine zab ⟨.inr rfl,[.d (pI 1)],rfl,?_⟩;unfold lessI; rw [if_neg h,if_pos k]; rfl
  ·refine zan rfl rfl (decide_eq_false (by omega)) ?_
   refine mK ?_;refine mP ?_;refine zab ⟨.inr rfl,[.d (pI 0)],rfl,?_⟩;unfold lessI; rw [if_neg h,if_neg k]; rfl
theorem texts_fn (a b:L8):FnV (env T hT) 68 [.d (pS a),.d (pS b)] (.d (pI (lessT a b))):=by
 refine zaU (zaf zeC) (by show 2 <= 13; decide) fun B hB => ?_
 unfold m_s_l02Texts;refine mP ?_;refine zau (zak (zau (zap ?_)));(iterate 2 refine mS ?_)
 cases h:Op.bytesLess a b with
 | true =>
  refine po_lsT (la:=a) (lb:=b) rfl rfl rfl h ?_;refine mT ?_;refine mP ?_;refine zab ⟨.inr rfl,[.d (pI (-1))],rfl,?_⟩
  unfold lessT; rw [if_pos h]; rfl
 | false =>
  refine po_lsT (la:=a) (lb:=b) rfl rfl rfl h ?_;refine mF ?_;refine mO ?_;(iterate 2 refine mS ?_);by_cases k:a = b
  ·refine po_gtT (la:=a) (lb:=b) (e:=false) rfl rfl rfl (by rw [h,k]; simp) ?_
   refine mK ?_;refine mP ?_;refine zab ⟨.inr rfl,[.d (pI 0)],rfl,?_⟩;rw [lessT_zero.2 k]; rfl
  ·refine po_gtT (la:=a) (lb:=b) (e:=true) rfl rfl rfl (by rw [h]; simpa using k) ?_
   refine mT ?_;refine mP ?_;refine zab ⟨.inr rfl,[.d (pI 1)],rfl,?_⟩
   have:Op.bytesLess b a = true:=by
    cases q:Op.bytesLess b a with
    | true => rfl
    | false => exact absurd (zbE a b h q) k
   unfold lessT; rw [if_neg (by rw [h]; decide),if_pos this]; rfl
def cmpL (a b:V):List Int:=[lessI a.kind b.kind,lessI a.num b.num,lessI a.exp b.exp,lessT a.text b.text,lessI a.kids.length b.kids.length]
theorem V.cmp_eq (a b:V):V.cmp a b = firstI (cmpL a b) (V.cmps a.kids b.kids):=by
 obtain ⟨k,n,e,s,ks⟩:=a;obtain ⟨k',n',e',s',ks'⟩:=b;unfold V.cmp; rfl
theorem V.cmps_drop {a b:List V} {i:Nat} (ha:i < a.length) (hb:i < b.length):V.cmps (a.drop i) (b.drop i) = if V.cmp a[i] b[i] ≠ 0 then V.cmp a[i] b[i] else V.cmps (a.drop (i + 1)) (b.drop (i + 1)):=by
 rw [drop_eq_getElem_cons ha,drop_eq_getElem_cons hb]; rfl
theorem zdS {L:List Int} {i:Nat} {d:Int} (h:i < L.length):firstI (L.drop i) d = if L[i] ≠ 0 then L[i] else firstI (L.drop (i + 1)) d:=by
 rw [drop_eq_getElem_cons h]; rfl
def CmP (T:World -> Prop) (hT:Low ngl T) (N:Nat):Prop:=∀ a b:V,a.nodes <= N -> a.nodes <= 4294967295 -> FnV (env T hT) 53 [.ag (vC a),.ag (vC b)] (.d (pI (V.cmp a b)))
def iC (L:List Int):LP PC:=L.map fun x => [pI x]
def CmL1 (a b:V) (L:List Int) (m:Nat) (st:St):Prop:=∃ i t:Nat,i <= L.length /\ m = L.length - i /\ has st.tm [(2,.ref 0 0),(3,.ref 1 0),(5,.d (.sl t (iC L))),(6,.d (pI i))] /\ st.bx = [vC a,vC b] /\ ∀ d,firstI L d = firstI (L.drop i) d
def CmL2 (a b:V) (m:Nat) (st:St):Prop:=∃ i:Nat,i <= a.kids.length /\ m = a.kids.length - i /\ has st.tm [(2,.ref 0 0),(3,.ref 1 0),(7,.d (pI i))] /\ st.bx = [vC a,vC b] /\ V.cmps a.kids b.kids = V.cmps (a.kids.drop i) (b.kids.drop i)
theorem cmp_step {N:Nat} (ih:CmP T hT N):CmP T hT (N + 1):=by
 intro a b hn hbn;have hnk:=V.nodes_eq0 a;have hkn:=V.kids_nodes a.kids;refine zaU (zaf zfx) (by show 2 <= 73; decide) fun B hB => ?_
 unfold m_s_Compare;refine mO ?_;refine zal (cs:=vC a) rfl ?_;refine zal (cs:=vC b) rfl ?_;refine mN ?_;refine mO ?_;(iterate 18 refine mS ?_);refine zay (n:=a.kids.length) rfl rfl (zam _) ?_;(iterate 2 refine mS ?_);refine zay (n:=b.kids.length) rfl rfl (zam _) ?_;refine zac (zeD a.kind b.kind) (zeE _ _) ?_;refine zac (zeD a.num b.num) (zeE _ _) ?_;refine zac (zeD a.exp b.exp) (zeE _ _) ?_;refine zac (dats_ss a.text b.text) (texts_fn _ _) ?_;refine zac (zeD a.kids.length b.kids.length) (zeE _ _) ?_;refine zbO (es:=iC (cmpL a b)) rfl ?_;refine mN ?_;have hcmp:=V.cmp_eq a b;have hlen:lessI a.kids.length b.kids.length ∈ cmpL a b:=by simp [cmpL]
 have h5:(cmpL a b).length = 5:=rfl;generalize cmpL a b = L at hcmp hlen h5;refine zaS (fun st => has st.tm [(2,.ref 0 0),(3,.ref 1 0)] /\ st.bx = [vC a,vC b] /\ ∀ d,firstI L d = d) ?_ ?_
 ·refine mP ?_
  refine zak ?_;refine zaY (CmL1 a b L) L.length ⟨0,_,Nat.zero_le _,rfl,⟨rfl,rfl,rfl,rfl,trivial⟩,rfl,fun d => rfl⟩ ?_;rintro m tm bx nt live ⟨i,t,hi,rfl,ht,hbx,hf⟩;obtain ⟨tm1,rfl⟩:=zaq ht;simp only at hbx; subst hbx
  clear ht;refine mM ?_;(iterate 2 refine mS ?_);refine zay (n:=L.length) rfl rfl (by simp [iC]) ?_;refine po_b rfl rfl (fun q hq => ?_);refine zaj ?_;refine zdy (p:=(i:Int) < L.length) hq rfl (fun him _ => ?_) (fun him _ => ?_)
  rotate_left
  ·refine za4 ?_
   have:i = L.length:=by omega
   subst this;refine ⟨⟨rfl,rfl,trivial⟩,rfl,fun d => ?_⟩;rw [hf,drop_length]; rfl
  have hia:i < L.length:=by omega
  refine za0 ?_;refine zau (zak ?_);refine mO ?_;(iterate 2 refine mS ?_);refine za5 (es:=iC L) (e:=[pI L[i]]) rfl rfl rfl ⟨by omega,by rw [Int.toNat_natCast]; simp [iC,getElem?_eq_getElem hia]⟩ rfl ?_;refine mS ?_;by_cases h0:L[i] = 0
  ·refine zan rfl rfl (by rw [h0]; exact bne_self_eq_false _) ?_
   refine mK ?_;refine zap ?_;refine mS ?_;refine zaZ (n:=((i + 1:Nat):Int)) rfl rfl rfl (by omega) (by omega) ?_;refine mN ?_;exact ⟨_,by show L.length - (i + 1) < L.length - i; omega,i + 1,t,by omega,rfl,⟨rfl,rfl,rfl,rfl,trivial⟩,rfl,fun d => by rw [hf,zdS hia,if_neg (fun h => h h0)]⟩
  ·refine zah rfl rfl (bne_iff_ne.2 h0) ?_
   refine mT ?_;refine mO ?_;(iterate 2 refine mS ?_);refine za5 (es:=iC L) (e:=[pI L[i]]) rfl rfl rfl ⟨by omega,by rw [Int.toNat_natCast]; simp [iC,getElem?_eq_getElem hia]⟩ rfl ?_;refine mN ?_;refine zab ⟨.inr rfl,[.d (pI L[i])],rfl,?_⟩;rw [hcmp,hf,zdS hia,if_pos h0]; rfl
 rintro tm bx nt live ⟨ht,hbx,hf⟩;obtain ⟨tm0,rfl⟩:=zaq ht;simp only at hbx; subst hbx
 clear ht
 have hll:a.kids.length = b.kids.length:=by
  have:=(firstI_zero.1 (hf 0)).1 _ hlen
  have:=lessI_zero.1 this
  omega
 rw [hf] at hcmp;refine zaS (fun st => V.cmps a.kids b.kids = 0) ?_ ?_
 ·refine mP ?_
  refine zak ?_;refine zaY (CmL2 a b) a.kids.length ⟨0,Nat.zero_le _,rfl,⟨rfl,rfl,rfl,trivial⟩,rfl,rfl⟩ ?_;rintro m tm bx nt live ⟨i,hi,rfl,ht,hbx,htk⟩;obtain ⟨tm1,rfl⟩:=zaq ht;simp only at hbx; subst hbx
  clear ht tm0;refine mM ?_;(iterate 3 refine mS ?_);refine zay (n:=a.kids.length) rfl rfl (zam _) ?_;refine po_b rfl rfl (fun q hq => ?_);refine zaj ?_;refine zdy (p:=(i:Int) < a.kids.length) hq rfl (fun him _ => ?_) (fun him _ => ?_)
  rotate_left
  ·refine za4 ?_
   have:i = a.kids.length:=by omega
   subst this;rw [htk,drop_length]; unfold V.cmps; rfl
  have hia:i < a.kids.length:=by omega
  have hib:i < b.kids.length:=by omega
  rw [V.cmps_drop hia hib] at htk;refine za0 ?_;refine zau (zak ?_);refine mO ?_;(iterate 3 refine mS ?_);refine za5 (es:=vK a.kids) (e:=vC a.kids[i]) rfl rfl rfl ⟨by omega,by rw [Int.toNat_natCast]; exact zbj hia⟩ rfl ?_;(iterate 4 refine mS ?_);refine za5 (es:=vK b.kids) (e:=vC b.kids[i]) rfl rfl rfl ⟨by omega,by rw [Int.toNat_natCast]; exact zbj hib⟩ rfl ?_;refine mS ?_;refine zac (zfV (zai _) (zai _)) (ih a.kids[i] b.kids[i] (V.nodes_kid hn i hia) (by have:=V.nodes_get a.kids i hia; omega)) ?_;refine mN ?_;refine mQ ?_;by_cases h0:V.cmp a.kids[i] b.kids[i] = 0
  ·refine zan rfl rfl (by rw [h0]; exact bne_self_eq_false _) ?_
   refine mK ?_;refine zap ?_;refine mS ?_;refine zaZ (n:=((i + 1:Nat):Int)) rfl rfl rfl (by omega) (by omega) ?_;refine mN ?_;exact ⟨_,by show a.kids.length - (i + 1) < a.kids.length - i; omega,i + 1,by omega,rfl,⟨rfl,rfl,rfl,trivial⟩,rfl,by rw [htk,if_neg (fun h => h h0)]⟩
  ·refine zah rfl rfl (bne_iff_ne.2 h0) ?_
   refine mT ?_;refine mP ?_;refine zab ⟨.inr rfl,[.d (pI (V.cmp a.kids[i] b.kids[i]))],rfl,?_⟩;rw [hcmp,htk,if_pos h0]; rfl
 rintro tm bx nt live hks;refine mP ?_;refine zab ⟨.inr rfl,[.d (pI 0)],rfl,?_⟩;rw [hcmp,hks]; rfl
theorem cmp_fn (a b:V) (hb:a.nodes <= 4294967295):FnV (env T hT) 53 [.ag (vC a),.ag (vC b)] (.d (pI (V.cmp a b))):=by
 have all:∀ N,CmP T hT N:=by
  intro N
  induction N with
  | zero => intro a b hn; have:=a.nodes_pos; omega
  | succ N ih => exact cmp_step ih
 exact all a.nodes a b lR hb
end
section
def m_s_Same:M:=so [qo 2 (.box 0),qo 3 (.box 1),qo 4 (.mv (cB false))] (so [qL 5 5 2,qL 6 5 3,qc 7 53 [5,6] 1,qo 8 (.bin .eql false 7 (ci 0)),qm 4 8] .ret)
theorem lk_s_Same:look Tryz.prog 29 = some (9,m_s_Same,[.tm 4]):=by kernel_rfl
end
section
variable {T:World -> Prop} {hT:Low ngl T}
attribute [local irreducible] po mw pt
theorem same2_fn (a b:V) (hb:a.nodes <= 4294967295):FnV (env T hT) 29 [.ag (vC a),.ag (vC b)] (.d (pB (decide (a = b)))):=by
 refine zaU (zaf lk_s_Same) (by show 2 <= 9; decide) fun B hB => ?_
 unfold m_s_Same;refine mO ?_;refine zal (cs:=vC a) rfl ?_;refine zal (cs:=vC b) rfl ?_;refine mN ?_;refine mO ?_;refine zaa (p:=0) (cs:=vC a) rfl rfl rfl rfl ?_;refine zaa (p:=1) (cs:=vC b) rfl rfl rfl rfl ?_;refine zac (zfV (zai _) (zai _)) (cmp_fn (T:=T) (hT:=hT) a b hb) ?_;by_cases h:a = b
 ·refine zah rfl rfl (beq_iff_eq.2 ((V.cmp_zero a b).2 h)) ?_
  refine mN ?_;refine zab ⟨.inr rfl,[.d (pB true)],rfl,?_⟩;rw [decide_eq_true h]; rfl
 ·refine zan rfl rfl (beq_eq_false_iff_ne.2 fun k => h ((V.cmp_zero a b).1 k)) ?_
  refine mN ?_;refine zab ⟨.inr rfl,[.d (pB false)],rfl,?_⟩;rw [decide_eq_false h]; rfl
end
section
def m_s_Do:M:=so [qo 2 (.box 0),qo 3 (.box 1),⟨some 4,.zero [.int .i64 0,.int .i64 0,.int .i64 0,.string ⟨[].toArray⟩,.slice none 0 0],none,[]⟩,qo 5 (.mv (cB false))] (.seq (so [qF 8 0 3,ql 9 1 8] (.block 0 (so [qo 11 (.bin .eql false 9 (ci 0)),qm 10 11] (.cond 10 (so [qL 12 5 2,qF 13 1 3,ql 14 1 13,qF 15 2 3,qL 16 5 15,qc 17 24 [12,14,16] 1,qe 18 17 0,qe 19 17 1,qS 5 4 18,qm 5 19] .ret) (so [qo 21 (.bin .eql false 9 (ci 1)),qm 20 21] (.cond 20 (so [qL 22 5 2,qF 23 1 3,ql 24 1 23,qF 25 2 3,qL 26 5 25,qc 27 25 [22,24,26] 1,qe 28 27 0,qe 29 27 1,qS 5 4 28,qm 5 29] .ret) (so [qo 31 (.bin .eql false 9 (ci 2)),qm 30 31] (.cond 30 (so [qL 32 5 2,qF 33 1 3,ql 34 1 33,qc 35 26 [32,34] 1,qe 36 35 0,qe 37 35 1,qS 5 4 36,qm 5 37] .ret) (so [qo 39 (.bin .eql false 9 (ci 3)),qm 38 39] (.cond 38 (so [qL 41 5 2,qF 42 1 3,ql 43 1 42,qc 44 27 [41,43] 1,qm 40 44,qe 45 40 0,qe 46 40 1,⟨some 6,.zero [.int .i64 0,.int .i64 0,.int .i64 0,.string ⟨[].toArray⟩,.slice none 0 0],none,[]⟩,qS 5 6 45,qm 7 46] (so [qL 47 5 2,qc 48 28 [47] 1,qm 49 7,qm 50 49,⟨some 51,.load true 5 6,some (50,true),[]⟩,⟨some 52,.fld 2 3,some (50,true),[]⟩,⟨some 53,.load true 5 52,some (50,true),[]⟩,⟨some 54,.call 29 [51,53],some (50,true),[.f 1]⟩,qo 55 (.pick 50 54 (cB false)),qm 56 55,⟨some 57,.load true 5 2,some (56,true),[]⟩,⟨some 58,.call 30 [57],some (56,true),[.f 1]⟩,qo 59 (.pick 56 58 (cB false)),qS 5 4 48,qm 5 59] .ret)) .skip)))))))))) (so [qL 60 5 2,qc 61 28 [60] 1,qS 5 4 61,qo 5 (.mv (cB false))] .ret))
theorem lk_s_Do:look Tryz.prog 7 = some (62,m_s_Do,[.cell true 5 4,.tm 5]):=by kernel_rfl
def m_i_Do:M:=so [qo 2 (.box 0),qo 3 (.box 1),⟨some 4,.zero [.int .i64 0,.int .i64 0,.int .i64 0,.string ⟨[].toArray⟩,.slice none 0 0],none,[]⟩,qo 5 (.mv (cB false))] (.seq (.block 0 (so [qL 9 5 2,qc 10 33 [9] 1,qo 11 (.not 10),qm 8 11] (.cond 8 .skip (so [qF 13 0 3,ql 14 1 13,qo 15 (.bin .eql false 14 (ci 0)),qm 12 15] (.cond 12 (so [qL 16 5 2,qF 17 1 3,ql 18 1 17,qF 19 2 3,qL 20 5 19,qc 21 34 [16,18,20] 1,qe 22 21 0,qe 23 21 1,qS 5 4 22,qm 5 23] .ret) (so [qF 25 0 3,ql 26 1 25,qo 27 (.bin .eql false 26 (ci 1)),qm 24 27] (.cond 24 (so [qL 28 5 2,qF 29 1 3,ql 30 1 29,qF 31 2 3,qL 32 5 31,qc 33 35 [28,30,32] 1,qe 34 33 0,qe 35 33 1,qS 5 4 34,qm 5 35] .ret) (so [qF 37 0 3,ql 38 1 37,qo 39 (.bin .eql false 38 (ci 2)),qm 36 39] (.cond 36 (so [qL 40 5 2,qF 41 1 3,ql 42 1 41,qc 43 36 [40,42] 1,qe 44 43 0,qe 45 43 1,qS 5 4 44,qm 5 45] .ret) (so [qF 47 0 3,ql 48 1 47,qo 49 (.bin .eql false 48 (ci 3)),qm 46 49] (.cond 46 (so [qL 51 5 2,qF 52 1 3,ql 53 1 52,qc 54 37 [51,53] 1,qm 50 54,qe 55 50 0,qe 56 50 1,⟨some 6,.zero [.int .i64 0,.int .i64 0,.int .i64 0,.string ⟨[].toArray⟩,.slice none 0 0],none,[]⟩,qS 5 6 55,qm 7 56] (so [qL 57 5 2,qc 58 38 [57] 1,qm 59 7,qm 60 59,⟨some 61,.load true 5 6,some (60,true),[]⟩,⟨some 62,.fld 2 3,some (60,true),[]⟩,⟨some 63,.load true 5 62,some (60,true),[]⟩,⟨some 64,.call 39 [61,63],some (60,true),[.f 1]⟩,qo 65 (.pick 60 64 (cB false)),qS 5 4 58,qm 5 65] .ret)) .skip))))))))))) (so [qL 66 5 2,qc 67 38 [66] 1,qS 5 4 67,qo 5 (.mv (cB false))] .ret))
theorem lk_i_Do:look Tryz.prog 10 = some (68,m_i_Do,[.cell true 5 4,.tm 5]):=by kernel_rfl
end
section
variable {T:World -> Prop} {hT:Low ngl T}
attribute [local irreducible] po mw pt
structure OpV where
 k:Int
 st:List (L8)
 x:V
def opC (o:OpV):List PC:=[pI o.k,pSs o.st,pI o.x.kind,pI o.x.num,pI o.x.exp,pS o.x.text,.sl 0 (vK o.x.kids)]
theorem zec (o:OpV):erL (opC o) = opC o:=by
 show pI o.k :: (pSs o.st).er :: erL (vC o.x) = _;rw [pSs_er,zai]; rfl
def doV (v:V) (o:OpV):V × Bool :=
 if o.k = 0 then putJ v o.st o.x false else if o.k = 1 then putJ v o.st o.x true else if o.k = 2 then remJ v o.st
 else if o.k = 3 then (v,(atI v o.st).isSome && (decide ((atI v o.st).getD z0V = o.x) && v.ok)) else (v,false)
theorem doV_bad {v:V} {o:OpV} (h:v.ok = false):doV v o = (v,false):=by
 have h0:∀ a,putJ v o.st o.x a = (v,false):=fun a => by unfold putJ; rw [if_neg (fun k => by rw [h] at k; exact Bool.noConfusion k.2.1)]
 have h2:remJ v o.st = (v,false):=by unfold remJ; rw [if_neg (fun k => by rw [h] at k; exact Bool.noConfusion k.2.2.1)]
 unfold doV;rw [h0,h0,h2,h,Bool.and_false,Bool.and_false]
 repeat' (first | rfl | split)
theorem at_ok {v:V} {st:List (L8)} (h:v.ok = true):atO v st = atI v st:=by
 unfold atO;by_cases hs:stepsOk st = true
 ·rw [if_pos hs]
 ·rw [if_neg hs]
  cases ha:atI v st with
  | none => rfl
  | some y =>
   obtain ⟨h3,h4⟩:=zey st v y 12 (ok_by h).1 ha;exact absurd (by unfold stepsOk; rw [decide_eq_true (by omega),all_eq_true.2 h4]; rfl) hs
theorem atD_wf {v:V} {st:List (L8)} {n:Nat} (hw:v.wf) (hb:v.bulk <= n):((atI v st).getD z0V).wf /\ ((atI v st).getD z0V).bulk <= n:=by
 cases ha:atI v st with
 | none => exact ⟨by show V.wf (.mk 0 0 0 [] []); simp [V.wf,V.wfs,i64ok,strok],Nat.zero_le _⟩
 | some y => exact zgl (Q:=fun v => v.wf /\ v.bulk <= n) (fun v h => V.wf_kids h) st v _ ⟨hw,hb⟩ ha
theorem zeF (v x:V) (st:List (L8)):PV.dats [.ag (vC v),.d (pSs st),.ag (vC x)] = some [.ag (vC v),.d (pSs st),.ag (vC x)]:=by
 show some [PV.ag (erL (vC v)),.d ((pSs st).er),.ag (erL (vC x))] = _;rw [zai,zai,pSs_er]
theorem zeG (v:V) (st:List (L8)):PV.dats [.ag (vC v),.d (pSs st)] = some [.ag (vC v),.d (pSs st)]:=by
 show some [PV.ag (erL (vC v)),.d ((pSs st).er)] = _;rw [zai,pSs_er]
theorem zeH (a b:V):PV.dats [.ag (vC a),.ag (vC b)] = some [.ag (vC a),.ag (vC b)]:=by
 show some [PV.ag (erL (vC a)),.ag (erL (vC b))] = _;rw [zai,zai]
theorem DoS_fn (v:V) (o:OpV) (S:Nat) (hv:v.wf) (hx:o.x.wf) (hs:∀ s ∈ o.st,s.length <= S) (hb:v.bulk + o.x.bulk + S + 2 <= 2147483647) (hl:o.st.length <= 2147483647):FnV (env T hT) 7 [.ag (vC v),.ag (opC o)] (.tup [.ag (vC (doV v o).1),.d (pB (doV v o).2)]):=by
 have hP:=Put_fn (T:=T) (hT:=hT) v o.x o.st S hv hx hs hb hl;have hN:=Insert_fn (T:=T) (hT:=hT) v o.x o.st S hv hx hs hb hl;have hR:=Remove_fn (T:=T) (hT:=hT) v o.st S hv hs (by omega) hl;rw [put_same] at hP hN;rw [rem_same] at hR;obtain ⟨hyw,hyb⟩:=atD_wf (st:=o.st) hv (show v.bulk <= 2147483647 by omega);refine zaU (zaf lk_s_Do) (by show 2 <= 62; decide) fun B hB => ?_
 unfold m_s_Do;refine mO ?_;refine zal (cs:=vC v) rfl ?_;refine zal (cs:=opC o) rfl ?_;refine mN ?_;refine mM ?_;refine mS ?_;refine zaD (p:=1) (o:=0) (cs:=opC o) (v:=.d (pI o.k)) rfl rfl rfl (Nat.le_of_ble_eq_true rfl) rfl ?_;refine mN ?_;refine zak (zau (zap ?_));by_cases h0:o.k = 0
 ·rw [show doV v o = putJ v o.st o.x false from by unfold doV; rw [if_pos h0]]
  refine zah rfl rfl (beq_iff_eq.2 h0) ?_;refine mT ?_;refine mO ?_;refine zaa (p:=0) (cs:=vC v) rfl rfl rfl rfl ?_;refine mS ?_;refine zaD (p:=1) (o:=1) (cs:=opC o) (v:=.d (pSs o.st)) rfl rfl rfl (Nat.le_of_ble_eq_true rfl) rfl ?_;refine mS ?_;refine zaD (p:=1) (o:=2) (cs:=opC o) (v:=.ag (vC o.x)) rfl rfl rfl (Nat.le_of_ble_eq_true rfl) rfl ?_;generalize putJ v o.st o.x false = pr at hP ⊢;refine zac (zeF v o.x o.st) hP ?_;(iterate 2 refine mS ?_);refine zad (p:=2) (cs:=vC pr.1) (z:=z6) rfl rfl rfl rfl rfl rfl ?_;refine mN ?_;exact zab ⟨.inr rfl,[.ag (vC pr.1),.d (pB pr.2)],rfl,congrArg (fun l => some (PV.tup [.ag l,.d (pB pr.2)])) (zai _)⟩
 refine zan rfl rfl (beq_eq_false_iff_ne.2 h0) ?_;refine mF ?_;refine mO ?_;by_cases h1:o.k = 1
 ·rw [show doV v o = putJ v o.st o.x true from by unfold doV; rw [if_neg h0,if_pos h1]]
  refine zah rfl rfl (beq_iff_eq.2 h1) ?_;refine mT ?_;refine mO ?_;refine zaa (p:=0) (cs:=vC v) rfl rfl rfl rfl ?_;refine mS ?_;refine zaD (p:=1) (o:=1) (cs:=opC o) (v:=.d (pSs o.st)) rfl rfl rfl (Nat.le_of_ble_eq_true rfl) rfl ?_;refine mS ?_;refine zaD (p:=1) (o:=2) (cs:=opC o) (v:=.ag (vC o.x)) rfl rfl rfl (Nat.le_of_ble_eq_true rfl) rfl ?_;generalize putJ v o.st o.x true = pr at hN ⊢;refine zac (zeF v o.x o.st) hN ?_;(iterate 2 refine mS ?_);refine zad (p:=2) (cs:=vC pr.1) (z:=z6) rfl rfl rfl rfl rfl rfl ?_;refine mN ?_;exact zab ⟨.inr rfl,[.ag (vC pr.1),.d (pB pr.2)],rfl,congrArg (fun l => some (PV.tup [.ag l,.d (pB pr.2)])) (zai _)⟩
 refine zan rfl rfl (beq_eq_false_iff_ne.2 h1) ?_;refine mF ?_;refine mO ?_;by_cases h2:o.k = 2
 ·rw [show doV v o = remJ v o.st from by unfold doV; rw [if_neg h0,if_neg h1,if_pos h2]]
  refine zah rfl rfl (beq_iff_eq.2 h2) ?_;refine mT ?_;refine mO ?_;refine zaa (p:=0) (cs:=vC v) rfl rfl rfl rfl ?_;refine mS ?_;refine zaD (p:=1) (o:=1) (cs:=opC o) (v:=.d (pSs o.st)) rfl rfl rfl (Nat.le_of_ble_eq_true rfl) rfl ?_;generalize remJ v o.st = pr at hR ⊢;refine zac (zeG v o.st) hR ?_;(iterate 2 refine mS ?_);refine zad (p:=2) (cs:=vC pr.1) (z:=z6) rfl rfl rfl rfl rfl rfl ?_;refine mN ?_;exact zab ⟨.inr rfl,[.ag (vC pr.1),.d (pB pr.2)],rfl,congrArg (fun l => some (PV.tup [.ag l,.d (pB pr.2)])) (zai _)⟩
 refine zan rfl rfl (beq_eq_false_iff_ne.2 h2) ?_;refine mF ?_;refine mO ?_;by_cases h3:o.k = 3
 ·rw [show doV v o = (v,(atI v o.st).isSome && (decide ((atI v o.st).getD z0V = o.x) && v.ok)) from by unfold doV; rw [if_neg h0,if_neg h1,if_neg h2,if_pos h3]]
  refine zah rfl rfl (beq_iff_eq.2 h3) ?_;refine mT ?_;have hA:=atS_fn (T:=T) (hT:=hT) v o.st hv (by omega) (by omega) (fun s h => by have:=hs s h; omega);rw [atR_eq] at hA;generalize (atI v o.st).getD z0V = y at hA hyw hyb ⊢;generalize (atI v o.st).isSome = ok at hA ⊢;refine mO ?_;refine zaa (p:=0) (cs:=vC v) rfl rfl rfl rfl ?_;refine mS ?_;refine zaD (p:=1) (o:=1) (cs:=opC o) (v:=.d (pSs o.st)) rfl rfl rfl (Nat.le_of_ble_eq_true rfl) rfl ?_;refine zac (zeG v o.st) hA ?_;(iterate 3 refine mS ?_);refine zaH ?_;refine zad (p:=3) (cs:=vC y) (z:=z6) rfl rfl rfl rfl rfl rfl ?_;refine mN ?_;refine mO ?_;refine zaa (p:=0) (cs:=vC v) rfl rfl rfl rfl ?_;refine zac (zax v) (za8 (T:=T) (hT:=hT) v hv (by omega)) ?_;(iterate 2 refine mS ?_)
  cases ok with
  | false =>
   rw [Bool.false_and];refine mZ ?_;refine mS ?_;refine mS ?_;refine mZ ?_;refine mS ?_;refine zad (p:=2) (cs:=vC v) (z:=z6) rfl rfl rfl rfl rfl rfl ?_;refine mN ?_
   exact zab ⟨.inr rfl,[.ag (vC v),.d (pB _)],rfl,congrArg (fun l => some (PV.tup [.ag l,.d (pB _)])) (zai _)⟩
  | true =>
   rw [Bool.true_and];refine zaa (p:=3) (cs:=vC y) rfl rfl rfl rfl ?_;refine mS ?_;refine zaD (p:=1) (o:=2) (cs:=opC o) (v:=.ag (vC o.x)) rfl rfl rfl (Nat.le_of_ble_eq_true rfl) rfl ?_;refine zaM (b:=true) rfl (fun _ => zeH y o.x) (fun _ => same2_fn (T:=T) (hT:=hT) y o.x (by have:=V.nodes_bulkN y; omega)) ?_
   cases hd:decide (y = o.x) with
   | false =>
    rw [Bool.false_and];refine mS ?_;refine mS ?_;refine mZ ?_;refine mS ?_;refine zad (p:=2) (cs:=vC v) (z:=z6) rfl rfl rfl rfl rfl rfl ?_;refine mN ?_
    exact zab ⟨.inr rfl,[.ag (vC v),.d (pB _)],rfl,congrArg (fun l => some (PV.tup [.ag l,.d (pB _)])) (zai _)⟩
   | true =>
    rw [Bool.true_and];refine mS ?_;refine mS ?_;refine zaa (p:=0) (cs:=vC v) rfl rfl rfl rfl ?_;refine zaM (b:=true) rfl (fun _ => zax v) (fun _ => zfn (T:=T) (hT:=hT) v hv (by omega)) ?_
    cases hok:v.ok with
    | false =>
     refine mS ?_;refine zad (p:=2) (cs:=vC v) (z:=z6) rfl rfl rfl rfl rfl rfl ?_;refine mN ?_
     exact zab ⟨.inr rfl,[.ag (vC v),.d (pB _)],rfl,congrArg (fun l => some (PV.tup [.ag l,.d (pB _)])) (zai _)⟩
    | true =>
     refine mS ?_;refine zad (p:=2) (cs:=vC v) (z:=z6) rfl rfl rfl rfl rfl rfl ?_;refine mN ?_;exact zab ⟨.inr rfl,[.ag (vC v),.d (pB _)],rfl,congrArg (fun l => some (PV.tup [.ag l,.d (pB _)])) (zai _)⟩
 refine zan rfl rfl (beq_eq_false_iff_ne.2 h3) ?_;refine mK ?_;refine mO ?_;refine zaa (p:=0) (cs:=vC v) rfl rfl rfl rfl ?_;refine zac (zax v) (za8 (T:=T) (hT:=hT) v hv (by omega)) ?_;refine zad (p:=2) (cs:=vC v) (z:=z6) rfl rfl rfl rfl rfl rfl ?_;refine mN ?_;rw [show doV v o = (v,false) from by unfold doV; rw [if_neg h0,if_neg h1,if_neg h2,if_neg h3]];exact zab ⟨.inr rfl,[.ag (vC v),.d (pB false)],rfl,congrArg (fun l => some (PV.tup [.ag l,.d (pB false)])) (zai _)⟩
theorem DoI_fn (hTen:∀ w,T w -> TenTab w) (hErr:∀ w,T w -> ErrTab w) (hTab:∀ w,T w -> Tabs w) (v:V) (o:OpV) (S:Nat) (hv:v.wf) (hx:o.x.wf) (hs:∀ s ∈ o.st,s.length <= S) (hb:v.bulk + o.x.bulk + S + 2 <= 2147483647) (hl:o.st.length <= 2147483647):FnP (env T hT) 10 [.ag (vC v),.ag (opC o)] (doV v o).1 (doV v o).2:=by
 have hP:=PutO_fn (T:=T) (hT:=hT) hTen hErr hTab v o.x o.st S hv hx hs hb hl;have hN:=InsertO_fn (T:=T) (hT:=hT) hTen hErr hTab v o.x o.st S hv hx hs hb hl;have hR:=RemoveO_fn (T:=T) (hT:=hT) hTen hErr hTab v o.st S hv hs (by omega) (by omega) hl;obtain ⟨hyw,hyb⟩:=atD_wf (st:=o.st) hv (show v.bulk <= 2147483647 by omega);refine zaU (zaf lk_i_Do) (by show 2 <= 68; decide) fun B hB => ?_
 unfold m_i_Do;refine mO ?_;refine zal (cs:=vC v) rfl ?_;refine zal (cs:=opC o) rfl ?_;refine mN ?_;refine zau (zak (zau (zap ?_)));refine zaa (p:=0) (cs:=vC v) rfl rfl rfl rfl ?_;refine zac (zax v) (zdQ (T:=T) (hT:=hT) hTab v hv (by omega)) ?_
 cases hk:v.ok with
 | false =>
  refine mT ?_;refine za0 ?_;refine mO ?_;refine zaa (p:=0) (cs:=vC v) rfl rfl rfl rfl ?_;refine zaW (n:=5) (zax v) (zaX (T:=T) (hT:=hT) v hv (by omega)) rfl (fun cs nt1 he hn _ hN => ?_);refine zad (p:=2) (cs:=cs) (z:=z6) rfl rfl rfl hn rfl rfl ?_;refine mN ?_;rw [doV_bad hk]
  exact zab ⟨.inr rfl,[.ag cs,.d (pB false)],zaz rfl rfl hn rfl,owp he hN (fun t h => List.mem_append_left _ h)⟩
 | true =>
 refine mF ?_;refine mQ ?_;refine zaD (p:=1) (o:=0) (cs:=opC o) (v:=.d (pI o.k)) rfl rfl rfl (Nat.le_of_ble_eq_true rfl) rfl ?_;by_cases h0:o.k = 0
 ·rw [show doV v o = putJ v o.st o.x false from by unfold doV; rw [if_pos h0]]
  refine zah rfl rfl (beq_iff_eq.2 h0) ?_;refine mT ?_;refine mO ?_;refine zaa (p:=0) (cs:=vC v) rfl rfl rfl rfl ?_;refine mS ?_;refine zaD (p:=1) (o:=1) (cs:=opC o) (v:=.d (pSs o.st)) rfl rfl rfl (Nat.le_of_ble_eq_true rfl) rfl ?_;refine mS ?_;refine zaD (p:=1) (o:=2) (cs:=opC o) (v:=.ag (vC o.x)) rfl rfl rfl (Nat.le_of_ble_eq_true rfl) rfl ?_;generalize putJ v o.st o.x false = pr at hP ⊢;refine zch (zeF v o.x o.st) hP (fun cs nt1 he hn _ hN => ?_);(iterate 2 refine mS ?_);refine zad (p:=2) (cs:=cs) (z:=z6) rfl rfl rfl hn rfl rfl ?_;refine mN ?_;exact zab ⟨.inr rfl,[.ag cs,.d (pB pr.2)],zaz rfl rfl hn rfl,owp he hN (fun t h => List.mem_append_left _ h)⟩
 refine zan rfl rfl (beq_eq_false_iff_ne.2 h0) ?_;refine mF ?_;refine mQ ?_;refine zaD (p:=1) (o:=0) (cs:=opC o) (v:=.d (pI o.k)) rfl rfl rfl (Nat.le_of_ble_eq_true rfl) rfl ?_;by_cases h1:o.k = 1
 ·rw [show doV v o = putJ v o.st o.x true from by unfold doV; rw [if_neg h0,if_pos h1]]
  refine zah rfl rfl (beq_iff_eq.2 h1) ?_;refine mT ?_;refine mO ?_;refine zaa (p:=0) (cs:=vC v) rfl rfl rfl rfl ?_;refine mS ?_;refine zaD (p:=1) (o:=1) (cs:=opC o) (v:=.d (pSs o.st)) rfl rfl rfl (Nat.le_of_ble_eq_true rfl) rfl ?_;refine mS ?_;refine zaD (p:=1) (o:=2) (cs:=opC o) (v:=.ag (vC o.x)) rfl rfl rfl (Nat.le_of_ble_eq_true rfl) rfl ?_;generalize putJ v o.st o.x true = pr at hN ⊢;refine zch (zeF v o.x o.st) hN (fun cs nt1 he hn _ hN => ?_);(iterate 2 refine mS ?_);refine zad (p:=2) (cs:=cs) (z:=z6) rfl rfl rfl hn rfl rfl ?_;refine mN ?_;exact zab ⟨.inr rfl,[.ag cs,.d (pB pr.2)],zaz rfl rfl hn rfl,owp he hN (fun t h => List.mem_append_left _ h)⟩
 refine zan rfl rfl (beq_eq_false_iff_ne.2 h1) ?_;refine mF ?_;refine mQ ?_;refine zaD (p:=1) (o:=0) (cs:=opC o) (v:=.d (pI o.k)) rfl rfl rfl (Nat.le_of_ble_eq_true rfl) rfl ?_;by_cases h2:o.k = 2
 ·rw [show doV v o = remJ v o.st from by unfold doV; rw [if_neg h0,if_neg h1,if_pos h2]]
  refine zah rfl rfl (beq_iff_eq.2 h2) ?_;refine mT ?_;refine mO ?_;refine zaa (p:=0) (cs:=vC v) rfl rfl rfl rfl ?_;refine mS ?_;refine zaD (p:=1) (o:=1) (cs:=opC o) (v:=.d (pSs o.st)) rfl rfl rfl (Nat.le_of_ble_eq_true rfl) rfl ?_;generalize remJ v o.st = pr at hR ⊢;refine zch (zeG v o.st) hR (fun cs nt1 he hn _ hN => ?_);(iterate 2 refine mS ?_);refine zad (p:=2) (cs:=cs) (z:=z6) rfl rfl rfl hn rfl rfl ?_;refine mN ?_;exact zab ⟨.inr rfl,[.ag cs,.d (pB pr.2)],zaz rfl rfl hn rfl,owp he hN (fun t h => List.mem_append_left _ h)⟩
 refine zan rfl rfl (beq_eq_false_iff_ne.2 h2) ?_;refine mF ?_;refine mQ ?_;refine zaD (p:=1) (o:=0) (cs:=opC o) (v:=.d (pI o.k)) rfl rfl rfl (Nat.le_of_ble_eq_true rfl) rfl ?_;by_cases h3:o.k = 3
 ·rw [show doV v o = (v,(atI v o.st).isSome && (decide ((atI v o.st).getD z0V = o.x) && v.ok)) from by unfold doV; rw [if_neg h0,if_neg h1,if_neg h2,if_pos h3]]
  refine zah rfl rfl (beq_iff_eq.2 h3) ?_;refine mT ?_;have hA:=atT_fn (T:=T) (hT:=hT) (fun w h => ⟨hTab w h,hTen w h,hErr w h⟩) v o.st hv (by omega) (by omega) (fun s h => by have:=hs s h; omega);rw [at_ok hk] at hA;rw [atR_eq] at hA;generalize (atI v o.st).getD z0V = y at hA hyw hyb ⊢;generalize (atI v o.st).isSome = ok at hA ⊢;refine mO ?_;refine zaa (p:=0) (cs:=vC v) rfl rfl rfl rfl ?_;refine mS ?_;refine zaD (p:=1) (o:=1) (cs:=opC o) (v:=.d (pSs o.st)) rfl rfl rfl (Nat.le_of_ble_eq_true rfl) rfl ?_;refine zac (zeG v o.st) hA ?_;(iterate 3 refine mS ?_);refine zaH ?_;refine zad (p:=3) (cs:=vC y) (z:=z6) rfl rfl rfl rfl rfl rfl ?_;refine mN ?_;refine mO ?_;refine zaa (p:=0) (cs:=vC v) rfl rfl rfl rfl ?_;refine zaW (n:=5) (zax v) (zaX (T:=T) (hT:=hT) v hv (by omega)) rfl (fun cs nt1 he hn _ hN => ?_);(iterate 2 refine mS ?_)
  cases ok with
  | false =>
   rw [Bool.false_and];refine mZ ?_;refine mS ?_;refine zad (p:=2) (cs:=cs) (z:=z6) rfl rfl rfl hn rfl rfl ?_;refine mN ?_
   exact zab ⟨.inr rfl,[.ag cs,.d (pB _)],zaz rfl rfl hn rfl,owp he hN (fun t h => List.mem_append_left _ h)⟩
  | true =>
   rw [Bool.true_and];refine zaa (p:=3) (cs:=vC y) rfl rfl rfl rfl ?_;refine mS ?_;refine zaD (p:=1) (o:=2) (cs:=opC o) (v:=.ag (vC o.x)) rfl rfl rfl (Nat.le_of_ble_eq_true rfl) rfl ?_;refine zaM (b:=true) rfl (fun _ => zeH y o.x) (fun _ => sameI_fn (T:=T) (hT:=hT) y o.x (by omega) (by omega)) ?_
   cases hd:decide (y = o.x) with
   | false =>
    rw [Bool.false_and];refine mS ?_;refine zad (p:=2) (cs:=cs) (z:=z6) rfl rfl rfl hn rfl rfl ?_;refine mN ?_
    exact zab ⟨.inr rfl,[.ag cs,.d (pB _)],zaz rfl rfl hn rfl,owp he hN (fun t h => List.mem_append_left _ h)⟩
   | true =>
    rw [Bool.true_and];refine mS ?_;rw [hk];refine zad (p:=2) (cs:=cs) (z:=z6) rfl rfl rfl hn rfl rfl ?_;refine mN ?_;exact zab ⟨.inr rfl,[.ag cs,.d (pB _)],zaz rfl rfl hn rfl,owp he hN (fun t h => List.mem_append_left _ h)⟩
 refine zan rfl rfl (beq_eq_false_iff_ne.2 h3) ?_;refine mK ?_;refine mO ?_;refine zaa (p:=0) (cs:=vC v) rfl rfl rfl rfl ?_;refine zaW (n:=5) (zax v) (zaX (T:=T) (hT:=hT) v hv (by omega)) rfl (fun cs nt1 he hn _ hN => ?_);refine zad (p:=2) (cs:=cs) (z:=z6) rfl rfl rfl hn rfl rfl ?_;refine mN ?_;rw [show doV v o = (v,false) from by unfold doV; rw [if_neg h0,if_neg h1,if_neg h2,if_neg h3]];exact zab ⟨.inr rfl,[.ag cs,.d (pB false)],zaz rfl rfl hn rfl,owp he hN (fun t h => List.mem_append_left _ h)⟩
end
section
def VSzA (n:Nat):Prop:=∀ (sh:V) (cs:List Value) (left:Int) (w:World),sh.nodes <= n -> Rd w sh.d cs -> sh.wf -> 0 <= left /\ left <= 1048576 ->
 Calls Tryz.prog 5 #[.agg cs.toArray,.int .i64 left] w fun e w' => e = .returned (.int .i64 (take' sh.bulk left)) /\ Below w.heap.size w w'
def VSzB (n:Nat):Prop:=∀ (ls:List V) (v:Value) (left:Int) (w:World),V.nodess ls <= n -> Rd w (.sl 5 (V.ds ls)) [v] -> V.wfs ls -> ls.length <= 9223372036854775807 -> 0 <= left /\ left <= 1048576 ->
 Calls Tryz.prog 22 #[v,.int .i64 left] w fun e w' => e = .returned (.int .i64 (take' (ls.length + V.bulks ls) left)) /\ Below w.heap.size w w'
theorem VSzB_of {n:Nat} (hA:VSzA n):VSzB n:=by
 intro ls v left w hn h hs hlen hl;obtain ⟨a,c,rfl,hg⟩:=h.values;obtain ⟨hl1,hl2⟩:=hl;by_cases hlt:left < ls.length
 ·have H:=Lib.hid (show take' (ls.length + V.bulks ls) left = -1 by unfold take'; rw [if_pos (by omega)])
  go_enter Tryz.func22,Tryz.ntmps22
  go_wp2;go_ret;exact ⟨zba H.out.symm,Below.refl _ _⟩
 ·go_enter Tryz.func22,Tryz.ntmps22
  go_wp2
  go_loopw [1,5] (fun x i wr => ∃ (k:Nat),k <= ls.length /\ i = .int .i64 k /\ ((ls.length + V.bulks (ls.take k):Nat):Int) <= left /\ x = .int .i64 (left - (ls.length + V.bulks (ls.take k):Nat)) /\ Below w.heap.size w wr) (fun _ i _ => ls.length - (intOf i).toNat)
  case atStart => exact ⟨0,Nat.zero_le _,rfl,by simp [V.bulks]; omega,by simp [V.bulks],Below.refl _ _⟩
  case round =>
   obtain ⟨k,hk,rfl,hx,rfl,hbel⟩:=hrel;by_cases hk2:k < ls.length
   ·obtain ⟨_,_,b,o,rfl,hb,hcell⟩:=hg (by intro e; rw [e] at hk2; simp at hk2)
    obtain ⟨v0,v1,v2,v3,v4,hr,c0,c1,c2,c3,c4⟩:=hcell k hk2;have hwk:=V.wfs_get hs k hk2;have hnk:=Nat.le_trans (V.nodes_get ls k hk2) hn;have HS:=Lib.hid (V.bulks_snoc ls k hk2);clear hcell;obtain ⟨hbc,_⟩:=zaP hbel;have hr':=hr.below hbel
    go_wp2_with (go_at_call 5; refine (hA _ _ _ _ hnk hr' hwk (by omega)).mono ?_; rintro e w' ⟨rfl,hb1⟩)
    ·have hno:take' ls[k].bulk (left - ((ls.length:Int) + ↑(V.bulks (ls.take k)))) < 0:=by assumption
     rw [zcp] at hno;have hle:=V.bulks_take ls (k + 1);rw [HS.out] at hle;go_ret;exact ⟨zba (zbA (by omega)).symm,zag hbel hb1 lR⟩
    ·have hyes:0 <= take' ls[k].bulk (left - ((ls.length:Int) + ↑(V.bulks (ls.take k)))):=by assumption
     have hy2:¬ (take' ls[k].bulk (left - ((ls.length:Int) + ↑(V.bulks (ls.take k)))) < 0):=by omega
     rw [zcp] at hy2;have hy3:=Lib.hid (zbg (t:=ls[k].bulk) (left:=left - ((ls.length:Int) + ↑(V.bulks (ls.take k)))) (by omega));go_roundw
     case rel => exact ⟨k + 1,by omega,by go_num,by rw [HS.out]; omega,by rw [HS.out,hy3.out]; go_num,zag hbel hb1 lR⟩
     case measure => simp [intOf] <;> omega
   ·obtain rfl:k = ls.length:=by omega
    rw [take_length] at hx;have H:=Lib.hid (zbg hx);go_wp2;go_ret;exact ⟨zba (by rw [H.out,take_length]),hbel⟩
theorem VSzA_of {n:Nat} (hB:VSzB n):VSzA (n + 1):=by
 intro sh cs left w hn h hs hl;obtain ⟨k,m,e,s,kids,v1,rfl,rfl,hkids⟩:=V.lay h;obtain ⟨_,_,_,hsl,hkidl,hwk⟩:=hs;have hnk:V.nodess kids <= n:=by simp only [V.nodes] at hn; omega
 have hA:=(Below.refl w.heap.size w).alloc lR (.cells #[.int .i64 k,.int .i64 m,.int .i64 e,.string ⟨s.toArray⟩,v1] 24);have hkids':=hkids.alloc (.cells #[.int .i64 k,.int .i64 m,.int .i64 e,.string ⟨s.toArray⟩,v1] 24);unfold strok at hsl;obtain ⟨h10,h11⟩:=hl;by_cases h1:left < s.length
 ·have HR:=Lib.hid (zbA (t:=V.bulk (.mk k m e s kids)) (left:=left) (by simp only [V.bulk]; omega))
  go_enter Tryz.func5,Tryz.ntmps5
  go_wp2;go_ret;exact ⟨zba HR.out.symm,hA⟩
 ·have HR:=Lib.hid (zeW (a:=s.length) (b:=kids.length + V.bulks kids) h1)
  have hl2:0 <= left - (s.length:Int):=by omega
  have hq2:left - (s.length:Int) <= 1048576:=by omega
  go_enter Tryz.func5,Tryz.ntmps5
  go_wp2_with (go_at_call 22; refine (hB _ _ _ _ hnk hkids' hwk hkidl ⟨hl2,hq2⟩).mono ?_; rintro e w' ⟨rfl,hb2⟩)
  ·have hno:take' (kids.length + V.bulks kids) (left - (s.length:Int)) < 0:=by assumption
   rw [HR.out,zcp] at hno;have H2:=zbA (t:=V.bulk (.mk k m e s kids)) (left:=left) (by simp only [V.bulk]; omega);go_ret;exact ⟨zba H2.symm,zag hA hb2 lR⟩
  ·go_ret
   exact ⟨zba (by rw [HR.out]; rfl),zag hA hb2 lR⟩
theorem VSz_all:∀ n,VSzA n /\ VSzB n
 | 0 => by
  have h0:VSzA 0:=fun sh cs left w hn => absurd (V.nodes_pos sh) (by omega)
  exact ⟨h0,VSzB_of h0⟩
 | n + 1 => by
  have h1:=VSzA_of (VSz_all n).2;exact ⟨h1,VSzB_of h1⟩
theorem zgm (sh:V) (cs:List Value) (left:Int) (w:World) (h:Rd w sh.d cs) (hs:sh.wf) (hl:0 <= left /\ left <= 1048576) :
  Calls Tryz.prog 5 #[.agg cs.toArray,.int .i64 left] w fun e w' => e = .returned (.int .i64 (take' sh.bulk left)) /\ Below w.heap.size w w' :=
 (VSz_all sh.nodes).1 sh cs left w lR h hs hl
end
section
def VToA (n:Nat):Prop:=∀ (sh:V) (cs:List Value) (w:World),sh.nodes <= n -> Rd w sh.d cs -> sh.bulk <= 1048576 ->
 Calls Tryz.prog 8 #[.agg cs.toArray] w fun e w' => ∃ cs',e = .returned (.agg cs'.toArray) /\ Below w.heap.size w w' /\ Own w.heap.size w' sh.d cs'
def VToB (n:Nat):Prop:=∀ (ls:List V) (v:Value) (w:World),V.nodess ls <= n -> Rd w (.sl 5 (V.ds ls)) [v] -> ls.length + V.bulks ls <= 1048576 ->
 Calls Tryz.prog 31 #[v] w fun e w' => ∃ v',e = .returned v' /\ Below w.heap.size w w' /\ Own w.heap.size w' (.sl 5 (V.ds ls)) [v']
theorem VToB_of {n:Nat} (hA:VToA n):VToB n:=by
 intro ls v w hn h hlen;obtain ⟨a,c,rfl,hg⟩:=h.values;obtain ⟨cs,hcs,hmk⟩:=run_mk tyVs ls.length (by omega) (by decide);have HCS:=Lib.hid hcs; clear hcs
 have hl:ls.length <= 1048576:=by omega
 go_enter Tryz.func31,Tryz.ntmps31
 go_wp2
 go_loopw [4] (fun i wr => ∃ (k:Nat),k <= ls.length /\ i = .int .i64 k /\ Part w.heap.size wr w.heap.size 5 ls.length ((ls.take k).map V.d) /\ Below w.heap.size w wr) (fun i _ => ls.length - (intOf i).toNat)
 case atStart => exact ⟨0,Nat.zero_le _,rfl,Part.start HCS.out,(Below.refl _ _).alloc lR _⟩
 case round =>
  obtain ⟨k,hk,rfl,hp,hbel⟩:=hrel;by_cases hk2:k < ls.length
  ·obtain ⟨_,_,b,o,rfl,hb,hcell⟩:=hg (by intro e; rw [e] at hk2; simp at hk2)
   obtain ⟨v0,v1,v2,v3,v4,hr,c0,c1,c2,c3,c4⟩:=hcell k hk2;obtain ⟨hbc,_⟩:=zaP hbel;have hr':=hr.below hbel;have hnk:=Nat.le_trans (V.nodes_get ls k hk2) hn;have hbk:ls[k].bulk <= 1048576:=by have h1:=V.bulks_snoc ls k hk2; have h2:=V.bulks_take ls (k + 1); omega
   have HS:=Lib.hid (zbc V.d ls k hk2);clear hcell
   go_wp2_with (go_at_call 8; refine (hA _ _ _ hnk hr' hbk).mono ?_; rintro e w1 ⟨cs',rfl,hb1,hown⟩; obtain ⟨x0,x1,x2,x3,a2,n2,c2,rfl⟩:=V.form hown.rd; have hp1:=hp.below hb1; obtain ⟨⟨z0,hz0⟩,hf0⟩:=hp1.there (k * 5) (by omega); obtain ⟨⟨z1,hz1⟩,hf1⟩:=hp1.there (k * 5 + 1) (by omega); obtain ⟨⟨z2,hz2⟩,hf2⟩:=hp1.there (k * 5 + 2) (by omega); obtain ⟨⟨z3,hz3⟩,hf3⟩:=hp1.there (k * 5 + 3) (by omega); obtain ⟨⟨z4,hz4⟩,hf4⟩:=hp1.there (k * 5 + 4) (by omega))
   have hp2:=hp.put hb1 hown (V.width _) (by simp; omega) hbel.size;have hb2:=zbn (g:=w.heap.size) [.int .i64 x0,.int .i64 x1,.int .i64 x2,.string ⟨x3.toArray⟩,.slice a2 n2 c2] (k * 5) (zag hbel hb1 lR) lR;rw [length_map,length_take,Nat.min_eq_left hk,Nat.mul_comm] at hp2;go_roundw
   case rel => exact ⟨k + 1,by omega,by go_num,by rw [HS.out]; exact hp2,hb2⟩
   case measure => simp [intOf] <;> omega
  ·obtain rfl:k = ls.length:=by omega
   rw [take_length] at hp;have ho:=Part.own (ds:=ls.map V.d) (n:=5) (c:=ls.length) (by simpa using hp) (by decide) ⟨by simp,by unfold maxLen; omega⟩;go_wp2;go_ret;exact ⟨_,rfl,hbel,by rw [V.ds_map]; simpa using ho⟩
theorem VToA_of {n:Nat} (hB:VToB n):VToA (n + 1):=by
 intro sh cs w hn h hlen;obtain ⟨k,m,e,s,kids,v1,rfl,rfl,hkids⟩:=V.lay h;have hnk:V.nodess kids <= n:=by simp only [V.nodes] at hn; omega
 simp only [V.bulk] at hlen;have hA:=(Below.refl w.heap.size w).alloc lR (.cells #[.int .i64 k,.int .i64 m,.int .i64 e,.string ⟨s.toArray⟩,v1] 24);have hkb:kids.length + V.bulks kids <= 1048576:=by omega
 go_enter Tryz.func8,Tryz.ntmps8
 go_wp2_with (go_at_call 31; refine (hB _ _ _ hnk (((hkids.alloc _).alloc _).alloc _) hkb).mono ?_; rintro e w2 ⟨x2,rfl,hb2,hown2⟩; obtain ⟨a2,m2,n2,rfl⟩:=Rd.sl_any hown2.rd; obtain ⟨hc2,hf2⟩:=zaP hb2; have hz2:=hb2.size; simp at hz2; have g4:w.heap.size < w2.heap.size:=(by omega); have g5:w.heap.size + 1 < w2.heap.size:=(by omega); have g6:w.heap.size + 1 + 1 < w2.heap.size:=(by omega))
 refine bodyPost_ret (v:=.agg #[.int .i64 k,.int .i64 m,.int .i64 e,.string ⟨s.toArray⟩,.slice a2 m2 n2]) ?_ rfl ⟨[.int .i64 k,.int .i64 m,.int .i64 e,.string ⟨s.toArray⟩,.slice a2 m2 n2],rfl,?_,?_⟩
 ·simp [results,Tryz.results8,go_sem,hc2]
 ·iterate 6 (refine Below.setCell ?_ (by simp; try omega) _)
  exact zag ((hA.alloc (by simp; try omega) _).alloc (by simp; try omega) _) hb2 lR
 ·refine Own.mono (B:=w.heap.size + 1 + 1 + 1) ?_ (by omega)
  iterate 6 (refine Own.setCell ?_ (by simp; try omega) _)
  exact V.own (hown2.mono (by simp; try omega))
theorem VTo_all:∀ n,VToA n /\ VToB n
 | 0 => by
  have h0:VToA 0:=fun sh cs w hn => absurd (V.nodes_pos sh) (by omega)
  exact ⟨h0,VToB_of h0⟩
 | n + 1 => by
  have h1:=VToA_of (VTo_all n).2;exact ⟨h1,VToB_of h1⟩
theorem zgn (sh:V) (cs:List Value) (w:World) (h:Rd w sh.d cs) (hs:sh.bulk <= 1048576) :
  Calls Tryz.prog 8 #[.agg cs.toArray] w fun e w' => ∃ cs',e = .returned (.agg cs'.toArray) /\ Below w.heap.size w w' /\ Own w.heap.size w' sh.d cs' :=
 (VTo_all sh.nodes).1 sh cs w lR h hs
end
section
def VEqA (n:Nat):Prop:=∀ (x y:V) (cs ds:List Value) (w:World),x.nodes <= n -> Rd w x.d cs -> Rd w y.d ds -> x.bulk <= 1048576 -> y.bulk <= 1048576 ->
 Calls Tryz.prog 11 #[.agg cs.toArray,.agg ds.toArray] w fun e w' => e = .returned (.bool (decide (x = y))) /\ Below w.heap.size w w'
def VEqB (n:Nat):Prop:=∀ (x y:List V) (va vb:Value) (w:World),V.nodess x <= n -> Rd w (.sl 5 (V.ds x)) [va] -> Rd w (.sl 5 (V.ds y)) [vb] -> x.length + V.bulks x <= 1048576 -> y.length + V.bulks y <= 1048576 ->
 Calls Tryz.prog 40 #[va,vb] w fun e w' => e = .returned (.bool (decide (x = y))) /\ Below w.heap.size w w'
theorem VEqB_of {n:Nat} (hA:VEqA n):VEqB n:=by
 intro la lb va vb w hn h h2 hla hlb;obtain ⟨a,c,rfl,hg⟩:=h.values;obtain ⟨a',c',rfl,hg'⟩:=h2.values;by_cases hlen:la.length = lb.length
 ·have hlt:((la.length:Int) != (lb.length:Int)) = false:=by simp [hlen]
  have HL:=Lib.hid hlen; clear hlen
  go_enter Tryz.func40,Tryz.ntmps40
  go_wp2
  go_loopw [5] (fun i wr => ∃ (k:Nat),k <= la.length /\ i = .int .i64 k /\ la.take k = lb.take k /\ Below w.heap.size w wr) (fun i _ => la.length - (intOf i).toNat)
  case atStart => exact ⟨0,Nat.zero_le _,rfl,by simp,Below.refl _ _⟩
  case round =>
   obtain ⟨k,hk,rfl,htk,hbel⟩:=hrel;have HT:=Lib.hid htk; clear htk
   by_cases hk1:k < la.length
   ·have hk2:k < lb.length:=by have:=HL.out; omega
    obtain ⟨_,_,b,o,rfl,hb,hcell⟩:=hg (by intro e; rw [e] at hk1; simp at hk1);obtain ⟨_,_,b',o',rfl,hb',hcell'⟩:=hg' (by intro e; rw [e] at hk2; simp at hk2);obtain ⟨v0,v1,v2,v3,v4,hr,c0,c1,c2,c3,c4⟩:=hcell k hk1;obtain ⟨x0,x1,x2,x3,x4,hs,d0,d1,d2,d3,d4⟩:=hcell' k hk2;clear hcell hcell' hg hg';obtain ⟨hbc,_⟩:=zaP hbel;have hi1:(0:Int) <= k:=by omega
    have hi2:(k:Int) < lb.length:=by omega
    have hnk:=Nat.le_trans (V.nodes_get la k hk1) hn;have hr':=hr.below hbel;have hs':=hs.below hbel;by_cases he:la[k] = lb[k]
    ·have hd:=Lib.hid (decide_eq_true he)
     have HE:=Lib.hid he;clear he
     go_wp2_with fail
     go_still_tail 8,(by kernel_rfl)
     go_wp2_with (go_at_call 11; refine (hA _ _ _ _ _ hnk hr'.drew hs'.drew (V.bulk_get hla k hk1) (V.bulk_get hlb k hk2)).mono ?_; rw [hd.out]; rintro e w1 ⟨rfl,hb1⟩)
     go_roundw
     case rel => exact ⟨k + 1,by omega,by go_num,zbP HT.out hk1 hk2 HE.out,zag hbel.drew hb1 lR⟩
     case measure => simp [intOf] <;> omega
    ·have hd:=Lib.hid (decide_eq_false he)
     have HE:=Lib.hid (decide_eq_false (zdq hk1 hk2 he));clear he
     go_wp2_with fail
     go_still_tail 8,(by kernel_rfl)
     go_wp2_with (go_at_call 11; refine (hA _ _ _ _ _ hnk hr'.drew hs'.drew (V.bulk_get hla k hk1) (V.bulk_get hlb k hk2)).mono ?_; rw [hd.out]; rintro e w1 ⟨rfl,hb1⟩)
     go_ret;exact ⟨by rw [HE.out]; rfl,zag hbel.drew hb1 lR⟩
   ·obtain rfl:k = la.length:=by omega
    have he:la = lb:=by have:=HT.out; rw [take_length,HL.out,take_length] at this; exact this
    have H:=Lib.hid (decide_eq_true he);clear he;go_wp2;go_ret;exact ⟨by rw [H.out]; rfl,hbel⟩
 ·have H:=Lib.hid (decide_eq_false (show ¬ la = lb from fun e => hlen (by rw [e])))
  go_enter Tryz.func40,Tryz.ntmps40
  go_wp2;go_ret;exact ⟨by rw [H.out]; rfl,Below.refl _ _⟩
theorem VEqA_of {n:Nat} (hB:VEqB n):VEqA (n + 1):=by
 intro x y cs ds w hn h h2 hx hy;obtain ⟨k,m,e,s,kids,v1,rfl,rfl,hkids⟩:=V.lay h;obtain ⟨k',m',e',s',kids',v1',rfl,rfl,hkids'⟩:=V.lay h2;have hnk:V.nodess kids <= n:=by simp only [V.nodes] at hn; omega
 simp only [V.bulk] at hx hy;have hA:=fun a b => ((Below.refl w.heap.size w).alloc lR a).alloc (by simp) b
 by_cases e1:k = k' /\ m = m' /\ e = e' /\ s = s'
 ·obtain ⟨rfl,rfl,rfl,rfl⟩:=e1
  go_enter Tryz.func11,Tryz.ntmps11
  go_wp2_with fail
  refine (hB _ _ _ _ _ hnk ((hkids.alloc _).alloc _) ((hkids'.alloc _).alloc _) (by omega) (by omega)).mono ?_;by_cases e4:kids = kids'
  ·subst e4
   rw [decide_eq_true rfl];rintro e w2 ⟨rfl,hb2⟩;go_wp2;go_ret;exact ⟨by simp,zag (hA _ _) hb2 lR⟩
  ·have H:=Lib.hid (V.ne_mk (k:=k) (m:=m) (e:=e) (s:=s) (kids:=kids) (k':=k) (m':=m) (e':=e) (s':=s) (kids':=kids') (by simp [e4]))
   rw [decide_eq_false e4];rintro e w2 ⟨rfl,hb2⟩;clear e4;go_wp2;go_ret;exact ⟨by rw [H.out]; rfl,zag (hA _ _) hb2 lR⟩
 ·have H:=Lib.hid (V.ne_mk (k:=k) (m:=m) (e:=e) (s:=s) (kids:=kids) (k':=k') (m':=m') (e':=e') (s':=s') (kids':=kids') (by simp only [not_and] at e1 ⊢; intro a b c d; exact absurd d (e1 a b c)))
  by_cases a1:k = k'
  ·subst a1
   by_cases a2:m = m'
   ·subst a2
    by_cases a3:e = e'
    ·subst a3
     have a4:(s == s') = false:=by simp only [true_and] at e1; simpa using e1
     clear e1
     go_enter Tryz.func11,Tryz.ntmps11
     go_wp2_with fail
     all_goals (go_ret; exact ⟨by rw [H.out]; rfl,hA _ _⟩)
    ·have a4:(e == e') = false:=by simpa using a3
     clear e1 a3
     go_enter Tryz.func11,Tryz.ntmps11
     go_wp2_with fail
     all_goals (go_ret; exact ⟨by rw [H.out]; rfl,hA _ _⟩)
   ·have a4:(m == m') = false:=by simpa using a2
    clear e1 a2
    go_enter Tryz.func11,Tryz.ntmps11
    go_wp2_with fail
    all_goals (go_ret; exact ⟨by rw [H.out]; rfl,hA _ _⟩)
  ·have a4:(k == k') = false:=by simpa using a1
   clear e1 a1
   go_enter Tryz.func11,Tryz.ntmps11
   go_wp2_with fail
   all_goals (go_ret; exact ⟨by rw [H.out]; rfl,hA _ _⟩)
theorem VEq_all:∀ n,VEqA n /\ VEqB n
 | 0 => by
  have h0:VEqA 0:=fun sh y cs ds w hn => absurd (V.nodes_pos sh) (by omega)
  exact ⟨h0,VEqB_of h0⟩
 | n + 1 => by
  have h1:=VEqA_of (VEq_all n).2;exact ⟨h1,VEqB_of h1⟩
theorem zgo (x y:V) (cs ds:List Value) (w:World) (h:Rd w x.d cs) (h2:Rd w y.d ds) (hx:x.bulk <= 1048576) (hy:y.bulk <= 1048576) :
  Calls Tryz.prog 11 #[.agg cs.toArray,.agg ds.toArray] w fun e w' => e = .returned (.bool (decide (x = y))) /\ Below w.heap.size w w' :=
 (VEq_all x.nodes).1 x y cs ds w lR h h2 hx hy
end
section
def mt (k:Nat):L8:=109 :: Lib.decDigits k
mutual
def V.cnt:V -> Nat
 | .mk _ _ _ _ kids => 4 + V.cnts kids
def V.cnts:List V -> Nat
 | [] => 0
 | v :: vs => V.cnt v + V.cnts vs
end
mutual
def V.mark1:Nat -> V -> V
 | k,.mk _ _ _ _ kids => .mk (k:Nat) ((k + 1:Nat):Int) ((k + 2:Nat):Int) (mt (k + 3)) (V.marks (k + 4) kids)
def V.marks:Nat -> List V -> List V
 | _,[] => []
 | k,v :: vs => V.mark1 k v :: V.marks (k + V.cnt v) vs
end
def mtS:Nat -> List (L8) -> List (L8)
 | _,[] => []
 | k,_ :: ls => mt k :: mtS (k + 1) ls
theorem V.marks_length:∀ (k:Nat) (vs:List V),(V.marks k vs).length = vs.length
 | _,[] => rfl
 | k,v :: vs => by simp [V.marks,V.marks_length _ vs]
theorem zbw:∀ (k:Nat) (vs:List (L8)),(mtS k vs).length = vs.length
 | _,[] => rfl
 | k,v :: vs => by simp [mtS,zbw _ vs]
theorem V.cnts_snoc (v:V):∀ vs:List V,V.cnts (vs ++ [v]) = V.cnts vs + V.cnt v
 | [] => by simp [V.cnts]
 | u :: vs => by simp only [cons_append,V.cnts,V.cnts_snoc v vs]; omega
theorem V.marks_snoc (v:V):∀ (k:Nat) (vs:List V),V.marks k (vs ++ [v]) = V.marks k vs ++ [V.mark1 (k + V.cnts vs) v]
 | k,[] => by simp [V.marks,V.cnts]
 | k,u :: vs => by simp only [cons_append,V.marks,V.marks_snoc v (k + V.cnt u) vs,V.cnts,Nat.add_assoc]
theorem V.cnts_take (vs:List V) (j:Nat) (h:j < vs.length):V.cnts (vs.take (j + 1)) = V.cnts (vs.take j) + V.cnt vs[j]:=by
 rw [take_succ_eq_append_getElem h,V.cnts_snoc]
theorem V.cnts_le:∀ (vs:List V) (j:Nat),V.cnts (vs.take j) <= V.cnts vs
 | [],j => by simp
 | v :: vs,0 => by simp [V.cnts]
 | v :: vs,j + 1 => by have:=V.cnts_le vs j; simp only [take_succ_cons,V.cnts]; omega
def V.half (k:Nat) (vs:List V) (j:Nat):List V:=V.marks k (vs.take j) ++ vs.drop j
def halfS (k:Nat) (vs:List (L8)) (j:Nat):List (L8):=mtS k (vs.take j) ++ vs.drop j
theorem mtS_snoc (v:L8):∀ (k:Nat) (vs:List (L8)),mtS k (vs ++ [v]) = mtS k vs ++ [mt (k + vs.length)]
 | k,[] => by simp [mtS]
 | k,u :: vs => by simp only [cons_append,mtS,mtS_snoc v (k + 1) vs,length_cons]; rw [show k + 1 + vs.length = k + (vs.length + 1) by omega]
theorem half_set {α:Type} {a:List α} {vs:List α} {j:Nat} (h:j < vs.length) (ha:a.length = j) (x:α):(a ++ vs.drop j).set j x = (a ++ [x]) ++ vs.drop (j + 1):=by
 rw [set_append_right _ _ (by omega),ha,Nat.sub_self,drop_eq_getElem_cons h,set_cons_zero]; simp
theorem half_get {α:Type} {a:List α} {vs:List α} {j:Nat} (h:j < vs.length) (ha:a.length = j):(a ++ vs.drop j)[j]'(by simp; omega) = vs[j]:=by
 rw [getElem_append_right (by omega)]; simp [ha]
theorem V.half_set (k:Nat) (vs:List V) (j:Nat) (h:j < vs.length):(V.half k vs j).set j (V.mark1 (k + V.cnts (vs.take j)) vs[j]) = V.half k vs (j + 1):=by
 unfold V.half;rw [Go.Proofs.YtaofmfkcfmcmpaaGreatDoor.half_set h (by rw [V.marks_length,length_take]; omega),<- V.marks_snoc,<- take_succ_eq_append_getElem h]
theorem halfS_set (k:Nat) (vs:List (L8)) (j:Nat) (h:j < vs.length):(halfS k vs j).set j (mt (k + j)) = halfS k vs (j + 1):=by
 unfold halfS;rw [Go.Proofs.YtaofmfkcfmcmpaaGreatDoor.half_set h (by rw [zbw,length_take]; omega),take_succ_eq_append_getElem h,mtS_snoc,length_take,Nat.min_eq_left (by omega)]
theorem TreeCs.at {w:World} {n:Nat}:∀ {ds:List D} {fp:List Nat} {cs:List Value},TreeCs w ds fp cs -> (∀ e ∈ ds,D.width e = n) -> fp.Nodup -> ∀ i (hi:i < ds.length),
  ∃ fi ci,fi.Nodup /\ (∀ b ∈ fi,b ∈ fp) /\ TreeC w ds[i] fi ci /\ ci.length = n /\ (cs.drop (n * i)).take n = ci /\
   ∀ (w':World) (d':D) (ci':List Value),D.width d' = n -> (∀ b ∈ fp,b ∉ fi -> w'.heap[b]? = w.heap[b]?) -> TreeC w' d' fi ci' -> TreeCs w' (ds.set i d') fp (cs.take (n * i) ++ (ci' ++ cs.drop (n * i + n)))
 | [],fp,cs,h,hw,hn,i,hi => by simp at hi
 | d :: ds,fp,cs,h,hw,hn,i,hi => by
  simp only [TreeCs] at h; obtain ⟨f1,f2,c1,c2,rfl,rfl,h1,h2,h3⟩:=h
  have hd:=hw d (by simp);rw [hd] at h1;rw [nodup_append] at hn;obtain ⟨n1,n2,n3⟩:=hn
  match i with
  | 0 =>
   refine ⟨f1,c1,n1,fun b hb => by simp [hb],h2,h1,by simp [<- h1],fun w' d' ci' hd' hs ht => ?_⟩;simp only [Nat.mul_zero,take_zero,nil_append,set_cons_zero,Nat.zero_add,TreeCs]
   refine ⟨f1,f2,ci',c2,rfl,by rw [<- h1]; simp,by rw [ht.len],ht,h3.frame fun b hb => hs b (by simp [hb]) fun hb1 => n3 b hb1 b hb rfl⟩
  | i + 1 =>
   obtain ⟨fi,ci,k1,k2,k3,k4,k5,k6⟩:=TreeCs.at h3 (fun e he => hw e (by simp [he])) n2 i (by simpa using hi);have e1:n * (i + 1) = c1.length + n * i:=by rw [h1,Nat.mul_succ]; omega
   refine ⟨fi,ci,k1,fun b hb => by simp [k2 b hb],by simpa using k3,k4,?_,fun w' d' ci' hd' hs ht => ?_⟩
   ·rw [e1,drop_length_add_append]; exact k5
   ·have:=k6 w' d' ci' hd' (fun b hb hb' => hs b (by simp [hb]) hb') ht
    simp only [set_cons_succ,TreeCs];refine ⟨f1,f2,c1,_,rfl,?_,by rw [h1,hd],h2.frame fun b hb => hs b (by simp [hb]) fun hb2 => n3 b hb b (k2 b hb2) rfl,this⟩;rw [e1,take_length_add_append,append_assoc,Nat.add_assoc,drop_length_add_append]
def Blk (w:World) (g:Nat) (e:TypeId) (sz:Nat):Prop:=∃ cur,w.heap[g]? = some (.cells cur e (0,0)) /\ cur.size = sz
theorem Blk.lt {w:World} {g sz:Nat} {e:TypeId} (h:Blk w g e sz):g < w.heap.size:=by obtain ⟨cur,h,_⟩:=h; exact zao h
theorem Blk.free {w:World} {g sz:Nat} {e:TypeId} (h:Blk w g e sz) (o:Nat):w.frozen? ⟨g,o,none⟩ = false:=by obtain ⟨cur,h,_⟩:=h; simp [World.frozen?,h]
theorem Blk.same {w w':World} {g sz:Nat} {e:TypeId} (h:Blk w g e sz) (hs:w'.heap[g]? = w.heap[g]?):Blk w' g e sz:=by obtain ⟨cur,h,h2⟩:=h; exact ⟨cur,by rw [hs]; exact h,h2⟩
theorem Blk.below {w w':World} {g sz:Nat} {e:TypeId} (h:Blk w g e sz) (hb:Below w.heap.size w w'):Blk w' g e sz:=h.same (hb.block g h.lt)
theorem Blk.keep {S:Nat -> Prop} {w w':World} {g sz:Nat} {e:TypeId} (h:Blk w g e sz) (hk:Keep S w w') (hg:¬ S g):Blk w' g e sz:=h.same (hk.block g h.lt hg)
theorem Blk.setCell {w:World} {g sz:Nat} {e:TypeId} (h:Blk w g e sz) (o:Nat) (v:Value):Blk (w.setCell ⟨g,o,none⟩ v) g e sz:=by
 obtain ⟨cur,h,h2⟩:=h; exact ⟨_,zbd h v,by simpa using h2⟩
theorem Keep.same {S:Nat -> Prop} {w w':World} (h:Keep S w w') {T:Nat -> Prop} (hT:∀ b,T b -> b < w.heap.size /\ ¬ S b):SameOn T w w':=fun b hb => h.block b (hT b hb).1 (hT b hb).2
def Row (w:World) (n g:Nat) (e:TypeId) (sz:Nat) (fr:List Nat) (ds:List D):Prop :=
 ∃ cur,w.heap[g]? = some (.cells cur e (0,0)) /\ cur.size = sz /\ n * ds.length <= sz /\ (∀ d ∈ ds,D.width d = n) /\ TreeCs w ds fr (cur.toList.take (n * ds.length))
theorem Row.blk {w:World} {n g sz:Nat} {e:TypeId} {fr:List Nat} {ds:List D} (h:Row w n g e sz fr ds):Blk w g e sz:=by obtain ⟨cur,h,h2,_⟩:=h; exact ⟨cur,h,h2⟩
theorem list_put (l c:List Value) (j n m:Nat) (hl:c.length = n) (h:n * j + n <= n * m) (hm:n * m <= l.length) (l':List Value) (hl':l'.length = l.length) (h1:∀ i,i < n -> l'[j * n + i]? = c[i]?) (h2:∀ o,o < j * n \/ j * n + n <= o -> l'[o]? = l[o]?) :
  l'.take (n * m) = (l.take (n * m)).take (n * j) ++ (c ++ (l.take (n * m)).drop (n * j + n)):=by
 have hjn:j * n = n * j:=Nat.mul_comm j n;rw [hjn] at h1 h2
 apply ext_getElem?
 intro o;by_cases ho:o < n * m
 ·rw [getElem?_take,if_pos ho]
  by_cases ha:o < n * j
  ·rw [getElem?_append_left (by simp only [length_take]; omega),getElem?_take,if_pos ha,getElem?_take,if_pos ho,h2 o (.inl ha)]
  ·rw [getElem?_append_right (by simp only [length_take]; omega)]
   have hlen:((l.take (n * m)).take (n * j)).length = n * j:=by simp only [length_take]; omega
   rw [hlen];by_cases hb:o < n * j + n
   ·rw [getElem?_append_left (by omega),<- h1 (o - n * j) (by omega)]; congr 1; omega
   ·rw [getElem?_append_right (by omega),getElem?_drop,getElem?_take,h2 o (.inr (by omega)),hl]
    rw [if_pos (by omega)]; congr 1; omega
 ·rw [getElem?_eq_none (by simp only [length_take]; omega),getElem?_eq_none]
  simp only [length_append,length_take,length_drop]; omega
theorem Row.at {w:World} {n g sz:Nat} {e:TypeId} {fr:List Nat} {ds:List D} (h:Row w n g e sz fr ds) (hn:(g :: fr).Nodup) (j:Nat) (hj:j < ds.length):∃ fi ci,fi.Nodup /\ (∀ b ∈ fi,b ∈ fr) /\ g ∉ fi /\ TreeC w ds[j] fi ci /\ ci.length = n /\ j * n + n <= sz /\
  (∀ i u,i < n -> ci[i]? = some u -> w.cell? ⟨g,j * n + i,none⟩ = some u) /\
  ∀ w' d' ci',D.width d' = n -> Blk w' g e sz -> (∀ i,i < n -> w'.cell? ⟨g,j * n + i,none⟩ = ci'[i]?) -> (∀ o,o < j * n \/ j * n + n <= o -> w'.cell? ⟨g,o,none⟩ = w.cell? ⟨g,o,none⟩) -> (∀ b ∈ fr,b ∉ fi -> w'.heap[b]? = w.heap[b]?) -> TreeC w' d' fi ci' ->
   Row w' n g e sz fr (ds.set j d'):=by
 obtain ⟨cur,h1,h2,h3,h4,h5⟩:=h;rw [nodup_cons] at hn;obtain ⟨fi,ci,k1,k2,k3,k4,k5,k6⟩:=TreeCs.at h5 h4 hn.2 j hj;have hm:n * j + n <= n * ds.length:=by rw [<- Nat.mul_succ]; exact Nat.mul_le_mul_left n hj
 refine ⟨fi,ci,k1,k2,fun hb => hn.1 (k2 g hb),k3,k4,by rw [Nat.mul_comm j n]; omega,fun i u hi hu => ?_,fun w' d' ci' hd hbk hc1 hc2 hs ht => ?_⟩
 ·rw [zae h1,<- hu,<- k5,getElem?_take,if_pos hi,getElem?_drop,getElem?_take,if_pos (by omega),Nat.mul_comm j n]; simp
 ·obtain ⟨cur',g1,g2⟩:=hbk
  have:=k6 w' d' ci' hd hs ht
  refine ⟨cur',g1,g2,by simpa using h3,?_,?_⟩
  ·intro x hx
   rcases mem_or_eq_of_mem_set hx with hx | rfl
   ·exact h4 x hx
   ·exact hd
  ·rw [length_set,list_put cur.toList ci' j n ds.length (by rw [ht.len,hd]) hm (by simpa [h2] using h3) cur'.toList (by simp [h2,g2]) ?_ ?_]
   ·exact this
   ·intro i hi
    have:=hc1 i hi
    rw [zae g1] at this;simpa using this
   ·intro o ho
    have:=hc2 o ho
    rw [zae g1,zae h1] at this;simpa using this
theorem TreeC.row {w:World} {n:Nat} {es:List D} {fp:List Nat} {v:Value} (h:TreeC w (.sl n es) fp [v]):∃ a c,v = .slice a es.length c /\ (es ≠ [] -> ∃ g fr e sz,a = some ⟨g,0,none⟩ /\ fp = g :: fr /\ (es.length <= c /\ sz = c * n) /\ c <= maxLen /\ Row w n g e sz fr es):=by
 simp only [TreeC] at h;obtain ⟨a,c,hv,h⟩:=h;simp only [cons.injEq,and_true] at hv;refine ⟨a,c,hv,fun hne => ?_⟩
 rcases h with h | ⟨b,fr,cur,e,ha,hf,hb,hn,h1,h2,hw,ht⟩
 ·exact absurd h.1 hne
 ·refine ⟨b,fr,e,cur.size,ha,hf,h1,h2,cur,hb,rfl,?_,hw,ht⟩
  have:=ht.len
  have hwd:D.widths es = n * es.length:=by
   clear ht h1 hb this hne hv
   induction es with
   | nil => simp [D.widths]
   | cons x xs ih => simp only [D.widths,hw x (by simp),ih (fun e he => hw e (by simp [he])),length_cons,Nat.mul_succ]; omega
  rw [hwd,length_take] at this;simp at this; omega
theorem Row.tree {w:World} {n g sz:Nat} {e:TypeId} {fr:List Nat} {es:List D} {c:Nat} (h:Row w n g e sz fr es) (hn:0 < n) (hc:(es.length <= c /\ sz = c * n) /\ c <= maxLen):TreeC w (.sl n es) (g :: fr) [.slice (some ⟨g,0,none⟩) es.length c]:=by
 obtain ⟨cur,h1,h2,h3,h4,h5⟩:=h;simp only [TreeC];exact ⟨_,c,rfl,.inr ⟨g,fr,cur,e,rfl,rfl,h1,hn,⟨hc.1.1,by rw [h2,hc.1.2]⟩,hc.2,h4,h5⟩⟩
theorem V.ds_set (es:List V) (j:Nat) (v:V):(V.ds es).set j v.d = V.ds (es.set j v):=by rw [V.ds_map,V.ds_map,map_set]
theorem V.tree {w:World} {k n e:Int} {s:L8} {kids:List V} {fp:List Nat} {cs:List Value} (h:TreeC w (V.d (.mk k n e s kids)) fp cs):∃ v,cs = [.int .i64 k,.int .i64 n,.int .i64 e,.string ⟨s.toArray⟩,v] /\ TreeC w (.sl 5 (V.ds kids)) fp [v]:=by
 simp only [V.d,TreeC,TreeCs,dI,dS,D.width] at h;obtain ⟨f1,r1,c1,d1,rfl,rfl,_,⟨rfl,rfl⟩,f2,r2,c2,d2,rfl,rfl,_,⟨rfl,rfl⟩,f3,r3,c3,d3,rfl,rfl,_,⟨rfl,rfl⟩,f4,r4,c4,d4,rfl,rfl,_,⟨rfl,rfl⟩,f5,r5,c5,d5,rfl,rfl,_,⟨a,c,rfl,h5⟩,rfl,rfl⟩:=h;refine ⟨_,rfl,?_⟩;simp only [TreeC,nil_append,append_nil];exact ⟨a,c,rfl,h5⟩
theorem V.tree_mk {w:World} {k n e:Int} {s:L8} {kids:List V} {fp:List Nat} {v:Value} (h:TreeC w (.sl 5 (V.ds kids)) fp [v]):TreeC w (V.d (.mk k n e s kids)) fp [.int .i64 k,.int .i64 n,.int .i64 e,.string ⟨s.toArray⟩,v]:=by
 simp only [V.d,TreeC,TreeCs,dI,dS,D.width];exact ⟨[],fp,[_],_,rfl,rfl,rfl,⟨rfl,rfl⟩,[],fp,[_],_,rfl,rfl,rfl,⟨rfl,rfl⟩,[],fp,[_],_,rfl,rfl,rfl,⟨rfl,rfl⟩,[],fp,[_],_,rfl,rfl,rfl,⟨rfl,rfl⟩,fp,[],[_],[],by simp,rfl,rfl,by simpa only [TreeC] using h,rfl,rfl⟩
end
section
theorem byte48 {r:Nat}:byteOf (48 + (r:Int)).toNat = UInt8.ofNat (48 + r):=by
 rw [<- cb_ofNat]; congr 1
theorem zbm (k:Nat) (w:World) (hk:k <= 9223372036854775807) (h0:0 < k) :
  Calls Tryz.prog 47 #[.int .i64 k] w fun e w' => e = .returned (.string ⟨(mt k).toArray⟩) /\ Below w.heap.size w w':=by
 obtain ⟨res,hres⟩:∃ res,Lib.decDigits k = res:=⟨_,rfl⟩;have hrl:res.length <= 20:=by rw [<- hres]; exact zbU (by omega)
 have HM:=Lib.hid (show mt k = 109 :: res by unfold mt; rw [hres]);have hk1:¬ (k:Int) <= 0:=by omega
 go_enter Tryz.func47,Tryz.ntmps47
 go_wp2
 go_loopw [0,3] (fun m o wr => ∃ (l:L8) (q:Nat),o = .string ⟨l.toArray⟩ /\ m = .int .i64 q /\ q <= 9223372036854775807 /\ decOn q l = res /\ Below w.heap.size w wr) (fun m _ _ => (intOf m).toNat)
 case atStart => exact ⟨[],k,rfl,rfl,hk,by unfold decOn; rw [if_neg (by omega),hres]; simp,Below.refl _ _⟩
 case round =>
  obtain ⟨l,q,rfl,rfl,hq,hd,hbel⟩:=hrel;by_cases hq0:q = 0
  ·subst hq0
   have hl:l = res:=by rw [<- hd]; rfl
   subst hl;clear hd;go_wp2;go_ret;exact ⟨by rw [HM.out]; rfl,hbel⟩
  ·have ll:l.length <= 20:=by
    have:=congrArg length hd; unfold decOn at this; rw [if_neg hq0,length_append] at this; omega
   have st:=zd8 hq0 l;rw [hd] at st;have ST:=Lib.hid st;clear hd st;have gq:(0:Int) < q:=by omega
   have hr:q % 10 < 10:=Nat.mod_lt _ (by decide);have e1:Int.tmod (q:Int) 10 = ((q % 10:Nat):Int):=by rw [Int.tmod_eq_emod_of_nonneg (by omega)]; rfl
   have e2:Int.tdiv (q:Int) 10 = ((q / 10:Nat):Int):=by rw [Int.tdiv_eq_ediv_of_nonneg (by omega)]; rfl
   have B:=byte48 (r:=q % 10);have hcv:=fun b c w => conv1 (P:=Tryz.prog) Tryz.underlying79 Tryz.underlying5 Tryz.underlying9 b c w
   generalize hrr:q % 10 = r at *;go_wp2;go_roundw
   case rel => exact ⟨_,q / 10,rfl,by first | rfl | go_num,by omega,by first | exact ST.out | (rw [B]; exact ST.out) | simpa using ST.out,by first | exact hbel | exact hbel.alloc hbel.size _⟩
   case measure => simp [intOf]; omega
end
section
theorem halfS_zero (k:Nat) (ls:List (L8)):halfS k ls 0 = ls:=by simp [halfS,mtS]
theorem halfS_all (k:Nat) (ls:List (L8)):halfS k ls ls.length = mtS k ls:=by simp [halfS]
theorem zfz (k:Nat) (ls:List (L8)) (j:Nat) (h:j <= ls.length):(halfS k ls j).length = ls.length:=by simp [halfS,zbw]; omega
theorem dS_set (ls:List (L8)) (j:Nat) (s:L8):(ls.map dS).set j (dS s) = (ls.set j s).map dS:=by rw [map_set]
theorem zdT (ls:List (L8)) (v:Value) (k:Nat) (fp:List Nat) (w:World) (h:TreeC w (dSs ls) fp [v]) (hn:fp.Nodup) (hl:ls.length <= 4294967296) (hk:0 < k) (hk2:k <= 4611686018427387904) :
  Calls Tryz.prog 43 #[v,.int .i64 k] w fun e w' => e = .returned (.int .i64 ((k + ls.length:Nat):Int)) /\ Keep (· ∈ fp) w w' /\ TreeC w' (dSs (mtS k ls)) fp [v]:=by
 by_cases hne:ls = []
 ·subst hne
  have h0:=h;obtain ⟨a,c,rfl,_⟩:=TreeC.row h;have H0:=Lib.hid h0;clear h h0
  go_enter Tryz.func43,Tryz.ntmps43
  go_wp2
  go_loopw [1,5] (fun kk i wr => kk = .int .i64 k /\ i = .int .i64 (0:Int) /\ wr = w) (fun _ _ _ => 0)
  case atStart => exact ⟨rfl,rfl,rfl⟩
  case round =>
   obtain ⟨rfl,rfl,rfl⟩:=hrel;go_wp2;go_ret;exact ⟨rfl,Keep.refl _ _,H0.out⟩
 ·obtain ⟨a,c,rfl,hg⟩:=TreeC.row h
  obtain ⟨g,fr,e,sz,rfl,rfl,hc1,hc2,hrow⟩:=hg (by simpa using hne);rw [length_map] at hc1 ⊢;clear hg h;have HC:=Lib.hid (show (ls.length <= c /\ sz = c * 1) /\ c <= maxLen from ⟨hc1,hc2⟩);clear hc1 hc2
  go_enter Tryz.func43,Tryz.ntmps43
  go_wp2
  go_loopw [1,5] (fun kk i wr => ∃ j:Nat,j <= ls.length /\ kk = .int .i64 ((k + j:Nat):Int) /\ i = .int .i64 j /\ Row wr 1 g e sz fr ((halfS k ls j).map dS) /\ Keep (· ∈ g :: fr) w wr) (fun _ i _ => ls.length - (intOf i).toNat)
  case atStart => exact ⟨0,Nat.zero_le _,rfl,rfl,by rw [halfS_zero]; exact hrow,Keep.refl _ _⟩
  case round =>
   obtain ⟨j,hj,rfl,rfl,hr,hkp⟩:=hrel;by_cases hlt:j < ls.length
   ·have hjl:j < ((halfS k ls j).map dS).length:=by rw [length_map,zfz _ _ _ hj]; exact hlt
    obtain ⟨fi,ci,_,_,hgf,ht,hci,hsz,hcell,hput⟩:=hr.at hn j hjl;simp only [getElem_map,dS,TreeC] at ht;obtain ⟨rfl,rfl⟩:=ht;have d0:=hcell 0 _ (by decide) rfl;have hfr:=hr.blk.free (j * 1);have hlt2:=hr.blk.lt;simp only [Nat.mul_one,Nat.add_zero] at d0 hfr hsz;have i1:(0:Int) <= j:=by omega
    have i2:(j:Int) < ls.length:=by omega
    have hkj:0 < k + j:=by omega
    have hkj2:k + j <= 9223372036854775806:=by omega
    have HMT:=Lib.hid (zbm (k + j) wr (by omega) hkj);have HFR:=Lib.hid hr.blk;have HSET:=Lib.hid (halfS_set k ls j hlt)
    go_wp2_with (go_at_call 47; refine HMT.out.mono ?_; rintro e1 w1 ⟨rfl,hb1⟩; have c1:w1.cell? ⟨g,j,none⟩ = some _:=(by rw [(zaP hb1).1 _ _ hlt2]; exact d0); have c2:w1.frozen? ⟨g,j,none⟩ = false:=(by rw [(zaP hb1).2 _ _ hlt2]; exact hfr))
    go_roundw
    case rel =>
     refine ⟨j + 1,by omega,by go_num,by go_num,?_,?_⟩
     ·rw [<- HSET.out,<- dS_set]
      refine hput _ _ [.string ⟨(mt (k + j)).toArray⟩] rfl ((HFR.out.below hb1).setCell _ _) ?_ ?_ ?_ (by simp [TreeC,dS])
      ·intro i hi
       obtain rfl:i = 0:=by omega
       simp only [Nat.mul_one,Nat.add_zero];simp [go_sem,c1]
      ·intro o ho
       rw [<- (zaP hb1).1 _ _ hlt2]
       have:o ≠ j:=by omega
       simp [go_sem]
      ·intro b hb _
       have hne:b ≠ g:=fun e => by subst e; exact (nodup_cons.1 hn).1 hb
       have hbl:b < wr.heap.size:=by obtain ⟨_,_,_,_,_,hts⟩:=hr; exact hts.lt b hb
       rw [Below.heap_setCell _ _ _ _ (by simpa using hne),hb1.block b hbl]
     ·exact (hkp.then hb1).setCell (.inl (by simp)) _
    case measure => simp [intOf]; omega
   ·obtain rfl:j = ls.length:=by omega
    rw [halfS_all] at hr;go_wp2;go_ret
    have:=Row.tree (c:=c) hr (by decide) (by simpa [zbw] using HC.out)
    rw [length_map,zbw] at this;exact ⟨rfl,hkp,this⟩
end
section
def setA (w:World) (g o:Nat) (q:Nat):World:=((w.setCell ⟨g,o,none⟩ (.int .i64 (q:Int))).setCell ⟨g,o + 1,none⟩ (.int .i64 ((q:Int) + 1))).setCell ⟨g,o + 2,none⟩ (.int .i64 ((q:Int) + 1 + 1))
theorem zcM {w:World} {g o q b:Nat} (h:b ≠ g):(setA w g o q).heap[b]? = w.heap[b]?:=by
 unfold setA; rw [Below.heap_setCell _ _ _ _ (by simpa using h),Below.heap_setCell _ _ _ _ (by simpa using h),Below.heap_setCell _ _ _ _ (by simpa using h)]
theorem zbl {w:World} {g o q:Nat}:(setA w g o q).heap.size = w.heap.size:=by simp [setA,World.setCell]
theorem zfA {w:World} {g o q p:Nat} (h0:∃ v,w.cell? ⟨g,o,none⟩ = some v) (h1:∃ v,w.cell? ⟨g,o + 1,none⟩ = some v) (h2:∃ v,w.cell? ⟨g,o + 2,none⟩ = some v) :
  (setA w g o q).cell? ⟨g,p,none⟩ = if p = o + 2 then some (.int .i64 ((q + 2:Nat):Int)) else if p = o + 1 then some (.int .i64 ((q + 1:Nat):Int)) else if p = o then some (.int .i64 (q:Nat)) else w.cell? ⟨g,p,none⟩:=by
 obtain ⟨v0,h0⟩:=h0; obtain ⟨v1,h1⟩:=h1; obtain ⟨v2,h2⟩:=h2
 unfold setA;rw [show ((q + 2:Nat):Int) = (q:Int) + 1 + 1 from rfl,show ((q + 1:Nat):Int) = (q:Int) + 1 from rfl];by_cases e2:p = o + 2
 ·subst e2; simp [go_sem,h2]
 by_cases e1:p = o + 1
 ·subst e1; simp [go_sem,h1]
 by_cases e0:p = o
 ·subst e0; simp [go_sem,h0]
 ·simp [go_sem,e0,e1,e2]
theorem zfB {S:Nat -> Prop} {w:World} {g o q:Nat} (h:S g):Keep S w (setA w g o q):=(((Keep.refl S w).setCell (p:=⟨g,o,none⟩) (.inl h) _).setCell (p:=⟨g,o + 1,none⟩) (.inl h) _).setCell (p:=⟨g,o + 2,none⟩) (.inl h) _
theorem RowV.round {w:World} {g sz:Nat} {e:TypeId} {fr:List Nat} {es:List V} (h:Row w 5 g e sz fr (V.ds es)) (hn:(g :: fr).Nodup) (j:Nat) (hj:j < es.length) (q:Nat):∃ fi kn nn en sn kids v,es[j] = .mk kn nn en sn kids /\ fi.Nodup /\
  w.cell? ⟨g,j * 5,none⟩ = some (.int .i64 kn) /\ w.cell? ⟨g,j * 5 + 1,none⟩ = some (.int .i64 nn) /\ w.cell? ⟨g,j * 5 + 2,none⟩ = some (.int .i64 en) /\ (∀ o,w.frozen? ⟨g,o,none⟩ = false) /\ g < w.heap.size /\
  ∀ w1,Below (setA w g (j * 5) q).heap.size (setA w g (j * 5) q) w1 -> w1.cell? ⟨g,j * 5 + 3,none⟩ = some (.string ⟨sn.toArray⟩) /\ w1.frozen? ⟨g,j * 5 + 3,none⟩ = false /\ w1.cell? ⟨g,j * 5 + 4,none⟩ = some v /\
   TreeC (w1.setCell ⟨g,j * 5 + 3,none⟩ (.string ⟨(mt (q + 3)).toArray⟩)) (.sl 5 (V.ds kids)) fi [v] /\
   ∀ wD,Keep (· ∈ fi) (w1.setCell ⟨g,j * 5 + 3,none⟩ (.string ⟨(mt (q + 3)).toArray⟩)) wD -> TreeC wD (.sl 5 (V.ds (V.marks (q + 4) kids))) fi [v] ->
    Row wD 5 g e sz fr (V.ds (es.set j (V.mark1 q es[j]))) /\ Keep (· ∈ g :: fr) w wD:=by
 obtain ⟨kn,nn,en,sn,kids,hes⟩:∃ kn nn en sn kids,es[j] = .mk kn nn en sn kids:=by cases es[j]; exact ⟨_,_,_,_,_,rfl⟩
 have hblk:=h.blk;have hj':j < (V.ds es).length:=by rw [V.ds_map,length_map]; exact hj
 obtain ⟨fi,ci,k1,k2,hgf,ht,hci,hsz,hcell,hput⟩:=h.at hn j hj';have hd:(V.ds es)[j] = es[j].d:=by simp [V.ds_map]
 rw [hd,hes] at ht;obtain ⟨v,rfl,htk⟩:=V.tree ht;clear ht;have ht:=htk;have hg:=hblk.lt;have hfl:∀ b ∈ fi,b < w.heap.size:=ht.lt;have hgr:g ∉ fr:=(nodup_cons.1 hn).1;have c0:=hcell 0 _ (by decide) rfl;have c1:=hcell 1 _ (by decide) rfl;have c2:=hcell 2 _ (by decide) rfl;have c3:=hcell 3 _ (by decide) rfl;have c4:=hcell 4 _ (by decide) rfl;rw [Nat.add_zero] at c0;have hlt:∀ b ∈ fr,b < w.heap.size:=by obtain ⟨_,_,_,_,_,hts⟩:=h; exact hts.lt
 refine ⟨fi,kn,nn,en,sn,kids,v,hes,k1,c0,c1,c2,hblk.free,hg,fun w1 hB => ?_⟩;have hAg:g < (setA w g (j * 5) q).heap.size:=by rw [zbl]; exact hg
 have hbA:Blk (setA w g (j * 5) q) g e sz:=((hblk.setCell _ _).setCell _ _).setCell _ _;have hb1:Blk w1 g e sz:=hbA.below hB;have hA:=@zfA w g (j * 5) q;have h1c:∀ p,w1.cell? ⟨g,p,none⟩ = (setA w g (j * 5) q).cell? ⟨g,p,none⟩:=fun p => (zaP hB).1 _ _ hAg
 have e3:w1.cell? ⟨g,j * 5 + 3,none⟩ = some (.string ⟨sn.toArray⟩):=by rw [h1c,hA ⟨_,c0⟩ ⟨_,c1⟩ ⟨_,c2⟩,if_neg (by omega),if_neg (by omega),if_neg (by omega),c3]
 have e4:w1.cell? ⟨g,j * 5 + 4,none⟩ = some v:=by rw [h1c,hA ⟨_,c0⟩ ⟨_,c1⟩ ⟨_,c2⟩,if_neg (by omega),if_neg (by omega),if_neg (by omega),c4]
 have hC:∀ b,b < w.heap.size -> b ≠ g -> (w1.setCell ⟨g,j * 5 + 3,none⟩ (.string ⟨(mt (q + 3)).toArray⟩)).heap[b]? = w.heap[b]?:=by
  intro b hb hbg;rw [Below.heap_setCell _ _ _ _ (by simpa using hbg),hB.block b (by rw [zbl]; exact hb),zcM hbg]
 refine ⟨e3,hb1.free _,e4,ht.frame fun b hb => hC b (hfl b hb) (fun e => hgf (e ▸ hb)),fun wD hK hT => ?_⟩
 have hKg:Keep (· ∈ g :: fr) w wD :=
  (((zfB (S:=(· ∈ g :: fr)) (by simp)).then hB).setCell (.inl (by simp)) _).trans (hK.mono fun b _ hb => by simp [k2 b hb])
 refine ⟨?_,hKg⟩;have hz1:=hB.size;rw [zbl] at hz1;have hgC:g < (w1.setCell ⟨g,j * 5 + 3,none⟩ (.string ⟨(mt (q + 3)).toArray⟩)).heap.size:=by simp [World.setCell]; omega
 have hDc:∀ p,wD.cell? ⟨g,p,none⟩ = (w1.setCell ⟨g,j * 5 + 3,none⟩ (.string ⟨(mt (q + 3)).toArray⟩)).cell? ⟨g,p,none⟩:=fun p => hK.cell hgC hgf
 have hCc:∀ p,p ≠ j * 5 + 3 -> (w1.setCell ⟨g,j * 5 + 3,none⟩ (.string ⟨(mt (q + 3)).toArray⟩)).cell? ⟨g,p,none⟩ = w1.cell? ⟨g,p,none⟩:=by
  intro p hp; simp [go_sem]
 rw [<- V.ds_set];refine hput wD _ [.int .i64 (q:Nat),.int .i64 ((q + 1:Nat):Int),.int .i64 ((q + 2:Nat):Int),.string ⟨(mt (q + 3)).toArray⟩,v] (V.width _) ((hb1.setCell _ _).keep hK hgf) ?_ ?_ ?_ (by rw [hes]; exact V.tree_mk hT)
 ·intro i hi
  rw [hDc]
  match i,hi with
  | 0,_ => rw [hCc _ (by omega),h1c,hA ⟨_,c0⟩ ⟨_,c1⟩ ⟨_,c2⟩,if_neg (by omega),if_neg (by omega),if_pos (by omega)]; rfl
  | 1,_ => rw [hCc _ (by omega),h1c,hA ⟨_,c0⟩ ⟨_,c1⟩ ⟨_,c2⟩,if_neg (by omega),if_pos (by omega)]; rfl
  | 2,_ => rw [hCc _ (by omega),h1c,hA ⟨_,c0⟩ ⟨_,c1⟩ ⟨_,c2⟩,if_pos (by omega)]; rfl
  | 3,_ => simp [go_sem,e3]
  | 4,_ => rw [hCc _ (by omega),e4]; rfl
 ·intro o ho
  rw [hDc,hCc _ (by omega),h1c,hA ⟨_,c0⟩ ⟨_,c1⟩ ⟨_,c2⟩,if_neg (by omega),if_neg (by omega),if_neg (by omega)]
 ·intro b hb hbi
  have hne:b ≠ g:=fun e => hgr (e ▸ hb)
  rw [hK.block b (by simp [World.setCell]; have:=hlt b hb; omega) hbi,hC b (hlt b hb) hne]
end
section
theorem V.half_zero (k:Nat) (ls:List V):V.half k ls 0 = ls:=by simp [V.half,V.marks]
theorem V.half_all (k:Nat) (ls:List V):V.half k ls ls.length = V.marks k ls:=by simp [V.half]
theorem V.half_length (k:Nat) (ls:List V) (j:Nat) (h:j <= ls.length):(V.half k ls j).length = ls.length:=by simp [V.half,V.marks_length]; omega
theorem V.half_at (k:Nat) (ls:List V) (j:Nat) (h:j < ls.length):(V.half k ls j)[j]'(by rw [V.half_length _ _ _ (by omega)]; exact h) = ls[j]:=half_get h (by rw [V.marks_length,length_take]; omega)
theorem V.cnts_get:∀ (vs:List V) i (h:i < vs.length),V.cnts (vs.take i) + V.cnt vs[i] <= V.cnts vs:=fun vs i h => by
 have:=V.cnts_take vs i h; have:=V.cnts_le vs (i + 1); omega
def VMk (n:Nat):Prop:=∀ (vs:List V) (v:Value) (k:Nat) (fp:List Nat) (w:World),V.nodess vs <= n -> TreeC w (.sl 5 (V.ds vs)) fp [v] -> fp.Nodup -> vs.length + V.bulks vs <= 4294967295 -> 0 < k -> k + V.cnts vs <= 4611686018427387904 ->
 Calls Tryz.prog 42 #[v,.int .i64 k] w fun e w' => e = .returned (.int .i64 ((k + V.cnts vs:Nat):Int)) /\ Keep (· ∈ fp) w w' /\ TreeC w' (.sl 5 (V.ds (V.marks k vs))) fp [v]
theorem zfC (v:Value) (k:Nat) (fp:List Nat) (w:World) (h:TreeC w (.sl 5 (V.ds [])) fp [v]) :
  Calls Tryz.prog 42 #[v,.int .i64 k] w fun e w' => e = .returned (.int .i64 ((k + V.cnts []:Nat):Int)) /\ Keep (· ∈ fp) w w' /\ TreeC w' (.sl 5 (V.ds (V.marks k []))) fp [v]:=by
 have h0:=h;obtain ⟨a,c,rfl,_⟩:=TreeC.row h;have H0:=Lib.hid h0;clear h h0
 go_enter Tryz.func42,Tryz.ntmps42
 go_wp2
 go_loopw [1,5] (fun kk i wr => kk = .int .i64 k /\ i = .int .i64 (0:Int) /\ wr = w) (fun _ _ _ => 0)
 case atStart => exact ⟨rfl,rfl,rfl⟩
 case round =>
  obtain ⟨rfl,rfl,rfl⟩:=hrel;go_wp2;go_ret;exact ⟨rfl,Keep.refl _ _,H0.out⟩
theorem VMk_of {n:Nat} (hA:VMk n):VMk (n + 1):=by
 intro vs v k fp w hnn h hn hl hk hk2;by_cases hne:vs = []
 ·subst hne
  exact zfC v k fp w h
 ·obtain ⟨a,c,rfl,hg⟩:=TreeC.row h
  obtain ⟨g,fr,e,sz,rfl,rfl,hc1,hc2,hrow⟩:=hg (by rw [V.ds_map]; simpa using hne);have hvl:(V.ds vs).length = vs.length:=by rw [V.ds_map,length_map]
  rw [hvl] at hc1 ⊢;clear hg h;have HC:=Lib.hid (show (vs.length <= c /\ sz = c * 5) /\ c <= maxLen from ⟨hc1,hc2⟩);clear hc1 hc2
  go_enter Tryz.func42,Tryz.ntmps42
  go_wp2
  go_loopw [1,5] (fun kk i wr => ∃ j q:Nat,j <= vs.length /\ q = k + V.cnts (vs.take j) /\ kk = .int .i64 q /\ i = .int .i64 j /\ Row wr 5 g e sz fr (V.ds (V.half k vs j)) /\ Keep (· ∈ g :: fr) w wr) (fun _ i _ => vs.length - (intOf i).toNat)
  case atStart => exact ⟨0,k,Nat.zero_le _,by simp [V.cnts],rfl,rfl,by rw [V.half_zero]; exact hrow,Keep.refl _ _⟩
  case round =>
   obtain ⟨j,q,hj,hq,rfl,rfl,hr,hkp⟩:=hrel;have HQ:=Lib.hid hq;by_cases hlt:j < vs.length
   ·have hqc:=V.cnts_get vs j hlt
    have hq1:0 < q:=by omega
    have hq2:q + V.cnt vs[j] <= 4611686018427387904:=by omega
    have HQ2:=Lib.hid (show q + V.cnt vs[j] = k + V.cnts (vs.take (j + 1)) by rw [V.cnts_take vs j hlt]; omega);clear hq hqc;have hjl:j < (V.half k vs j).length:=by rw [V.half_length _ _ _ hj]; exact hlt
    obtain ⟨fi,kn,nn,en,sn,kids,u,hes,hnf,d0,d1,d2,hfr,hgl,hrest⟩:=RowV.round hr hn j hjl q;have hes':vs[j] = .mk kn nn en sn kids:=by rw [<- V.half_at k vs j hlt]; exact hes
    have hnj:=V.nodes_get vs j hlt;have hbj:=V.bulks_snoc vs j hlt;have hbt:=V.bulks_take vs (j + 1);have hnk:V.nodess kids <= n:=by rw [hes'] at hnj; simp only [V.nodes] at hnj; omega
    have hbk:kids.length + V.bulks kids <= 4294967295:=by rw [hes'] at hbj; simp only [V.bulk] at hbj; omega
    have hck:V.cnt vs[j] = 4 + V.cnts kids:=by rw [hes']; rfl
    have hqk:q + 4 + V.cnts kids <= 4611686018427387904:=by omega
    have HQ3:=Lib.hid (show q + 4 + V.cnts kids = k + V.cnts (vs.take (j + 1)) by rw [<- HQ2.out]; omega);have HSET:=Lib.hid (show (V.half k vs j).set j (V.mark1 q ((V.half k vs j)[j]'hjl)) = V.half k vs (j + 1) by rw [V.half_at k vs j hlt,HQ.out]; exact V.half_set k vs j hlt);have HR:=Lib.hid hrest;have HMT:=fun W => Lib.hid (zbm (q + 3) W (by omega) (by omega))
    have f0:=hfr (j * 5);have f1:=hfr (j * 5 + 1);have f2:=hfr (j * 5 + 2);have i1:(0:Int) <= j:=by omega
    have i2:(j:Int) < vs.length:=by omega
    have HHA:=fun W h1 => Lib.hid (hA kids u (q + 4) fi W hnk h1 hnf hbk (by omega) hqk)
    have HKP:=Lib.hid hkp;clear hes hes' hnj hbj hbt hnk hbk hck hrest hr hfr hnf hA hrow hkp
    go_wp2_with (first | (go_at_call 47; refine (HMT _).out.mono ?_; rintro e1 w1 ⟨rfl,hb1⟩; obtain ⟨c3,f3,c4,htk,hfin⟩:=HR.out w1 hb1) | (go_at_call 42; refine (HHA _ htk).out.mono ?_; rintro e1 w2 ⟨rfl,hk2',ht2⟩; obtain ⟨hrow2,hkp2⟩:=hfin w2 hk2' ht2))
    go_roundw
    case rel => exact ⟨j + 1,q + 4 + V.cnts kids,by omega,HQ3.out,by go_num,by go_num,by rw [<- HSET.out]; exact hrow2,HKP.out.trans hkp2⟩
    case measure => simp [intOf]; omega
   ·obtain rfl:j = vs.length:=by omega
    rw [V.half_all] at hr;rw [take_length] at HQ;clear hq;go_wp2;go_ret;have hml:(V.ds (V.marks k vs)).length = vs.length:=by rw [V.ds_map,length_map,V.marks_length]
    have:=Row.tree (c:=c) hr (by decide) (by rw [hml]; exact HC.out)
    rw [hml] at this;exact ⟨by rw [<- HQ.out]; rfl,hkp,this⟩
theorem zgp:∀ n,VMk n
 | 0 => by
  intro vs v k fp w hnn h hn hl hk hk2
  have:vs = []:=by
   cases vs with
   | nil => rfl
   | cons x r => have:=x.nodes_pos; simp only [V.nodess] at hnn; omega
  subst this
  exact zfC v k fp w h
 | n + 1 => VMk_of (zgp n)
def VHd (n:Nat):Prop:=∀ (vs:List V) (v:Value) (k:Nat) (w:World),V.nodess vs <= n -> Rd w (.sl 5 (V.ds (V.marks k vs))) [v] -> vs.length + V.bulks vs <= 4294967295 -> 0 < k -> k + V.cnts vs <= 4611686018427387904 ->
 Calls Tryz.prog 44 #[v,.int .i64 k] w fun e w' => e = .returned (.int .i64 ((k + V.cnts vs:Nat):Int)) /\ Below w.heap.size w w'
theorem V.marks_get:∀ (k:Nat) (vs:List V) (j:Nat) (h:j < vs.length),(V.marks k vs)[j]'(by rw [V.marks_length]; exact h) = V.mark1 (k + V.cnts (vs.take j)) vs[j]
 | k,v :: vs,0,_ => by simp [V.marks,V.cnts]
 | k,v :: vs,j + 1,h => by simp only [V.marks,getElem_cons_succ,take_succ_cons,V.cnts]; rw [V.marks_get (k + V.cnt v) vs j (by simpa using h),Nat.add_assoc]
theorem VHd_of {n:Nat} (hA:VHd n):VHd (n + 1):=by
 intro vs v k w hnn h hl hk hk2;obtain ⟨a,c,rfl,hg⟩:=h.values;rw [V.marks_length];clear h
 go_enter Tryz.func44,Tryz.ntmps44
 go_wp2
 go_loopw [1,5] (fun kk i wr => ∃ j q:Nat,j <= vs.length /\ q = k + V.cnts (vs.take j) /\ kk = .int .i64 q /\ i = .int .i64 j /\ Below w.heap.size w wr) (fun _ i _ => vs.length - (intOf i).toNat)
 case atStart => exact ⟨0,k,Nat.zero_le _,by simp [V.cnts],rfl,rfl,Below.refl _ _⟩
 case round =>
  obtain ⟨j,q,hj,hq,rfl,rfl,hbel⟩:=hrel;have HQ:=Lib.hid hq;by_cases hlt:j < vs.length
  ·have hqc:=V.cnts_get vs j hlt
   have hq1:0 < q:=by omega
   have hq2:q + V.cnt vs[j] <= 4611686018427387904:=by omega
   have HQ2:=Lib.hid (show q + V.cnt vs[j] = k + V.cnts (vs.take (j + 1)) by rw [V.cnts_take vs j hlt]; omega);obtain ⟨_,_,b,o,rfl,hb,hcell⟩:=hg (by intro e; have:=congrArg length e; simp [V.marks_length] at this; subst this; simp at hlt);obtain ⟨v0,v1,v2,v3,v4,hr,d0,d1,d2,d3,d4⟩:=hcell j (by rw [V.marks_length]; exact hlt);rw [V.marks_get k vs j hlt,<- hq] at hr;obtain ⟨kn,nn,en,sn,kids,hes'⟩:∃ kn nn en sn kids,vs[j] = .mk kn nn en sn kids:=by cases vs[j]; exact ⟨_,_,_,_,_,rfl⟩
   rw [hes'] at hr;obtain ⟨k',n',e',s',kids',u,hm,hcs,hrk⟩:=V.lay hr;simp only [V.mark1,V.mk.injEq] at hm;obtain ⟨rfl,rfl,rfl,rfl,rfl⟩:=hm;simp only [cons.injEq,and_true] at hcs;obtain ⟨rfl,rfl,rfl,rfl,rfl⟩:=hcs;have hnj:=V.nodes_get vs j hlt;have hbj:=V.bulks_snoc vs j hlt;have hbt:=V.bulks_take vs (j + 1);have hnk:V.nodess kids <= n:=by rw [hes'] at hnj; simp only [V.nodes] at hnj; omega
   have hbk:kids.length + V.bulks kids <= 4294967295:=by rw [hes'] at hbj; simp only [V.bulk] at hbj; omega
   have hck:V.cnt vs[j] = 4 + V.cnts kids:=by rw [hes']; rfl
   have hqk:q + 4 + V.cnts kids <= 4611686018427387904:=by omega
   have HQ3:=Lib.hid (show q + 4 + V.cnts kids = k + V.cnts (vs.take (j + 1)) by rw [<- HQ2.out]; omega);have hbc:=(zaP hbel).1;rw [<- hbc _ _ hb] at d0 d1 d2 d3 d4;have hb':b < wr.heap.size:=Nat.lt_of_lt_of_le hb hbel.size;have hwr:=Below.refl wr.heap.size wr;have KB:Hid (∀ W,Below wr.heap.size wr W -> W.cell? ⟨b,o + j * 5 + 3,none⟩ = some (.string ⟨(mt (q + 3)).toArray⟩) /\ W.cell? ⟨b,o + j * 5 + 4,none⟩ = some v4):=fun W hW => by rw [(zaP hW).1 _ _ hb',(zaP hW).1 _ _ hb']; exact ⟨d3,d4⟩
   have i1:(0:Int) <= j:=by omega
   have i2:(j:Int) < vs.length:=by omega
   have HMT:=fun W => Lib.hid (show Calls Tryz.prog 47 #[.int .i64 ((q:Int) + 1 + 1 + 1)] W _ from zbm (q + 3) W (by omega) (by omega))
   have HHA:=fun W (hB:Below wr.heap.size wr W) => Lib.hid (hA kids v4 (q + 4) W hnk ((hrk.below hbel).below hB) hbk (by omega) hqk)
   clear hes' hnj hbj hbt hnk hbk hck hA hrk hcell hg hbc hq hqc HQ2
   go_wp2_with fail
   go_region_held3 (fun W => W.cell? ⟨b,o + j * 5 + 3,none⟩ = some (.string ⟨(mt (q + 3)).toArray⟩) /\ W.cell? ⟨b,o + j * 5 + 4,none⟩ = some v4) (first | exact KB.out _ hwr | exact KB.out _ hwr.drew)
    ((go_at_call 47; with_reducible refine (HMT _).out.mono ?_; rintro e1 w1 ⟨rfl,hb1⟩; replace hwr:=zag (by first | exact hwr | exact hwr.drew) hb1 lR))
   obtain ⟨p3,p4⟩:=KB.out _ hwr
   go_wp2_with (go_at_call 44; refine (HHA _ hwr).out.mono ?_; rintro e1 w2 ⟨rfl,hb2⟩)
   go_roundw
   case rel => exact ⟨j + 1,q + 4 + V.cnts kids,by omega,HQ3.out,by go_num,by go_num,zag hbel (zag hwr hb2 lR) lR⟩
   case measure => simp [intOf]; omega
  ·obtain rfl:j = vs.length:=by omega
   rw [take_length] at HQ;clear hq;go_wp2;go_ret;exact ⟨by rw [<- HQ.out]; rfl,hbel⟩
theorem VHd_all:∀ n,VHd n
 | 0 => by
  intro vs v k w hnn h hl hk hk2
  have:vs = []:=by
   cases vs with
   | nil => rfl
   | cons x r => have:=x.nodes_pos; simp only [V.nodess] at hnn; omega
  subst this;obtain ⟨a,c,rfl,_⟩:=h.values;clear h;rw [V.marks_length]
  go_enter Tryz.func44,Tryz.ntmps44
  go_wp2
  go_loopw [1,5] (fun kk i wr => kk = .int .i64 k /\ i = .int .i64 (0:Int) /\ wr = w) (fun _ _ _ => 0)
  case atStart => exact ⟨rfl,rfl,rfl⟩
  case round =>
   obtain ⟨rfl,rfl,rfl⟩:=hrel;go_wp2;go_ret
   exact ⟨rfl,Below.refl _ _⟩
 | n + 1 => VHd_of (VHd_all n)
def V.top (k:Nat):V -> V | .mk a b c s kids => .mk a b c s (V.marks k kids)
theorem zeI (x:V) (cs:List Value) (k:Nat) (fp:List Nat) (w:World) (h:TreeC w x.d fp cs) (hn:fp.Nodup) (hbk:x.bulk <= 4294967295) (hk:0 < k) (hk2:k + V.cnts x.kids <= 4611686018427387904) :
  Calls Tryz.prog 13 #[.agg cs.toArray,.int .i64 k] w fun e w' => e = .returned (.int .i64 ((k + V.cnts x.kids:Nat):Int)) /\ Keep (· ∈ fp) w w' /\ TreeC w' (x.top k).d fp cs:=by
 obtain ⟨a,b,c,s,kids⟩:=x;obtain ⟨v,rfl,ht⟩:=V.tree h;obtain ⟨ad,cc,rfl,_⟩:=TreeC.row ht;simp only [V.kids] at hk2 ⊢;have hl:(V.ds kids).length = kids.length:=by rw [V.ds_map,length_map]
 rw [hl] at ht ⊢;have hal:Below w.heap.size w (w.alloc (.cells #[.int .i64 a,.int .i64 b,.int .i64 c,.string ⟨s.toArray⟩,.slice ad kids.length cc] 32)):=(Below.refl _ _).alloc lR _;have HM:=Lib.hid (zgp (V.nodess kids) kids _ k fp _ lR (ht.frame fun b hb => hal.block b (ht.lt b hb)) hn (by simp only [V.bulk] at hbk; omega) hk hk2);clear h ht
 go_enter Tryz.func13,Tryz.ntmps13
 go_wp2_with (go_at_call 42; refine HM.out.mono ?_; rintro e1 w2 ⟨rfl,hk2',ht2⟩)
 go_ret;exact ⟨rfl,(Keep.of_below hal).trans hk2',V.tree_mk ht2⟩
theorem zeJ (x:V) (cs:List Value) (k:Nat) (w:World) (h:Rd w (x.top k).d cs) (hbk:x.bulk <= 4294967295) (hk:0 < k) (hk2:k + V.cnts x.kids <= 4611686018427387904) :
  Calls Tryz.prog 15 #[.agg cs.toArray,.int .i64 k] w fun e w' => e = .returned (.int .i64 ((k + V.cnts x.kids:Nat):Int)) /\ Below w.heap.size w w':=by
 obtain ⟨a,b,c,s,kids⟩:=x;obtain ⟨k',n',e',s',kids',v,hm,rfl,hrk⟩:=V.lay h;simp only [V.top,V.mk.injEq] at hm;obtain ⟨rfl,rfl,rfl,rfl,rfl⟩:=hm;obtain ⟨ad,cc,rfl⟩:=Rd.sl_form hrk;simp only [V.kids] at hk2 ⊢;have hl:(V.ds (V.marks k kids)).length = kids.length:=by rw [V.ds_map,length_map,V.marks_length]
 rw [hl] at hrk ⊢;have hal:Below w.heap.size w (w.alloc (.cells #[.int .i64 a,.int .i64 b,.int .i64 c,.string ⟨s.toArray⟩,.slice ad kids.length cc] 32)):=(Below.refl _ _).alloc lR _;have HM:=Lib.hid (VHd_all (V.nodess kids) kids _ k _ lR (hrk.below hal) (by simp only [V.bulk] at hbk; omega) hk hk2);have hq:¬ ((k + V.cnts kids:Nat):Int) < 0:=by omega
 obtain ⟨q,hqq⟩:∃ q,q = k + V.cnts kids:=⟨_,rfl⟩;rw [<- hqq] at HM hq ⊢;clear h hrk hqq
 go_enter Tryz.func15,Tryz.ntmps15
 go_wp2_with (go_at_call 44; refine HM.out.mono ?_; rintro e1 w2 ⟨rfl,hb2⟩)
 go_ret;exact ⟨rfl,zag hal hb2 lR⟩
end
section
section
variable {T:World -> Prop} {hT:Low ngl T} {w:World} {hn:ngl <= w.heap.size}
theorem szV_fn {x:V} {cs:List Value} (hr:Rd w x.d cs) (hw:x.wf) {l:Int} (hl:0 <= l /\ l <= 1048576):FnV (envW T hT w hn) 5 [.ag (rawL cs),.d (pI l)] (.d (pI (take' x.bulk l))):=by
 refine FnV.old rfl fun W C vs _ _ hS hlen hv => ?_
 match vs,hlen with
 | [a,b],_ =>
  have ha:=zeo (hv 0 _ _ rfl rfl);have hb:=zep (hv 1 _ _ rfl rfl)
  subst ha; subst hb
  exact zgm x cs l W (Stay.rd hS hr) hw hl
theorem toV_fn {x:V} {cs:List Value} (hr:Rd w x.d cs) (hb:x.bulk <= 1048576):FnO (envW T hT w hn) 8 [.ag (rawL cs)] (.ag x.d.pc):=by
 refine FnO.old (V.wfd x) fun W C vs _ _ hS hlen hv => ?_
 match vs,hlen with
 | [a],_ =>
  have ha:=zeo (hv 0 _ _ rfl rfl);subst ha;exact zgn x cs W (Stay.rd hS hr) hb
theorem eqV_fn {E:Env} (hP:E.P = Tryz.prog) (x y:V) (hx:x.bulk <= 1048576) (hy:y.bulk <= 1048576):FnV E 11 [.ag x.d.pc,.ag y.d.pc] (.d (pB (decide (x = y)))):=by
 refine FnV.old rfl fun W C vs hF _ _ hlen hv => ?_
 match vs,hlen with
 | [a,b],_ =>
  obtain ⟨cs,rfl,h1⟩:=vRd hF (V.wfd x) (hv 0 _ _ rfl rfl);obtain ⟨ds,rfl,h2⟩:=vRd hF (V.wfd y) (hv 1 _ _ rfl rfl);rw [hP]; exact zgo x y cs ds W h1 h2 hx hy
theorem markV_fn {E:Env} (hP:E.P = Tryz.prog) (x:V) (k:Nat) (hb:x.bulk <= 4294967295) (hk:0 < k) (hk2:k + V.cnts x.kids <= 4611686018427387904):MarkC E 13 x.d (x.top k).d k ((k + V.cnts x.kids:Nat):Int):=by
 intro W fp vs h hn;rw [hP]; exact zeI x vs k fp W h hn hb hk hk2
theorem heldV_fn {E:Env} (hP:E.P = Tryz.prog) (x:V) (k:Nat) (hb:x.bulk <= 4294967295) (hk:0 < k) (hk2:k + V.cnts x.kids <= 4611686018427387904):FnV E 15 [.ag (x.top k).d.pc,.d (pI k)] (.d (pI ((k + V.cnts x.kids:Nat):Int))):=by
 refine FnV.old rfl fun W C vs hF _ _ hlen hv => ?_
 match vs,hlen with
 | [a,b],_ =>
  obtain ⟨cs,rfl,h1⟩:=vRd hF (V.wfd _) (hv 0 _ _ rfl rfl);have hb:=zep (hv 1 _ _ rfl rfl);subst hb;rw [hP]; exact zeJ x cs k W h1 (by assumption) hk hk2
end
mutual
theorem V.cnt_b4:∀ x:V,V.cnt x <= 5 + 5 * x.bulk
 | .mk _ _ _ s kids => by have:=V.cnts_b4 kids; simp only [V.cnt,V.bulk]; omega
theorem V.cnts_b4:∀ xs:List V,V.cnts xs <= 5 * (xs.length + V.bulks xs)
 | [] => by simp [V.cnts]
 | x :: xs => by have:=V.cnt_b4 x; have:=V.cnts_b4 xs; simp only [V.cnts,V.bulks,length_cons]; omega
end
theorem V.kcnt_le (x:V):V.cnts x.kids <= 5 * x.bulk:=by
 obtain ⟨k,n,e,s,kids⟩:=x
 have:=V.cnts_b4 kids; simp only [V.bulk,V.kids]; omega
end
section
theorem zcN:Tryz.prog.cellsOf 24 = 5:=by kernel_rfl
theorem zfD:Tryz.prog.cellsOf 9 = 1:=by kernel_rfl
theorem zfE:Tryz.prog.cellsOf 3 = 1:=by kernel_rfl
theorem zgq:Tryz.prog.cellsOf 22 = 1:=by kernel_rfl
theorem V.wfs_of:∀ {xs:List V},(∀ x ∈ xs,x.wf) -> V.wfs xs
 | [],_ => trivial
 | x :: xs,h => ⟨h x (by simp),V.wfs_of fun y hy => h y (by simp [hy])⟩
theorem zed {H:Type} {enc:TypeId × Value -> H} {w:World} {base:Nat} {spare:Nat -> Bool} {held:Bool}:∀ (fuel:Nat) (cs:List Value) (y:DataW H × List MemPlace),
  DataW.trod enc Tryz.prog w base spare held fuel 24 cs = some y -> ∃ sh:V,Rd w sh.d cs /\ sh.wf:=by
 intro fuel
 induction fuel using Nat.strongRecOn with
 | _ fuel ih =>
  intro cs y h;obtain ⟨xs,n,rfl,_,hlen,hxl,hx⟩:=DataW.trod_struct Tryz.underlying24 h;rw [zcN] at hlen
  match cs,hlen with
  | [v0,v1,v2,v3,v4],_ =>
   have hs:xs.length = 5:=hxl
   match xs,hs with
   | [y0,y1,y2,y3,y4],_ =>
    have h0:DataW.trod enc Tryz.prog w base spare held n 3 (take (Tryz.prog.cellsOf 3) (drop 0 [v0,v1,v2,v3,v4])) = some y0:=hx 0 _ rfl;have h1:DataW.trod enc Tryz.prog w base spare held n 3 (take (Tryz.prog.cellsOf 3) (drop 1 [v0,v1,v2,v3,v4])) = some y1:=hx 1 _ rfl;have h2:DataW.trod enc Tryz.prog w base spare held n 3 (take (Tryz.prog.cellsOf 3) (drop 2 [v0,v1,v2,v3,v4])) = some y2:=hx 2 _ rfl;have h3:DataW.trod enc Tryz.prog w base spare held n 9 (take (Tryz.prog.cellsOf 9) (drop 3 [v0,v1,v2,v3,v4])) = some y3:=hx 3 _ rfl;have h4:DataW.trod enc Tryz.prog w base spare held n 22 (take (Tryz.prog.cellsOf 22) (drop 4 [v0,v1,v2,v3,v4])) = some y4:=hx 4 _ rfl;simp only [zfE,zfD,zgq,drop,take] at h0 h1 h2 h3 h4;obtain ⟨k,e0,w0⟩:=zdc Tryz.underlying3 h0;obtain ⟨m,e1,w1⟩:=zdc Tryz.underlying3 h1;obtain ⟨ee,e2,w2⟩:=zdc Tryz.underlying3 h2
    obtain ⟨s,e3,w3⟩:=trod_str Tryz.underlying9 h3;obtain ⟨kids,z4,e4,r4,w4,l4⟩:=zgb (f:=V.d) (ok:=V.wf) Tryz.underlying22 zcN (by decide) V.width (fun j cs y hj hh => ih j (by omega) cs y hh) h4;simp only [cons.injEq,and_true] at e0 e1 e2 e3 e4
    subst e0 e1 e2 e3 e4
    refine ⟨.mk k m ee s kids,?_,w0,w1,w2,w3,by unfold maxLen at l4; omega,V.wfs_of w4⟩;rw [<- V.ds_map] at r4;simp only [Rd,V.d,RepC,RepCs,dI,dS];exact ⟨_,_,rfl,rfl,rfl,_,_,rfl,rfl,rfl,_,_,rfl,rfl,rfl,_,_,rfl,rfl,rfl,[v4],[],rfl,rfl,by simpa only [Rd,RepC] using r4,rfl⟩
end
section
def m_l_szOp:M:=so [qo 2 (.box 0),qo 4 (.mv (ci 0))] (so [qF 5 1 2,ql 6 1 5,qm 7 1,qc 8 23 [6,7] 1,qm 1 8] (.seq (so [qm 9 1,qo 10 (.bin .lss false 9 (ci 0))] (.cond 10 (so [qo 4 (.mv (ci (-1)))] .ret) .skip)) (so [qF 11 2 2,qL 12 5 11,qm 13 1,qc 14 5 [12,13] 1,qm 1 14] (.seq (so [qm 15 1,qo 16 (.bin .lss false 15 (ci 0))] (.cond 16 (so [qo 4 (.mv (ci (-1)))] .ret) .skip)) (so [qm 17 1,qm 4 17] .ret)))))
theorem lk_l_szOp:look Tryz.prog 6 = some (18,m_l_szOp,[.tm 4]):=by kernel_rfl
def m_l_toOp:M:=so [qo 1 (.box 0),⟨some 2,.zero [.int .i64 0,.slice none 0 0,.int .i64 0,.int .i64 0,.int .i64 0,.string ⟨[].toArray⟩,.slice none 0 0],none,[]⟩] (so [⟨some 3,.zero [.int .i64 0,.slice none 0 0,.int .i64 0,.int .i64 0,.int .i64 0,.string ⟨[].toArray⟩,.slice none 0 0],none,[]⟩] (so [qF 4 0 1,ql 5 1 4,qF 6 0 3,qS 1 6 5] (so [qF 7 1 1,ql 8 1 7,qc 9 32 [8] 1,qF 10 1 3,qS 1 10 9] (so [qF 11 2 1,qL 12 5 11,qc 13 8 [12] 1,qF 14 2 3,qS 5 14 13] (so [qL 15 7 3,qS 7 2 15] .ret)))))
theorem lk_l_toOp:look Tryz.prog 9 = some (16,m_l_toOp,[.cell true 7 2]):=by kernel_rfl
def m_l_eqOp:M:=so [qo 2 (.box 0),qo 3 (.box 1),qo 4 (.mv (cB false))] (.seq (so [qF 5 0 2,ql 6 1 5,qF 7 0 3,ql 8 1 7,qo 9 (.bin .neq false 6 8)] (.cond 9 (so [qo 4 (.mv (cB false))] .ret) .skip)) (.seq (so [qF 10 1 2,ql 11 1 10,qF 12 1 3,ql 13 1 12,qc 14 41 [11,13] 1,qo 15 (.not 14)] (.cond 15 (so [qo 4 (.mv (cB false))] .ret) .skip)) (.seq (so [qF 16 2 2,qL 17 5 16,qF 18 2 3,qL 19 5 18,qc 20 11 [17,19] 1,qo 21 (.not 20)] (.cond 21 (so [qo 4 (.mv (cB false))] .ret) .skip)) (so [qo 4 (.mv (cB true))] .ret))))
theorem lk_l_eqOp:look Tryz.prog 12 = some (22,m_l_eqOp,[.tm 4]):=by kernel_rfl
end
section
attribute [local irreducible] po mw pt
theorem take'_neg {t:Nat} {l:Int} (h:take' t l < 0) (_hl:0 <= l):take' t l = -1:=by
 unfold take' at h ⊢;by_cases h2:l < (t:Int)
 ·rw [if_pos h2]
 ·rw [if_neg h2] at h; omega
def OpV.d (o:OpV):D:=.agg [dI o.k,dSs o.st,o.x.d]
def OpV.wf (o:OpV):Prop:=i64ok o.k /\ (∀ s ∈ o.st,strok s) /\ o.st.length <= maxLen /\ o.x.wf
def OpV.bulk (o:OpV):Nat:=o.st.length + ssBulk o.st + o.x.bulk
theorem OpV.width (o:OpV):D.width o.d = 7:=by simp [OpV.d,D.width,D.widths,dI,dSs,V.width]
theorem OpV.pc_eq (o:OpV):o.d.pc = opC o:=by
 simp only [OpV.d,D.pc,D.pcs,dSs_pc,V.pc_eq,dI,append_nil];rfl
theorem OpV.wfd (o:OpV):o.d.wf:=by
 simp only [OpV.d,D.wf,D.wfs];exact ⟨rfl,dSs_wf _,V.wfd _,trivial⟩
theorem OpV.lay {w:World} {o:OpV} {cs:List Value} (h:Rd w o.d cs):∃ v1 k n e s v2,cs = [.int .i64 o.k,v1,.int .i64 k,.int .i64 n,.int .i64 e,.string ⟨s⟩,v2] /\ Rd w (dSs o.st) [v1] /\ Rd w o.x.d [.int .i64 k,.int .i64 n,.int .i64 e,.string ⟨s⟩,v2]:=by
 simp only [Rd,OpV.d,RepC,RepCs,dI,dSs,D.width] at h;obtain ⟨c1,r1,rfl,_,rfl,c2,r2,rfl,_,⟨a2,n2,rfl,h2⟩,c3,r3,rfl,_,h3,rfl⟩:=h;have h3':Rd w o.x.d c3:=h3;obtain ⟨k,n,e,s,kids,v1,hx,rfl,hk⟩:=V.lay h3';refine ⟨_,k,n,e,s.toArray,v1,rfl,?_,h3'⟩;simp only [Rd,dSs,RepC]; exact ⟨a2,n2,rfl,h2⟩
theorem OpV.tree {w:World} {o:OpV} {fp:List Nat} {cs:List Value} (h:TreeC w o.d fp cs):∃ v cx f1 f2,fp = f1 ++ f2 /\ cs = .int .i64 o.k :: v :: cx /\ TreeC w (dSs o.st) f1 [v] /\ TreeC w o.x.d f2 cx:=by
 simp only [OpV.d,TreeC,TreeCs,dI,dSs,D.width] at h;obtain ⟨f1,r1,c1,d1,rfl,rfl,_,⟨rfl,rfl⟩,f2,r2,c2,d2,rfl,rfl,_,⟨a2,n2,rfl,h2⟩,f3,r3,c3,d3,rfl,rfl,_,h3,rfl,rfl⟩:=h;refine ⟨.slice a2 (o.st.map dS).length n2,c3,f2,f3,by simp,by rw [append_nil]; rfl,?_,h3⟩;simp only [dSs,TreeC]; exact ⟨a2,n2,rfl,h2⟩
theorem OpV.tree_mk {w:World} {o:OpV} {f1 f2:List Nat} {v:Value} {cx:List Value} (h1:TreeC w (dSs o.st) f1 [v]) (h2:TreeC w o.x.d f2 cx) (hl:cx.length = 5):TreeC w o.d (f1 ++ f2) (.int .i64 o.k :: v :: cx):=by
 simp only [OpV.d,TreeC,TreeCs,dI,dSs,D.width];exact ⟨[],f1 ++ f2,[_],v :: cx,rfl,rfl,rfl,⟨rfl,rfl⟩,f1,f2,[v],cx,rfl,rfl,rfl,by simpa only [dSs,TreeC] using h1,f2,[],cx,[],by simp,by simp,by rw [hl]; exact (V.width _).symm,h2,rfl,rfl⟩
section
variable {T:World -> Prop} {hT:Low ngl T} {w:World} {hn:ngl <= w.heap.size}
theorem szOp_fn {o:OpV} {cs:List Value} (hr:Rd w o.d cs) (hw:o.wf) {l:Int} (hl:0 <= l /\ l <= 1048576):FnV (envW T hT w hn) 6 [.ag (rawL cs),.d (pI l)] (.d (pI (take' o.bulk l))):=by
 obtain ⟨v1,k,n,e,s,v2,rfl,h1,h2⟩:=OpV.lay hr;have z1:=szSs_fn (T:=T) (hT:=hT) (hn:=hn) h1 hw.2.1 (by have:=hw.2.2.1; unfold maxLen at this; omega) hl;have z2:=fun l hl => szV_fn (T:=T) (hT:=hT) (hn:=hn) (l:=l) h2 hw.2.2.2 hl
 refine zaU (show look (envW T hT w hn).P _ = _ from lk_l_szOp) (by show 2 <= 18; decide) fun B hB => ?_
 unfold m_l_szOp;refine mO ?_;refine zal (cs:=rawL [.int .i64 o.k,v1,.int .i64 k,.int .i64 n,.int .i64 e,.string ⟨s⟩,v2]) rfl ?_;refine mN ?_;refine mQ ?_;refine zaD (p:=0) (o:=1) (cs:=rawL [.int .i64 o.k,v1,.int .i64 k,.int .i64 n,.int .i64 e,.string ⟨s⟩,v2]) (v:=.d (.v v1)) rfl rfl rfl (Nat.le_of_ble_eq_true rfl) rfl ?_;refine mS ?_;refine zac rfl z1 ?_;refine mN ?_;refine mM ?_;refine mS ?_;by_cases hx:l < (o.st.length + ssBulk o.st:Nat)
 ·rw [zbA hx]
  refine zah rfl rfl (by decide) ?_;refine mT ?_;refine mP ?_;rw [zbA (t:=o.bulk) (left:=l) (by unfold OpV.bulk; omega)];exact zab ⟨.inr rfl,[.d (pI (-1))],rfl,rfl⟩
 rw [zbg (t:=o.st.length + ssBulk o.st) (left:=l) (by omega)];have hp:0 <= l - ((o.st.length + ssBulk o.st:Nat):Int):=by omega
 have hp2:l - ((o.st.length + ssBulk o.st:Nat):Int) <= 1048576:=by omega
 have hR:take' o.x.bulk (l - ((o.st.length + ssBulk o.st:Nat):Int)) = take' o.bulk l:=zeW hx;generalize l - ((o.st.length + ssBulk o.st:Nat):Int) = q at hp hp2 hR;refine zan rfl rfl (decide_eq_false (show ¬ q < 0 by omega)) ?_;refine mK ?_;refine mQ ?_;refine zaD (p:=0) (o:=2) (cs:=rawL [.int .i64 o.k,v1,.int .i64 k,.int .i64 n,.int .i64 e,.string ⟨s⟩,v2]) (v:=.ag (rawL [.int .i64 k,.int .i64 n,.int .i64 e,.string ⟨s⟩,v2])) rfl rfl rfl (Nat.le_of_ble_eq_true rfl) rfl ?_;refine mS ?_;refine zac (by rw [map]; exact congrArg (fun l => some [PV.ag l,.d (pI q)]) (zcb _)) (z2 q ⟨hp,hp2⟩) ?_;refine mN ?_;rw [hR];refine mM ?_;refine mS ?_;by_cases hy:take' o.bulk l < 0
 ·refine zah rfl rfl (decide_eq_true hy) ?_
  refine mT ?_;refine mP ?_;rw [take'_neg hy (by omega)];exact zab ⟨.inr rfl,[.d (pI (-1))],rfl,rfl⟩
 refine zan rfl rfl (decide_eq_false hy) ?_;refine mK ?_;refine mP ?_;exact zab ⟨.inr rfl,[.d (pI (take' o.bulk l))],rfl,rfl⟩
theorem toOp_fn {o:OpV} {cs:List Value} (hr:Rd w o.d cs) (hb:o.bulk <= 1048576):FnO (envW T hT w hn) 9 [.ag (rawL cs)] (.ag (opC o)):=by
 obtain ⟨v1,k,n,e,s,v2,rfl,h1,h2⟩:=OpV.lay hr;have z1:=toSs_fn (T:=T) (hT:=hT) (hn:=hn) h1 (by unfold OpV.bulk at hb; omega);have z2:=toV_fn (T:=T) (hT:=hT) (hn:=hn) h2 (by unfold OpV.bulk at hb; omega);rw [V.pc_eq] at z2;refine zaU (show look (envW T hT w hn).P _ = _ from lk_l_toOp) (by show 1 <= 16; decide) fun B hB => ?_
 unfold m_l_toOp;refine mO ?_;refine zal (cs:=rawL [.int .i64 o.k,v1,.int .i64 k,.int .i64 n,.int .i64 e,.string ⟨s⟩,v2]) rfl ?_;refine mN ?_;refine mP ?_;refine mQ ?_;refine zaD (p:=0) (o:=0) (cs:=rawL [.int .i64 o.k,v1,.int .i64 k,.int .i64 n,.int .i64 e,.string ⟨s⟩,v2]) (v:=.d (pI o.k)) rfl rfl rfl (Nat.le_of_ble_eq_true rfl) rfl ?_;refine mS ?_;refine zaC (p:=2) (o':=0) (cs:=[pI o.k]) (z:=[pI 0,.sl 1 [],pI 0,pI 0,pI 0,pS [],.sl 1 []]) rfl rfl rfl ⟨rfl,Nat.le_of_ble_eq_true rfl⟩ rfl ?_;refine mN ?_;refine mQ ?_;refine zaD (p:=0) (o:=1) (cs:=rawL [.int .i64 o.k,v1,.int .i64 k,.int .i64 n,.int .i64 e,.string ⟨s⟩,v2]) (v:=.d (.v v1)) rfl rfl rfl (Nat.le_of_ble_eq_true rfl) rfl ?_;refine po_own1 rfl z1 (fun c1 nt1 he1 hn1 N1 => ?_);refine mS ?_;refine zaC (p:=2) (o':=1) (cs:=[c1]) (z:=[pI o.k,.sl 1 [],pI 0,pI 0,pI 0,pS [],.sl 1 []]) rfl rfl rfl ⟨rfl,Nat.le_of_ble_eq_true rfl⟩ rfl ?_
 refine mN ?_;refine mQ ?_;refine zaD (p:=0) (o:=2) (cs:=rawL [.int .i64 o.k,v1,.int .i64 k,.int .i64 n,.int .i64 e,.string ⟨s⟩,v2]) (v:=.ag (rawL [.int .i64 k,.int .i64 n,.int .i64 e,.string ⟨s⟩,v2])) rfl rfl rfl (Nat.le_of_ble_eq_true rfl) rfl ?_;refine zaW (n:=5) (by rw [map]; exact congrArg (fun l => some [PV.ag l]) (zcb _)) z2 rfl (fun c2 nt2 he2 hc2 hn2 N2 => ?_);obtain ⟨t,rows,rfl,hrows⟩:=vform he2;refine mS ?_;refine zaC (p:=2) (o':=2) (cs:=vcs o.x.kind o.x.num o.x.exp o.x.text t rows) (z:=[pI o.k,c1,pI 0,pI 0,pI 0,pS [],.sl 1 []]) rfl rfl rfl ⟨rfl,Nat.le_of_ble_eq_true rfl⟩ rfl ?_;refine mN ?_;refine mO ?_;refine zaa (p:=2) (cs:=[pI o.k,c1,pI o.x.kind,pI o.x.num,pI o.x.exp,pS o.x.text,.sl t rows]) rfl rfl rfl rfl ?_;refine zad (p:=1) (cs:=[pI o.k,c1,pI o.x.kind,pI o.x.num,pI o.x.exp,pS o.x.text,.sl t rows]) (z:=[pI 0,.sl 1 [],pI 0,pI 0,pI 0,pS [],.sl 1 []]) rfl rfl rfl rfl rfl rfl ?_
 refine mN ?_;have e1:toksL [c1] = c1.toks:=by simp [toksL]
 have e2:toksL (vcs o.x.kind o.x.num o.x.exp o.x.text t rows) = (PC.sl t rows).toks:=by simp [vcs,toksL,PC.toks,pI,pS]
 have e3:PV.toks (one [.ag [pI o.k,c1,pI o.x.kind,pI o.x.num,pI o.x.exp,pS o.x.text,.sl t rows]]) = c1.toks ++ (PC.sl t rows).toks:=by
  show toksL _ = _;simp [toksL,PC.toks,pI,pS]
 have d1:=N1.nd; have m1:=N1.mem; have d2:=N2.nd; have m2:=N2.mem
 rw [e1] at d1 m1; rw [e2] at d2 m2
 refine zab ⟨.inr rfl,[.ag [pI o.k,c1,pI o.x.kind,pI o.x.num,pI o.x.exp,pS o.x.text,.sl t rows]],rfl,?_,?_,?_,?_⟩
 ·show some (PV.ag [pI o.k,c1.er,pI o.x.kind,pI o.x.num,pI o.x.exp,pS o.x.text,.sl 0 (erLL rows)]) = _
  rw [he1,hrows]; rfl
 ·show (PV.toks _).Nodup
  rw [e3,nodup_append];exact ⟨d1,d2,fun a ha b hb2 e => by have:=(m1 a ha).2; have:=(m2 b hb2).1; omega⟩
 ·intro t' ht
  have ht:t' ∈ PV.toks _:=ht;rw [e3] at ht;show t' ∈ toksL (vcs o.x.kind o.x.num o.x.exp o.x.text t rows) ++ (c1.toks ++ _);rw [e2]
  rcases mem_append.1 ht with h | h
  ·simp [h]
  ·simp [h]
 ·have o1:=N1.own; have o2:=N2.own
  show ownedL [pI o.k,c1,pI o.x.kind,pI o.x.num,pI o.x.exp,pS o.x.text,.sl t rows] = true;simp only [ownedL,vcs,pI,pS,PC.owned,Bool.true_and,Bool.and_true] at o1 o2 ⊢;rw [o1,Bool.true_and]; exact o2
end
theorem eqOp_fn {E:Env} (hP:E.P = Tryz.prog) (o:OpV) (hb:o.bulk <= 1048576):FnV E 12 [.ag (opC o),.ag (opC o)] (.d (pB true)):=by
 have z1:=eqSs_fn hP o.st o.st (by unfold OpV.bulk at hb; omega) (by unfold OpV.bulk at hb; omega);have z2:=eqV_fn hP o.x o.x (by unfold OpV.bulk at hb; omega) (by unfold OpV.bulk at hb; omega);rw [decide_eq_true rfl] at z1 z2;rw [V.pc_eq] at z2;refine zaU (by rw [hP]; exact lk_l_eqOp) (by show 2 <= 22; decide) fun B hB => ?_
 unfold m_l_eqOp;refine mO ?_;refine zal (cs:=opC o) rfl ?_;refine zal (cs:=opC o) rfl ?_;refine mN ?_;refine mM ?_;refine mS ?_;refine zaD (p:=0) (o:=0) (cs:=opC o) (v:=.d (pI o.k)) rfl rfl rfl (Nat.le_of_ble_eq_true rfl) rfl ?_;refine mS ?_;refine zaD (p:=1) (o:=0) (cs:=opC o) (v:=.d (pI o.k)) rfl rfl rfl (Nat.le_of_ble_eq_true rfl) rfl ?_;refine zan rfl rfl (by simp) ?_;refine mK ?_;refine mM ?_;refine mS ?_;refine zaD (p:=0) (o:=1) (cs:=opC o) (v:=.d (pSs o.st)) rfl rfl rfl (Nat.le_of_ble_eq_true rfl) rfl ?_;refine mS ?_;refine zaD (p:=1) (o:=1) (cs:=opC o) (v:=.d (pSs o.st)) rfl rfl rfl (Nat.le_of_ble_eq_true rfl) rfl ?_;refine zac (by show some [PV.d (pSs o.st).er,.d (pSs o.st).er] = _; rw [pSs_er]) z1 ?_;refine mK ?_;refine mM ?_;refine mS ?_;refine zaD (p:=0) (o:=2) (cs:=opC o) (v:=.ag (vC o.x)) rfl rfl rfl (Nat.le_of_ble_eq_true rfl) rfl ?_;refine mS ?_
 refine zaD (p:=1) (o:=2) (cs:=opC o) (v:=.ag (vC o.x)) rfl rfl rfl (Nat.le_of_ble_eq_true rfl) rfl ?_;refine zac (zeH o.x o.x) z2 ?_;refine mK ?_;refine mP ?_;exact zab ⟨.inr rfl,[.d (pB true)],rfl,rfl⟩
theorem cellsSteps:Tryz.prog.cellsOf 25 = 1:=by kernel_rfl
theorem trod_op {H:Type} {enc:TypeId × Value -> H} {w:World} {base:Nat} {spare:Nat -> Bool} {held:Bool} (fuel:Nat) (cs:List Value) (y:DataW H × List MemPlace)
  (h:DataW.trod enc Tryz.prog w base spare held fuel 27 cs = some y):∃ x:OpV,Rd w x.d cs /\ x.wf:=by
 obtain ⟨xs,n,rfl,_,hlen,hxl,hx⟩:=DataW.trod_struct Tryz.underlying27 h;rw [show Tryz.prog.cellsOf 27 = 7 by kernel_rfl] at hlen
 match cs,hlen with
 | [v0,v1,v2,v3,v4,v5,v6],_ =>
  have hs:xs.length = 3:=hxl
  match xs,hs with
  | [y0,y1,y2],_ =>
   have h0:DataW.trod enc Tryz.prog w base spare held n 3 (take (Tryz.prog.cellsOf 3) (drop 0 [v0,v1,v2,v3,v4,v5,v6])) = some y0:=hx 0 _ rfl;have h1:DataW.trod enc Tryz.prog w base spare held n 25 (take (Tryz.prog.cellsOf 25) (drop 1 [v0,v1,v2,v3,v4,v5,v6])) = some y1:=hx 1 _ rfl;have h2:DataW.trod enc Tryz.prog w base spare held n 24 (take (Tryz.prog.cellsOf 24) (drop 2 [v0,v1,v2,v3,v4,v5,v6])) = some y2:=hx 2 _ rfl;simp only [zfE,cellsSteps,zcN,drop,take] at h0 h1 h2;obtain ⟨k,e0,w0⟩:=zdc Tryz.underlying3 h0;obtain ⟨ks,z0,e1,r1,w1,l1⟩:=trod_strs Tryz.underlying25 Tryz.underlying9 zfD h1;obtain ⟨x,r2,w2⟩:=zed n _ _ h2;simp only [cons.injEq,and_true] at e0 e1
   subst e0 e1
   refine ⟨⟨k,ks,x⟩,?_,w0,w1,l1,w2⟩;have hl:=r2.len;simp only [Rd,OpV.d,RepC,RepCs,dI,D.width];exact ⟨[_],_,rfl,rfl,rfl,[v1],[v2,v3,v4,v5,v6],rfl,rfl,by simpa only [Rd] using r1,[v2,v3,v4,v5,v6],[],rfl,(V.width _).symm,r2,rfl⟩
end
section

end
section
attribute [local irreducible] po mw pt
end
section
theorem ss_mem:∀ {l:List (L8)} {s:L8},s ∈ l -> s.length <= ssBulk l
 | x :: l,s,h => by
  simp only [ssBulk]
  rcases mem_cons.1 h with rfl | h
  ·omega
  ·have:=ss_mem h; omega
theorem doV_bw {v:V} {o:OpV} {S:Nat} (hv:v.wf) (hx:o.x.wf) (hs:∀ s ∈ o.st,s.length <= S) (hb:v.bulk + o.x.bulk + S + 2 <= 2147483647) (hvb:v.bulk <= 1048576):(doV v o).1.wf /\ (doV v o).1.bulk <= 1048576:=by
 have hp:∀ a,(putJ v o.st o.x a).1.wf /\ (putJ v o.st o.x a).1.bulk <= 1048576:=fun a => by
  rw [<- put_same];unfold putW madeS;split
  ·exact ⟨zdB o.st v o.x a S hv hx hs (by omega),V.ok_bulk (by rename_i h; exact h.2.2)⟩
  ·exact ⟨hv,hvb⟩
 have hr:(remJ v o.st).1.wf /\ (remJ v o.st).1.bulk <= 1048576:=by
  rw [<- rem_same];unfold remW madeS;split
  ·have h3:=zc8 o.st v hv (by omega)
   exact ⟨h3.1,Nat.le_trans h3.2 hvb⟩
  ·exact ⟨hv,hvb⟩
 unfold doV;split
 ·exact hp false
 split
 ·exact hp true
 split
 ·exact hr
 split
 ·exact ⟨hv,hvb⟩
 ·exact ⟨hv,hvb⟩
theorem FnP.toW {T:World -> Prop} {hT:Low ngl T} {w:World} {hn:ngl <= w.heap.size} {f:Nat} {args:List PV} {v:V} {ok:Bool} (h:FnP (env T hT) f args v ok):FnP (envW T hT w hn) f args v ok:=Fn.up (E:=env T hT) (E':=envW T hT w hn) rfl hn (fun _ h => h.1) h
end
section
def m_s_Apply:M:=so [qo 2 (.box 0),⟨some 4,.zero [.int .i64 0,.int .i64 0,.int .i64 0,.string ⟨[].toArray⟩,.slice none 0 0],none,[]⟩,qo 5 (.mv (cB false))] (so [qL 10 5 2,qc 11 28 [10] 1,⟨some 6,.zero [.int .i64 0,.int .i64 0,.int .i64 0,.string ⟨[].toArray⟩,.slice none 0 0],none,[]⟩,qS 5 6 11] (.seq (so [qo 7 (.mv (ci 0))] (.block 0 (.loop (.seq (so [qm 12 7,qm 13 1,qo 14 (.len 13),qo 15 (.bin .lss false 12 14)] (.cond 15 .skip (.exit 0))) (.seq (.block 1 (.seq (.tree (.node [qL 19 5 6,qm 20 1,qm 21 7,qo 22 (.ix 7 20 21),qL 23 7 22] (.alt (qc 24 7 [19,23] 0) (.node [qm 18 24,qe 25 18 0,qe 26 18 1] (.alt ⟨some 8,.zero [.int .i64 0,.int .i64 0,.int .i64 0,.string ⟨[].toArray⟩,.slice none 0 0],none,[]⟩ (.node [] (.alt (qS 5 8 25) (.node [qm 9 26] .leaf) .leaf)) .leaf)) (.alt ⟨some 8,.zero [.int .i64 0,.int .i64 0,.int .i64 0,.string ⟨[].toArray⟩,.slice none 0 0],none,[]⟩ (.node [] (.alt (qc 24 7 [19,23] 0) (.node [qm 18 24,qe 25 18 0,qe 26 18 1] (.alt (qS 5 8 25) (.node [qm 9 26] .leaf) .leaf)) .leaf)) .leaf)))) (.seq (so [qm 27 9,qo 28 (.not 27),qm 29 28,qg 30 1 29 false,⟨some 31,.len 30,some (29,false),[]⟩,⟨some 32,.bin .gtr false 31 (ci 1000),some (29,false),[]⟩,qo 33 (.pick 29 (cB true) 32)] (.cond 33 (so [qL 34 5 2,qc 35 28 [34] 1,qS 5 4 35,qo 5 (.mv (cB false))] .ret) .skip)) (.ops [qL 36 5 8,qS 5 6 36])))) (.ops [qm 16 7,qo 17 (.bin .add false 16 (ci 1)),qm 7 17])))))) (so [qL 37 5 6,qS 5 4 37,qo 5 (.mv (cB true))] .ret)))
theorem lk_s_Apply:look Tryz.prog 17 = some (38,m_s_Apply,[.cell true 5 4,.tm 5]):=by kernel_rfl
def m_i_Apply:M:=so [qo 2 (.box 0),⟨some 4,.zero [.int .i64 0,.int .i64 0,.int .i64 0,.string ⟨[].toArray⟩,.slice none 0 0],none,[]⟩,qo 5 (.mv (cB false))] (so [qL 9 5 2,qm 10 1,qc 11 45 [9,10,.f 46] 1,qm 8 11,qe 12 8 0,qe 13 8 1,⟨some 6,.zero [.int .i64 0,.int .i64 0,.int .i64 0,.string ⟨[].toArray⟩,.slice none 0 0],none,[]⟩,qS 5 6 12,qm 7 13] (.seq (so [qm 14 7,qo 15 (.not 14)] (.cond 15 (so [qL 16 5 2,qc 17 38 [16] 1,qS 5 4 17,qo 5 (.mv (cB false))] .ret) .skip)) (so [qL 18 5 6,qS 5 4 18,qo 5 (.mv (cB true))] .ret)))
theorem lk_i_Apply:look Tryz.prog 19 = some (19,m_i_Apply,[.cell true 5 4,.tm 5]):=by kernel_rfl
def m_i_applied:M:=so [qo 3 (.box 0),⟨some 6,.zero [.int .i64 0,.int .i64 0,.int .i64 0,.string ⟨[].toArray⟩,.slice none 0 0],none,[]⟩,qo 7 (.mv (cB false))] (.seq (so [qm 13 1,qo 14 (.len 13),qo 15 (.bin .gtr false 14 (ci 1000))] (.cond 15 (so [⟨some 16,.build [.int .i64 0,.int .i64 0,.int .i64 0,.string ⟨[].toArray⟩,.slice none 0 0] [],none,[]⟩,qS 5 6 16,qo 7 (.mv (cB false))] .ret) .skip)) (so [qL 17 5 3,qc 18 38 [17] 1,⟨some 8,.zero [.int .i64 0,.int .i64 0,.int .i64 0,.string ⟨[].toArray⟩,.slice none 0 0],none,[]⟩,qS 5 8 18] (.seq (so [qm 19 1,qo 20 (.len 19),qo 21 (.mv (ci 0))] (.block 0 (.loop (so [qo 22 (.bin .lss false 21 20)] (.seq (.cond 22 .skip (.exit 0)) (.seq (.block 1 (so [qo 23 (.ix 7 19 21),qL 24 7 23,⟨some 10,.zero [.int .i64 0,.slice none 0 0,.int .i64 0,.int .i64 0,.int .i64 0,.string ⟨[].toArray⟩,.slice none 0 0],none,[]⟩,qS 7 10 24] (so [qL 26 5 8,qL 27 7 10,qc 28 10 [26,27] 1,qm 25 28,qe 29 25 0,qe 30 25 1,⟨some 11,.zero [.int .i64 0,.int .i64 0,.int .i64 0,.string ⟨[].toArray⟩,.slice none 0 0],none,[]⟩,qS 5 11 29,qm 12 30] (.seq (so [qm 31 12,qo 32 (.not 31)] (.cond 32 (so [⟨some 33,.build [.int .i64 0,.int .i64 0,.int .i64 0,.string ⟨[].toArray⟩,.slice none 0 0] [],none,[]⟩,qS 5 6 33,qo 7 (.mv (cB false))] .ret) .skip)) (so [qm 34 2,qL 35 5 8,qL 36 7 10,⟨some 37,.callv 34 [35,36],none,[.f 1]⟩] (.ops [qL 38 5 11,qS 5 8 38])))))) (.ops [qo 39 (.bin .add false 21 (ci 1)),qm 21 39]))))))) (so [qL 40 5 8,qS 5 6 40,qo 7 (.mv (cB true))] .ret))))
theorem zfF:look Tryz.prog 45 = some (41,m_i_applied,[.cell true 5 6,.tm 7]):=by kernel_rfl
def m_i_Apply_1:M:=.ops [qo 2 (.box 0),qo 3 (.box 1)]
theorem zfG:look Tryz.prog 46 = some (4,m_i_Apply_1,[]):=by kernel_rfl
end
section
variable {T:World -> Prop} {hT:Low ngl T}
attribute [local irreducible] po mw pt
def oK (l:List OpV):LP PC:=l.map opC
theorem zdU (l:List OpV):(oK l).length = l.length:=by simp [oK]
theorem oK_get {l:List OpV} {j:Nat} (h:j < l.length):(oK l)[j]? = some (opC l[j]):=by
 unfold oK; rw [getElem?_map,getElem?_eq_getElem h]; rfl
theorem oK_er (l:List OpV):erLL (oK l) = oK l:=by
 unfold oK; rw [zas,map_map]
 exact map_congr_left fun o _ => zec o
theorem opC_lw (o:OpV):lwL 0 (opC o):=by
 have h:=vlw (v:=o.x) (zai o.x);exact ⟨trivial,ownedLL_lw (pSr_own o.st),h⟩
theorem oK_lw:∀ l:List OpV,PC.lw 0 (.sl 0 (oK l)):=fun l => by
 have:∀ l:List OpV,lwLL 0 (oK l):=fun l => by
  induction l with
  | nil => exact trivial
  | cons o l ih => exact ⟨opC_lw o,ih⟩
 exact this l
def runV:V -> List OpV -> Option V
 | v,[] => some v
 | v,o :: l => if (doV v o).2 = true then runV (doV v o).1 l else none
theorem zfH:∀ (l:List OpV) (v:V) (o:OpV),runV v (l ++ [o]) = (runV v l).bind fun y => if (doV y o).2 = true then some (doV y o).1 else none
 | [],v,o => by simp only [nil_append,runV,Option.bind_some]
 | p :: l,v,o => by
  simp only [cons_append,runV];split
  ·exact zfH l _ o
  ·rfl
theorem zfI:∀ (l r:List OpV) (v:V),runV v l = none -> runV v (l ++ r) = none
 | [],r,v,h => by simp [runV] at h
 | p :: l,r,v,h => by
  simp only [runV,cons_append] at h ⊢;split
  ·rw [if_pos (by assumption)] at h; exact zfI l r _ h
  ·rfl
def appV (v:V) (l:List OpV):V × Bool:=if l.length > 1000 then (v,false) else match runV v l with
 | some y => (y,true)
 | none => (v,false)
theorem zfJ {v:V} {l:List OpV} (h:l.length > 1000):appV v l = (v,false):=by unfold appV; rw [if_pos h]
theorem zdV {v y:V} {l:List OpV} (h:¬ l.length > 1000) (hr:runV v l = some y):appV v l = (y,true):=by unfold appV; rw [if_neg h,hr]
theorem zfK {v:V} {l:List OpV} (hr:runV v l = none):appV v l = (v,false):=by
 unfold appV;split
 ·rfl
 ·rw [hr]
def OpsOk (l:List OpV):Prop:=∀ o ∈ l,o.x.wf /\ (∀ s ∈ o.st,s.length <= 1048576) /\ o.x.bulk <= 1048576 /\ o.st.length <= 1048576
theorem zeK {v y:V} {l:List OpV} {i:Nat} (hi:i < l.length) (h:runV v (l.take i) = some y):runV v (l.take (i + 1)) = if (doV y l[i]).2 = true then some (doV y l[i]).1 else none:=by
 rw [List.take_add_one,getElem?_eq_getElem hi];show runV v (l.take i ++ [l[i]]) = _;rw [zfH,h]; rfl
theorem run_stop {v y:V} {l:List OpV} {i:Nat} (hi:i < l.length) (h:runV v (l.take i) = some y) (hd:(doV y l[i]).2 = false):runV v l = none:=by
 have h1:=zeK hi h;rw [hd,if_neg (by decide)] at h1
 have:=zfI _ (l.drop (i + 1)) v h1
 rwa [take_append_drop] at this
theorem vl_arg (v:V) (l:List OpV):PV.dats [.ag (vC v),.d (.sl 0 (oK l))] = some [.ag (vC v),.d (.sl 0 (oK l))]:=by
 show some [PV.ag (erL (vC v)),.d (.sl 0 (erLL (oK l)))] = _;rw [zai,oK_er]
theorem vo_arg (v:V) (o:OpV):PV.dats [.ag (vC v),.ag (opC o)] = some [.ag (vC v),.ag (opC o)]:=zfV (zai v) (zec o)
theorem zde {α:Type} (l:List α) (a b:α):(l ++ [a]).set l.length b = l ++ [b]:=by
 rw [set_append_right _ _ lR,Nat.sub_self]; rfl
theorem gl2A {α:Type} (l:List α) (x y:α):(l ++ [x] ++ [y])[l.length]? = some x:=by rw [getElem?_append_left (by simp)]; exact zaQ l x
def ApS (v:V) (l:List OpV) (m:Nat) (s:St):Prop:=∃ (i:Nat) (y:V) (rest:LP PC),i <= l.length /\ m = l.length - i /\ has s.tm [(1,.d (.sl 0 (oK l))),(2,.ref 0 0),(4,.ref 1 0),(6,.ref 2 0),(7,.d (pI i))] /\ s.bx = vC v :: z6 :: vC y :: rest /\ runV v (l.take i) = some y /\ y.wf /\ y.bulk <= 1048576 /\ (i = 0 \/ l.length <= 1000)
def ApT (v y:V) (l:List OpV) (i:Nat) (rest:LP PC) (R:V) (ok:Bool) (s:St):Prop:=has s.tm [(1,.d (.sl 0 (oK l))),(2,.ref 0 0),(4,.ref 1 0),(6,.ref 2 0),(7,.d (pI i)),(8,.ref (vC v :: z6 :: vC y :: rest).length 0),(9,.d (pB ok))] /\ s.bx = ((vC v :: z6 :: vC y :: rest) ++ [z6]).set (vC v :: z6 :: vC y :: rest).length (vC R)
theorem ApplyS_fn (v:V) (l:List OpV) (hv:v.wf) (hb:v.bulk <= 1048576) (hl:l.length <= 2147483647) (ho:OpsOk l):FnV (env T hT) 17 [.ag (vC v),.d (.sl 0 (oK l))] (.tup [.ag (vC (appV v l).1),.d (pB (appV v l).2)]):=by
 refine zaU (zaf lk_s_Apply) (by show 2 <= 38; decide) fun B hB => ?_
 unfold m_s_Apply;refine mO ?_;refine zal (cs:=vC v) rfl ?_;refine mN ?_;refine mO ?_;refine zaa (p:=0) (cs:=vC v) rfl rfl rfl rfl ?_;refine zac (zax v) (za8 (T:=T) (hT:=hT) v hv (by omega)) ?_;refine zaH ?_;refine zad (p:=2) (cs:=vC v) (z:=z6) rfl rfl rfl rfl rfl rfl ?_;refine mN ?_;refine zaS (fun s => ∃ y rest,has s.tm [(4,.ref 1 0),(6,.ref 2 0)] /\ s.bx = vC v :: z6 :: vC y :: rest /\ appV v l = (y,true)) ?_ ?_
 ·refine mP ?_
  refine zak ?_;refine zaY (ApS v l) l.length ⟨0,v,[],Nat.zero_le _,rfl,⟨rfl,rfl,rfl,rfl,rfl,trivial⟩,rfl,rfl,hv,hb,.inl rfl⟩ ?_;rintro m tm bx nt live ⟨i,y,rest,hi,rfl,ht,hbx,hrun,hyw,hyb,hlong⟩;obtain ⟨tm1,rfl⟩:=zaq ht;simp only at hbx; subst hbx
  clear ht;refine mM ?_;(iterate 2 refine mS ?_);refine zay (n:=l.length) rfl rfl (zdU _) ?_;refine po_b rfl rfl (fun p hp => ?_);refine zaj ?_;refine zdy (p:=(i:Int) < l.length) hp rfl (fun him _ => ?_) (fun him _ => ?_)
  rotate_left
  ·refine za4 ?_
   obtain rfl:i = l.length:=by omega
   rw [take_length] at hrun;refine ⟨y,rest,⟨rfl,rfl,trivial⟩,rfl,?_⟩
   rcases hlong with h0 | h0
   ·exact zdV (by omega) hrun
   ·exact zdV (by omega) hrun
  have hil:i < l.length:=by omega
  obtain ⟨ox,os,ob,ol⟩:=ho _ (getElem_mem hil);have hD:=DoS_fn (T:=T) (hT:=hT) y l[i] 1048576 hyw ox os (by omega) (by omega);have hbw:=doV_bw (v:=y) (o:=l[i]) (S:=1048576) hyw ox os (by omega) hyb;have hst:=zeK hil hrun;have hstop:=run_stop hil hrun;refine za0 ?_;refine zau (zak ?_);refine zaS (ApT v y l i rest (doV y l[i]).1 (doV y l[i]).2) ?_ ?_
  ·refine zek (show pt _ (ApT v y l i rest (doV y l[i]).1 (doV y l[i]).2) _ _ from ?_)
   generalize doV y l[i] = pr at hD;obtain ⟨R,ok⟩:=pr;refine zbo ?_;refine zaa (p:=2) (cs:=vC y) rfl rfl rfl rfl ?_;(iterate 2 refine mS ?_);refine za5 (es:=oK l) (e:=opC l[i]) rfl rfl rfl ⟨by omega,by rw [Int.toNat_natCast]; exact oK_get hil⟩ rfl ?_
   repeat' (first
    | exact zcd
    | refine zcS ?_ ?_
    | refine zaj ?_
    | refine zce ?_
    | (refine zdx ?_; exact ⟨⟨rfl,rfl,rfl,rfl,rfl,rfl,rfl,trivial⟩,rfl⟩)
    | refine zbo ?_
    | refine zac (args:=[.ag (vC y),.ag (opC l[i])]) (vo_arg y l[i]) hD ?_
    | refine zaH ?_
    | refine zad (cs:=vC R) (z:=z6) rfl rfl (zaQ _ _) rfl rfl rfl ?_
    | refine po_s rfl rfl rfl ?_)
  generalize doV y l[i] = pr at hbw hst hstop;obtain ⟨R,ok⟩:=pr;rintro tm bx nt live ⟨ht,hbx⟩;obtain ⟨tm2,rfl⟩:=zaq ht;simp only at hbx hbw hst hstop;rw [zde] at hbx; subst hbx
  clear ht hD;refine mM ?_
  cases ok with
  | false =>
   refine mN ?_;refine mZ ?_;refine mT ?_;refine mO ?_;refine zaa (p:=0) (cs:=vC v) rfl rfl rfl rfl ?_;refine zac (zax v) (za8 (T:=T) (hT:=hT) v hv (by omega)) ?_;refine zad (p:=1) (cs:=vC v) (z:=z6) rfl rfl rfl rfl rfl rfl ?_;refine mN ?_;rw [zfK (hstop rfl)]
   exact zab ⟨.inr rfl,[.ag (vC v),.d (pB false)],rfl,congrArg (fun l => some (PV.tup [.ag l,.d (pB false)])) (zai _)⟩
  | true =>
   (iterate 4 refine mS ?_);refine zay (n:=l.length) rfl rfl (zdU _) ?_;by_cases hlg:l.length > 1000
   ·refine zah rfl rfl (decide_eq_true (by omega)) ?_
    refine mT ?_;refine mO ?_;refine zaa (p:=0) (cs:=vC v) rfl rfl rfl rfl ?_;refine zac (zax v) (za8 (T:=T) (hT:=hT) v hv (by omega)) ?_;refine zad (p:=1) (cs:=vC v) (z:=z6) rfl rfl rfl rfl rfl rfl ?_;refine mN ?_;rw [zfJ hlg];exact zab ⟨.inr rfl,[.ag (vC v),.d (pB false)],rfl,congrArg (fun l => some (PV.tup [.ag l,.d (pB false)])) (zai _)⟩
   refine zan rfl rfl (decide_eq_false (by omega)) ?_;refine mK ?_;refine zap ?_;refine zaa (p:=(vC v :: z6 :: vC y :: rest).length) (cs:=vC R) rfl rfl (zaQ _ _) rfl ?_;refine zad (p:=2) (cs:=vC R) (z:=vC y) rfl rfl rfl rfl rfl rfl ?_;refine mN ?_;refine zap ?_;refine mS ?_;refine zaZ (n:=((i + 1:Nat):Int)) rfl rfl rfl (by omega) (by omega) ?_;refine mN ?_;exact ⟨l.length - (i + 1),by omega,i + 1,R,rest ++ [vC R],hil,rfl,⟨rfl,rfl,rfl,rfl,rfl,trivial⟩,rfl,hst,hbw.1,hbw.2,.inr (by omega)⟩
 rintro tm bx nt live ⟨y,rest,ht,hbx,hap⟩;obtain ⟨tm1,rfl⟩:=zaq ht;simp only at hbx; subst hbx
 rw [hap];refine mO ?_;refine zaa (p:=2) (cs:=vC y) rfl rfl rfl rfl ?_;refine zad (p:=1) (cs:=vC y) (z:=z6) rfl rfl rfl rfl rfl rfl ?_;refine mN ?_;exact zab ⟨.inr rfl,[.ag (vC y),.d (pB true)],rfl,congrArg (fun l => some (PV.tup [.ag l,.d (pB true)])) (zai _)⟩
theorem ap1_fn (v:V) (o:OpV):FnV (env T hT) 46 [.ag (vC v),.ag (opC o)] (.tup []):=by
 refine zaU (zaf zfG) (by show 2 <= 4; decide) fun B hB => ?_
 unfold m_i_Apply_1;refine zap ?_;refine zal (cs:=vC v) rfl ?_;refine zal (cs:=opC o) rfl ?_;refine zaj ?_;exact ⟨.inl rfl,[],rfl,rfl⟩
theorem z6_new (a b:Nat):NewL a b z6:=by
 have h:toksL z6 = []:=by simp [z6,toksL,PC.toks,toksLL,pI,pS]
 exact ⟨by simp [z6,ownedL,ownedLL,PC.owned,pI,pS],by rw [h]; exact nodup_nil,fun t ht => by rw [h] at ht; cases ht⟩
theorem z6_er:erL z6 = vC z0V:=rfl
theorem z6_tok:∀ t ∈ toksL z6,False:=fun t h => by simp [z6,toksL,PC.toks,toksLL,pI,pS] at h
def ApR (v:V) (l:List OpV) (nt:Nat) (x:PV) (n:Nat) (lv:List Nat):Prop:=∃ cs y ok,x = .tup [.ag cs,.d (pB ok)] /\ erL cs = vC y /\ NewL nt n cs /\ (∀ t ∈ toksL cs,t ∈ lv) /\ (ok = true -> appV v l = (y,true)) /\ (ok = false -> appV v l = (v,false))
def ApJ (v:V) (l:List OpV) (n0:Nat) (m:Nat) (s:St):Prop:=∃ (i:Nat) (y:V) (cs:List PC) (rest:LP PC),i <= l.length /\ m = l.length - i /\ has s.tm [(1,.d (.sl 0 (oK l))),(2,.fn 46 []),(3,.ref 0 0),(6,.ref 1 0),(8,.ref 2 0),(19,.d (.sl 0 (oK l))),(20,.d (pI l.length)),(21,.d (pI i))] /\ s.bx = vC v :: z6 :: cs :: rest /\ erL cs = vC y /\ cs.length = 5 /\ NewL n0 s.nt cs /\ n0 <= s.nt /\ (∀ t ∈ toksL cs,t ∈ s.live) /\ runV v (l.take i) = some y /\ y.wf /\ y.bulk <= 1048576
theorem applied_g (hTen:∀ w,T w -> TenTab w) (hErr:∀ w,T w -> ErrTab w) (hTab:∀ w,T w -> Tabs w) (v:V) (l:List OpV) (hv:v.wf) (hb:v.bulk <= 1048576) (hl:l.length <= 2147483647) (ho:OpsOk l) (nt:Nat) (live:List Nat) :
  FnG (env T hT) 45 [.ag (vC v),.d (.sl 0 (oK l)),.fn 46 []] [] nt live (fun x _ n lv => ApR v l nt x n lv):=by
 refine zbN (zaf zfF) (by show 3 <= 41; decide) fun B hB => ?_
 unfold m_i_applied;refine mO ?_;refine zal (cs:=vC v) rfl ?_;refine mN ?_;refine mM ?_;refine mS ?_;refine zay (n:=l.length) rfl rfl (zdU _) ?_;by_cases hlg:l.length > 1000
 ·refine zah rfl rfl (decide_eq_true (by omega)) ?_
  refine mT ?_;refine mQ ?_;refine zad (p:=1) (cs:=z6) (z:=z6) rfl rfl rfl rfl rfl rfl ?_;refine mN ?_;exact zab ⟨.inr rfl,[.ag z6,.d (pB false)],rfl,z6,z0V,false,rfl,z6_er,z6_new _ _,fun t h => (z6_tok t h).elim,fun h => Bool.noConfusion h,fun _ => zfJ hlg⟩
 refine zan rfl rfl (decide_eq_false (by omega)) ?_;refine mK ?_;refine mO ?_;refine zaa (p:=0) (cs:=vC v) rfl rfl rfl rfl ?_;refine zaW (n:=5) (zax v) (zaX (T:=T) (hT:=hT) v hv (by omega)) rfl (fun cs nt1 he hn hle hN => ?_);refine zaH ?_;refine zad (p:=2) (cs:=cs) (z:=z6) rfl rfl rfl hn rfl rfl ?_;refine mN ?_;refine zaS (fun s => ∃ y cs rest,has s.tm [(6,.ref 1 0),(8,.ref 2 0)] /\ s.bx = vC v :: z6 :: cs :: rest /\ erL cs = vC y /\ cs.length = 5 /\ NewL nt s.nt cs /\ (∀ t ∈ toksL cs,t ∈ s.live) /\ appV v l = (y,true)) ?_ ?_
 ·refine mQ ?_
  refine zay (n:=l.length) rfl rfl (zdU _) ?_;refine mN ?_;refine zak ?_;refine zaY (ApJ v l nt) l.length ⟨0,v,cs,[],Nat.zero_le _,rfl,⟨rfl,rfl,rfl,rfl,rfl,rfl,rfl,rfl,trivial⟩,rfl,he,hn,hN,hle,fun t h => List.mem_append_left _ h,rfl,hv,hb⟩ ?_;clear he hn hN hle;rintro m tm bx n1 l1 ⟨i,y,cs,rest,hi,rfl,ht,hbx,he,hn5,hN,hle,htk,hrun,hyw,hyb⟩;obtain ⟨tm1,rfl⟩:=zaq ht;simp only at hbx hN hle htk; subst hbx
  clear ht;refine mO ?_;refine po_b rfl rfl (fun p hp => ?_);refine zaj ?_;refine zau (zdy (p:=(i:Int) < l.length) hp rfl (fun him _ => ?_) (fun him _ => ?_))
  rotate_left
  ·refine za4 ?_
   obtain rfl:i = l.length:=by omega
   rw [take_length] at hrun;exact ⟨y,cs,rest,⟨rfl,rfl,trivial⟩,rfl,he,hn5,hN,htk,zdV hlg hrun⟩
  have hil:i < l.length:=by omega
  obtain ⟨ox,os,ob,ol⟩:=ho _ (getElem_mem hil);have hD:=DoI_fn (T:=T) (hT:=hT) hTen hErr hTab y l[i] 1048576 hyw ox os (by omega) (by omega);have hbw:=doV_bw (v:=y) (o:=l[i]) (S:=1048576) hyw ox os (by omega) hyb;have hst:=zeK hil hrun;have hstop:=run_stop hil hrun;refine za0 ?_;refine zau (zak (zau (zap ?_)));refine za5 (es:=oK l) (e:=opC l[i]) rfl rfl rfl ⟨by omega,by rw [Int.toNat_natCast]; exact oK_get hil⟩ rfl ?_;refine mS ?_;refine zaH ?_;refine zad (cs:=opC l[i]) rfl rfl (zaQ _ _) rfl rfl rfl ?_;refine zaj ?_;rw [zde];generalize l[i] = o at hD hbw hst hstop;generalize doV y o = pr at hD hbw hst hstop;obtain ⟨R,ok⟩:=pr;simp only at hD hbw hst hstop;refine mO ?_;refine zaa (p:=2) (cs:=cs) rfl rfl rfl hn5 ?_;refine zaa (p:=(vC v :: z6 :: cs :: rest).length) (cs:=opC o) rfl rfl (zaQ _ _) rfl ?_;refine zch (zfV he (zec o)) hD (fun cs2 n2 he2 hn2 hle2 hN2 => ?_)
  (iterate 3 refine mS ?_);refine zaH ?_;refine zad (cs:=cs2) (z:=z6) rfl rfl (zaQ _ _) hn2 rfl rfl ?_;refine mL ?_;rw [zde];refine mM ?_
  cases ok with
  | false =>
   refine mT ?_;refine mQ ?_;refine zad (p:=1) (cs:=z6) (z:=z6) rfl rfl rfl rfl rfl rfl ?_;refine mN ?_
   exact zab ⟨.inr rfl,[.ag z6,.d (pB false)],rfl,z6,z0V,false,rfl,z6_er,z6_new _ _,fun t h => (z6_tok t h).elim,fun h => Bool.noConfusion h,fun _ => zfK (hstop rfl)⟩
  | true =>
   refine mK ?_;refine mQ ?_;refine zaa (p:=2) (cs:=cs) rfl rfl rfl hn5 ?_;refine zaa (p:=(vC v :: z6 :: cs :: rest).length) (cs:=opC o) rfl rfl (gl2A _ _ _) rfl ?_;refine po_v (f:=46) (cap:=[]) rfl (by kernel_rfl) (zfV he (zec o)) (ap1_fn (T:=T) (hT:=hT) y o) ?_;refine zaj ?_;refine zap ?_;refine zaa (p:=((vC v :: z6 :: cs :: rest) ++ [opC o]).length) (cs:=cs2) rfl rfl (zaQ _ _) hn2 ?_;refine zad (p:=2) (cs:=cs2) (z:=cs) rfl rfl rfl hn2 hn5 rfl ?_;refine zaj ?_;refine zap ?_;refine zaZ (n:=((i + 1:Nat):Int)) rfl rfl rfl (by omega) (by omega) ?_;refine mN ?_;exact ⟨l.length - (i + 1),by omega,i + 1,R,cs2,rest ++ [opC o] ++ [cs2],hil,rfl,⟨rfl,rfl,rfl,rfl,rfl,rfl,rfl,rfl,trivial⟩,rfl,he2,hn2,⟨hN2.own,hN2.nd,fun t h => by have:=hN2.mem t h; exact ⟨by omega,this.2⟩⟩,by show nt <= n2; omega,fun t h => List.mem_append_left _ h,hst,hbw.1,hbw.2⟩
 clear he hn hN hle;rintro tm bx n1 l1 ⟨y,cs,rest,ht,hbx,he,hn5,hN,htk,hap⟩;obtain ⟨tm1,rfl⟩:=zaq ht;simp only at hbx hN htk; subst hbx
 refine mO ?_;refine zaa (p:=2) (cs:=cs) rfl rfl rfl hn5 ?_;refine zad (p:=1) (cs:=cs) (z:=z6) rfl rfl rfl hn5 rfl rfl ?_;refine mN ?_;exact zab ⟨.inr rfl,[.ag cs,.d (pB true)],zaz rfl rfl hn5 rfl,cs,y,true,rfl,he,hN,htk,fun _ => hap,fun h => Bool.noConfusion h⟩
theorem agb_shB {cs:List PC} {y:V} (he:erL cs = vC y) (k:Nat) (ok:Bool):PV.shB k (.tup [.ag cs,.d (pB ok)]) = .tup [.ag cs,.d (pB ok)]:=by
 simp only [PV.shB,shBs];rw [zfY (vlw he),zcT (c:=pB ok) trivial]
theorem ApplyI_fn (hTen:∀ w,T w -> TenTab w) (hErr:∀ w,T w -> ErrTab w) (hTab:∀ w,T w -> Tabs w) (v:V) (l:List OpV) (hv:v.wf) (hb:v.bulk <= 1048576) (hl:l.length <= 2147483647) (ho:OpsOk l):FnP (env T hT) 19 [.ag (vC v),.d (.sl 0 (oK l))] (appV v l).1 (appV v l).2:=by
 have hA:=applied_g (T:=T) (hT:=hT) hTen hErr hTab v l hv hb hl ho 2 [];refine zaU (zaf lk_i_Apply) (by show 2 <= 19; decide) fun B hB => ?_
 unfold m_i_Apply;refine mO ?_;refine zal (cs:=vC v) rfl ?_;refine mN ?_;refine mO ?_;refine zaa (p:=0) (cs:=vC v) rfl rfl rfl rfl ?_;refine mS ?_;refine po_g rfl (FnG.liftR hA ⟨vlw (zai v),oK_lw l,trivial,trivial⟩) ?_;rintro x b n lv ⟨x0,b0,rfl,rfl,cs,y,ok,rfl,he,hN,htk,h1,h2⟩;rw [agb_shB he];have hn5:cs.length = 5:=by have:=congrArg length he; rw [zaw,length_map] at this; exact this
 show po _ _ _ ⟨_,[vC v,z6] ++ b0.map (·.map (PC.shB 2)),_,_⟩;generalize b0.map (·.map (PC.shB 2)) = rest;(iterate 3 refine mS ?_);refine zaH ?_;refine zad (cs:=cs) (z:=z6) rfl rfl (zaQ _ _) hn5 rfl rfl ?_;refine mL ?_;rw [zde];refine mM ?_
 cases ok with
 | false =>
  refine mT ?_;refine mO ?_;refine zaa (p:=0) (cs:=vC v) rfl rfl rfl rfl ?_;refine zaW (n:=5) (zax v) (zaX (T:=T) (hT:=hT) v hv (by omega)) rfl (fun cs1 nt1 he1 hn1 hle1 hN1 => ?_);refine zad (p:=1) (cs:=cs1) (z:=z6) rfl rfl rfl hn1 rfl rfl ?_;refine mN ?_;rw [h2 rfl]
  exact zab ⟨.inr rfl,[.ag cs1,.d (pB false)],zaz rfl rfl hn1 rfl,owp he1 hN1 (fun t h => List.mem_append_left _ h)⟩
 | true =>
  refine mK ?_;refine mO ?_;refine zaa (p:=([vC v,z6] ++ rest).length) (cs:=cs) rfl rfl (zaQ _ _) hn5 ?_;refine zad (p:=1) (cs:=cs) (z:=z6) rfl rfl rfl hn5 rfl rfl ?_;refine mN ?_;rw [h1 rfl];exact zab ⟨.inr rfl,[.ag cs,.d (pB true)],zaz rfl rfl hn5 rfl,owp he hN htk⟩
end
section
def m_l_eqOpS:M:=so [qo 4 (.mv (cB false))] (.seq (so [qm 6 0,qo 7 (.len 6),qm 8 1,qo 9 (.len 8),qo 10 (.bin .neq false 7 9)] (.cond 10 (so [qo 4 (.mv (cB false))] .ret) .skip)) (.seq (so [qo 5 (.mv (ci 0))] (.block 0 (.loop (.seq (so [qm 11 5,qm 12 0,qo 13 (.len 12),qo 14 (.bin .lss false 11 13)] (.cond 14 .skip (.exit 0))) (.seq (.block 1 (so [qm 17 0,qm 18 5,qo 19 (.ix 7 17 18),qL 20 7 19,qm 21 1,qm 22 5,qo 23 (.ix 7 21 22),qL 24 7 23,qc 25 12 [20,24] 0,qo 26 (.not 25)] (.cond 26 (so [qo 4 (.mv (cB false))] .ret) .skip))) (.ops [qm 15 5,qo 16 (.bin .add false 15 (ci 1)),qm 5 16])))))) (so [qo 4 (.mv (cB true))] .ret)))
theorem lk_l_eqOpS:look Tryz.prog 20 = some (27,m_l_eqOpS,[.tm 4]):=by kernel_rfl
end
section
attribute [local irreducible] po mw pt
def dOs (l:List OpV):D:=.sl 7 (l.map OpV.d)
theorem dOs_pc (l:List OpV):(dOs l).pc = [.sl 0 (oK l)]:=by
 simp only [dOs,D.pc,D.pcE_map,map_map]
 have:l.map (D.pc ∘ OpV.d) = oK l:=map_congr_left fun o _ => o.pc_eq
 rw [this]
theorem dOs_wf (l:List OpV):(dOs l).wf:=by
 simp only [dOs,D.wf];refine ⟨fun e he => by obtain ⟨o,_,rfl⟩:=mem_map.1 he; exact o.width,?_⟩
 induction l with
 | nil => trivial
 | cons o l ih => exact ⟨o.wfd,ih⟩
def OpV.bulks:List OpV -> Nat
 | [] => 0
 | o :: l => o.bulk + OpV.bulks l
theorem OpV.bulks_take:∀ (l:List OpV) (k:Nat),OpV.bulks (l.take k) <= OpV.bulks l
 | [],k => by simp [OpV.bulks]
 | o :: l,0 => by simp [OpV.bulks]
 | o :: l,k + 1 => by have:=OpV.bulks_take l k; simp only [take_succ_cons,OpV.bulks]; omega
theorem OpV.bulks_snoc:∀ (l:List OpV) (k:Nat) (h:k < l.length),OpV.bulks (l.take (k + 1)) = OpV.bulks (l.take k) + l[k].bulk
 | o :: l,0,h => by simp [OpV.bulks]
 | o :: l,k + 1,h => by
  have:=OpV.bulks_snoc l k (by simpa using h)
  simp only [take_succ_cons,OpV.bulks,getElem_cons_succ,this]; omega
def OpV.cnt (o:OpV):Nat:=1 + (o.st.length + (4 + V.cnts o.x.kids))
def OpV.cnts:List OpV -> Nat
 | [] => 0
 | o :: l => o.cnt + OpV.cnts l
theorem OpV.cnts_take:∀ (l:List OpV) (k:Nat) (h:k < l.length),OpV.cnts (l.take (k + 1)) = OpV.cnts (l.take k) + l[k].cnt
 | o :: l,0,h => by simp [OpV.cnts]
 | o :: l,k + 1,h => by
  have:=OpV.cnts_take l k (by simpa using h)
  simp only [take_succ_cons,OpV.cnts,getElem_cons_succ,this]; omega
theorem OpV.cnts_le:∀ (l:List OpV) (k:Nat),OpV.cnts (l.take k) <= OpV.cnts l
 | [],k => by simp [OpV.cnts]
 | o :: l,0 => by simp [OpV.cnts]
 | o :: l,k + 1 => by have:=OpV.cnts_le l k; simp only [take_succ_cons,OpV.cnts]; omega
theorem OpV.cnts_b:∀ l:List OpV,OpV.cnts l <= 6 * (l.length + OpV.bulks l)
 | [] => by simp [OpV.cnts]
 | o :: l => by
  have h1:=OpV.cnts_b l;have h2:=o.x.kcnt_le;simp only [OpV.cnts,OpV.cnt,OpV.bulks,OpV.bulk,length_cons]; omega
theorem Rd.ops {w:World} {l:List OpV} {v:Value} (h:Rd w (dOs l) [v]) :
  ∃ a c,v = .slice a l.length c /\ (l ≠ [] -> l.length <= c /\ c <= maxLen /\ ∃ b o,a = some ⟨b,o,none⟩ /\ b < w.heap.size /\ ∀ i (hi:i < l.length),∃ v0 v1 v2 v3 v4 v5 v6,Rd w l[i].d [v0,v1,v2,v3,v4,v5,v6] /\
   w.cell? ⟨b,o + i * 7,none⟩ = some v0 /\ w.cell? ⟨b,o + i * 7 + 1,none⟩ = some v1 /\ w.cell? ⟨b,o + i * 7 + 2,none⟩ = some v2 /\ w.cell? ⟨b,o + i * 7 + 3,none⟩ = some v3 /\ w.cell? ⟨b,o + i * 7 + 4,none⟩ = some v4 /\ w.cell? ⟨b,o + i * 7 + 5,none⟩ = some v5 /\ w.cell? ⟨b,o + i * 7 + 6,none⟩ = some v6):=by
 unfold dOs at h;obtain ⟨a,c,hv,h⟩:=Rd.slice h;rw [length_map] at hv;refine ⟨a,c,hv,fun hne => ?_⟩;obtain ⟨_,h1,h2,b,o,ha,hb,hg⟩:=h (by simpa using hne);refine ⟨by simpa using h1,h2,b,o,ha,hb,fun i hi => ?_⟩;obtain ⟨cs,hl,hr,hc⟩:=hg i (by simpa using hi);rw [getElem_map] at hr
 match cs,hl with
 | [v0,v1,v2,v3,v4,v5,v6],_ =>
  rw [Nat.mul_comm 7 i] at hc;exact ⟨v0,v1,v2,v3,v4,v5,v6,hr,hc 0 _ rfl,hc 1 _ rfl,hc 2 _ rfl,hc 3 _ rfl,hc 4 _ rfl,hc 5 _ rfl,hc 6 _ rfl⟩
theorem FnV.int {E:Env} {f:Nat} {args:List PV} {z:Int} (h:FnV E f args (.d (pI z))) {w:World} (hng:E.NG <= w.heap.size) (hT:E.T w) {vs:List Value} (hl:vs.length = args.length) (hv:∀ (j:Nat) (x:PV) (y:Value),args[j]? = some x -> vs[j]? = some y -> RpV (C0 w) w x y) :
  Calls E.P f vs.toArray w fun e w' => e = .returned (.int .i64 z) /\ Below w.heap.size w w':=by
 refine (Fn.use h hng hT hl hv).mono ?_;rintro e w' ⟨u,x,bx,live,C',rfl,h1,_,h3,h4,_⟩
 have hx:x = .d (pI z):=by
  cases x with
  | d c =>
   simp only [PV.dat,sI,PV.d.injEq] at h1
   cases c with
   | v y => simp only [PC.er] at h1; rw [h1]
   | sl t es => simp [PC.er,pI] at h1
   | bld p T t U => simp [PC.er,pI] at h1
   | anyp => simp [PC.er,pI] at h1
   | row => simp [PC.er,pI] at h1
  | _ => simp [PV.dat] at h1
 subst hx
 cases h3 with
 | d _ _ h => cases h; exact ⟨rfl,h4⟩
theorem true_low:Low ngl fun _ => True:=fun _ _ _ _ _ => trivial
theorem szOp_any (o:OpV) (cs:List Value) (left:Int) (w:World) (hn:ngl <= w.heap.size) (h:Rd w o.d cs) (hw:o.wf) (hl:0 <= left /\ left <= 1048576) :
  Calls Tryz.prog 6 #[.agg cs.toArray,.int .i64 left] w fun e w' => e = .returned (.int .i64 (take' o.bulk left)) /\ Below w.heap.size w w' :=
 FnV.int (szOp_fn (T:=fun _ => True) (hT:=true_low) (hn:=hn) h hw hl) lR ⟨trivial,lR,fun _ _ => rfl⟩ (vs:=[.agg cs.toArray,.int .i64 left]) rfl fun j x y hx hy => by
  match j with
  | 0 => simp at hx hy; subst hx; subst hy; exact zfW h o.wfd
  | 1 => simp at hx hy; subst hx; subst hy; exact .d _ _ (.v _ rfl)
  | j + 2 => simp at hx
theorem toOp_any (o:OpV) (cs:List Value) (w:World) (hn:ngl <= w.heap.size) (h:Rd w o.d cs) (hb:o.bulk <= 1048576) :
  Calls Tryz.prog 9 #[.agg cs.toArray] w fun e w' => ∃ cs',e = .returned (.agg (toArray cs')) /\ Below w.heap.size w w' /\ Own w.heap.size w' o.d cs':=by
 have h1:=toOp_fn (T:=fun _ => True) (hT:=true_low) (hn:=hn) h hb;rw [<- OpV.pc_eq] at h1;refine (FnO.use h1 o.wfd lR ⟨trivial,lR,fun _ _ => rfl⟩ (vs:=[.agg cs.toArray]) rfl fun j x y hx hy => ?_).mono ?_
 ·match j with
  | 0 => simp at hx hy; subst hx; subst hy; exact zfW h o.wfd
  | j + 1 => simp at hx
 ·rintro e w' ⟨cs',h1,h2,h3,_⟩; exact ⟨cs',h1,h3,h2⟩
theorem OpV.form {w:World} {o:OpV} {cs:List Value} (h:Rd w o.d cs):∃ k0 a1 n1 c1 k n e s a2 n2 c2,cs = [.int .i64 k0,.slice a1 n1 c1,.int .i64 k,.int .i64 n,.int .i64 e,.string ⟨s⟩,.slice a2 n2 c2]:=by
 obtain ⟨v1,k,n,e,s,v2,rfl,h1,h2⟩:=OpV.lay h;obtain ⟨a1,c1,rfl⟩:=Rd.sl_form h1;obtain ⟨x0,x1,x2,x3,a2,n2,c2,hv⟩:=V.form h2;simp only [cons.injEq,and_true] at hv;obtain ⟨_,_,_,_,rfl⟩:=hv;exact ⟨_,_,_,_,_,_,_,_,_,_,_,rfl⟩
theorem szOpS_any (ls:List OpV) (v:Value) (left:Int) (w:World) (hn:ngl <= w.heap.size) (h:Rd w (dOs ls) [v]) (hs:∀ o ∈ ls,o.wf) (hlen:ls.length <= 9223372036854775807) (hl:0 <= left /\ left <= 1048576) :
  Calls Tryz.prog 16 #[v,.int .i64 left] w fun e w' => e = .returned (.int .i64 (take' (ls.length + OpV.bulks ls) left)) /\ Below w.heap.size w w':=by
 obtain ⟨a,c,rfl,hg⟩:=h.ops;obtain ⟨hl1,hl2⟩:=hl;by_cases hlt:left < ls.length
 ·have H:=Lib.hid (show take' (ls.length + OpV.bulks ls) left = -1 by unfold take'; rw [if_pos (by omega)])
  clear hn
  go_enter Tryz.func16,Tryz.ntmps16
  go_wp2;go_ret;exact ⟨zba H.out.symm,Below.refl _ _⟩
 ·have HN:=Lib.hid hn
  clear hn
  go_enter Tryz.func16,Tryz.ntmps16
  go_wp2
  go_loopw [1,5] (fun x i wr => ∃ (k:Nat),k <= ls.length /\ i = .int .i64 k /\ ((ls.length + OpV.bulks (ls.take k):Nat):Int) <= left /\ x = .int .i64 (left - (ls.length + OpV.bulks (ls.take k):Nat)) /\ Below w.heap.size w wr) (fun _ i _ => ls.length - (intOf i).toNat)
  case atStart => exact ⟨0,Nat.zero_le _,rfl,by simp [OpV.bulks]; omega,by simp [OpV.bulks],Below.refl _ _⟩
  case round =>
   obtain ⟨k,hk,rfl,hx,rfl,hbel⟩:=hrel;by_cases hk2:k < ls.length
   ·obtain ⟨_,_,b,o,rfl,hb,hcell⟩:=hg (by intro e; rw [e] at hk2; simp at hk2)
    obtain ⟨v0,v1,v2,v3,v4,v5,v6,hr,c0,c1,c2,c3,c4,c5,c6⟩:=hcell k hk2;have hwk:=hs _ (getElem_mem hk2);have HS:=Lib.hid (OpV.bulks_snoc ls k hk2);have HN2:=Lib.hid (Nat.le_trans HN.out hbel.size);clear hcell;obtain ⟨hbc,_⟩:=zaP hbel;have hr':=hr.below hbel
    go_wp2_with (go_at_call 6; refine (szOp_any _ _ _ _ HN2.out hr' hwk (by omega)).mono ?_; rintro e w' ⟨rfl,hb1⟩)
    ·have hno:take' ls[k].bulk (left - ((ls.length:Int) + ↑(OpV.bulks (ls.take k)))) < 0:=by assumption
     rw [zcp] at hno;have hle:=OpV.bulks_take ls (k + 1);rw [HS.out] at hle;go_ret;exact ⟨zba (zbA (by omega)).symm,zag hbel hb1 lR⟩
    ·have hyes:0 <= take' ls[k].bulk (left - ((ls.length:Int) + ↑(OpV.bulks (ls.take k)))):=by assumption
     have hy2:¬ (take' ls[k].bulk (left - ((ls.length:Int) + ↑(OpV.bulks (ls.take k)))) < 0):=by omega
     rw [zcp] at hy2;have hy3:=Lib.hid (zbg (t:=ls[k].bulk) (left:=left - ((ls.length:Int) + ↑(OpV.bulks (ls.take k)))) (by omega));go_roundw
     case rel => exact ⟨k + 1,by omega,by go_num,by rw [HS.out]; omega,by rw [HS.out,hy3.out]; go_num,zag hbel hb1 lR⟩
     case measure => simp [intOf] <;> omega
   ·obtain rfl:k = ls.length:=by omega
    rw [take_length] at hx;have H:=Lib.hid (zbg hx);go_wp2;go_ret;exact ⟨zba (by rw [H.out,take_length]),hbel⟩
theorem tyOs:ElemTy Tryz.prog 47 37 7 96:=ElemTy.mk' (z:=.agg #[.int .i64 0,.slice none 0 0,.int .i64 0,.int .i64 0,.int .i64 0,.string ⟨#[]⟩,.slice none 0 0]) Tryz.underlying47 (by kernel_rfl) rfl (by decide)
theorem toOpS_any (ls:List OpV) (v:Value) (w:World) (hn:ngl <= w.heap.size) (h:Rd w (dOs ls) [v]) (hlen:ls.length + OpV.bulks ls <= 1048576) :
  Calls Tryz.prog 18 #[v] w fun e w' => ∃ v',e = .returned v' /\ Below w.heap.size w w' /\ Own w.heap.size w' (dOs ls) [v']:=by
 obtain ⟨a,c,rfl,hg⟩:=h.ops;obtain ⟨cs,hcs,hmk⟩:=run_mk tyOs ls.length (by omega) (by decide);have HCS:=Lib.hid hcs; clear hcs
 have hl:ls.length <= 1048576:=by omega
 have HN:=Lib.hid hn;clear hn
 go_enter Tryz.func18,Tryz.ntmps18
 go_wp2
 go_loopw [4] (fun i wr => ∃ (k:Nat),k <= ls.length /\ i = .int .i64 k /\ Part w.heap.size wr w.heap.size 7 ls.length ((ls.take k).map OpV.d) /\ Below w.heap.size w wr) (fun i _ => ls.length - (intOf i).toNat)
 case atStart => exact ⟨0,Nat.zero_le _,rfl,Part.start HCS.out,(Below.refl _ _).alloc lR _⟩
 case round =>
  obtain ⟨k,hk,rfl,hp,hbel⟩:=hrel;by_cases hk2:k < ls.length
  ·obtain ⟨_,_,b,o,rfl,hb,hcell⟩:=hg (by intro e; rw [e] at hk2; simp at hk2)
   obtain ⟨v0,v1,v2,v3,v4,v5,v6,hr,c0,c1,c2,c3,c4,c5,c6⟩:=hcell k hk2;obtain ⟨hbc,_⟩:=zaP hbel;have hr':=hr.below hbel;have hbk:ls[k].bulk <= 1048576:=by have h1:=OpV.bulks_snoc ls k hk2; have h2:=OpV.bulks_take ls (k + 1); omega
   have HS:=Lib.hid (zbc OpV.d ls k hk2);have HN2:=Lib.hid (Nat.le_trans HN.out hbel.size);clear hcell
   go_wp2_with (go_at_call 9; refine (toOp_any _ _ _ HN2.out hr' hbk).mono ?_; rintro e w1 ⟨cs',rfl,hb1,hown⟩; obtain ⟨x0,a1,n1,c1,x1,x2,x3,x4,a2,n2,c2,rfl⟩:=OpV.form hown.rd; have hp1:=hp.below hb1; obtain ⟨⟨z0,hz0⟩,hf0⟩:=hp1.there (k * 7) (by omega); obtain ⟨⟨z1,hz1⟩,hf1⟩:=hp1.there (k * 7 + 1) (by omega); obtain ⟨⟨z2,hz2⟩,hf2⟩:=hp1.there (k * 7 + 2) (by omega); obtain ⟨⟨z3,hz3⟩,hf3⟩:=hp1.there (k * 7 + 3) (by omega); obtain ⟨⟨z4,hz4⟩,hf4⟩:=hp1.there (k * 7 + 4) (by omega); obtain ⟨⟨z5,hz5⟩,hf5⟩:=hp1.there (k * 7 + 5) (by omega); obtain ⟨⟨z6,hz6⟩,hf6⟩:=hp1.there (k * 7 + 6) (by omega))
   have hp2:=hp.put hb1 hown (OpV.width _) (by simp; omega) hbel.size;have hb2:=zbn (g:=w.heap.size) [.int .i64 x0,.slice a1 n1 c1,.int .i64 x1,.int .i64 x2,.int .i64 x3,.string ⟨x4⟩,.slice a2 n2 c2] (k * 7) (zag hbel hb1 lR) lR;rw [length_map,length_take,Nat.min_eq_left hk,Nat.mul_comm] at hp2;go_roundw
   case rel => exact ⟨k + 1,by omega,by go_num,by rw [HS.out]; exact hp2,hb2⟩
   case measure => simp [intOf] <;> omega
  ·obtain rfl:k = ls.length:=by omega
   rw [take_length] at hp;have ho:=Part.own (ds:=ls.map OpV.d) (n:=7) (c:=ls.length) (by simpa using hp) (by decide) ⟨by simp,by unfold maxLen; omega⟩;go_wp2;go_ret;exact ⟨_,rfl,hbel,by simpa [dOs] using ho⟩
section
variable {T:World -> Prop} {hT:Low ngl T} {w:World} {hn:ngl <= w.heap.size}
theorem szOpS_fn {ls:List OpV} {v:Value} (hr:Rd w (dOs ls) [v]) (hs:∀ o ∈ ls,o.wf) (hlen:ls.length <= 9223372036854775807) {l:Int} (hl:0 <= l /\ l <= 1048576):FnV (envW T hT w hn) 16 [.d (.v v),.d (pI l)] (.d (pI (take' (ls.length + OpV.bulks ls) l))):=by
 refine FnV.old rfl fun W C vs _ hng hS hlen' hv => ?_
 match vs,hlen' with
 | [a,b],_ =>
  have ha:=zc5 (hv 0 _ _ rfl rfl);have hb:=zep (hv 1 _ _ rfl rfl)
  subst ha; subst hb
  exact szOpS_any ls _ l W (Nat.le_trans hn hng) (Stay.rd hS hr) hs hlen hl
theorem toOpS_fn {ls:List OpV} {v:Value} (hr:Rd w (dOs ls) [v]) (hlen:ls.length + OpV.bulks ls <= 1048576):FnO (envW T hT w hn) 18 [.d (.v v)] (.d (.sl 0 (oK ls))):=by
 refine FnO.old1 (dOs_wf ls) (dOs_pc ls) fun W C vs _ hng hS hlen' hv => ?_
 match vs,hlen' with
 | [a],_ =>
  have ha:=zc5 (hv 0 _ _ rfl rfl);subst ha;exact toOpS_any ls _ W (Nat.le_trans hn hng) (Stay.rd hS hr) hlen
end
def EqOI (l:List OpV) (m:Nat) (st:St):Prop:=∃ i:Nat,i <= l.length /\ m = l.length - i /\ has st.tm [(0,.d (.sl 0 (oK l))),(1,.d (.sl 0 (oK l))),(5,.d (pI i))]
theorem eqOpS_fn {E:Env} (hP:E.P = Tryz.prog) (l:List OpV) (hl:l.length <= 2147483647) (hb0:∀ o ∈ l,o.bulk <= 1048576):FnV E 20 [.d (.sl 0 (oK l)),.d (.sl 0 (oK l))] (.d (pB true)):=by
 refine zaU (by rw [hP]; exact lk_l_eqOpS) (by show 2 <= 27; decide) fun B hB => ?_
 unfold m_l_eqOpS;refine mP ?_;refine mM ?_;refine mS ?_;refine zay (n:=l.length) rfl rfl (zdU l) ?_;refine mS ?_;refine zay (n:=l.length) rfl rfl (zdU l) ?_;refine zan rfl rfl (by simp) ?_;refine mK ?_;refine zaS (fun s => True) ?_ ?_
 ·refine mP ?_
  refine zak ?_;refine zaY (EqOI l) l.length ⟨0,Nat.zero_le _,rfl,⟨rfl,rfl,rfl,trivial⟩⟩ ?_;rintro m tm bx nt live ⟨i,hi,rfl,ht⟩;obtain ⟨tm0,rfl⟩:=zaq ht;refine mM ?_;(iterate 2 refine mS ?_);refine zay (n:=l.length) rfl rfl (zdU l) ?_;refine po_b rfl rfl (fun b hb => ?_);refine zaj ?_;refine zdy (p:=(i:Int) < l.length) hb rfl (fun h _ => ?_) (fun h _ => ?_)
  ·have hil:i < l.length:=by omega
   have he:=eqOp_fn hP l[i] (hb0 _ (getElem_mem hil));refine za0 ?_;refine zau (zak (zau (zap ?_)));(iterate 2 refine mS ?_);refine za5 (es:=oK l) (e:=opC l[i]) rfl rfl rfl ⟨by omega,by rw [Int.toNat_natCast]; exact oK_get hil⟩ rfl ?_;refine po_q (v:=.ag (opC l[i])) rfl rfl ?_;(iterate 2 refine mS ?_);refine za5 (es:=oK l) (e:=opC l[i]) rfl rfl rfl ⟨by omega,by rw [Int.toNat_natCast]; exact oK_get hil⟩ rfl ?_;refine po_q (v:=.ag (opC l[i])) rfl rfl ?_;refine zac (zfV (zec _) (zec _)) he ?_;refine mK ?_;refine zap ?_;refine mS ?_;refine zaZ (n:=((i + 1:Nat):Int)) rfl rfl rfl (by omega) (by omega) ?_;refine mN ?_;exact ⟨l.length - (i + 1),by omega,i + 1,hil,rfl,⟨rfl,rfl,rfl,trivial⟩⟩
  ·refine za4 ?_
   trivial
 intro tm bx nt live _;refine mP ?_;exact mR
end
section
theorem RowO.round {w:World} {g sz:Nat} {e:TypeId} {fr:List Nat} {es:List OpV} (h:Row w 7 g e sz fr (es.map OpV.d)) (hn:(g :: fr).Nodup) (j:Nat) (hj:j < es.length) (q:Nat):∃ f1 f2 k0 st kn nn en sn kids v u,es[j] = ⟨k0,st,.mk kn nn en sn kids⟩ /\ f1.Nodup /\ f2.Nodup /\
  w.cell? ⟨g,j * 7,none⟩ = some (.int .i64 k0) /\ (∀ o,w.frozen? ⟨g,o,none⟩ = false) /\ g < w.heap.size /\
  (w.setCell ⟨g,j * 7,none⟩ (.int .i64 (q:Nat))).cell? ⟨g,j * 7 + 1,none⟩ = some v /\ TreeC (w.setCell ⟨g,j * 7,none⟩ (.int .i64 (q:Nat))) (dSs st) f1 [v] /\
  ∀ (w1:World) (q1:Nat),q1 = q + 1 + st.length -> Keep (· ∈ f1) (w.setCell ⟨g,j * 7,none⟩ (.int .i64 (q:Nat))) w1 -> TreeC w1 (dSs (mtS (q + 1) st)) f1 [v] ->
   w1.cell? ⟨g,j * 7 + 2,none⟩ = some (.int .i64 kn) /\ w1.cell? ⟨g,j * 7 + 2 + 1,none⟩ = some (.int .i64 nn) /\ w1.cell? ⟨g,j * 7 + 2 + 2,none⟩ = some (.int .i64 en) /\ (∀ o,w1.frozen? ⟨g,o,none⟩ = false) /\
   ∀ w2,Below (setA w1 g (j * 7 + 2) q1).heap.size (setA w1 g (j * 7 + 2) q1) w2 -> w2.cell? ⟨g,j * 7 + 2 + 3,none⟩ = some (.string ⟨sn.toArray⟩) /\ w2.frozen? ⟨g,j * 7 + 2 + 3,none⟩ = false /\ w2.cell? ⟨g,j * 7 + 2 + 4,none⟩ = some u /\
    TreeC (w2.setCell ⟨g,j * 7 + 2 + 3,none⟩ (.string ⟨(mt (q1 + 3)).toArray⟩)) (.sl 5 (V.ds kids)) f2 [u] /\
    ∀ wD,Keep (· ∈ f2) (w2.setCell ⟨g,j * 7 + 2 + 3,none⟩ (.string ⟨(mt (q1 + 3)).toArray⟩)) wD -> TreeC wD (.sl 5 (V.ds (V.marks (q1 + 4) kids))) f2 [u] ->
     (∃ o',Row wD 7 g e sz fr ((es.set j o').map OpV.d)) /\ Keep (· ∈ g :: fr) w wD:=by
 obtain ⟨k0,st,kn,nn,en,sn,kids,hes⟩:∃ k0 st kn nn en sn kids,es[j] = ⟨k0,st,.mk kn nn en sn kids⟩:=by
  obtain ⟨k0,st,x⟩:=es[j]
  cases x; exact ⟨_,_,_,_,_,_,_,rfl⟩
 have hblk:=h.blk;have hj':j < (es.map OpV.d).length:=by rw [length_map]; exact hj
 obtain ⟨fi,ci,k1,k2,hgf,ht,hci,hsz,hcell,hput⟩:=h.at hn j hj';have hd:(es.map OpV.d)[j] = es[j].d:=by simp
 rw [hd,hes] at ht;obtain ⟨v,cx,f1,f2,rfl,rfl,ht1,ht2⟩:=OpV.tree ht;obtain ⟨u,rfl,hkt⟩:=V.tree ht2;rw [nodup_append] at k1;obtain ⟨n1,n2,n3⟩:=k1;have hg1:g ∉ f1:=fun hb => hgf (by simp [hb])
 have hg2:g ∉ f2:=fun hb => hgf (by simp [hb])
 have hg:=hblk.lt;have hl1:∀ b ∈ f1,b < w.heap.size:=ht1.lt;have hl2:∀ b ∈ f2,b < w.heap.size:=ht2.lt;have hgr:g ∉ fr:=(nodup_cons.1 hn).1;have c0:=hcell 0 _ (by decide) rfl;have c1:=hcell 1 _ (by decide) rfl;have c2:=hcell 2 _ (by decide) rfl;have c3:=hcell 3 _ (by decide) rfl;have c4:=hcell 4 _ (by decide) rfl;have c5:=hcell 5 _ (by decide) rfl;have c6:=hcell 6 _ (by decide) rfl;rw [Nat.add_zero] at c0;have hlt:∀ b ∈ fr,b < w.heap.size:=by obtain ⟨_,_,_,_,_,hts⟩:=h; exact hts.lt
 obtain ⟨wA,hwA⟩:∃ wA,wA = w.setCell ⟨g,j * 7,none⟩ (.int .i64 (q:Nat)):=⟨_,rfl⟩;have hAc:∀ p,p ≠ j * 7 -> wA.cell? ⟨g,p,none⟩ = w.cell? ⟨g,p,none⟩:=fun p hp => by rw [hwA]; simp [go_sem]
 have hA0:wA.cell? ⟨g,j * 7,none⟩ = some (.int .i64 (q:Nat)):=by rw [hwA]; simp [go_sem,c0]
 have hAz:wA.heap.size = w.heap.size:=by rw [hwA]; simp [World.setCell]
 have hAb:∀ b,b ≠ g -> wA.heap[b]? = w.heap[b]?:=fun b hb => by rw [hwA,Below.heap_setCell _ _ _ _ (by simpa using hb)]
 have hbA:Blk wA g e sz:=by rw [hwA]; exact hblk.setCell _ _
 have hKA:Keep (· ∈ g :: fr) w wA:=by rw [hwA]; exact (Keep.refl _ w).setCell (.inl (by simp)) _
 rw [<- hwA];refine ⟨f1,f2,k0,st,kn,nn,en,sn,kids,v,u,hes,n1,n2,c0,hblk.free,hg,by rw [hAc _ (by omega)]; exact c1,ht1.frame fun b hb => hAb b (fun e => hg1 (e ▸ hb)),fun w1 q1 hq1 hB hT1 => ?_⟩;have hAg:g < wA.heap.size:=by rw [hAz]; exact hg
 have hb1:Blk w1 g e sz:=hbA.keep hB hg1;have h1c:∀ p,w1.cell? ⟨g,p,none⟩ = wA.cell? ⟨g,p,none⟩:=fun p => hB.cell hAg hg1
 have e2:w1.cell? ⟨g,j * 7 + 2,none⟩ = some (.int .i64 kn):=by rw [h1c,hAc _ (by omega),c2]
 have e3:w1.cell? ⟨g,j * 7 + 2 + 1,none⟩ = some (.int .i64 nn):=by rw [h1c,hAc _ (by omega)]; exact c3
 have e4:w1.cell? ⟨g,j * 7 + 2 + 2,none⟩ = some (.int .i64 en):=by rw [h1c,hAc _ (by omega)]; exact c4
 refine ⟨e2,e3,e4,hb1.free,fun w2 hW => ?_⟩;have hz1:=hB.size;have h1g:g < (setA w1 g (j * 7 + 2) q1).heap.size:=by rw [zbl]; omega
 have hbS:Blk (setA w1 g (j * 7 + 2) q1) g e sz:=((hb1.setCell _ _).setCell _ _).setCell _ _;have hb2:Blk w2 g e sz:=hbS.below hW;have hS:=@zfA w1 g (j * 7 + 2) q1;have h2c:∀ p,w2.cell? ⟨g,p,none⟩ = (setA w1 g (j * 7 + 2) q1).cell? ⟨g,p,none⟩:=fun p => (zaP hW).1 _ _ h1g
 have h2o:∀ p,p ≠ j * 7 + 2 -> p ≠ j * 7 + 2 + 1 -> p ≠ j * 7 + 2 + 2 -> w2.cell? ⟨g,p,none⟩ = wA.cell? ⟨g,p,none⟩:=fun p h0 h1 h2 => by
  rw [h2c,hS ⟨_,e2⟩ ⟨_,e3⟩ ⟨_,e4⟩,if_neg h2,if_neg h1,if_neg h0,h1c]
 have e5:w2.cell? ⟨g,j * 7 + 2 + 3,none⟩ = some (.string ⟨sn.toArray⟩):=by rw [h2o _ (by omega) (by omega) (by omega),hAc _ (by omega)]; exact c5
 have e6:w2.cell? ⟨g,j * 7 + 2 + 4,none⟩ = some u:=by rw [h2o _ (by omega) (by omega) (by omega),hAc _ (by omega)]; exact c6
 have hC:∀ b,b < w.heap.size -> b ≠ g -> b ∉ f1 -> (w2.setCell ⟨g,j * 7 + 2 + 3,none⟩ (.string ⟨(mt (q1 + 3)).toArray⟩)).heap[b]? = w.heap[b]?:=by
  intro b hb hbg hb1;rw [Below.heap_setCell _ _ _ _ (by simpa using hbg),hW.block b (by rw [zbl]; omega),zcM hbg,hB.block b (by rw [hAz]; exact hb) hb1,hAb b hbg]
 refine ⟨e5,hb2.free _,e6,hkt.frame fun b hb => hC b (hl2 b hb) (fun e => hg2 (e ▸ hb)) (fun hb1 => n3 b hb1 b hb rfl),fun wD hK hT => ?_⟩
 have hKg:Keep (· ∈ g :: fr) w wD :=
  ((((hKA.trans (hB.mono fun b _ hb => by simp [k2 b (by simp [hb])])).trans (zfB (S:=(· ∈ g :: fr)) (by simp))).then hW).setCell (.inl (by simp)) _).trans (hK.mono fun b _ hb => by simp [k2 b (by simp [hb])])
 refine ⟨⟨⟨q,mtS (q + 1) st,.mk (q1:Nat) ((q1 + 1:Nat):Int) ((q1 + 2:Nat):Int) (mt (q1 + 3)) (V.marks (q1 + 4) kids)⟩,?_⟩,hKg⟩;have hz2:=hW.size;rw [zbl] at hz2;have hgC:g < (w2.setCell ⟨g,j * 7 + 2 + 3,none⟩ (.string ⟨(mt (q1 + 3)).toArray⟩)).heap.size:=by simp [World.setCell]; omega
 have hDc:∀ p,wD.cell? ⟨g,p,none⟩ = (w2.setCell ⟨g,j * 7 + 2 + 3,none⟩ (.string ⟨(mt (q1 + 3)).toArray⟩)).cell? ⟨g,p,none⟩:=fun p => hK.cell hgC hg2
 have hCc:∀ p,p ≠ j * 7 + 2 + 3 -> (w2.setCell ⟨g,j * 7 + 2 + 3,none⟩ (.string ⟨(mt (q1 + 3)).toArray⟩)).cell? ⟨g,p,none⟩ = w2.cell? ⟨g,p,none⟩:=by
  intro p hp; simp [go_sem]
 have hT1':TreeC wD (dSs (mtS (q + 1) st)) f1 [v]:=hT1.frame fun b hb => by
  have hbl:=hl1 b hb;have hbg:b ≠ g:=fun e => hg1 (e ▸ hb)
  rw [hK.block b (by simp [World.setCell]; omega) (fun hb2 => n3 b hb b hb2 rfl),Below.heap_setCell _ _ _ _ (by simpa using hbg),hW.block b (by rw [zbl]; omega),zcM hbg]
 rw [map_set];refine hput wD _ [.int .i64 (q:Nat),v,.int .i64 (q1:Nat),.int .i64 ((q1 + 1:Nat):Int),.int .i64 ((q1 + 2:Nat):Int),.string ⟨(mt (q1 + 3)).toArray⟩,u] (OpV.width _) ((hb2.setCell _ _).keep hK hg2) ?_ ?_ ?_ (OpV.tree_mk (o:=⟨q,mtS (q + 1) st,.mk (q1:Nat) ((q1 + 1:Nat):Int) ((q1 + 2:Nat):Int) (mt (q1 + 3)) (V.marks (q1 + 4) kids)⟩) hT1' (V.tree_mk hT) rfl)
 ·intro i hi
  rw [hDc]
  match i,hi with
  | 0,_ => rw [hCc _ (by omega),h2o _ (by omega) (by omega) (by omega)]; exact hA0
  | 1,_ => rw [hCc _ (by omega),h2o _ (by omega) (by omega) (by omega),hAc _ (by omega)]; exact c1
  | 2,_ => rw [hCc _ (by omega),h2c,hS ⟨_,e2⟩ ⟨_,e3⟩ ⟨_,e4⟩,if_neg (by omega),if_neg (by omega),if_pos (by omega)]; rfl
  | 3,_ => rw [hCc _ (by omega),h2c,hS ⟨_,e2⟩ ⟨_,e3⟩ ⟨_,e4⟩,if_neg (by omega),if_pos (by omega)]; rfl
  | 4,_ => rw [hCc _ (by omega),h2c,hS ⟨_,e2⟩ ⟨_,e3⟩ ⟨_,e4⟩,if_pos (by omega)]; rfl
  | 5,_ => show (w2.setCell _ _).cell? ⟨g,j * 7 + 2 + 3,none⟩ = _; simp [go_sem,e5]
  | 6,_ => rw [hCc _ (by omega)]; exact e6
 ·intro o ho
  rw [hDc,hCc _ (by omega),h2o _ (by omega) (by omega) (by omega),hAc _ (by omega)]
 ·intro b hb hbi
  have hne:b ≠ g:=fun e => hgr (e ▸ hb)
  rw [mem_append,not_or] at hbi;have hbl:=hlt b hb;rw [hK.block b (by simp [World.setCell]; omega) hbi.2];exact hC b hbl hne hbi.1
theorem markOp_nil (v:Value) (k:Nat) (fp:List Nat) (w:World) (h:TreeC w (dOs []) fp [v]) :
  Calls Tryz.prog 21 #[v,.int .i64 k] w fun e w' => e = .returned (.int .i64 ((k + OpV.cnts []:Nat):Int)) /\ Keep (· ∈ fp) w w':=by
 obtain ⟨a,c,rfl,_⟩:=TreeC.row h;clear h
 go_enter Tryz.func21,Tryz.ntmps21
 go_wp2
 go_loopw [1,5] (fun kk i wr => kk = .int .i64 k /\ i = .int .i64 (0:Int) /\ wr = w) (fun _ _ _ => 0)
 case atStart => exact ⟨rfl,rfl,rfl⟩
 case round =>
  obtain ⟨rfl,rfl,rfl⟩:=hrel;go_wp2;go_ret;exact ⟨rfl,Keep.refl _ _⟩
theorem zgr (ls:List OpV) (v:Value) (k:Nat) (fp:List Nat) (w:World) (h:TreeC w (dOs ls) fp [v]) (hn:fp.Nodup) (hl:ls.length + OpV.bulks ls <= 4294967295) (hk:0 < k) (hk2:k + OpV.cnts ls <= 4611686018427387904) :
  Calls Tryz.prog 21 #[v,.int .i64 k] w fun e w' => e = .returned (.int .i64 ((k + OpV.cnts ls:Nat):Int)) /\ Keep (· ∈ fp) w w':=by
 by_cases hne:ls = []
 ·subst hne
  exact markOp_nil v k fp w h
 ·unfold dOs at h
  obtain ⟨a,c,rfl,hg⟩:=TreeC.row h;obtain ⟨g,fr,e,sz,rfl,rfl,hc1,hc2,hrow⟩:=hg (by simpa using hne);have hvl:(ls.map OpV.d).length = ls.length:=by rw [length_map]
  rw [hvl];clear hg h hc1 hc2
  go_enter Tryz.func21,Tryz.ntmps21
  go_wp2
  go_loopw [1,5] (fun kk i wr => ∃ (j q:Nat) (ms:List OpV),j <= ls.length /\ q = k + OpV.cnts (ls.take j) /\ kk = .int .i64 q /\ i = .int .i64 j /\ ms.length = ls.length /\ (∀ x,j <= x -> ms[x]? = ls[x]?) /\ Row wr 7 g e sz fr (ms.map OpV.d) /\ Keep (· ∈ g :: fr) w wr) (fun _ i _ => ls.length - (intOf i).toNat)
  case atStart => exact ⟨0,k,ls,Nat.zero_le _,by simp [OpV.cnts],rfl,rfl,rfl,fun _ _ => rfl,hrow,Keep.refl _ _⟩
  case round =>
   obtain ⟨j,q,ms,hj,hq,rfl,rfl,hml,hmx,hr,hkp⟩:=hrel;have HQ:=Lib.hid hq;by_cases hlt:j < ls.length
   ·have hq1:0 < q:=by omega
    have hcl:=OpV.cnts_le ls (j + 1);have hct:=OpV.cnts_take ls j hlt;have hq2:q + ls[j].cnt <= 4611686018427387904:=by omega
    have HQ2:=Lib.hid (show q + ls[j].cnt = k + OpV.cnts (ls.take (j + 1)) by omega);clear hq hct hcl;have hjl:j < ms.length:=by omega
    obtain ⟨f1,f2,k0,st,kn,nn,en,sn,kids,v,u,hes,hnf1,hnf2,d0,hfr,hgl,c1,htk1,hrest⟩:=RowO.round hr hn j hjl q
    have hes':ls[j] = ⟨k0,st,.mk kn nn en sn kids⟩:=by
     have h1:=hmx j lR;rw [getElem?_eq_getElem hjl,getElem?_eq_getElem hlt,sI] at h1;rw [<- h1]; exact hes
    have hbj:=OpV.bulks_snoc ls j hlt;have hbt:=OpV.bulks_take ls (j + 1);have hbo:st.length + ssBulk st + (sn.length + (kids.length + V.bulks kids)) <= 4294967295:=by rw [hes'] at hbj; simp only [OpV.bulk,V.bulk] at hbj; omega
    have hck:ls[j].cnt = 1 + (st.length + (4 + V.cnts kids)):=by rw [hes']; rfl
    obtain ⟨q1,hq1e⟩:∃ q1,q1 = q + 1 + st.length:=⟨_,rfl⟩;have hqk:q1 + 4 + V.cnts kids <= 4611686018427387904:=by omega
    have HQ3:=Lib.hid (show q1 + 4 + V.cnts kids = k + OpV.cnts (ls.take (j + 1)) by rw [<- HQ2.out]; omega);have HMX:=Lib.hid (show ∀ o':OpV,(ms.set j o').length = ls.length /\ ∀ x,j + 1 <= x -> (ms.set j o')[x]? = ls[x]? from fun o' => ⟨by rw [length_set]; exact hml,fun x hx => by rw [getElem?_set_ne (by omega)]; exact hmx x (by omega)⟩);have HR:=Lib.hid hrest;have f0:=hfr (j * 7);have i1:(0:Int) <= j:=by omega
    have i2:(j:Int) < ls.length:=by omega
    have HMS:=Lib.hid (zdT st v (q + 1) f1 _ htk1 hnf1 (by omega) (by omega) (by omega));have HMT:=fun W => Lib.hid (zbm (q1 + 3) W (by omega) (by omega))
    have HMK:=fun W h1 => Lib.hid (zgp (V.nodess kids) kids u (q1 + 4) f2 W lR h1 hnf2 (by omega) (by omega) hqk)
    have HKP:=Lib.hid hkp;rw [<- hq1e] at HMS;have HQE:=Lib.hid hq1e;have hq1b:q1 <= 4611686018427387904:=by omega
    clear hes hes' hbj hbt hbo hck hrest hr hfr hnf1 hnf2 hrow hkp htk1 hml hmx hq1e
    go_wp2_with (first | (go_at_call 43; refine HMS.out.mono ?_; rintro e1 w1 ⟨rfl,hkk1,ht1⟩; obtain ⟨c2,c3,c4,f2',hfin⟩:=HR.out w1 q1 HQE.out hkk1 ht1; have g2:=f2' (j * 7 + 2); have g3:=f2' (j * 7 + 2 + 1); have g4:=f2' (j * 7 + 2 + 2)) | (go_at_call 47; refine (HMT _).out.mono ?_; rintro e1 w2 ⟨rfl,hb2⟩; obtain ⟨c5,f5,c6,htk,hfin2⟩:=hfin w2 hb2) | (go_at_call 42; refine (HMK _ htk).out.mono ?_; rintro e1 w3 ⟨rfl,hk3,ht3⟩; obtain ⟨⟨o',hrow2⟩,hkp2⟩:=hfin2 w3 hk3 ht3))
    go_roundw
    case rel => exact ⟨j + 1,q1 + 4 + V.cnts kids,ms.set j o',by omega,HQ3.out,by go_num,by go_num,(HMX.out o').1,(HMX.out o').2,hrow2,HKP.out.trans hkp2⟩
    case measure => simp [intOf]; omega
   ·obtain rfl:j = ls.length:=by omega
    rw [take_length] at HQ;clear hq;go_wp2;go_ret;exact ⟨by rw [<- HQ.out]; rfl,hkp⟩
end
section
def m_l_FnExactApply:M:=so [qo 2 (.box 0),qo 4 (.mv (cB false))] (so [qo 5 (.mv (ci 1048576))] (so [qL 17 5 2,qm 18 5,qc 19 5 [17,18] 1,qm 5 19] (.seq (so [qm 20 5,qo 21 (.bin .lss false 20 (ci 0))] (.cond 21 (so [qo 4 (.mv (cB true))] .ret) .skip)) (so [qm 22 1,qm 23 5,qc 24 16 [22,23] 1,qm 5 24] (.seq (so [qm 25 5,qo 26 (.bin .lss false 25 (ci 0))] (.cond 26 (so [qo 4 (.mv (cB true))] .ret) .skip)) (so [qL 28 5 2,qc 29 8 [28] 1,qm 30 1,qc 31 18 [30] 1,qc 32 17 [29,31] 1,qm 27 32,qe 33 27 0,qe 34 27 1,⟨some 6,.zero [.int .i64 0,.int .i64 0,.int .i64 0,.string ⟨[].toArray⟩,.slice none 0 0],none,[]⟩,qS 5 6 33,qm 7 34] (so [qL 35 5 2,qc 36 8 [35] 1,⟨some 8,.zero [.int .i64 0,.int .i64 0,.int .i64 0,.string ⟨[].toArray⟩,.slice none 0 0],none,[]⟩,qS 5 8 36] (so [qm 37 1,qc 38 18 [37] 1,qm 9 38] (so [qL 40 5 8,qm 41 9,qc 42 19 [40,41] 1,qm 39 42,qe 43 39 0,qe 44 39 1,⟨some 10,.zero [.int .i64 0,.int .i64 0,.int .i64 0,.string ⟨[].toArray⟩,.slice none 0 0],none,[]⟩,qS 5 10 43,qm 11 44] (.seq (so [qL 45 5 10,qL 46 5 6,qc 47 11 [45,46] 1,qo 48 (.not 47),qm 49 48,qg 50 11 49 false,qg 51 7 49 false,⟨some 52,.bin .neq true 50 51,some (49,false),[]⟩,qo 53 (.pick 49 (cB true) 52)] (.cond 53 (so [qo 4 (.mv (cB false))] .ret) .skip)) (.seq (so [qL 54 5 8,qL 55 5 2,⟨some 56,.call 8 [55],none,[.f 0,8]⟩,qc 57 11 [54,56] 0,qo 58 (.not 57)] (.cond 58 (so [qo 4 (.mv (cB false))] .ret) .skip)) (.seq (so [qm 59 9,qm 60 1,qc 61 18 [60] 1,qc 62 20 [59,61] 1,qo 63 (.not 62)] (.cond 63 (so [qo 4 (.mv (cB false))] .ret) .skip)) (so [qo 12 (.mv (ci 1))] (so [qL 64 5 8,qm 65 12,qc 66 13 [64,65] 1,qm 12 66] (so [qm 67 9,qm 68 12,qc 69 21 [67,68] 1,qm 12 69] (.seq (so [qm 70 12,qo 71 (.bin .lss false 70 (ci 0)),qm 72 71,⟨some 73,.load true 5 10,some (72,false),[]⟩,⟨some 74,.load true 5 6,some (72,false),[]⟩,⟨some 75,.call 11 [73,74],some (72,false),[.f 1]⟩,⟨some 76,.not 75,some (72,false),[]⟩,qo 77 (.pick 72 (cB true) 76),qm 78 77,qg 79 11 78 false,qg 80 7 78 false,⟨some 81,.bin .neq true 79 80,some (78,false),[]⟩,qo 82 (.pick 78 (cB true) 81)] (.cond 82 (so [qo 4 (.mv (cB false))] .ret) .skip)) (so [qo 13 (.mv (ci 1))] (so [qL 83 5 10,qm 84 13,qc 85 13 [83,84] 1,qm 13 85] (so [qo 14 (.mv (ci 1))] (so [qL 86 5 10,qm 87 14,qc 88 15 [86,87] 1,qm 14 88] (.seq (so [qm 89 14,qo 90 (.bin .lss false 89 (ci 0))] (.cond 90 (so [qo 4 (.mv (cB false))] .ret) .skip)) (.seq (so [qm 91 14,qm 92 13,qo 93 (.bin .neq false 91 92)] (.cond 93 (so [qo 4 (.mv (cB false))] .ret) .skip)) (so [qL 95 5 2,qc 96 8 [95] 1,qm 97 1,qc 98 18 [97] 1,qc 99 19 [96,98] 1,qm 94 99,qe 100 94 0,qe 101 94 1,⟨some 15,.zero [.int .i64 0,.int .i64 0,.int .i64 0,.string ⟨[].toArray⟩,.slice none 0 0],none,[]⟩,qS 5 15 100,qm 16 101] (.seq (so [qL 102 5 15,qL 103 5 6,qc 104 11 [102,103] 1,qo 105 (.not 104),qm 106 105,qg 107 16 106 false,qg 108 7 106 false,⟨some 109,.bin .neq true 107 108,some (106,false),[]⟩,qo 110 (.pick 106 (cB true) 109)] (.cond 110 (so [qo 4 (.mv (cB false))] .ret) .skip)) (so [qo 14 (.mv (ci 1))] (so [qL 111 5 10,qm 112 14,qc 113 15 [111,112] 1,qm 14 113] (.seq (so [qm 114 14,qo 115 (.bin .lss false 114 (ci 0))] (.cond 115 (so [qo 4 (.mv (cB false))] .ret) .skip)) (.seq (so [qm 116 14,qm 117 13,qo 118 (.bin .neq false 116 117)] (.cond 118 (so [qo 4 (.mv (cB false))] .ret) .skip)) (so [qo 4 (.mv (cB true))] .ret)))))))))))))))))))))))))))))
theorem zcO:look Tryz.prog 4 = some (119,m_l_FnExactApply,[.tm 4]):=by kernel_rfl
end
section
attribute [local irreducible] po mw pt
def MarkO (E:Env) (f:Nat) (d:D) (k r:Int):Prop:=∀ (W:World) (fp:List Nat) (v:Value),TreeC W d fp [v] -> fp.Nodup -> Calls E.P f #[v,.int .i64 k] W fun e w' => e = .returned (.int .i64 r) /\ Keep (· ∈ fp) W w'
theorem zgs {E:Env} {B:Base} {f:Nat} {tm:Nat -> PV} {bx:LP PC} {nt:Nat} {live:List Nat} {c:PC} {k r:Int} {d:Nat} {dd:D} {K:St -> Prop} {L:List Nat} {kt:List Nat} {kb:List Bool}
  (hM:MarkO E f dd k r) (hB:∀ t,¬ B.C.old t) (hBF:∀ b o,B.C.F b o -> b < B.w.heap.size) (hdd:dd.wf) (he:erL [c] = dd.pc) (ho:ownedL [c] = true) (hnd:(toksL [c]).Nodup) (hsub:∀ t ∈ toksL [c],t ∈ live)
  (hL:∀ t ∈ L,t ∈ live /\ t ∉ toksL [c]) (ht:fineT (· ∈ L) tm kt) (hb:fineB (· ∈ L) kb bx)
  (h:∀ rw r',K ⟨up d (.d (.v (.int .i64 r))) (maskT rw kt tm),maskB r' 0 kb bx,nt,L⟩):XCall E B f [.d c,.d (.v (.int .i64 k))] d K ⟨tm,bx,nt,live⟩:=by
 intro C a w vs hr hl hv
 match vs,hl with
 | [v1,v2],_ =>
  have h1:=hv 0 _ _ rfl rfl;have h2:=hv 1 _ _ rfl rfl
  cases h1 with
  | d _ _ hc =>
   have hus:RpL C w [c] [v1]:=.one1 hc;have h2':v2 = .int .i64 k:=by cases h2 with | d _ _ h => cases h; rfl
   subst h2'
   obtain ⟨fp,n1,n2,n3⟩:=zcG (Tks.of hr.inv) he hdd ho hus hsub hnd;refine (hM w fp v1 n3 n1).mono ?_;rintro e w' ⟨rfl,hk⟩
   obtain ⟨rw,r',hr',_⟩:=hr.drop hB hBF hk (L:=L) (fun b hb' => by
    obtain ⟨t,t1,t2⟩:=n2 b hb';exact ⟨t,hsub t t1,t2,fun h => (hL t h).2 t1⟩) (fun t h => (hL t h).1) ht hb
   exact ⟨_,_,_,.d (.v (.int .i64 r)),rfl,hr',.d _ _ (.v _ rfl),by rw [za1]; exact h rw r'⟩
theorem markOpS_fn {E:Env} (hP:E.P = Tryz.prog) (l:List OpV) (k:Nat) (hl:l.length + OpV.bulks l <= 4294967295) (hk:0 < k) (hk2:k + OpV.cnts l <= 4611686018427387904):MarkO E 21 (dOs l) k ((k + OpV.cnts l:Nat):Int):=by
 intro W fp v h hn;rw [hP]; exact zgr l v k fp W h hn hl hk hk2
theorem trod_ops {H:Type} {enc:TypeId × Value -> H} {w:World} {base:Nat} {spare:Nat -> Bool} {held:Bool} (fuel:Nat) (cs:List Value) (y:DataW H × List MemPlace)
  (h:DataW.trod enc Tryz.prog w base spare held fuel 44 cs = some y):∃ (l:List OpV) (v:Value),cs = [v] /\ (Rd w (dOs l) [v] /\ (∀ o ∈ l,o.wf) /\ l.length <= maxLen):=by
 obtain ⟨xs,v,h1,h2,h3,h4⟩:=zgb (f:=OpV.d) (ok:=OpV.wf) Tryz.underlying44 (show Tryz.prog.cellsOf 27 = 7 by kernel_rfl) (by decide) OpV.width (fun n cs y _ hh => trod_op n cs y hh) h;exact ⟨xs,v,h1,h2,h3,h4⟩
theorem runV_bw:∀ (l:List OpV) (v y:V),v.wf -> v.bulk <= 1048576 -> OpsOk l -> runV v l = some y -> y.wf /\ y.bulk <= 1048576
 | [],v,y,hv,hb,_,h => by simp only [runV,sI] at h; subst h; exact ⟨hv,hb⟩
 | o :: l,v,y,hv,hb,ho,h => by
  rw [runV] at h;obtain ⟨ox,os,ob,ol⟩:=ho o (mem_cons_self ..);have hbw:=doV_bw (v:=v) (o:=o) (S:=1048576) hv ox os (by omega) hb
  split at h
  ·exact runV_bw l _ y hbw.1 hbw.2 (fun o h => ho o (mem_cons_of_mem _ h)) h
  ·cases h
theorem appV_bw {v:V} {l:List OpV} (hv:v.wf) (hb:v.bulk <= 1048576) (ho:OpsOk l):(appV v l).1.wf /\ (appV v l).1.bulk <= 1048576:=by
 unfold appV;split
 ·exact ⟨hv,hb⟩
 ·split
  ·rename_i y hy; exact runV_bw l v y hv hb ho hy
  ·exact ⟨hv,hb⟩
def ApA (c0:List Value) (v1:Value) (R:V) (ok:Bool) (s:St):Prop:=has s.tm [(1,.d (.v v1)),(2,.ref 0 0),(6,.ref 1 0),(7,.d (pB ok))] /\ s.bx = [rawL c0,vC R] /\ 2 <= s.nt
theorem lawAp_fn {E:Env} (hP:E.P = Tryz.prog) {c0:List Value} {v1:Value} {v R:V} {o:List OpV} {ok:Bool} {s0 s1 k0 k1 m:Int} (l0:c0.length = 5)
  (z0:FnV E 5 [.ag (rawL c0),.d (pI 1048576)] (.d (pI s0))) (z1:0 <= s0 -> FnV E 16 [.d (.v v1),.d (pI s0)] (.d (pI s1)))
  (hg:0 <= s0 -> 0 <= s1 -> (FnO E 8 [.ag (rawL c0)] (.ag (vC v)) /\ FnO E 18 [.d (.v v1)] (.d (.sl 0 (oK o)))) /\ (FnV E 17 [.ag (vC v),.d (.sl 0 (oK o))] (.tup [.ag (vC R),.d (pB ok)]) /\ FnP E 19 [.ag (vC v),.d (.sl 0 (oK o))] R ok) /\
   (FnV E 11 [.ag (vC R),.ag (vC R)] (.d (pB true)) /\ FnV E 11 [.ag (vC v),.ag (vC v)] (.d (pB true)) /\ FnV E 20 [.d (.sl 0 (oK o)),.d (.sl 0 (oK o))] (.d (pB true))) /\
   (MarkC E 13 v.d (v.top 1).d 1 k0 /\ MarkO E 21 (dOs o) k0 k1 /\ MarkC E 13 R.d (R.top 1).d 1 m /\ FnV E 15 [.ag (R.top 1).d.pc,.d (pI 1)] (.d (pI m))) /\ 0 <= k1 /\ 0 <= m) :
  FnV E 4 [.ag (rawL c0),.d (.v v1)] (.d (pB true)):=by
 have l0':(rawL c0).length = 5:=by rw [zc4]; exact l0
 refine fn_ofB (by rw [hP]; exact zcO) (by show 2 <= 119; decide) fun B hB hold hBF => ?_
 unfold m_l_FnExactApply;refine mO ?_;refine zal (cs:=rawL c0) rfl ?_;refine mN ?_;refine mP ?_;refine mO ?_;refine zaa (p:=0) (cs:=rawL c0) rfl rfl rfl l0' ?_;refine mS ?_;refine zac (dats1i (zcb _) _) z0 ?_;refine mN ?_;refine mM ?_;refine mS ?_;by_cases h0:s0 < 0
 ·refine zah rfl rfl (decide_eq_true h0) ?_
  refine mT ?_;refine mP ?_;exact mR
 refine zan rfl rfl (decide_eq_false h0) ?_;refine mK ?_;refine mO ?_;(iterate 2 refine mS ?_);refine zac (args:=[.d (.v v1),.d (pI s0)]) rfl (z1 (by omega)) ?_;refine mN ?_;refine mM ?_;refine mS ?_;by_cases h1:s1 < 0
 ·refine zah rfl rfl (decide_eq_true h1) ?_
  refine mT ?_;refine mP ?_;exact mR
 refine zan rfl rfl (decide_eq_false h1) ?_;refine mK ?_;obtain ⟨⟨t0,t1⟩,⟨hS,hI⟩,⟨qR,q0,q1⟩,⟨m0,m1,kR,hR⟩,hk1,hm⟩:=hg (by omega) (by omega);refine mO ?_;refine zaa (p:=0) (cs:=rawL c0) rfl rfl rfl l0' ?_;refine zac (dats1 (zcb _)) t0.v ?_;refine mS ?_;refine zac (args:=[.d (.v v1)]) rfl t1.v ?_;refine zac (vl_arg v o) hS ?_;(iterate 3 refine mS ?_);refine zaH ?_;refine zad (p:=1) (cs:=vC R) (z:=z6) rfl rfl rfl rfl rfl rfl ?_;refine mN ?_;refine mw_at (ApA c0 v1 R ok) ⟨⟨rfl,rfl,rfl,rfl,trivial⟩,rfl,Nat.le_refl 2⟩ ?_;rintro tm bx nt live ⟨ht,hbx,hnt⟩;obtain ⟨tm0,rfl⟩:=zaq ht;simp only at hbx hnt; subst hbx
 clear ht hB hold hBF h0 h1
 -- from here on all that is there is old
 refine mw_anew [1,2,6,7] (fun B us hB hold hBF hul hus rw0 => ?_)
 match us,hul with
 | [u0,u2],_ =>
 have e0:=rawL_is (hus 0 _ u0 rfl rfl);subst e0;have hu2:=hus 1 _ u2 rfl rfl;have l2:(rawL u2).length = 5:=by rw [zc4]; exact hu2.1
 clear hus;refine mw_at (fun st => has st.tm [(1,.d (.v v1)),(2,.ref 0 0),(6,.ref 1 0),(7,.d (pB ok))] /\ st.bx = [rawL u0,rawL u2] /\ 2 <= st.nt /\ st.live = []) ⟨⟨rfl,rfl,rfl,rfl,trivial⟩,rfl,hnt,rfl⟩ ?_;clear hnt;rintro tm bx nt live ⟨ht,hbx,hnt,hlv⟩;obtain ⟨tm1,rfl⟩:=zaq ht;simp only at hbx hnt hlv; subst hbx; subst hlv
 clear ht;refine mO ?_;refine zaa (p:=0) (cs:=rawL u0) rfl rfl rfl l0' ?_;refine zaW (n:=5) (dats1 (zcb _)) t0 rfl (fun d0 nt0 ed0 ld0 hn0 N0 => ?_);refine zaH ?_;refine zad (p:=2) (cs:=d0) rfl rfl rfl ld0 rfl rfl ?_;refine mN ?_;refine mQ ?_;refine po_own1 (args:=[.d (.v v1)]) rfl t1 (fun d1 nt1 ed1 hn1 N1 => ?_);refine mL ?_;have hda:PV.dats [.ag d0,.d d1] = some [.ag (vC v),.d (.sl 0 (oK o))]:=by show some [PV.ag (erL d0),.d d1.er] = _; rw [ed0,ed1]
 have hdd:PV.dats [.d d1,.d (.sl 0 (oK o))] = some [.d (.sl 0 (oK o)),.d (.sl 0 (oK o))]:=by show some [PV.d d1.er,.d (.sl 0 (erLL (oK o)))] = _; rw [ed1,oK_er]
 have htk1:d1.toks = toksL [d1]:=by simp [toksL]
 refine mO ?_;refine zaa (p:=2) (cs:=d0) rfl rfl rfl ld0 ?_;refine mS ?_;refine zch hda hI (fun cg nt2 ecg lcg hn2 Ng => ?_);(iterate 3 refine mS ?_);refine zaH ?_;refine zad (p:=3) (cs:=cg) rfl rfl rfl lcg rfl rfl ?_;refine mN ?_;refine zau (zau (zdv (pre:=[_,_]) (suf:=[_,_,_,_,_,_]) ?_));refine zaa (p:=3) (cs:=cg) rfl rfl rfl lcg ?_;refine zaa (p:=1) (cs:=rawL u2) rfl rfl rfl l2 ?_;refine zaj ?_;refine ⟨rfl,XCall.bool qR rfl (fun C a w vs hr hl hv => zfX hr.inv.fin ecg (zai R) (hr.since hu2) hl hv) ?_⟩;(iterate 4 refine mS ?_);refine zan rfl rfl (by cases ok <;> rfl) ?_;refine mK ?_;refine mM ?_;refine zaa (p:=2) (cs:=d0) rfl rfl rfl ld0 ?_;refine zaa (p:=0) (cs:=rawL u0) rfl rfl rfl l0' ?_;refine zac (dats1 (zcb _)) t0.v ?_;refine zac (zfV ed0 (zai v)) q0 ?_;refine mK ?_;refine mM ?_;(iterate 2 refine mS ?_);refine zac (args:=[.d (.v v1)]) rfl t1.v ?_
 refine zac hdd q1 ?_;refine mK ?_;refine mP ?_;refine zau (zem (pre:=[_,_]) (suf:=[_]) ?_);refine zaa (p:=2) (cs:=d0) rfl rfl rfl ld0 ?_;refine mL ?_;refine xcall_drop (cs:=d0) (L:=toksL cg ++ toksL [d1]) (kt:=[1,2,6,7,9,10,11]) (kb:=[true,true,false,true]) m0 hold hBF (V.wfd v) (by rw [V.pc_eq]; exact ed0) N0.own N0.nd (fun t h => by simp [h]) (fun t h => ?_) ⟨trivial,trivial,trivial,trivial,fine_of (by simpa [ownedL] using N1.own) (fun t h => by rw [htk1] at h; simp [h]),trivial,trivial,trivial⟩ ⟨zbh _,zbh _,zc2 Ng.own (fun t h => by simp [h]),trivial⟩ (fun rw1 r1 => ?_)
 ·rw [mem_append] at h
  rcases h with h | h
  ·exact ⟨by simp [h],Ng.gt N0 (by omega) t h⟩
  ·exact ⟨by rw [htk1]; simp [h],N1.gt N0 (by omega) t h⟩
 refine mN ?_;refine zau (zem (pre:=[_,_]) (suf:=[_]) ?_);(iterate 2 refine mS ?_);refine zaj ?_;refine zgs (c:=d1) (L:=toksL cg) (kt:=[1,2,6,7,10,11]) (kb:=[true,true,false,true]) m1 hold hBF (dOs_wf o) (by rw [dOs_pc]; show [d1.er] = _; rw [ed1]) N1.own N1.nd (fun t h => by simp [h]) (fun t h => ?_) ⟨trivial,trivial,trivial,trivial,trivial,trivial,trivial⟩ ⟨zbh _,zbh _,zc2 Ng.own (fun t h => h),trivial⟩ (fun rw2 r2 => ?_)
 ·exact ⟨List.mem_append_left _ h,Ng.gt N1 (by omega) t h⟩
 refine mN ?_;refine zau (zau (zdv (pre:=[_,_,_,_,_]) (suf:=[_,_,_,_,_,_,_]) ?_));refine mS ?_;refine zan rfl rfl (decide_eq_false (show ¬ k1 < 0 by omega)) ?_;refine mS ?_;refine zaa (p:=3) (cs:=cg) rfl rfl rfl lcg ?_;refine zaa (p:=1) (cs:=rawL u2) rfl rfl rfl l2 ?_;refine zaj ?_;refine ⟨rfl,XCall.bool qR rfl (fun C a w vs hr hl hv => zfX hr.inv.fin ecg (zai R) (hr.since hu2) hl hv) ?_⟩;(iterate 5 refine mS ?_);refine zan rfl rfl (by cases ok <;> rfl) ?_;refine mK ?_;refine mP ?_;refine zau (zem (pre:=[_,_]) (suf:=[_]) ?_);refine zaa (p:=3) (cs:=cg) rfl rfl rfl lcg ?_;refine mL ?_;refine xcall_redo (p:=3) (cs:=cg) (L:=[]) (kt:=[1,2,6,7,10]) (kb:=[true,true,false,false]) kR hold hBF (V.wfd R) (V.wfd _) (V.pld _) (by rw [V.pc_eq]; exact ecg) Ng.own Ng.nd (fun t h => h) (fun t h => absurd h (by simp)) ⟨trivial,trivial,trivial,trivial,trivial,trivial⟩ ⟨zbh _,zbh _,trivial⟩ rfl (fun _ => rfl) (fun rwG rG cg' nt3 ecg' og ndg mg hn3 => ?_)
 have lcg':cg'.length = 5:=by rw [<- V.pcl (R.top 1),<- ecg',zaw,length_map]
 refine mN ?_;refine mP ?_;refine mO ?_;refine zaa (p:=3) (cs:=cg') rfl rfl rfl lcg' ?_;refine mS ?_;refine zac (dats1i ecg' _) hR ?_;refine mN ?_;refine mM ?_;refine mS ?_;refine zan rfl rfl (decide_eq_false (show ¬ m < 0 by omega)) ?_;refine mK ?_;refine mM ?_;(iterate 2 refine mS ?_);refine zan rfl rfl (by simp) ?_;refine mK ?_;refine mw_at (fun s => has s.tm [(1,.d (.v v1)),(2,.ref 0 0),(6,.ref 1 0),(7,.d (pB ok)),(10,.ref 3 0),(13,.d (pI m))] /\ s.bx = [rawL u0,rawL u2,rG 2,cg']) ⟨⟨rfl,rfl,rfl,rfl,rfl,rfl,trivial⟩,rfl⟩ ?_;rintro tm bx nt live ⟨ht,hbx⟩;obtain ⟨tm2,rfl⟩:=zaq ht;simp only at hbx; subst hbx
 clear ht;refine mO ?_;refine zaa (p:=0) (cs:=rawL u0) rfl rfl rfl l0' ?_;refine zac (dats1 (zcb _)) t0.v ?_;refine mS ?_;refine zac (args:=[.d (.v v1)]) rfl t1.v ?_;refine zac (vl_arg v o) hI.v ?_;(iterate 3 refine mS ?_);refine zaH ?_;refine zad (p:=4) (cs:=vC R) (z:=z6) rfl rfl rfl rfl rfl rfl ?_;refine mN ?_;refine zau (zau (zdv (pre:=[_,_]) (suf:=[_,_,_,_,_,_]) ?_));refine zaa (p:=4) (cs:=vC R) rfl rfl rfl rfl ?_;refine zaa (p:=1) (cs:=rawL u2) rfl rfl rfl l2 ?_;refine zaj ?_;refine ⟨rfl,XCall.bool qR rfl (fun C a w vs hr hl hv => zfX hr.inv.fin (zai R) (zai R) (hr.since hu2) hl hv) ?_⟩;(iterate 4 refine mS ?_);refine zan rfl rfl (by cases ok <;> rfl) ?_;refine mK ?_;refine mP ?_;refine mO ?_;refine zaa (p:=3) (cs:=cg') rfl rfl rfl lcg' ?_;refine mS ?_;refine zac (dats1i ecg' _) hR ?_;refine mN ?_;refine mM ?_;refine mS ?_
 refine zan rfl rfl (decide_eq_false (show ¬ m < 0 by omega)) ?_;refine mK ?_;refine mM ?_;(iterate 2 refine mS ?_);refine zan rfl rfl (by simp) ?_;refine mK ?_;refine mP ?_;exact mR
theorem exactApW (x1:List OpV) (cs1:Value) (w:World) (hn:ngl <= w.heap.size) (hT:TS w) (x0:V) (cs0:List Value) (r0:Rd w x0.d cs0) (f0:x0.wf) (r1:Rd w (dOs x1) [cs1] /\ (∀ o ∈ x1,o.wf) /\ x1.length <= maxLen) :
  Calls Tryz.prog 4 #[.agg cs0.toArray,cs1] w fun e w' => e = .returned (.bool true) /\ Below w.heap.size w w':=by
 obtain ⟨r1,f1,l1⟩:=r1;have l1':x1.length <= 9223372036854775807:=by unfold maxLen at l1; omega
 have h:=lawAp_fn (E:=envW TS TS.low w hn) rfl (c0:=cs0) (v1:=cs1) (v:=x0) (o:=x1) (R:=(appV x0 x1).1) (ok:=(appV x0 x1).2)
  (s0:=take' x0.bulk 1048576) (s1:=take' (x1.length + OpV.bulks x1) (take' x0.bulk 1048576)) (k0:=((1 + V.cnts x0.kids:Nat):Int)) (k1:=((1 + V.cnts x0.kids + OpV.cnts x1:Nat):Int)) (m:=((1 + V.cnts (appV x0 x1).1.kids:Nat):Int))
  (by rw [r0.len]; exact V.width x0)
  (szV_fn r0 f0 ⟨by decide,by decide⟩) (fun h => szOpS_fn r1 f1 l1' ⟨h,by unfold take'; split <;> omega⟩) (fun h0 h1 => ?_)
 ·obtain ⟨a,c,hs⟩:=Rd.sl_form (n:=7) (es:=x1.map OpV.d) r1
  refine FnV.bool h lR ⟨hT,lR,fun _ _ => rfl⟩ (vs:=[.agg cs0.toArray,cs1]) rfl fun j x y hx hy => ?_
  match j with
  | 0 => simp at hx hy; subst hx; subst hy; exact zfW r0 (V.wfd x0)
  | 1 => simp at hx hy; subst hx; subst hy; exact .d _ _ (.v _ (by rw [hs]; rfl))
  | j + 2 => simp at hx
 ·have b0:x0.bulk <= 1048576:=by unfold take' at h0; split at h0 <;> omega
  have b1:x1.length + OpV.bulks x1 <= 1048576:=by
   have e0:take' x0.bulk 1048576 = 1048576 - x0.bulk:=zbg (by omega);rw [e0] at h1;unfold take' at h1; split at h1 <;> omega
  have ho1:∀ o ∈ x1,o.bulk <= 1048576:=fun o h => by
   obtain ⟨i,hi,rfl⟩:=List.getElem_of_mem h;have h1:=OpV.bulks_snoc x1 i hi;have h2:=OpV.bulks_take x1 (i + 1);omega
  have ho:OpsOk x1:=fun o h => by
   have hb:=ho1 o h;unfold OpV.bulk at hb;exact ⟨(f1 o h).2.2.2,fun s hs => by have:=ss_mem hs; omega,by omega,by omega⟩
  obtain ⟨wR,bR⟩:=appV_bw (v:=x0) (l:=x1) f0 b0 ho;have c0:=x0.kcnt_le;have c1:=OpV.cnts_b x1;have cR:=(appV x0 x1).1.kcnt_le
  have e:∀ x:V,x.bulk <= 1048576 -> FnV (envW TS TS.low w hn) 11 [.ag (vC x),.ag (vC x)] (.d (pB true)):=fun x hx => by
   have:=eqV_fn (E:=envW TS TS.low w hn) rfl x x hx hx
   rw [decide_eq_true rfl,V.pc_eq] at this; exact this
  have t0:=toV_fn (T:=TS) (hT:=TS.low) (hn:=hn) r0 b0;rw [V.pc_eq] at t0;refine ⟨⟨t0,toOpS_fn r1 b1⟩,⟨(ApplyS_fn (T:=TS) (hT:=TS.low) x0 x1 f0 b0 (by omega) ho).toW,(ApplyI_fn (T:=TS) (hT:=TS.low) TS.b TS.c TS.a x0 x1 f0 b0 (by omega) ho).toW⟩,⟨e _ bR,e _ b0,eqOpS_fn rfl x1 (by omega) ho1⟩,⟨markV_fn rfl x0 1 (by omega) (by decide) (by omega),?_,markV_fn rfl _ 1 (by omega) (by decide) (by omega),heldV_fn rfl _ 1 (by omega) (by decide) (by omega)⟩,by omega,by omega⟩;exact markOpS_fn rfl x1 (1 + V.cnts x0.kids) (by omega) (by omega) (by omega)
theorem zgt (x0:V) (cs0:List Value) (x1:List OpV) (cs1:Value) (w:World) (hn:ngl <= w.heap.size) (hT:TS w) (r0:Rd w x0.d cs0) (f0:x0.wf) (r1:Rd w (dOs x1) [cs1] /\ (∀ o ∈ x1,o.wf) /\ x1.length <= maxLen) :
  Calls Tryz.prog 4 #[.agg cs0.toArray,cs1] w fun e w' => e = .returned (.bool true) /\ Below w.heap.size w w':=exactApW x1 cs1 w hn hT x0 cs0 r0 f0 r1
end
section
theorem laid_of {H:Type} {enc:TypeId × Value -> H} {C:Checked} {os:Os} {f:FuncId} {fn:Func} {s:ChangeSpec} {conds:List PathCond} {fresh handsOn again apart:Bool} (L:List (String × DataW Unit))
  (own:ownKnob C.prog.godebug = none) (started:os.Started) (noInit:C.prog.inits.idxOf? f = none) (hfn:C.prog.funcs[f]? = some fn)
  (wit:∃ (w:World) (tape:Tape) (i:Input),w.os = os /\ (w.forCall tape i).Shaped C.prog /\ i.vars = [] /\ Input.okWide C.prog (w.forCall tape i) .any w.heap.size f i /\
   ((s.pre enc C.prog fn conds apart (w.forCall tape i).memory i.args /\ laidMetH C.prog L (w.forCall tape i).memory) /\ sizedMet enc C.prog fn (OpenSpec.ofChange s) apart (w.forCall tape i).memory i.args) /\ ({}:Assume).holds C.prog (lone (Frame.enter C.prog f i.args .normal) [] (w.forCall tape i)))
  (walk:∀ (W:World) (base:Nat) (args:Array Value) (ds gs:List (DataW H)) (before:List MemPlace),W.ShapedOpen C.prog -> laidMetH C.prog L W ->
   (∀ (j:Nat) t v,fn.params[j]? = some t -> args[j]? = some v -> Value.okWide C.prog W .any base t v) ->
   DataW.Whole enc C.prog fn.params.toList s.vars apart W args.toList ds gs before ->
   conds.all (PathCond.test C.prog ⟨fn.params.toList,ds,s.plain.varTypes C.prog,gs⟩) = true ->
   Calls C.prog f args W fun e W' => ∃ v,e = .returned v /\ s.post enc C.prog fn apart fresh handsOn again W args v W') :
  ReturnsInHanded {} C os f .any (fun w args => (s.pre enc C.prog fn conds apart w args /\ laidMetH C.prog L w) /\ sizedMet enc C.prog fn (OpenSpec.ofChange s) apart w args) (s.post enc C.prog fn apart fresh handsOn again):=by
 refine returnsInHanded_of_calls own started noInit wit fun w tape i _ shaped _ ok pre _ => ?_
 rcases ok with ⟨_,_,_,fn2,h2,_,_,_,_,vals⟩
 cases Option.some.inj (h2.symm.trans hfn)
 rcases pre with ⟨⟨⟨ds,gs,before,whole,cond⟩,met⟩,_⟩
 have met2:laidMetH C.prog L (w.forCall tape i):=laidMetH.of_heap (by rfl) met;refine (walk _ w.heap.size i.args ds gs before shaped met2 vals (DataW.Whole.of_heap (by rfl) whole) cond).mono ?_;rintro e w2 ⟨v,rfl,hp⟩;exact ChangeSpec.post_blind hp
end
section
open Go.RowKit Go.Lib Go.Shelf
theorem first_data:Go.Pinned.utf8First = firstData:=by kernel_rfl
theorem zgu:(Rows.laid_unicode_utf8_acceptRanges:DataW Unit) = acceptData:=by kernel_rfl
theorem tabs_of {w : World} (h3 : VarReads Tryz.prog w "unicode/utf8.first" Go.Pinned.utf8First) (h4 : VarReads Tryz.prog w "unicode/utf8.acceptRanges" Rows.laid_unicode_utf8_acceptRanges) : Tabs w := by
 rw [first_data] at h3; rw [zgu] at h4
 exact utf8Tabs_of_readsT (U8Types.of196 Tryz.laysValid) ⟨by kernel_rfl,by kernel_rfl,by kernel_rfl,by kernel_rfl,by kernel_rfl,by kernel_rfl,by kernel_rfl⟩ h3 h4
end
section
open Go.RowKit Go.Lib Go.Shelf
theorem ten_data:(Rows.laid_internal_strconv_uint64pow10:DataW Unit) = tabData .u64 pow10Tab:=by kernel_rfl
theorem tenTab_of {w : World} (h : VarReads Tryz.prog w "internal/strconv.uint64pow10" Rows.laid_internal_strconv_uint64pow10) : TenTab w := by
 rw [ten_data] at h;obtain ⟨g',t',cs,fuel,p,hg',ht',hvar,hd⟩:=h
 obtain rfl:=Option.some.inj (tenG.symm.trans hg')
 obtain rfl:=Option.some.inj ((show (Tryz.prog.globals[4]?).map (·.type) = some 144 by kernel_rfl).symm.trans ht')
 unfold TenTab TabIs;rw [hvar,<- cells_of_tab Tryz.underlying144 Tryz.underlying115 (by kernel_rfl) (by kernel_rfl) hd]
end
section
open Go.RowKit Go.Lib Go.Shelf
theorem err_of {w:World} {nm n2:String} {g:Nat} {d:DataW Unit} (h:VarReads Tryz.prog w nm (.iface n2 d)) (hg:Tryz.prog.globalNamed nm = some g) (ht:(Tryz.prog.globals[g]?).map (·.type) = some 112):∃ tp p,w.var? Tryz.prog nm = some #[.iface tp p]:=by
 obtain ⟨g',t',cs,fuel,p,hg',ht',hvar,hd⟩:=h
 obtain rfl:=Option.some.inj (hg.symm.trans hg')
 obtain rfl:=Option.some.inj (ht.symm.trans ht')
 obtain ⟨f1,u,v,e,_⟩:=iface_of_trod Tryz.underlying112 hd;refine ⟨u,v,?_⟩;rw [hvar,<- Array.toArray_toList (xs:=cs),e]
theorem errTab_of {w : World} (h1 : VarReads Tryz.prog w "strconv.ErrSyntax" Rows.laid_strconv_ErrSyntax) (h2 : VarReads Tryz.prog w "strconv.ErrRange" Rows.laid_strconv_ErrRange) : ErrTab w :=
 ⟨err_of h1 synG (by kernel_rfl),err_of h2 rngG (by kernel_rfl)⟩
end
end Go.Proofs.YtaofmfkcfmcmpaaGreatDoor
