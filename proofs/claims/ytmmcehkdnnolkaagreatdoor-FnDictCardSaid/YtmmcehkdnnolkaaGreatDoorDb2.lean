/- Part 2 of a proof: PvT, PvU, PvV, PvK, PvW0, PvY, PvZ, PvW, PvX, PvB, PvB2, ShapeDef, Find, WrongDef, PvD, PvJ0, PvO, Keep, PvN, PvN2, PvN3, PvVal, TagDef, CborDef, TagM, PvHlp, PvEnv, Read, Text, TextS, ValueOkS, PvVok, PvLw, PvTrim, PlainDef, VOk, TagB -/
import Derived.Test.YtmmcehkdnnolkaaGreatDoorDb1
import Derived.Deep.LoopGhost
import Derived.ProofKit
import Derived.Deep.RegionHeld3
import Derived.Lib.ConvBytes
import Derived.Lib.ItoaLen
namespace Go.Proofs.YtmmcehkdnnolkaaGreatDoor
open Go.RowKit
set_option maxHeartbeats 4000000
set_option maxRecDepth 100000
open List
section
theorem zel {p q:Nat -> Bool} {i:Nat}:∀ {l:List Nat},(∀ j,q j = true -> p j = true) -> i ∈ l -> p i = true -> q i = false -> (l.filter q).length < (l.filter p).length
 | [],_,hi,_,_ => by simp at hi
 | x :: l,hpq,hi,hp,hq => by
  have hle:∀ l:List Nat,(l.filter q).length <= (l.filter p).length:=by
   intro l
   induction l with
   | nil => simp
   | cons y l ih =>
    by_cases hy:q y = true
    ·rw [filter_cons_of_pos hy,filter_cons_of_pos (hpq y hy)]; simp; exact ih
    ·rw [filter_cons_of_neg hy]
     by_cases hy2:p y = true
     ·rw [filter_cons_of_pos hy2]; simp; omega
     ·rw [filter_cons_of_neg hy2]; exact ih
  rcases mem_cons.1 hi with rfl | hi
  ·rw [filter_cons_of_neg (by rw [hq]; decide),filter_cons_of_pos hp]
   have:=hle l; simp; omega
  ·have ih:=zel hpq hi hp hq
   by_cases hy:q x = true
   ·rw [filter_cons_of_pos hy,filter_cons_of_pos (hpq x hy)]; simp; exact ih
   ·rw [filter_cons_of_neg hy]
    by_cases hy2:p x = true
    ·rw [filter_cons_of_pos hy2]; simp; omega
    ·rw [filter_cons_of_neg hy2]; exact ih
section
variable {E:Env} {B:Base} {ml:List MOpr} {es bs:List (List Nat)} {ord:List Nat} {K:St -> Prop} {tm0:Nat -> PV} {ops:Array Oper} {Q:Exit -> Act -> World -> Prop}
def LL (listed:Array Bool) (i:Nat):Prop:=listed.getD i false = true
theorem LL_set {listed:Array Bool} {i:Nat} (hi:i < listed.size) (j:Nat):LL (listed.setIfInBounds i true) j ↔ j = i \/ LL listed j:=by
 unfold LL;by_cases h:j = i
 ·subst h; simp [hi]
 ·simp only [Array.getD_eq_getD_getElem?,Array.getElem?_setIfInBounds_ne (show i ≠ j by omega)]; simp [h]
theorem zcO {tm:Nat -> PV} {bx:LP PC} {nt:Nat} {live:List Nat} {d:Option Nat} {v:PV}:St.put ⟨tm,bx,nt,live⟩ d v = ⟨fun t => if d = some t then v else tm t,bx,nt,live⟩:=by
 cases d with
 | none => simp [St.put]
 | some d =>
  simp only [St.put,sI,St.mk.injEq,and_true]
  funext t
  by_cases h:t = d
  ·subst h; simp
  ·rw [if_neg h,if_neg (fun e => h e.symm)]
theorem sim_any (hc:Canon ml es bs ord) (hsz:ops.size = ml.length) (htr:∀ (i:Nat) (o:Oper) (m:MOpr),ops[i]? = some o -> ml[i]? = some m -> TrO E.P B.n ops o m) (hes:∀ (i:Nat) (o:Oper),ops[i]? = some o -> es.getD i [] = edgesOf o)
  (hK:∀ C' s' a' w',Rep E B C' s' a' w' -> K s' -> Q .normal a' w') :
  ∀ (fuel:Nat) (listed:Array Bool) (C:Cx) (s:St) (a:Act) (w:World) (pre rest:List Nat),Sim E B ml es bs ord K tm0 (LL listed) pre rest s -> listed.size = ops.size -> Rep E B C { s with tm:=mix ml (LL listed) s.tm tm0 } a w ->
   ((range ml.length).filter (fun i => !(listed.getD i false))).length <= fuel -> wpAny E.P .any ops Q fuel listed a w:=by
 -- all is listed
 have hdone:∀ (listed:Array Bool) (C:Cx) (s:St) (a:Act) (w:World) (pre rest:List Nat),Sim E B ml es bs ord K tm0 (LL listed) pre rest s -> Rep E B C { s with tm:=mix ml (LL listed) s.tm tm0 } a w -> (∀ i,i < ml.length -> LL listed i) -> Q .normal a w:=by
  intro listed C s a w pre rest hS hr hall
  have hrest:rest = []:=by
   cases hrr:rest with
   | nil => rfl
   | cons i r =>
    exfalso;have hio:i ∈ ord:=by rw [hS.split,hrr]; simp
    have hip:=hS.sub i (hall i ((hc.mem i).1 hio));have hnd:=hc.nodup;rw [hS.split,hrr] at hnd;exact (nodup_append.1 hnd).2.2 i hip i (by simp) rfl
  have hrun:=hS.run;rw [hrest] at hrun;refine hK C s a w ?_ hrun
  have htm:mix ml (LL listed) s.tm tm0 = s.tm:=by
   funext t
   by_cases hw:wr ml (LL listed) t
   ·simp [mix,hw]
   ·simp only [mix,hw,if_false]
    refine (hS.fresh t ?_).symm;rintro ⟨i,m,a1,a2,a3⟩;refine hw ⟨i,m,a1,a2,hall i ?_⟩
    rcases Nat.lt_or_ge i ml.length with h | h
    ·exact h
    ·simp [getElem?_eq_none h] at a1
  rw [htm] at hr; exact hr
 -- nothing is ready: all is listed
 have hready:∀ (listed:Array Bool),listed.size = ops.size -> Region.ready .any ops listed = [] -> ∀ i,i < ml.length -> LL listed i:=by
  intro listed hls hr i
  induction i using Nat.strongRecOn with
  | _ i ih =>
   intro hi
   apply Classical.byContradiction
   intro hn;have hio:i < ops.size:=by omega
   have:i ∈ Region.ready .any ops listed:=by
    rw [mem_ready];refine ⟨?_,ops[i],Array.getElem?_eq_getElem hio,fun e he hb => ?_⟩
    ·unfold LL at hn
     have hil:i < listed.size:=by omega
     simp only [Array.getD_eq_getD_getElem?,Array.getElem?_eq_getElem hil,Option.getD_some] at hn ⊢;simpa using hn
    ·have hm:e.on ∈ es.getD i []:=by
      rw [hes i ops[i] (Array.getElem?_eq_getElem hio)];unfold edgesOf;exact mem_map.2 ⟨e,mem_filter.2 ⟨by simpa using he,hb⟩,rfl⟩
     have:=hc.acyc i e.on hi hm
     exact ih e.on this (by omega)
   rw [hr] at this; cases this
 intro fuel
 induction fuel with
 | zero =>
  intro listed C s a w pre rest hS hls hr hcount
  have hall:∀ i,i < ml.length -> LL listed i:=by
   intro i hi
   apply Classical.byContradiction
   intro hn
   have:i ∈ (range ml.length).filter (fun i => !(listed.getD i false)):=mem_filter.2 ⟨mem_range.2 hi,by unfold LL at hn; simpa using hn⟩
   have h0:(range ml.length).filter (fun i => !(listed.getD i false)) = []:=eq_nil_of_length_eq_zero (by omega);rw [h0] at this; cases this
  refine ⟨?_,hdone listed C s a w pre rest hS hr hall⟩
  cases hrd:Region.ready .any ops listed with
  | nil => rfl
  | cons i r =>
   exfalso;have hm:i ∈ Region.ready .any ops listed:=by rw [hrd]; simp
   obtain ⟨h1,o,ho,_⟩:=mem_ready.1 hm;have hi:i < ops.size:=(Array.getElem?_eq_some_iff.1 ho).1
   have:=hall i (by omega)
   unfold LL at this;have hil:i < listed.size:=by omega
   simp only [Array.getD_eq_getD_getElem?,Array.getElem?_eq_getElem hil,Option.getD_some] at this h1
   rw [this] at h1; cases h1
 | succ fuel ih =>
  intro listed C s a w pre rest hS hls hr hcount;refine ⟨fun h => hdone listed C s a w pre rest hS hr (hready listed hls h),fun i hi => ?_⟩;obtain ⟨h1,o,ho,hall⟩:=mem_ready.1 hi;have hio:i < ops.size:=(Array.getElem?_eq_some_iff.1 ho).1;have hil:i < ml.length:=by omega
  have hils:i < listed.size:=by omega
  have hmi:ml[i]? = some ml[i]:=getElem?_eq_getElem hil;have htro:=htr i o ml[i] ho hmi;obtain ⟨t1,t2,t3,t4,t5⟩:=id htro;have htro0:TrO E.P B.n ops o { ml[i] with c:=ml[i].keep }:=htro
  have hnL:¬ LL listed i:=by
   unfold LL;simp only [Array.getD_eq_getD_getElem?,Array.getElem?_eq_getElem hils,Option.getD_some] at h1 ⊢;rw [h1]; decide
  have hrdy:∀ e ∈ es.getD i [],LL listed e:=by
   intro e he;rw [hes i o ho] at he;unfold edgesOf at he;obtain ⟨ed,hed,rfl⟩:=mem_map.1 he;obtain ⟨g1,g2⟩:=mem_filter.1 hed;exact hall ed (by simpa using g1) g2
  have hcl:∀ j ∈ befOf bs i,LL listed j:=hc.closed (LL listed) hS.closed i hil hrdy;have hset:=fun j => LL_set (listed:=listed) hils j
  have hcount':((range ml.length).filter (fun j => !((listed.setIfInBounds i true).getD j false))).length <= fuel:=by
   have hlt:=zel (p:=fun j => !(listed.getD j false)) (q:=fun j => !((listed.setIfInBounds i true).getD j false)) (i:=i) (l:=range ml.length)
    (fun j hj => by
     simp only [Bool.not_eq_true'] at hj ⊢
     cases h0:listed.getD j false with
     | false => rfl
     | true => have:=(hset j).2 (.inr h0); unfold LL at this; rw [this] at hj; cases hj)
    (mem_range.2 hil) (by simp only [Bool.not_eq_true']; unfold LL at hnL; simpa using hnL) (by
     have:=(hset i).2 (.inl rfl); unfold LL at this; simp only [this]; rfl)
   omega
  have hls':(listed.setIfInBounds i true).size = ops.size:=by rw [Array.size_setIfInBounds]; exact hls
  have hdst:∀ (k:Nat) (mk:MOpr) (t:Nat),ml[k]? = some mk -> mk.d = some t -> ml[i].d = some t -> k = i:=fun k mk t a1 a2 a3 => hc.dst k i mk ml[i] t a1 hmi a2 a3
  have hwset:∀ t,wr ml (LL (listed.setIfInBounds i true)) t ↔ (ml[i].d = some t \/ wr ml (LL listed) t):=by
   intro t
   constructor
   ·rintro ⟨k,mk,a1,a2,a3⟩
    rcases (hset k).1 a3 with rfl | a3
    ·rw [hmi] at a1; simp only [sI] at a1; subst a1; exact .inl a2
    ·exact .inr ⟨k,mk,a1,a2,a3⟩
   ·rintro (h | ⟨k,mk,a1,a2,a3⟩)
    ·exact ⟨i,ml[i],hmi,h,(hset i).2 (.inl rfl)⟩
    ·exact ⟨k,mk,a1,a2,(hset k).2 (.inr a3)⟩
  have hgdm:∀ (f g:Nat -> PV),(∀ t ∈ ml[i].tmps,f t = g t) -> gd ml[i].g f = gd ml[i].g g:=fun f g h => zd3 fun t ht => h t (by unfold MOpr.tmps; exact mem_append.2 (.inr (by simpa using ht)))
  have hopm:∀ (f g:Nat -> PV),(∀ t ∈ ml[i].tmps,f t = g t) -> ∀ t ∈ ml[i].o.tmps,f t = g t:=fun f g h t ht => h t (by unfold MOpr.tmps; exact mem_append.2 (.inl ht))
  -- the machine's step,for either kind
  have machine:∀ (b:Bool) (K':St -> Prop),gd ml[i].g (mix ml (LL listed) s.tm tm0) = some b -> (b = true -> pstep E { ml[i] with c:=ml[i].keep } K' { s with tm:=mix ml (LL listed) s.tm tm0 }) -> (b = false -> K' (St.put { s with tm:=mix ml (LL listed) s.tm tm0 } ml[i].d (.tup []))) ->
    (∀ C' s' a' w',Rep E B C' s' a' w' -> K' s' -> wpAny E.P .any ops Q fuel (listed.setIfInBounds i true) a' w') -> wpOp E.P ops Q i (wpAny E.P .any ops Q fuel (listed.setIfInBounds i true)) a w:=by
   intro b K' hg hp1 hp2 hk;have hw:=zeh hr t2 hg;unfold wpOp;simp only [ho,hw]
   cases b with
   | true => rw [if_pos rfl]; exact .inl (zcS htro0 hr (hp1 rfl) hk Q)
   | false =>
    rw [if_neg (by decide)];refine hk C _ _ w (hr.put t5 (.tup [] [] rfl (fun j x y h => by simp at h))) ?_;rw [<- t3]; exact hp2 rfl
  by_cases hloud:ml[i].o.loud = true
  ·-- a loud one: the canonical order's next
   have hipre:i ∉ pre:=fun h => hnL (hS.loud i ml[i] hmi hloud h)
   have hior:i ∈ ord:=(hc.mem i).2 hil;have hnd:=hc.nodup
   obtain ⟨r,hrest⟩:∃ r,rest = i :: r:=by
    rw [hS.split] at hior hnd;have hirest:i ∈ rest:=(mem_append.1 hior).resolve_left hipre
    cases hrr:rest with
    | nil => rw [hrr] at hirest; cases hirest
    | cons l r =>
     by_cases hli:l = i
     ·exact ⟨r,by rw [hli]⟩
     ·exfalso
      have hlo:l ∈ ord:=by rw [hS.split,hrr]; simp
      have hll:l < ml.length:=(hc.mem l).1 hlo;have hml:ml[l]? = some ml[l]:=getElem?_eq_getElem hll;have hld:=hS.head l r ml[l] hrr hml;rw [hrr] at hnd
      rcases hc.loud l i ml[l] ml[i] hml hmi hld hloud hli with h | h
      ·exact (nodup_append.1 hnd).2.2 l (hS.sub l (hcl l h)) l (by simp) rfl
      ·exact hipre (hc.ord' pre l r (by rw [hS.split,hrr]) i h)
   have hsplit:ord = pre ++ i :: r:=by rw [hS.split,hrest]
   have hment:∀ t ∈ ml[i].tmps,s.tm t = mix ml (LL listed) s.tm tm0 t:=by
    intro t ht;by_cases hw:wr ml (LL listed) t
    ·simp [mix,hw]
    ·simp only [mix,hw,if_false]
     refine hS.fresh t ?_;rintro ⟨k,mk,a1,a2,a3⟩
     rcases hc.touch k i mk ml[i] t a1 hmi a2 ht with h | h
     ·exact hw ⟨k,mk,a1,a2,hcl k h⟩
     ·obtain ⟨p1,p2,hp⟩:=append_of_mem a3
      have:=hc.ord' p1 k (p2 ++ i :: r) (by rw [hsplit,hp]; simp) i h
      exact hipre (by rw [hp]; simp [this])
   have hrun:=hS.run;rw [hrest] at hrun;simp only [filterMap_cons,hmi] at hrun;obtain ⟨g,hg,hrun⟩:=hrun;have hg':gd ml[i].g (mix ml (LL listed) s.tm tm0) = some g:=by rw [<- hgdm _ _ hment]; exact hg
   -- behind it
   have after:∀ (v:PV) (bx':LP PC) (nt':Nat) (live':List Nat),po E (r.filterMap (ml[·]?)) K (St.put ⟨s.tm,bx',nt',live'⟩ ml[i].d v) -> (ml[i].wr = false -> bx' = s.bx \/ ∃ c,bx' = s.bx ++ [c]) -> (ml[i].wr = true -> Wrote (ev s.tm) ml[i] s.bx bx' \/ bx' = s.bx) ->
     ∀ C' a' w',Rep E B C' (St.put ⟨mix ml (LL listed) s.tm tm0,bx',nt',live'⟩ ml[i].d v) a' w' -> wpAny E.P .any ops Q fuel (listed.setIfInBounds i true) a' w':=by
    intro v bx' nt' live' hpo hbx hst C' a' w' hr';have hs1:∀ t,¬ ml[i].d = some t -> (St.put ⟨s.tm,bx',nt',live'⟩ ml[i].d v).tm t = s.tm t:=fun t ht => by rw [zcO]; simp [ht]
    have hb1:(St.put ⟨s.tm,bx',nt',live'⟩ ml[i].d v).bx = bx':=by rw [zcO]
    obtain ⟨pre',rest',s2,hS2,e1,e2,e3,e4⟩:=quiets (E:=E) (B:=B) (K:=K) (tm0:=tm0) hc (L:=LL (listed.setIfInBounds i true)) r (pre ++ [i]) (St.put ⟨s.tm,bx',nt',live'⟩ ml[i].d v) (by rw [hsplit]; simp) hpo
     (fun k hk => by rcases (hset k).1 hk with rfl | hk; exact hil; exact hS.lt k hk)
     (fun k hk hL e he => by
      rcases (hset k).1 hL with rfl | hL
      ·exact (hset e).2 (.inr (hrdy e he))
      ·exact (hset e).2 (.inr (hS.closed k hk hL e he)))
     (fun k hk => by rcases (hset k).1 hk with rfl | hk; simp; simp [hS.sub k hk])
     (fun k mk hk hl hkp => by
      rcases mem_append.1 hkp with h | h
      ·exact (hset k).2 (.inr (hS.loud k mk hk hl h))
      ·rw [mem_singleton] at h; exact (hset k).2 (.inl h))
     (fun t ht => by
      rw [hs1 t (fun h => ht ⟨i,ml[i],hmi,h,by simp⟩)];exact hS.fresh t fun ⟨k,mk,a1,a2,a3⟩ => ht ⟨k,mk,a1,a2,by simp [a3]⟩)
     (fun j hj hjL => by
      have hji:j ≠ i:=fun h => hjL ((hset j).2 (.inl h))
      have hjp:j ∈ pre:=(mem_append.1 hj).resolve_right (by simpa using hji);have hjL':¬ LL listed j:=fun h => hjL ((hset j).2 (.inr h))
      obtain ⟨p1,p2,hp⟩:=append_of_mem hjp
      have hbj:∀ k ∈ befOf bs j,k ∈ pre:=fun k hk => by
       have:=hc.ord' p1 j (p2 ++ i :: r) (by rw [hsplit,hp]; simp) k hk
       rw [hp]; simp [this]
      have hmm:mix ml (· ∈ befOf bs j) (St.put ⟨s.tm,bx',nt',live'⟩ ml[i].d v).tm tm0 = mix ml (· ∈ befOf bs j) s.tm tm0:=by
       funext t
       by_cases hw:wr ml (· ∈ befOf bs j) t
       ·simp only [mix,hw,if_true]
        refine hs1 t fun hd => ?_
        obtain ⟨k,mk,a1,a2,a3⟩:=hw
        have:=hdst k mk t a1 a2 hd
        subst this; exact hipre (hbj k a3)
       ·simp only [mix,hw,if_false]
      intro m hm hl;obtain ⟨u,hu1,hu2⟩:=hS.done j hjp hjL' m hm hl;refine ⟨u,fun t ht => ?_,?_⟩
      ·rw [hs1 t fun hd => hji (hdst j m t hm ht hd)]; exact hu1 t ht
      ·rw [hmm,hb1]
       refine hu2.imp (fun ⟨q1,q2⟩ => ⟨q1,?_⟩) id
       cases his:ml[i].wr with
       | false => exact qf_ext q2 (hbx his)
       | true =>
        rcases hst his with hwr | hsame
        ·cases hld:m.o.isLoad with
         | false => rw [qf_nobx hld (bx':=s.bx)]; exact q2
         | true =>
          rcases hc.store j i m ml[i] hm hmi hld his with (h | h) | ⟨x,x1,x2,x3⟩
          ·exact absurd (hcl j h) hjL'
          ·exact absurd (hbj i h) hipre
          ·refine qf_apart x1 (zaS fun t ht => ?_) hwr (fun k => ⟨k,rfl⟩) x2 q2
           by_cases hw:wr ml (· ∈ befOf bs j) t
           ·simp [mix,hw]
           ·simp only [mix,hw,if_false]
            refine (hS.fresh t ?_).symm;rintro ⟨k,mk,a1,a2,_⟩;exact hw ⟨k,mk,a1,a2,x3 t ht k mk a1 a2⟩
        ·rw [hsame]; exact q2)
    refine ih _ C' s2 a' w' pre' rest' hS2 hls' ?_ hcount'
    have heq:({ s2 with tm:=mix ml (LL (listed.setIfInBounds i true)) s2.tm tm0 }:St) = St.put ⟨mix ml (LL listed) s.tm tm0,bx',nt',live'⟩ ml[i].d v:=by
     rw [zcO] at e1 e2 e3 ⊢;simp only [St.mk.injEq];refine ⟨?_,e1,e2,e3⟩
     funext t
     have hsub:wr ml (LL (listed.setIfInBounds i true)) t -> wr ml (· ∈ pre ++ [i]) t:=fun ⟨k,mk,a1,a2,a3⟩ => ⟨k,mk,a1,a2,by
      rcases (hset k).1 a3 with rfl | a3
      ·simp
      ·simp [hS.sub k a3]⟩
     by_cases hd:ml[i].d = some t
     ·have hw:wr ml (LL (listed.setIfInBounds i true)) t:=(hwset t).2 (.inl hd)
      simp only [mix,hw,if_true,hd];rw [e4 t (hsub hw),zcO]; simp [hd]
     ·by_cases hw0:wr ml (LL listed) t
      ·have hw:wr ml (LL (listed.setIfInBounds i true)) t:=(hwset t).2 (.inr hw0)
       simp only [mix,hw,hw0,if_true,hd,if_false];rw [e4 t (hsub hw),hs1 t hd]
      ·have hw:¬ wr ml (LL (listed.setIfInBounds i true)) t:=fun h => by rcases (hwset t).1 h with h | h; exact hd h; exact hw0 h
       simp only [mix,hw,hw0,if_false,hd]
    rw [heq]; exact hr'
   rcases hrun with ⟨rfl,hrun⟩ | ⟨rfl,hrun⟩
   ·refine machine true _ hg' (fun _ => zek (tm':=mix ml (LL listed) s.tm tm0) (hopm _ _ hment) hrun) (fun h => by cases h) ?_
    rintro C' s' a' w' hr' ⟨v,bx',nt',live',rfl,hk,hkind⟩
    rcases hkind with ⟨h,_⟩ | ⟨_,h,h'⟩
    ·rw [hloud] at h; cases h
    ·exact after v bx' nt' live' hk h (fun hs => .inl (h' hs)) C' a' w' hr'
   ·refine machine false (fun s' => s' = St.put { s with tm:=mix ml (LL listed) s.tm tm0 } ml[i].d (.tup [])) hg' (fun h => by cases h) (fun _ => rfl) ?_
    rintro C' s' a' w' hr' rfl;exact after (.tup []) s.bx s.nt s.live hrun (fun _ => .inl rfl) (fun _ => .inr rfl) C' a' w' hr'
  ·-- a quiet one: the canonical order has carried it out
   have hq:ml[i].o.loud = false:=by simpa using hloud
   have hior:i ∈ ord:=(hc.mem i).2 hil;have hnd:=hc.nodup
   have hipre:i ∈ pre:=by
    rw [hS.split] at hior hnd
    rcases mem_append.1 hior with h | h
    ·exact h
    ·exfalso
     cases hrr:rest with
     | nil => rw [hrr] at h; cases h
     | cons l r =>
      rw [hrr] at h hnd;have hlo:l ∈ ord:=by rw [hS.split,hrr]; simp
      have hll:l < ml.length:=(hc.mem l).1 hlo;have hml:ml[l]? = some ml[l]:=getElem?_eq_getElem hll;have hld:=hS.head l r ml[l] hrr hml;have hne:i ≠ l:=fun h => by subst h; rw [hmi] at hml; rw [hq] at hld; cases hld
      have hir:i ∈ r:=(mem_cons.1 h).resolve_left hne;obtain ⟨p1,p2,hp⟩:=append_of_mem hir
      have:=hc.asap (pre ++ l :: p1) i p2 ml[i] (by rw [hS.split,hrr,hp]; simp) hmi hq l ml[l] (by simp) hml hld
      exact (nodup_append.1 hnd).2.2 l (hS.sub l (hcl l this)) l (by simp) rfl
   obtain ⟨v,hv1,hv2⟩:=hS.done i hipre hnL ml[i] hmi hq;have hmix:=mix_eq hc (L:=LL listed) hS.lt hS.closed hmi hnL hrdy s.tm tm0;have hgc:=hgdm _ _ hmix;have hqc:=zdc (bx:=s.bx) (hopm _ _ hmix);rw [hgc,hqc] at hv2
   have hfin:∀ C' a' w',Rep E B C' (St.put { s with tm:=mix ml (LL listed) s.tm tm0 } ml[i].d v) a' w' -> wpAny E.P .any ops Q fuel (listed.setIfInBounds i true) a' w':=by
    intro C' a' w' hr';refine ih _ C' s a' w' pre rest ⟨hS.split,hS.head,hS.run,fun k hk => by rcases (hset k).1 hk with rfl | hk; exact hil; exact hS.lt k hk,fun k hk hL e he => ?_,fun k hk => by rcases (hset k).1 hk with rfl | hk; exact hipre; exact hS.sub k hk,fun k mk hk hl hkp => (hset k).2 (.inr (hS.loud k mk hk hl hkp)),hS.fresh,fun j hj hjL => hS.done j hj fun h => hjL ((hset j).2 (.inr h))⟩ hls' ?_ hcount'
    ·rcases (hset k).1 hL with rfl | hL
     ·exact (hset e).2 (.inr (hrdy e he))
     ·exact (hset e).2 (.inr (hS.closed k hk hL e he))
    ·have heq:({ s with tm:=mix ml (LL (listed.setIfInBounds i true)) s.tm tm0 }:St) = St.put { s with tm:=mix ml (LL listed) s.tm tm0 } ml[i].d v:=by
      rw [zcO];simp only [St.mk.injEq,and_true]
      funext t
      by_cases hd:ml[i].d = some t
      ·have hw:wr ml (LL (listed.setIfInBounds i true)) t:=(hwset t).2 (.inl hd)
       simp only [mix,hw,if_true,hd]; exact hv1 t hd
      ·by_cases hw0:wr ml (LL listed) t
       ·have hw:wr ml (LL (listed.setIfInBounds i true)) t:=(hwset t).2 (.inr hw0)
        simp only [mix,hw,hw0,if_true,hd,if_false]
       ·have hw:¬ wr ml (LL (listed.setIfInBounds i true)) t:=fun h => by rcases (hwset t).1 h with h | h; exact hd h; exact hw0 h
        simp only [mix,hw,hw0,if_false,hd]
     rw [heq]; exact hr'
   rcases hv2 with ⟨hg,hv⟩ | ⟨hg,rfl⟩
   ·refine machine true (fun s' => s' = St.put { s with tm:=mix ml (LL listed) s.tm tm0 } ml[i].d v) hg (fun _ => ?_) (fun h => by cases h) (fun C' s' a' w' hr' he => by subst he; exact hfin C' a' w' hr')
    unfold pstep;split
    ·rename_i e; simp only at e; rw [e] at hq; cases hq
    ·rename_i e; simp only at e; rw [e] at hq; cases hq
    ·rename_i e; simp only at e; rw [e] at hq; cases hq
    ·exact .inl ⟨v,hv,rfl⟩
   ·exact machine false (fun s' => s' = St.put { s with tm:=mix ml (LL listed) s.tm tm0 } ml[i].d (.tup [])) hg (fun h => by cases h) (fun _ => rfl) (fun C' s' a' w' hr' he => by subst he; exact hfin C' a' w' hr')
end
end
section
structure CanonT (ml:List MOpr) (es bs:List (List Nat)):Prop where
 len:es.length = ml.length
 blen:bs.length = ml.length
 acyc:∀ i e,i < ml.length -> e ∈ es.getD i [] -> e < i
 bef:∀ i j,i < ml.length -> j ∈ befOf bs i -> j ∈ es.getD i [] \/ ∃ e ∈ es.getD i [],j ∈ befOf bs e
 dst:∀ (i j:Nat) (a b:MOpr) (t:Nat),ml[i]? = some a -> ml[j]? = some b -> a.d = some t -> b.d = some t -> i = j
 touch:∀ (i j:Nat) (a b:MOpr) (t:Nat),ml[i]? = some a -> ml[j]? = some b -> a.d = some t -> t ∈ b.tmps -> i ∈ befOf bs j \/ j ∈ befOf bs i
 store:∀ (i j:Nat) (a b:MOpr),ml[i]? = some a -> ml[j]? = some b -> a.o.isLoad = true -> b.wr = true -> (i ∈ befOf bs j \/ j ∈ befOf bs i) \/ ∃ x,adrL a.o = some x /\ x ∈ b.c /\ ∀ t ∈ x.tmps,∀ (k:Nat) (mk:MOpr),ml[k]? = some mk -> mk.d = some t -> k ∈ befOf bs i
 self:∀ i,i < ml.length -> i ∉ befOf bs i
def Rdy (bs:List (List Nat)) (pre:List Nat) (i:Nat):Prop:=∀ j ∈ befOf bs i,j ∈ pre
def Clos (ml:List MOpr) (bs:List (List Nat)) (pre:List Nat):Prop:=∀ (i:Nat) (m:MOpr),ml[i]? = some m -> m.o.loud = false -> Rdy bs pre i -> i ∈ pre
def Qs (ml:List MOpr) (bs:List (List Nat)):List Nat -> List Nat -> Prop
 | _,[] => True
 | pre,i :: r => (∃ m,ml[i]? = some m /\ m.o.loud = false) /\ i ∉ pre /\ Rdy bs pre i /\ Qs ml bs (pre ++ [i]) r
def runT (E:Env) (ml:List MOpr) (bs:List (List Nat)) (K:St -> Prop):Nat -> List Nat -> St -> Prop
 | 0,_,_ => False
 | f + 1,pre,s => ∃ qs,Qs ml bs pre qs /\ Clos ml bs (pre ++ qs) /\ po E (qs.filterMap (ml[·]?)) (fun s => ((∀ i,i < ml.length -> i ∈ pre ++ qs) -> K s) /\
   ∀ (i:Nat) (m:MOpr),ml[i]? = some m -> m.o.loud = true -> i ∉ pre ++ qs -> Rdy bs (pre ++ qs) i -> po E [m] (runT E ml bs K f (pre ++ qs ++ [i])) s) s
structure SimT (E:Env) (ml:List MOpr) (es bs:List (List Nat)) (K:St -> Prop) (tm0:Nat -> PV) (L:Nat -> Prop) (pre:List Nat) (s:St):Prop where
 run:∃ f,((∀ i,i < ml.length -> i ∈ pre) -> K s) /\ ∀ (i:Nat) (m:MOpr),ml[i]? = some m -> m.o.loud = true -> i ∉ pre -> Rdy bs pre i -> po E [m] (runT E ml bs K f (pre ++ [i])) s
 clos:Clos ml bs pre
 down:∀ i ∈ pre,Rdy bs pre i
 lt:∀ i,L i -> i < ml.length
 closed:∀ i,i < ml.length -> L i -> ∀ e ∈ es.getD i [],L e
 sub:∀ i,L i -> i ∈ pre
 loud:∀ (i:Nat) (m:MOpr),ml[i]? = some m -> m.o.loud = true -> i ∈ pre -> L i
 fresh:∀ t,¬ wr ml (· ∈ pre) t -> s.tm t = tm0 t
 done:∀ j ∈ pre,¬ L j -> Done ml bs tm0 s.tm s.bx j
section
variable {E:Env} {B:Base} {ml:List MOpr} {es bs:List (List Nat)} {K:St -> Prop} {tm0:Nat -> PV}
theorem quietsT (hc:CanonT ml es bs) {L:Nat -> Prop} {K2:St -> Prop}:∀ (rest pre:List Nat) (s:St),Qs ml bs pre rest -> (∀ i ∈ pre,Rdy bs pre i) -> po E (rest.filterMap (ml[·]?)) K2 s -> (∀ i,L i -> i < ml.length) -> (∀ i,i < ml.length -> L i -> ∀ e ∈ es.getD i [],L e) -> (∀ i,L i -> i ∈ pre) ->
  (∀ (i:Nat) (m:MOpr),ml[i]? = some m -> m.o.loud = true -> i ∈ pre -> L i) -> (∀ t,¬ wr ml (· ∈ pre) t -> s.tm t = tm0 t) -> (∀ j ∈ pre,¬ L j -> Done ml bs tm0 s.tm s.bx j) ->
  ∃ s',K2 s' /\ (∀ i ∈ pre ++ rest,Rdy bs (pre ++ rest) i) /\ (∀ i,L i -> i ∈ pre ++ rest) /\ (∀ (i:Nat) (m:MOpr),ml[i]? = some m -> m.o.loud = true -> i ∈ pre ++ rest -> L i) /\ (∀ t,¬ wr ml (· ∈ pre ++ rest) t -> s'.tm t = tm0 t) /\ (∀ j ∈ pre ++ rest,¬ L j -> Done ml bs tm0 s'.tm s'.bx j) /\ s'.bx = s.bx /\ s'.nt = s.nt /\ s'.live = s.live /\ (∀ t,wr ml (· ∈ pre) t -> s'.tm t = s.tm t):=by
 intro rest
 induction rest with
 | nil =>
  intro pre s h1 hdn h2 h3 h4 h5 h6 h7 h8
  exact ⟨s,h2,by simpa using hdn,by simpa using h5,by simpa using h6,by simpa using h7,by simpa using h8,rfl,rfl,rfl,fun _ _ => rfl⟩
 | cons i rest ih =>
  intro pre s h1 hdn h2 h3 h4 h5 h6 h7 h8;obtain ⟨⟨mi,hmi0,hq0⟩,hipre,hbi,hQr⟩:=h1
  have hil:i < ml.length:=by
   rcases Nat.lt_or_ge i ml.length with h | h
   ·exact h
   ·simp [getElem?_eq_none h] at hmi0
  have hmi:ml[i]? = some ml[i]:=getElem?_eq_getElem hil;have hq:ml[i].o.loud = false:=by rw [hmi] at hmi0; simp only [sI] at hmi0; rw [hmi0]; exact hq0
  ·have hnd:=hq
   have hiL:¬ L i:=fun h => hipre (h5 i h)
   simp only [filterMap_cons,hmi] at h2;obtain ⟨g,hg,hrun⟩:=h2
   -- what i mentions is as the canonical order has it
   have hmix:∀ t ∈ ml[i].tmps,s.tm t = mix ml (· ∈ befOf bs i) s.tm tm0 t:=by
    intro t ht;by_cases hw:wr ml (· ∈ befOf bs i) t
    ·simp [mix,hw]
    ·simp only [mix,hw,if_false]
     refine h7 t ?_;rintro ⟨k,mk,a1,a2,a3⟩
     rcases hc.touch k i mk ml[i] t a1 hmi a2 ht with h | h
     ·exact hw ⟨k,mk,a1,a2,h⟩
     ·exact hipre (hdn k a3 i h)
   have hdi:∀ t,ml[i].d = some t -> ¬ wr ml (· ∈ pre) t:=by
    rintro t ht ⟨k,mk,a1,a2,a3⟩
    have:=hc.dst k i mk ml[i] t a1 hmi a2 ht
    subst this; exact hipre a3
   -- the step
   have step:∃ v,po E (rest.filterMap (ml[·]?)) K2 (s.put ml[i].d v) /\ ((gd ml[i].g s.tm = some true /\ qf (ev s.tm) s.bx ml[i].o = some v) \/ (gd ml[i].g s.tm = some false /\ v = .tup [])):=by
    rcases hrun with ⟨rfl,hrun⟩ | ⟨rfl,hrun⟩
    ·generalize hm:ml[i] = m at *
     have hno:∀ x,lf (ev s.tm) s m.o ≠ some x:=by
      intro x hx
      rcases zcw hx with ⟨x,e⟩ | ⟨z,e⟩ | ⟨n,xs,e⟩ | ⟨n,a,x,e⟩ | ⟨n,a,x,e⟩ | ⟨bT,bU,e⟩ <;> rw [e] at hq <;> cases hq
     have:∃ v,qf (ev s.tm) s.bx m.o = some v /\ po E (rest.filterMap (ml[·]?)) K2 (s.put m.d v):=by
      unfold pstep at hrun
      split at hrun
      ·rename_i e; rw [e] at hq; cases hq
      ·rename_i e; rw [e] at hq; cases hq
      ·rename_i e; rw [e] at hq; cases hq
      ·rcases hrun with h | ⟨v,s',hv,_,_⟩
       ·exact h
       ·exact absurd hv (hno _)
     obtain ⟨v,hv,hk⟩:=this;exact ⟨v,hk,.inl ⟨hg,hv⟩⟩
    ·exact ⟨.tup [],hrun,.inr ⟨hg,rfl⟩⟩
   obtain ⟨v,hk,hv⟩:=step
   have hput:∀ t,wr ml (· ∈ pre) t -> (s.put ml[i].d v).tm t = s.tm t:=by
    intro t ht
    cases hd:ml[i].d with
    | none => rfl
    | some d =>
     simp only [St.put];rw [if_neg (fun h => by subst h; exact hdi _ hd ht)]
   have hbx:(s.put ml[i].d v).bx = s.bx /\ (s.put ml[i].d v).nt = s.nt /\ (s.put ml[i].d v).live = s.live:=by cases ml[i].d <;> exact ⟨rfl,rfl,rfl⟩
   have hmono:∀ j,(∀ k ∈ befOf bs j,k ∈ pre) -> ∀ t,mix ml (· ∈ befOf bs j) (s.put ml[i].d v).tm tm0 t = mix ml (· ∈ befOf bs j) s.tm tm0 t:=by
    intro j hj t;by_cases hw:wr ml (· ∈ befOf bs j) t
    ·simp only [mix,hw,if_true]
     refine hput t ?_;obtain ⟨k,mk,a1,a2,a3⟩:=hw;exact ⟨k,mk,a1,a2,hj k a3⟩
    ·simp only [mix,hw,if_false]
   obtain ⟨s',g1,g2,g3,g4,g5,g6,e1,e2,e3,e4⟩:=ih (pre ++ [i]) (s.put ml[i].d v) hQr (fun k hk j hj => by
     rcases mem_append.1 hk with hk | hk
     ·exact mem_append.2 (.inl (hdn k hk j hj))
     ·rw [mem_singleton] at hk; subst hk; exact mem_append.2 (.inl (hbi j hj))) hk h3 h4 (fun k hk => by simp [h5 k hk]) (fun k m hm hl hk => by
     rcases mem_append.1 hk with hk | hk
     ·exact h6 k m hm hl hk
     ·rw [mem_singleton] at hk; subst hk; rw [hmi] at hm; simp only [sI] at hm; subst hm; rw [hq] at hl; cases hl)
    (fun t ht => by
     have hnp:¬ wr ml (· ∈ pre) t:=fun ⟨k,mk,a1,a2,a3⟩ => ht ⟨k,mk,a1,a2,by simp [a3]⟩
     cases hd:ml[i].d with
     | none => exact h7 t hnp
     | some d =>
      simp only [St.put];rw [if_neg (fun h => ht ⟨i,ml[i],hmi,by rw [hd,h],by simp⟩)];exact h7 t hnp)
    (fun j hj hjL => by
     rcases mem_append.1 hj with hj | hj
     ·-- an earlier one
      have hbj:∀ k ∈ befOf bs j,k ∈ pre:=hdn j hj;intro m hm hl;obtain ⟨u,hu1,hu2⟩:=h8 j hj hjL m hm hl;have hmm:=funext (hmono j hbj);refine ⟨u,fun t ht => ?_,?_⟩
      ·rw [hput t ⟨j,m,hm,ht,hj⟩]; exact hu1 t ht
      ·rw [hmm,hbx.1]; exact hu2
     ·rw [mem_singleton] at hj; subst hj
      intro m hm hl;rw [hmi] at hm; simp only [sI] at hm; subst hm
      have hmm:=funext (hmono j hbi);refine ⟨v,fun t ht => ?_,?_⟩
      ·rw [ht]; simp [St.put]
      ·rw [hmm,hbx.1]
       have hgc:gd ml[j].g s.tm = gd ml[j].g (mix ml (· ∈ befOf bs j) s.tm tm0):=zd3 fun t ht => hmix t (by
        unfold MOpr.tmps; exact mem_append.2 (.inr (by simpa using ht)))
       have hqc:qf (ev s.tm) s.bx ml[j].o = qf (ev (mix ml (· ∈ befOf bs j) s.tm tm0)) s.bx ml[j].o:=zdc fun t ht => hmix t (by unfold MOpr.tmps; exact mem_append.2 (.inl ht))
       rw [<- hgc,<- hqc]; exact hv)
   have hass:pre ++ [i] ++ rest = pre ++ i :: rest:=by simp
   rw [hass] at g2 g3 g4 g5 g6
   exact ⟨s',g1,g2,g3,g4,g5,g6,e1.trans hbx.1,e2.trans hbx.2.1,e3.trans hbx.2.2,fun t ht => by
    rw [e4 t (by obtain ⟨k,mk,a1,a2,a3⟩:=ht; exact ⟨k,mk,a1,a2,by simp [a3]⟩)]; exact hput t ht⟩
end
end
section
section
variable {ml:List MOpr} {es bs:List (List Nat)} (hc:CanonT ml es bs)
include hc
theorem CanonT.closed (L:Nat -> Prop) (hL:∀ i,i < ml.length -> L i -> ∀ e ∈ es.getD i [],L e):∀ (i:Nat),i < ml.length -> (∀ e ∈ es.getD i [],L e) -> ∀ j ∈ befOf bs i,L j:=by
 intro i
 induction i using Nat.strongRecOn with
 | _ i ih =>
  intro hi he j hj
  rcases hc.bef i j hi hj with h | ⟨e,he',h⟩
  ·exact he j h
  ·have hlt:=hc.acyc i e hi he'
   exact ih e hlt (by omega) (hL e (by omega) (he e he')) j h
end
section
variable {E:Env} {B:Base} {ml:List MOpr} {es bs:List (List Nat)} {K:St -> Prop} {tm0:Nat -> PV} {ops:Array Oper} {Q:Exit -> Act -> World -> Prop}
theorem mix_eqT (hc:CanonT ml es bs) {L:Nat -> Prop} (hLlt:∀ i,L i -> i < ml.length) (hLcl:∀ i,i < ml.length -> L i -> ∀ e ∈ es.getD i [],L e) {j:Nat} {m:MOpr} (hj:ml[j]? = some m) (hnot:¬ L j) (hready:∀ e ∈ es.getD j [],L e) (f g:Nat -> PV) :
  ∀ t ∈ m.tmps,mix ml (· ∈ befOf bs j) f g t = mix ml L f g t:=by
 intro t ht
 have hjl:j < ml.length:=by
  rcases Nat.lt_or_ge j ml.length with h | h
  ·exact h
  ·simp [getElem?_eq_none h] at hj
 have hcl:=hc.closed L hLcl;by_cases h1:wr ml (· ∈ befOf bs j) t
 ·have h2:wr ml L t:=by
   obtain ⟨i,mi,a1,a2,a3⟩:=h1;exact ⟨i,mi,a1,a2,hcl j hjl hready i a3⟩
  simp [mix,h1,h2]
 ·have h2:¬ wr ml L t:=by
   rintro ⟨i,mi,a1,a2,a3⟩
   rcases hc.touch i j mi m t a1 hj a2 ht with h | h
   ·exact h1 ⟨i,mi,a1,a2,h⟩
   ·exact hnot (hcl i (hLlt i a3) (hLcl i (hLlt i a3) a3) j h)
  simp [mix,h1,h2]
theorem sim_anyT (hc:CanonT ml es bs) (hsz:ops.size = ml.length) (htr:∀ (i:Nat) (o:Oper) (m:MOpr),ops[i]? = some o -> ml[i]? = some m -> TrO E.P B.n ops o m) (hes:∀ (i:Nat) (o:Oper),ops[i]? = some o -> es.getD i [] = edgesOf o)
  (hK:∀ C' s' a' w',Rep E B C' s' a' w' -> K s' -> Q .normal a' w') :
  ∀ (fuel:Nat) (listed:Array Bool) (C:Cx) (s:St) (a:Act) (w:World) (pre:List Nat),SimT E ml es bs K tm0 (LL listed) pre s -> listed.size = ops.size -> Rep E B C { s with tm:=mix ml (LL listed) s.tm tm0 } a w ->
   ((range ml.length).filter (fun i => !(listed.getD i false))).length <= fuel -> wpAny E.P .any ops Q fuel listed a w:=by
 -- all is listed
 have hdone:∀ (listed:Array Bool) (C:Cx) (s:St) (a:Act) (w:World) (pre:List Nat),SimT E ml es bs K tm0 (LL listed) pre s -> Rep E B C { s with tm:=mix ml (LL listed) s.tm tm0 } a w -> (∀ i,i < ml.length -> LL listed i) -> Q .normal a w:=by
  intro listed C s a w pre hS hr hall;obtain ⟨f0,hK0,_⟩:=hS.run;have hrun:=hK0 (fun i hi => hS.sub i (hall i hi));refine hK C s a w ?_ hrun
  have htm:mix ml (LL listed) s.tm tm0 = s.tm:=by
   funext t
   by_cases hw:wr ml (LL listed) t
   ·simp [mix,hw]
   ·simp only [mix,hw,if_false]
    refine (hS.fresh t ?_).symm;rintro ⟨i,m,a1,a2,a3⟩;refine hw ⟨i,m,a1,a2,hall i ?_⟩
    rcases Nat.lt_or_ge i ml.length with h | h
    ·exact h
    ·simp [getElem?_eq_none h] at a1
  rw [htm] at hr; exact hr
 -- nothing is ready: all is listed
 have hready:∀ (listed:Array Bool),listed.size = ops.size -> Region.ready .any ops listed = [] -> ∀ i,i < ml.length -> LL listed i:=by
  intro listed hls hr i
  induction i using Nat.strongRecOn with
  | _ i ih =>
   intro hi
   apply Classical.byContradiction
   intro hn;have hio:i < ops.size:=by omega
   have:i ∈ Region.ready .any ops listed:=by
    rw [mem_ready];refine ⟨?_,ops[i],Array.getElem?_eq_getElem hio,fun e he hb => ?_⟩
    ·unfold LL at hn
     have hil:i < listed.size:=by omega
     simp only [Array.getD_eq_getD_getElem?,Array.getElem?_eq_getElem hil,Option.getD_some] at hn ⊢;simpa using hn
    ·have hm:e.on ∈ es.getD i []:=by
      rw [hes i ops[i] (Array.getElem?_eq_getElem hio)];unfold edgesOf;exact mem_map.2 ⟨e,mem_filter.2 ⟨by simpa using he,hb⟩,rfl⟩
     have:=hc.acyc i e.on hi hm
     exact ih e.on this (by omega)
   rw [hr] at this; cases this
 intro fuel
 induction fuel with
 | zero =>
  intro listed C s a w pre hS hls hr hcount
  have hall:∀ i,i < ml.length -> LL listed i:=by
   intro i hi
   apply Classical.byContradiction
   intro hn
   have:i ∈ (range ml.length).filter (fun i => !(listed.getD i false)):=mem_filter.2 ⟨mem_range.2 hi,by unfold LL at hn; simpa using hn⟩
   have h0:(range ml.length).filter (fun i => !(listed.getD i false)) = []:=eq_nil_of_length_eq_zero (by omega);rw [h0] at this; cases this
  refine ⟨?_,hdone listed C s a w pre hS hr hall⟩
  cases hrd:Region.ready .any ops listed with
  | nil => rfl
  | cons i r =>
   exfalso;have hm:i ∈ Region.ready .any ops listed:=by rw [hrd]; simp
   obtain ⟨h1,o,ho,_⟩:=mem_ready.1 hm;have hi:i < ops.size:=(Array.getElem?_eq_some_iff.1 ho).1
   have:=hall i (by omega)
   unfold LL at this;have hil:i < listed.size:=by omega
   simp only [Array.getD_eq_getD_getElem?,Array.getElem?_eq_getElem hil,Option.getD_some] at this h1
   rw [this] at h1; cases h1
 | succ fuel ih =>
  intro listed C s a w pre hS hls hr hcount;refine ⟨fun h => hdone listed C s a w pre hS hr (hready listed hls h),fun i hi => ?_⟩;obtain ⟨h1,o,ho,hall⟩:=mem_ready.1 hi;have hio:i < ops.size:=(Array.getElem?_eq_some_iff.1 ho).1;have hil:i < ml.length:=by omega
  have hils:i < listed.size:=by omega
  have hmi:ml[i]? = some ml[i]:=getElem?_eq_getElem hil;have htro:=htr i o ml[i] ho hmi;obtain ⟨t1,t2,t3,t4,t5⟩:=id htro;have htro0:TrO E.P B.n ops o { ml[i] with c:=ml[i].keep }:=htro
  have hnL:¬ LL listed i:=by
   unfold LL;simp only [Array.getD_eq_getD_getElem?,Array.getElem?_eq_getElem hils,Option.getD_some] at h1 ⊢;rw [h1]; decide
  have hrdy:∀ e ∈ es.getD i [],LL listed e:=by
   intro e he;rw [hes i o ho] at he;unfold edgesOf at he;obtain ⟨ed,hed,rfl⟩:=mem_map.1 he;obtain ⟨g1,g2⟩:=mem_filter.1 hed;exact hall ed (by simpa using g1) g2
  have hcl:∀ j ∈ befOf bs i,LL listed j:=hc.closed (LL listed) hS.closed i hil hrdy;have hset:=fun j => LL_set (listed:=listed) hils j
  have hcount':((range ml.length).filter (fun j => !((listed.setIfInBounds i true).getD j false))).length <= fuel:=by
   have hlt:=zel (p:=fun j => !(listed.getD j false)) (q:=fun j => !((listed.setIfInBounds i true).getD j false)) (i:=i) (l:=range ml.length)
    (fun j hj => by
     simp only [Bool.not_eq_true'] at hj ⊢
     cases h0:listed.getD j false with
     | false => rfl
     | true => have:=(hset j).2 (.inr h0); unfold LL at this; rw [this] at hj; cases hj)
    (mem_range.2 hil) (by simp only [Bool.not_eq_true']; unfold LL at hnL; simpa using hnL) (by
     have:=(hset i).2 (.inl rfl); unfold LL at this; simp only [this]; rfl)
   omega
  have hls':(listed.setIfInBounds i true).size = ops.size:=by rw [Array.size_setIfInBounds]; exact hls
  have hdst:∀ (k:Nat) (mk:MOpr) (t:Nat),ml[k]? = some mk -> mk.d = some t -> ml[i].d = some t -> k = i:=fun k mk t a1 a2 a3 => hc.dst k i mk ml[i] t a1 hmi a2 a3
  have hwset:∀ t,wr ml (LL (listed.setIfInBounds i true)) t ↔ (ml[i].d = some t \/ wr ml (LL listed) t):=by
   intro t
   constructor
   ·rintro ⟨k,mk,a1,a2,a3⟩
    rcases (hset k).1 a3 with rfl | a3
    ·rw [hmi] at a1; simp only [sI] at a1; subst a1; exact .inl a2
    ·exact .inr ⟨k,mk,a1,a2,a3⟩
   ·rintro (h | ⟨k,mk,a1,a2,a3⟩)
    ·exact ⟨i,ml[i],hmi,h,(hset i).2 (.inl rfl)⟩
    ·exact ⟨k,mk,a1,a2,(hset k).2 (.inr a3)⟩
  have hgdm:∀ (f g:Nat -> PV),(∀ t ∈ ml[i].tmps,f t = g t) -> gd ml[i].g f = gd ml[i].g g:=fun f g h => zd3 fun t ht => h t (by unfold MOpr.tmps; exact mem_append.2 (.inr (by simpa using ht)))
  have hopm:∀ (f g:Nat -> PV),(∀ t ∈ ml[i].tmps,f t = g t) -> ∀ t ∈ ml[i].o.tmps,f t = g t:=fun f g h t ht => h t (by unfold MOpr.tmps; exact mem_append.2 (.inl ht))
  -- the machine's step,for either kind
  have machine:∀ (b:Bool) (K':St -> Prop),gd ml[i].g (mix ml (LL listed) s.tm tm0) = some b -> (b = true -> pstep E { ml[i] with c:=ml[i].keep } K' { s with tm:=mix ml (LL listed) s.tm tm0 }) -> (b = false -> K' (St.put { s with tm:=mix ml (LL listed) s.tm tm0 } ml[i].d (.tup []))) ->
    (∀ C' s' a' w',Rep E B C' s' a' w' -> K' s' -> wpAny E.P .any ops Q fuel (listed.setIfInBounds i true) a' w') -> wpOp E.P ops Q i (wpAny E.P .any ops Q fuel (listed.setIfInBounds i true)) a w:=by
   intro b K' hg hp1 hp2 hk;have hw:=zeh hr t2 hg;unfold wpOp;simp only [ho,hw]
   cases b with
   | true => rw [if_pos rfl]; exact .inl (zcS htro0 hr (hp1 rfl) hk Q)
   | false =>
    rw [if_neg (by decide)];refine hk C _ _ w (hr.put t5 (.tup [] [] rfl (fun j x y h => by simp at h))) ?_;rw [<- t3]; exact hp2 rfl
  by_cases hloud:ml[i].o.loud = true
  ·-- a loud one: the canonical order's next
   have hipre:i ∉ pre:=fun h => hnL (hS.loud i ml[i] hmi hloud h)
   have hment:∀ t ∈ ml[i].tmps,s.tm t = mix ml (LL listed) s.tm tm0 t:=by
    intro t ht;by_cases hw:wr ml (LL listed) t
    ·simp [mix,hw]
    ·simp only [mix,hw,if_false]
     refine hS.fresh t ?_;rintro ⟨k,mk,a1,a2,a3⟩
     rcases hc.touch k i mk ml[i] t a1 hmi a2 ht with h | h
     ·exact hw ⟨k,mk,a1,a2,hcl k h⟩
     ·exact hipre (hS.down k a3 i h)
   obtain ⟨f0,_,hnext⟩:=hS.run;have hri:Rdy bs pre i:=fun j hj => hS.sub j (hcl j hj)
   obtain ⟨g,hg,hrun⟩:=hnext i ml[i] hmi hloud hipre hri;have hg':gd ml[i].g (mix ml (LL listed) s.tm tm0) = some g:=by rw [<- hgdm _ _ hment]; exact hg
   -- behind it
   have after:∀ (v:PV) (bx':LP PC) (nt':Nat) (live':List Nat),runT E ml bs K f0 (pre ++ [i]) (St.put ⟨s.tm,bx',nt',live'⟩ ml[i].d v) -> (ml[i].wr = false -> bx' = s.bx \/ ∃ c,bx' = s.bx ++ [c]) -> (ml[i].wr = true -> Wrote (ev s.tm) ml[i] s.bx bx' \/ bx' = s.bx) ->
     ∀ C' a' w',Rep E B C' (St.put ⟨mix ml (LL listed) s.tm tm0,bx',nt',live'⟩ ml[i].d v) a' w' -> wpAny E.P .any ops Q fuel (listed.setIfInBounds i true) a' w':=by
    intro v bx' nt' live' hpo hbx hst C' a' w' hr';have hs1:∀ t,¬ ml[i].d = some t -> (St.put ⟨s.tm,bx',nt',live'⟩ ml[i].d v).tm t = s.tm t:=fun t ht => by rw [zcO]; simp [ht]
    have hb1:(St.put ⟨s.tm,bx',nt',live'⟩ ml[i].d v).bx = bx':=by rw [zcO]
    obtain ⟨f1,rfl⟩:∃ f1,f0 = f1 + 1:=by
     cases f0 with
     | zero => exact hpo.elim
     | succ f1 => exact ⟨f1,rfl⟩
    obtain ⟨qs,hQs,hClos,hpo⟩:=hpo
    have hlt2:∀ k,LL (listed.setIfInBounds i true) k -> k < ml.length:=fun k hk => by
     rcases (hset k).1 hk with rfl | hk
     ·exact hil
     ·exact hS.lt k hk
    have hcl2:∀ k,k < ml.length -> LL (listed.setIfInBounds i true) k -> ∀ e ∈ es.getD k [],LL (listed.setIfInBounds i true) e:=fun k hk hL e he => by
     rcases (hset k).1 hL with rfl | hL
     ·exact (hset e).2 (.inr (hrdy e he))
     ·exact (hset e).2 (.inr (hS.closed k hk hL e he))
    obtain ⟨s2,G1,G2,G3,G4,G5,G6,e1,e2,e3,e4⟩:=quietsT (E:=E) (tm0:=tm0) hc (L:=LL (listed.setIfInBounds i true)) qs (pre ++ [i]) (St.put ⟨s.tm,bx',nt',live'⟩ ml[i].d v) hQs (fun k hk j hj => by
      rcases mem_append.1 hk with hk | hk
      ·exact mem_append.2 (.inl (hS.down k hk j hj))
      ·rw [mem_singleton] at hk; subst hk; exact mem_append.2 (.inl (hri j hj))) hpo
     (fun k hk => by rcases (hset k).1 hk with rfl | hk; exact hil; exact hS.lt k hk)
     (fun k hk hL e he => by
      rcases (hset k).1 hL with rfl | hL
      ·exact (hset e).2 (.inr (hrdy e he))
      ·exact (hset e).2 (.inr (hS.closed k hk hL e he)))
     (fun k hk => by rcases (hset k).1 hk with rfl | hk; simp; simp [hS.sub k hk])
     (fun k mk hk hl hkp => by
      rcases mem_append.1 hkp with h | h
      ·exact (hset k).2 (.inr (hS.loud k mk hk hl h))
      ·rw [mem_singleton] at h; exact (hset k).2 (.inl h))
     (fun t ht => by
      rw [hs1 t (fun h => ht ⟨i,ml[i],hmi,h,by simp⟩)];exact hS.fresh t fun ⟨k,mk,a1,a2,a3⟩ => ht ⟨k,mk,a1,a2,by simp [a3]⟩)
     (fun j hj hjL => by
      have hji:j ≠ i:=fun h => hjL ((hset j).2 (.inl h))
      have hjp:j ∈ pre:=(mem_append.1 hj).resolve_right (by simpa using hji);have hjL':¬ LL listed j:=fun h => hjL ((hset j).2 (.inr h))
      have hbj:∀ k ∈ befOf bs j,k ∈ pre:=hS.down j hjp
      have hmm:mix ml (· ∈ befOf bs j) (St.put ⟨s.tm,bx',nt',live'⟩ ml[i].d v).tm tm0 = mix ml (· ∈ befOf bs j) s.tm tm0:=by
       funext t
       by_cases hw:wr ml (· ∈ befOf bs j) t
       ·simp only [mix,hw,if_true]
        refine hs1 t fun hd => ?_
        obtain ⟨k,mk,a1,a2,a3⟩:=hw
        have:=hdst k mk t a1 a2 hd
        subst this; exact hipre (hbj k a3)
       ·simp only [mix,hw,if_false]
      intro m hm hl;obtain ⟨u,hu1,hu2⟩:=hS.done j hjp hjL' m hm hl;refine ⟨u,fun t ht => ?_,?_⟩
      ·rw [hs1 t fun hd => hji (hdst j m t hm ht hd)]; exact hu1 t ht
      ·rw [hmm,hb1]
       refine hu2.imp (fun ⟨q1,q2⟩ => ⟨q1,?_⟩) id
       cases his:ml[i].wr with
       | false => exact qf_ext q2 (hbx his)
       | true =>
        rcases hst his with hwr | hsame
        ·cases hld:m.o.isLoad with
         | false => rw [qf_nobx hld (bx':=s.bx)]; exact q2
         | true =>
          rcases hc.store j i m ml[i] hm hmi hld his with (h | h) | ⟨x,x1,x2,x3⟩
          ·exact absurd (hcl j h) hjL'
          ·exact absurd (hbj i h) hipre
          ·refine qf_apart x1 (zaS fun t ht => ?_) hwr (fun k => ⟨k,rfl⟩) x2 q2
           by_cases hw:wr ml (· ∈ befOf bs j) t
           ·simp [mix,hw]
           ·simp only [mix,hw,if_false]
            refine (hS.fresh t ?_).symm;rintro ⟨k,mk,a1,a2,_⟩;exact hw ⟨k,mk,a1,a2,x3 t ht k mk a1 a2⟩
        ·rw [hsame]; exact q2)
    refine ih _ C' s2 a' w' _ (SimT.mk ⟨f1,G1.1,G1.2⟩ hClos G2 hlt2 hcl2 G3 G4 G5 G6) hls' ?_ hcount'
    have heq:({ s2 with tm:=mix ml (LL (listed.setIfInBounds i true)) s2.tm tm0 }:St) = St.put ⟨mix ml (LL listed) s.tm tm0,bx',nt',live'⟩ ml[i].d v:=by
     rw [zcO] at e1 e2 e3 ⊢;simp only [St.mk.injEq];refine ⟨?_,e1,e2,e3⟩
     funext t
     have hsub:wr ml (LL (listed.setIfInBounds i true)) t -> wr ml (· ∈ pre ++ [i]) t:=fun ⟨k,mk,a1,a2,a3⟩ => ⟨k,mk,a1,a2,by
      rcases (hset k).1 a3 with rfl | a3
      ·simp
      ·simp [hS.sub k a3]⟩
     by_cases hd:ml[i].d = some t
     ·have hw:wr ml (LL (listed.setIfInBounds i true)) t:=(hwset t).2 (.inl hd)
      simp only [mix,hw,if_true,hd];rw [e4 t (hsub hw),zcO]; simp [hd]
     ·by_cases hw0:wr ml (LL listed) t
      ·have hw:wr ml (LL (listed.setIfInBounds i true)) t:=(hwset t).2 (.inr hw0)
       simp only [mix,hw,hw0,if_true,hd,if_false];rw [e4 t (hsub hw),hs1 t hd]
      ·have hw:¬ wr ml (LL (listed.setIfInBounds i true)) t:=fun h => by rcases (hwset t).1 h with h | h; exact hd h; exact hw0 h
       simp only [mix,hw,hw0,if_false,hd]
    rw [heq]; exact hr'
   rcases hrun with ⟨rfl,hrun⟩ | ⟨rfl,hrun⟩
   ·refine machine true _ hg' (fun _ => zek (tm':=mix ml (LL listed) s.tm tm0) (hopm _ _ hment) hrun) (fun h => by cases h) ?_
    rintro C' s' a' w' hr' ⟨v,bx',nt',live',rfl,hk,hkind⟩
    rcases hkind with ⟨h,_⟩ | ⟨_,h,h'⟩
    ·rw [hloud] at h; cases h
    ·exact after v bx' nt' live' hk h (fun hs => .inl (h' hs)) C' a' w' hr'
   ·refine machine false (fun s' => s' = St.put { s with tm:=mix ml (LL listed) s.tm tm0 } ml[i].d (.tup [])) hg' (fun h => by cases h) (fun _ => rfl) ?_
    rintro C' s' a' w' hr' rfl;exact after (.tup []) s.bx s.nt s.live hrun (fun _ => .inl rfl) (fun _ => .inr rfl) C' a' w' hr'
  ·-- a quiet one: the canonical order has carried it out
   have hq:ml[i].o.loud = false:=by simpa using hloud
   have hipre:i ∈ pre:=hS.clos i ml[i] hmi hq fun j hj => hS.sub j (hcl j hj)
   obtain ⟨v,hv1,hv2⟩:=hS.done i hipre hnL ml[i] hmi hq;have hmix:=mix_eqT hc (L:=LL listed) hS.lt hS.closed hmi hnL hrdy s.tm tm0;have hgc:=hgdm _ _ hmix;have hqc:=zdc (bx:=s.bx) (hopm _ _ hmix);rw [hgc,hqc] at hv2
   have hfin:∀ C' a' w',Rep E B C' (St.put { s with tm:=mix ml (LL listed) s.tm tm0 } ml[i].d v) a' w' -> wpAny E.P .any ops Q fuel (listed.setIfInBounds i true) a' w':=by
    intro C' a' w' hr';refine ih _ C' s a' w' pre ⟨hS.run,hS.clos,hS.down,fun k hk => by rcases (hset k).1 hk with rfl | hk; exact hil; exact hS.lt k hk,fun k hk hL e he => ?_,fun k hk => by rcases (hset k).1 hk with rfl | hk; exact hipre; exact hS.sub k hk,fun k mk hk hl hkp => (hset k).2 (.inr (hS.loud k mk hk hl hkp)),hS.fresh,fun j hj hjL => hS.done j hj fun h => hjL ((hset j).2 (.inr h))⟩ hls' ?_ hcount'
    ·rcases (hset k).1 hL with rfl | hL
     ·exact (hset e).2 (.inr (hrdy e he))
     ·exact (hset e).2 (.inr (hS.closed k hk hL e he))
    ·have heq:({ s with tm:=mix ml (LL (listed.setIfInBounds i true)) s.tm tm0 }:St) = St.put { s with tm:=mix ml (LL listed) s.tm tm0 } ml[i].d v:=by
      rw [zcO];simp only [St.mk.injEq,and_true]
      funext t
      by_cases hd:ml[i].d = some t
      ·have hw:wr ml (LL (listed.setIfInBounds i true)) t:=(hwset t).2 (.inl hd)
       simp only [mix,hw,if_true,hd]; exact hv1 t hd
      ·by_cases hw0:wr ml (LL listed) t
       ·have hw:wr ml (LL (listed.setIfInBounds i true)) t:=(hwset t).2 (.inr hw0)
        simp only [mix,hw,hw0,if_true,hd,if_false]
       ·have hw:¬ wr ml (LL (listed.setIfInBounds i true)) t:=fun h => by rcases (hwset t).1 h with h | h; exact hd h; exact hw0 h
        simp only [mix,hw,hw0,if_false,hd]
     rw [heq]; exact hr'
   rcases hv2 with ⟨hg,hv⟩ | ⟨hg,rfl⟩
   ·refine machine true (fun s' => s' = St.put { s with tm:=mix ml (LL listed) s.tm tm0 } ml[i].d v) hg (fun _ => ?_) (fun h => by cases h) (fun C' s' a' w' hr' he => by subst he; exact hfin C' a' w' hr')
    unfold pstep;split
    ·rename_i e; simp only at e; rw [e] at hq; cases hq
    ·rename_i e; simp only at e; rw [e] at hq; cases hq
    ·rename_i e; simp only at e; rw [e] at hq; cases hq
    ·exact .inl ⟨v,hv,rfl⟩
   ·exact machine false (fun s' => s' = St.put { s with tm:=mix ml (LL listed) s.tm tm0 } ml[i].d (.tup [])) hg (fun h => by cases h) (fun _ => rfl) (fun C' s' a' w' hr' he => by subst he; exact hfin C' a' w' hr')
end
end
section
def isLoudAt (ml:List MOpr) (i:Nat):Bool :=
 match ml[i]? with
 | some m => m.o.loud
 | none => false
def pickNext (ml:List MOpr) (es:List (List Nat)) (done:List Nat):Option Nat :=
 let rs:=(range ml.length).filter fun i => !done.contains i && (es.getD i []).all done.contains
 match rs.find? fun i => !isLoudAt ml i with
 | some i => some i
 | none => rs.head?
def canonOrd (ml:List MOpr) (es:List (List Nat)):Nat -> List Nat -> List Nat
 | 0,done => done
 | k + 1,done =>
  match pickNext ml es done with
  | some i => canonOrd ml es k (done ++ [i])
  | none => done
def ordOk (ml:List MOpr) (bs:List (List Nat)):List Nat -> List Nat -> Bool
 | _,[] => true
 | pre,i :: r => (befOf bs i).all pre.contains && (isLoudAt ml i || pre.all fun j => !isLoudAt ml j || (befOf bs i).contains j) && ordOk ml bs (pre ++ [i]) r
def X.beq:X -> X -> Bool
 | .t a,.t b => a == b
 | _,_ => false
def besideOk (ml:List MOpr) (bs:List (List Nat)) (i:Nat) (a b:MOpr):Bool :=
 match adrL a.o with
 | some (.t t) => (b.c.any fun y => X.beq y (.t t)) && (range ml.length).all fun k => match ml[k]? with
  | some mk => !(mk.d == some t) || (befOf bs i).contains k
  | none => true
 | _ => false
def pairOk (ml:List MOpr) (bs:List (List Nat)) (i j:Nat):Bool :=
 match ml[i]?,ml[j]? with
 | some a,some b =>
  let o:=(befOf bs j).contains i || (befOf bs i).contains j
  (match a.d with
   | some t => (decide (i = j) || !(b.d == some t)) && (!b.tmps.contains t || o)
   | none => true) &&
  (decide (i = j) || !(a.o.loud && b.o.loud) || o) && (!(a.o.isLoad && b.wr) || o || besideOk ml bs i a b)
 | _,_ => true
def canonOk (ml:List MOpr) (es bs:List (List Nat)) (ord:List Nat):Bool :=
 decide (es.length = ml.length) && decide (bs.length = ml.length) && decide ord.Nodup && ord.all (fun i => decide (i < ml.length)) && (range ml.length).all ord.contains &&
 (range ml.length).all (fun i => (es.getD i []).all fun e => decide (e < i)) &&
 (range ml.length).all (fun i => (befOf bs i).all fun j => (es.getD i []).contains j || (es.getD i []).any fun e => (befOf bs e).contains j) &&
 (range ml.length).all (fun i => (range ml.length).all fun j => pairOk ml bs i j) && ordOk ml bs [] ord
theorem zcH {ml:List MOpr} {bs:List (List Nat)}:∀ {ord pre0:List Nat},ordOk ml bs pre0 ord = true -> ∀ pre i post,ord = pre ++ i :: post -> (∀ j ∈ befOf bs i,j ∈ pre0 ++ pre) /\ (isLoudAt ml i = false -> ∀ j ∈ pre0 ++ pre,isLoudAt ml j = true -> j ∈ befOf bs i)
 | [],pre0,_,pre,i,post,h => by simp at h
 | x :: ord,pre0,hk,pre,i,post,h => by
  simp only [ordOk,Bool.and_eq_true,Bool.or_eq_true,all_eq_true,Bool.not_eq_true',contains_iff_mem] at hk;obtain ⟨⟨h1,h2⟩,h3⟩:=hk
  cases pre with
  | nil =>
   simp only [nil_append,cons.injEq] at h;obtain ⟨rfl,rfl⟩:=h;simp only [append_nil];refine ⟨h1,fun hq j hj hl => ?_⟩
   rcases h2 with h2 | h2
   ·rw [hq] at h2; cases h2
   ·rcases h2 j hj with h | h
    ·rw [hl] at h; cases h
    ·exact h
  | cons y pre =>
   simp only [cons_append,cons.injEq] at h;obtain ⟨rfl,h⟩:=h
   have:=zcH h3 pre i post h
   simpa only [append_assoc,singleton_append] using this
theorem zgh {ml:List MOpr} {es bs:List (List Nat)} {ord:List Nat} (h:canonOk ml es bs ord = true):Canon ml es bs ord:=by
 simp only [canonOk,Bool.and_eq_true,decide_eq_true_eq,all_eq_true,mem_range,contains_iff_mem] at h;obtain ⟨⟨⟨⟨⟨⟨⟨⟨h1,h2⟩,h3⟩,h4⟩,h5⟩,h6⟩,h7⟩,h8⟩,h9⟩:=h
 have hlt:∀ {i:Nat} {m:MOpr},ml[i]? = some m -> i < ml.length:=fun {i m} hi => by
  rcases Nat.lt_or_ge i ml.length with h | h
  ·exact h
  ·simp [getElem?_eq_none h] at hi
 have hpair:∀ {i j:Nat} {a b:MOpr},ml[i]? = some a -> ml[j]? = some b -> (∀ t,a.d = some t -> (i = j \/ ¬ b.d = some t) /\ (t ∈ b.tmps -> i ∈ befOf bs j \/ j ∈ befOf bs i)) /\ (a.o.loud = true -> b.o.loud = true -> i ≠ j -> i ∈ befOf bs j \/ j ∈ befOf bs i) /\ (a.o.isLoad = true -> b.wr = true -> (i ∈ befOf bs j \/ j ∈ befOf bs i) \/ besideOk ml bs i a b = true):=by
  intro i j a b hi hj
  have:=h8 i (hlt hi) j (hlt hj)
  simp only [pairOk,hi,hj,Bool.and_eq_true,Bool.or_eq_true,decide_eq_true_eq,Bool.not_eq_true',contains_iff_mem] at this;obtain ⟨⟨p1,p2⟩,p3⟩:=this;refine ⟨fun t ht => ?_,fun hl hl2 hne => ?_,fun hl hs => ?_⟩
  ·rw [ht] at p1
   simp only [Bool.and_eq_true,Bool.or_eq_true,decide_eq_true_eq,Bool.not_eq_true',beq_eq_false_iff_ne,ne_eq,contains_iff_mem] at p1;refine ⟨p1.1,fun hm => p1.2.resolve_left fun hh => ?_⟩
   have:b.tmps.contains t = true:=contains_iff_mem.2 hm
   rw [hh] at this; cases this
  ·rcases p2 with (p2 | p2) | p2
   ·exact absurd p2 hne
   ·rw [hl,hl2] at p2; cases p2
   ·exact p2
  ·rcases p3 with (p3 | p3) | p3
   ·rw [hl,hs] at p3; cases p3
   ·exact .inl p3
   ·exact .inr p3
 refine ⟨h1,h2,h3,fun i => ⟨fun hi => h4 i hi,fun hi => h5 i hi⟩,fun i e hi he => h6 i hi e he,fun i j hi hj => ?_,fun i j a b t hi hj ha hb => ?_,fun i j a b t hi hj ha ht => ((hpair hi hj).1 t ha).2 ht,fun pre i post ho j hj => ?_,fun i j a b hi hj ha hb hne => (hpair hi hj).2.1 ha hb hne,
  fun pre i post a ho hi hq j b hj hb hl => ?_,fun i j a b hi hj ha hb => ((hpair hi hj).2.2 ha hb).imp id fun hb => ?_,fun i hi hm => ?_⟩
 ·have:=h7 i hi j hj
  simp only [Bool.or_eq_true,contains_iff_mem,any_eq_true] at this;exact this
 ·exact ((hpair hi hj).1 t ha).1.resolve_right fun h => h hb
 ·have:=(zcH h9 pre i post ho).1 j hj; simpa using this
 ·have:=(zcH h9 pre i post ho).2 (by simp [isLoudAt,hi,hq]) j (by simpa using hj) (by simp [isLoudAt,hb,hl])
  exact this
 ·unfold besideOk at hb
  split at hb
  ·rename_i t ht
   simp only [Bool.and_eq_true,any_eq_true,all_eq_true,mem_range] at hb;obtain ⟨⟨y,hy1,hy2⟩,hall⟩:=hb
   have hyt:y = .t t:=by
    cases y <;> simp only [X.beq,Bool.false_eq_true] at hy2
    simp only [beq_iff_eq] at hy2; rw [hy2]
   subst hyt;refine ⟨.t t,ht,hy1,fun t' ht' k mk hk hd => ?_⟩;simp only [X.tmps,mem_singleton] at ht'; subst ht'
   have:=hall k (hlt hk)
   simp only [hk,hd,beq_self_eq_true,Bool.not_true,Bool.false_or,contains_iff_mem] at this;exact this
  ·cases hb
 ·-- nothing comes before itself
  have hio:i ∈ ord:=h5 i hi;obtain ⟨p1,p2,hp⟩:=append_of_mem hio
  have:=(zcH h9 p1 i p2 hp).1 i hm
  rw [hp] at h3;exact (nodup_append.1 h3).2.2 i (by simpa using this) i (by simp) rfl
end
section
def trOprs (P:Program) (n:Nat) (ops:Array Oper):List Oper -> Option (List MOpr)
 | [] => some []
 | o :: r =>
  match trOpr P n ops o,trOprs P n ops r with
  | some m,some l => some (m :: l)
  | _,_ => none
def onlySrc (ml:List MOpr) (t:Nat):Bool:=ml.all fun m => match m.o with
 | .app _ s _x => !s.tmps.contains t && (match m.g with | some (u,_) => !(u == t) | none => true) || !m.tmps.contains t
 | _ => !m.tmps.contains t
def toQuiet (ml:List MOpr) (m:MOpr):MOpr :=
 match m.o,m.d with
 | .lit n xs,some d => if onlySrc ml d then { m with o:=.litq n xs } else m
 | _,_ => m
def beside (ml:List MOpr) (bs:List (List Nat)) (j:Nat) (m:MOpr):MOpr :=
 if m.o.isStore then
  { m with c:=(range ml.length).filterMap fun i => match ml[i]? with | some a => if a.o.isLoad && !((befOf bs j).contains i || (befOf bs i).contains j) then adrL a.o else none | none => none }
 else if m.o.isCall then
  { m with c:=.f 0 :: (range ml.length).filterMap fun i => match ml[i]? with | some a => if a.o.isLoad && !((befOf bs j).contains i || (befOf bs i).contains j) then adrL a.o else none | none => none }
 else if m.o.isApp && (range ml.length).all (fun i => match ml[i]? with
   | some a => !a.o.isLoad || (befOf bs j).contains i || (befOf bs i).contains j
   | none => true) then { m with c:=[.f 0] }
 else m
def markCall (m:MOpr):MOpr:=if m.o.isCall || m.o.isApp then { m with c:=[.f 1] } else m
def besides (ml:List MOpr) (bs:List (List Nat)):Nat -> List MOpr -> List MOpr
 | _,[] => []
 | j,m :: r => beside ml bs j m :: besides ml bs (j + 1) r
theorem zcT {P:Program} {n:Nat} {ops:Array Oper}:∀ {l:List Oper} {ml:List MOpr},trOprs P n ops l = some ml -> ml.length = l.length /\ ∀ (i:Nat) (o:Oper) (m:MOpr),l[i]? = some o -> ml[i]? = some m -> trOpr P n ops o = some m
 | [],ml,h => by simp only [trOprs,sI] at h; subst h; simp
 | o :: l,ml,h => by
  simp only [trOprs] at h
  split at h
  ·rename_i m r h1 h2
   simp only [sI] at h; subst h
   obtain ⟨k1,k2⟩:=zcT h2;refine ⟨by simp [k1],fun i o' m' ho hm => ?_⟩
   match i with
   | 0 => simp at ho hm; subst ho; subst hm; exact h1
   | i + 1 => exact k2 i o' m' (by simpa using ho) (by simpa using hm)
  ·cases h
theorem zcU {ml:List MOpr} {bs:List (List Nat)}:∀ {l:List MOpr} {j:Nat},(besides ml bs j l).length = l.length
 | [],_ => rfl
 | m :: r,j => by simp [besides,zcU (l:=r)]
theorem zcV {ml:List MOpr} {bs:List (List Nat)}:∀ {l:List MOpr} {j i:Nat} {m:MOpr},(besides ml bs j l)[i]? = some m -> ∃ m0,l[i]? = some m0 /\ m.d = m0.d /\ m.o = m0.o /\ m.g = m0.g
 | [],_,i,m,h => by simp [besides] at h
 | x :: r,j,i,m,h => by
  simp only [besides] at h
  match i with
  | 0 =>
   simp only [getElem?_cons_zero,sI] at h; subst h
   refine ⟨x,rfl,?_⟩;unfold beside; split
   ·exact ⟨rfl,rfl,rfl⟩
   ·split
    ·exact ⟨rfl,rfl,rfl⟩
    ·split <;> exact ⟨rfl,rfl,rfl⟩
  | i + 1 =>
   simp only [getElem?_cons_succ] at h ⊢;exact zcV h
theorem ze1 {P:Program} {n:Nat} {ops:Array Oper} {o:Oper} {ml:List MOpr} {m:MOpr} (h:TrO P n ops o m) (hq:∀ k xs,m.o = .lit k xs -> trOp P o.op = some (.lit k xs)):TrO P n ops o (toQuiet ml m):=by
 unfold toQuiet;split
 ·rename_i k xs d h1 h2
  split
  ·obtain ⟨a1,a2,a3,a4,a5⟩:=h
   exact ⟨.inr ⟨k,xs,hq k xs h1,rfl⟩,a2,a3,rfl,a5⟩
  ·exact h
 ·exact h
end
section
inductive RT where
 | leaf
 | node (qs:List MOpr) (alts:RT)
 | alt (m:MOpr) (t next:RT)
def RT.isLeaf:RT -> Bool
 | .leaf => true
 | _ => false
def pt (E:Env) (K:St -> Prop):RT -> St -> Prop
 | .leaf,_ => True
 | .node qs a,s => po E qs (fun s => (a.isLeaf = true -> K s) /\ pt E K a s) s
 | .alt m t n,s => po E [m] (pt E K t) s /\ pt E K n s
def asapQ (ml:List MOpr) (bs:List (List Nat)):Nat -> List Nat -> List Nat
 | 0,_ => []
 | f + 1,pre =>
  match (range ml.length).find? (fun i => !isLoudAt ml i && !pre.contains i && (befOf bs i).all pre.contains) with
  | some i => i :: asapQ ml bs f (pre ++ [i])
  | none => []
def qsOk (ml:List MOpr) (bs:List (List Nat)):List Nat -> List Nat -> Bool
 | _,[] => true
 | pre,i :: r => decide (i < ml.length) && !isLoudAt ml i && !pre.contains i && (befOf bs i).all pre.contains && qsOk ml bs (pre ++ [i]) r
def closOk (ml:List MOpr) (bs:List (List Nat)) (pre:List Nat):Bool:=(range ml.length).all fun i => isLoudAt ml i || !(befOf bs i).all pre.contains || pre.contains i
def nextOf (ml:List MOpr) (bs:List (List Nat)) (pre:List Nat):List Nat:=(range ml.length).filter fun i => isLoudAt ml i && !pre.contains i && (befOf bs i).all pre.contains
def altsOf (ml:List MOpr) (rec:Nat -> Option RT):List Nat -> Option RT
 | [] => some .leaf
 | i :: r =>
  match ml[i]?,rec i,altsOf ml rec r with
  | some m,some t,some n => some (.alt m t n)
  | _,_,_ => none
def buildT (ml:List MOpr) (bs:List (List Nat)):Nat -> List Nat -> Option RT
 | 0,_ => none
 | f + 1,pre =>
  let qs:=asapQ ml bs ml.length pre
  if qsOk ml bs pre qs && closOk ml bs (pre ++ qs) then
   (altsOf ml (fun i => buildT ml bs f (pre ++ qs ++ [i])) (nextOf ml bs (pre ++ qs))).map (.node (qs.filterMap (ml[·]?)))
  else none
theorem ze2 {E:Env} {f:Nat} {xs:List PV} {d:Option Nat} {K K':St -> Prop} {s:St} (h:pcall E f xs d K s) (hk:∀ s,K s -> K' s):pcall E f xs d K' s:=by
 obtain ⟨args,R,h1,h2,h3⟩:=h;refine ⟨args,R,h1,h2,h3.imp (fun h x lv hR => ?_) fun h x lv k hR a b => ?_⟩
 ·obtain ⟨y,e1,e2⟩:=h x lv hR; exact ⟨y,e1,hk _ e2⟩
 ·obtain ⟨y,e1,e2,e3⟩:=h x lv k hR a b; exact ⟨y,e1,e2,hk _ e3⟩
theorem zem {E:Env} {f:Nat} {xs:List PV} {d:Option Nat} {c:List X} {K K':St -> Prop} {s:St} (h:pcallG E f xs d c K s) (hk:∀ s,K s -> K' s):pcallG E f xs d c K' s:=by
 obtain ⟨R,h1,h2⟩:=h;exact ⟨R,h1,fun x b n l hR => ⟨(h2 x b n l hR).1,hk _ (h2 x b n l hR).2⟩⟩
theorem pstep_mono {E:Env} {o:MOpr} {K K':St -> Prop} {s:St} (h:pstep E o K s) (hk:∀ s,K s -> K' s):pstep E o K' s:=by
 obtain ⟨d,m,g,c⟩:=o
 cases m <;> simp only [pstep] at h ⊢ <;>
  first
   | (exact h.imp (fun h => ze2 h hk) fun h => ⟨h.1,zem h.2 hk⟩)
   | (obtain ⟨f,cap,h1,h2,h3⟩:=h; exact ⟨f,cap,h1,h2,h3.imp (fun h => ze2 h hk) fun h => ⟨h.1,zem h.2 hk⟩⟩)
   | (
     rcases h with ⟨v,s',h1,h2⟩ | ⟨h1,p,len,cap,z,tk2,ds,a1,a2,a3,a4,a5,a6⟩
     ·exact .inl ⟨v,s',h1,hk _ h2⟩
     ·exact .inr ⟨h1,p,len,cap,z,tk2,ds,a1,a2,a3,a4,a5,fun p' c' b' hA => ⟨(a6 p' c' b' hA).1,hk _ (a6 p' c' b' hA).2⟩⟩)
   | (
     rcases h with ⟨v,h1,h2⟩ | ⟨v,s',h1,h2,h3⟩
     ·exact .inl ⟨v,h1,hk _ h2⟩
     ·exact .inr ⟨v,s',h1,h2,hk _ h3⟩)
theorem zfo {E:Env}:∀ {l:List MOpr} {K K':St -> Prop} {s:St},po E l K s -> (∀ s,K s -> K' s) -> po E l K' s
 | [],_,_,_,h,hk => hk _ h
 | o :: r,K,K',s,h,hk => by
  obtain ⟨g,hg,h⟩:=h;exact ⟨g,hg,h.imp (fun h => ⟨h.1,pstep_mono h.2 fun s h => zfo h hk⟩) fun h => ⟨h.1,zfo h.2 hk⟩⟩
theorem loudAt {ml:List MOpr} {i:Nat} {m:MOpr} (h:ml[i]? = some m):isLoudAt ml i = m.o.loud:=by unfold isLoudAt; rw [h]
theorem zcy {ml:List MOpr} {i:Nat} {m:MOpr} (h:ml[i]? = some m):i < ml.length:=by
 rcases Nat.lt_or_ge i ml.length with h' | h'
 ·exact h'
 ·simp [getElem?_eq_none h'] at h
theorem rdy_of {bs:List (List Nat)} {pre:List Nat} {i:Nat}:(befOf bs i).all pre.contains = true ↔ Rdy bs pre i:=by
 simp only [all_eq_true,contains_iff_mem]; exact Iff.rfl
theorem zgi {ml:List MOpr} {bs:List (List Nat)}:∀ {qs pre:List Nat},qsOk ml bs pre qs = true -> Qs ml bs pre qs
 | [],_,_ => trivial
 | i :: r,pre,h => by
  simp only [qsOk,Bool.and_eq_true,decide_eq_true_eq,Bool.not_eq_true'] at h;obtain ⟨⟨⟨⟨h1,h2⟩,h3⟩,h4⟩,h5⟩:=h;have hm:ml[i]? = some ml[i]:=getElem?_eq_getElem h1;refine ⟨⟨ml[i],hm,by rw [<- loudAt hm]; exact h2⟩,fun hi => ?_,rdy_of.1 h4,zgi h5⟩;rw [<- contains_iff_mem] at hi; rw [hi] at h3; cases h3
theorem zhm {ml:List MOpr} {bs:List (List Nat)} {pre:List Nat} (h:closOk ml bs pre = true):Clos ml bs pre:=by
 intro i m hm hq hr;unfold closOk at h;rw [all_eq_true] at h
 have:=h i (mem_range.2 (zcy hm))
 rw [loudAt hm,hq,rdy_of.2 hr] at this;simpa using this
theorem ze3 {E:Env} {ml:List MOpr} {K:St -> Prop} {rec:Nat -> Option RT}:∀ {l:List Nat} {t:RT} {s:St},altsOf ml rec l = some t -> pt E K t s -> ∀ i ∈ l,∃ m u,ml[i]? = some m /\ rec i = some u /\ po E [m] (pt E K u) s
 | [],_,_,_,_,i,hi => by cases hi
 | x :: r,t,s,h,hp,i,hi => by
  simp only [altsOf] at h
  split at h
  ·rename_i m u n h1 h2 h3
   simp only [sI] at h; subst h
   rcases mem_cons.1 hi with rfl | hi
   ·exact ⟨m,u,h1,h2,hp.1⟩
   ·exact ze3 h3 hp.2 i hi
  ·cases h
theorem zhn {ml:List MOpr} {rec:Nat -> Option RT} {l:List Nat} {t:RT} (h:altsOf ml rec l = some t) (hl:l = []):t.isLeaf = true:=by
 subst hl; simp only [altsOf,sI] at h; subst h; rfl
theorem zgj {E:Env} {ml:List MOpr} {bs:List (List Nat)} {K:St -> Prop}:∀ {f:Nat} {pre:List Nat} {t:RT} {s:St},buildT ml bs f pre = some t -> pt E K t s -> runT E ml bs K f pre s
 | 0,_,_,_,h,_ => by simp [buildT] at h
 | f + 1,pre,t,s,h,hp => by
  simp only [buildT] at h
  split at h
  ·rename_i hok
   rw [Bool.and_eq_true] at hok;obtain ⟨a,ha,rfl⟩:=Option.map_eq_some_iff.1 h;refine ⟨_,zgi hok.1,zhm hok.2,zfo hp fun s hk => ⟨fun hall => ?_,fun i m hm hl hi hr => ?_⟩⟩
   ·refine hk.1 (zhn ha ?_)
    rw [nextOf,filter_eq_nil_iff];intro i hi
    have:=hall i (mem_range.1 hi)
    rw [<- contains_iff_mem] at this;show ¬ ((isLoudAt ml i && !(pre ++ asapQ ml bs ml.length pre).contains i && (befOf bs i).all (pre ++ asapQ ml bs ml.length pre).contains) = true);rw [this]; simp
   ·have hin:i ∈ nextOf ml bs (pre ++ asapQ ml bs ml.length pre):=by
     rw [nextOf,mem_filter];refine ⟨mem_range.2 (zcy hm),?_⟩;rw [loudAt hm,hl,rdy_of.2 hr]
     have:(pre ++ asapQ ml bs ml.length pre).contains i = false:=by
      cases hc:(pre ++ asapQ ml bs ml.length pre).contains i with
      | false => rfl
      | true => exact absurd (contains_iff_mem.1 hc) hi
     rw [this]; rfl
    obtain ⟨m',u,e1,e2,e3⟩:=ze3 ha hk.2 i hin;rw [hm] at e1; simp only [sI] at e1; subst e1
    exact zfo e3 fun s h => zgj e2 h
  ·cases h
def pairOkT (ml:List MOpr) (bs:List (List Nat)) (i j:Nat):Bool :=
 match ml[i]?,ml[j]? with
 | some a,some b =>
  let o:=(befOf bs j).contains i || (befOf bs i).contains j
  (match a.d with
   | some t => (decide (i = j) || !(b.d == some t)) && (!b.tmps.contains t || o)
   | none => true) && (!(a.o.isLoad && b.wr) || o || besideOk ml bs i a b)
 | _,_ => true
def canonOkT (ml:List MOpr) (es bs:List (List Nat)):Bool :=
 decide (es.length = ml.length) && decide (bs.length = ml.length) &&
 (range ml.length).all (fun i => (es.getD i []).all fun e => decide (e < i)) &&
 (range ml.length).all (fun i => (befOf bs i).all fun j => (es.getD i []).contains j || (es.getD i []).any fun e => (befOf bs e).contains j) &&
 (range ml.length).all (fun i => (range ml.length).all fun j => pairOkT ml bs i j) && (range ml.length).all fun i => !(befOf bs i).contains i
theorem zfp {ml:List MOpr} {es bs:List (List Nat)} (h:canonOkT ml es bs = true):CanonT ml es bs:=by
 simp only [canonOkT,Bool.and_eq_true,decide_eq_true_eq,all_eq_true,mem_range] at h;obtain ⟨⟨⟨⟨⟨h1,h2⟩,h6⟩,h7⟩,h8⟩,h9⟩:=h
 have hpair:∀ {i j:Nat} {a b:MOpr},ml[i]? = some a -> ml[j]? = some b -> (∀ t,a.d = some t -> (i = j \/ ¬ b.d = some t) /\ (t ∈ b.tmps -> i ∈ befOf bs j \/ j ∈ befOf bs i)) /\ (a.o.isLoad = true -> b.wr = true -> (i ∈ befOf bs j \/ j ∈ befOf bs i) \/ besideOk ml bs i a b = true):=by
  intro i j a b hi hj
  have:=h8 i (zcy hi) j (zcy hj)
  simp only [pairOkT,hi,hj,Bool.and_eq_true,Bool.or_eq_true,Bool.not_eq_true',contains_iff_mem] at this;obtain ⟨p1,p3⟩:=this;refine ⟨fun t ht => ?_,fun hl hs => ?_⟩
  ·rw [ht] at p1
   simp only [Bool.and_eq_true,Bool.or_eq_true,decide_eq_true_eq,Bool.not_eq_true',beq_eq_false_iff_ne,ne_eq,contains_iff_mem] at p1;refine ⟨p1.1,fun hm => p1.2.resolve_left fun hh => ?_⟩
   have:b.tmps.contains t = true:=contains_iff_mem.2 hm
   rw [hh] at this; cases this
  ·rcases p3 with (p3 | p3) | p3
   ·rw [hl,hs] at p3; cases p3
   ·exact .inl p3
   ·exact .inr p3
 refine ⟨h1,h2,fun i e hi he => h6 i hi e he,fun i j hi hj => ?_,fun i j a b t hi hj ha hb => ?_,fun i j a b t hi hj ha ht => ((hpair hi hj).1 t ha).2 ht,fun i j a b hi hj ha hb => ((hpair hi hj).2 ha hb).imp id fun hb => ?_,fun i hi hm => ?_⟩
 ·have:=h7 i hi j hj
  simp only [Bool.or_eq_true,contains_iff_mem,any_eq_true] at this;exact this
 ·exact ((hpair hi hj).1 t ha).1.resolve_right fun h => h hb
 ·unfold besideOk at hb
  split at hb
  ·rename_i t ht
   simp only [Bool.and_eq_true,any_eq_true,all_eq_true,mem_range] at hb;obtain ⟨⟨y,hy1,hy2⟩,hall⟩:=hb
   have hyt:y = .t t:=by
    cases y <;> simp only [X.beq,Bool.false_eq_true] at hy2
    simp only [beq_iff_eq] at hy2; rw [hy2]
   subst hyt;refine ⟨.t t,ht,hy1,fun t' ht' k mk hk hd => ?_⟩;simp only [X.tmps,mem_singleton] at ht'; subst ht'
   have:=hall k (zcy hk)
   simp only [hk,hd,beq_self_eq_true,Bool.not_true,Bool.false_or,contains_iff_mem] at this;exact this
  ·cases hb
 ·have:=h9 i hi
  rw [contains_iff_mem.2 hm] at this; cases this
end
section
def trT (P:Program) (n:Nat) (ops:Array Oper):Option RT :=
 match trOprs P n ops ops.toList with
 | some ml =>
  let es:=ops.toList.map edgesOf
  let bs:=befs es
  let ml:=besides (ml.map (toQuiet ml)) bs 0 (ml.map (toQuiet ml))
  if canonOkT ml es bs then buildT ml bs (ml.length + 1) [] else none
 | none => none
theorem zho {E:Env} {B:Base} {C:Cx} {s:St} {a:Act} {w:World} {id:Nat} {ops:Array Oper} {t:RT} {K:St -> Prop} {Q:Exit -> Act -> World -> Prop} (k:trT E.P B.n ops = some t) (hr:Rep E B C s a w) (hp:pt E K t s)
  (hQ:∀ C' s' a' w',Rep E B C' s' a' w' -> K s' -> Q .normal a' w'):(Code.region id ops true).wp E.P Q a w:=by
 unfold trT at k
 split at k
 ·rename_i ml hml
  obtain ⟨m1,m2⟩:=zcT hml;have hsz:ops.size = ml.length:=by rw [m1,Array.length_toList]
  simp only at k
  split at k
  ·rename_i hcan
   have hC:=zfp hcan;have h:=zgj k hp;refine wp_region_any E.mixed ?_
   have hr2:Rep E B C s a { w with drawn:=w.drawn + 1 }:=by
    have hcell:∀ p:Addr,({ w with drawn:=w.drawn + 1 }:World).cell? p = w.cell? p:=fun _ => rfl
    have hF:Fix C w { w with drawn:=w.drawn + 1 }:=⟨fun _ _ _ => rfl,fun _ _ cs fz h => ⟨cs,fz,h⟩⟩;refine ⟨⟨hr.inv.nb,fun p cs hp => ?_,hr.inv.boxF,hr.inv.boxG,hr.inv.inj,hr.inv.tok,hr.inv.tinj,hr.inv.fin,hr.inv.ng,E.low w _ hr.inv.t lR (fun _ _ => rfl)⟩,hr.nt,hr.n2,⟨hr.ext.os,hr.ext.tape,hr.ext.output,hr.ext.size,hr.ext.F,hr.ext.fix,hr.ext.block,hr.ext.bx,hr.ext.newF,hr.ext.newT,hr.ext.newB,hr.ext.tk⟩,hr.size,hr.defers,fun t => (hr.tm t).frame (CxLe.refl C) hF⟩;obtain ⟨vs,e,hh,hl⟩:=hr.inv.box p cs hp;exact ⟨vs,e,hh,hl.frame (CxLe.refl C) hF⟩
   obtain ⟨ml2,hml2⟩:∃ ml2,ml2 = besides (ml.map (toQuiet ml)) (befs (ops.toList.map edgesOf)) 0 (ml.map (toQuiet ml)):=⟨_,rfl⟩;rw [<- hml2] at hC h;have hsz:ops.size = ml2.length:=by rw [hml2,zcU,length_map]; exact hsz
   have htr:∀ (i:Nat) (o:Oper) (m:MOpr),ops[i]? = some o -> ml2[i]? = some m -> TrO E.P B.n ops o m:=fun i o m ho hm => by
    rw [hml2] at hm;obtain ⟨m0,h0,g1,g2,g3⟩:=zcV hm;rw [getElem?_map] at h0
    cases hmi:ml[i]? with
    | none => rw [hmi] at h0; cases h0
    | some m1 =>
     rw [hmi] at h0; simp only [Option.map_some,sI] at h0; subst h0
     have t0:=m2 i o m1 (by simpa using ho) hmi;have t1:=zdz t0
     have t2:TrO E.P B.n ops o (toQuiet ml m1):=ze1 t1 fun k xs hk => by
      have:=t1.1
      rw [hk] at this
      rcases this with h | ⟨_,_,_,h⟩
      ·exact h
      ·cases h
     unfold TrO at t2 ⊢;rw [g1,g2,g3]; exact t2
   have hes:∀ (i:Nat) (o:Oper),ops[i]? = some o -> (ops.toList.map edgesOf).getD i [] = edgesOf o:=fun i o ho => by
    rw [getD_eq_getElem?_getD,getElem?_map,Array.getElem?_toList,ho]; rfl
   have hnoL:∀ i,¬ LL (Array.replicate ops.size false) i:=by
    intro i hi;unfold LL at hi
    rcases Nat.lt_or_ge i ops.size with h | h
    ·simp [h] at hi
    ·simp [Array.getD_eq_getD_getElem?,Array.getElem?_eq_none (show (Array.replicate ops.size false).size <= i by simpa using h)] at hi
   obtain ⟨qs,hQs,hClos,hpo⟩:=h;obtain ⟨s',G1,G2,G3,G4,G5,G6,e1,e2,e3,_⟩:=quietsT (E:=E) (tm0:=s.tm) hC (L:=LL (Array.replicate ops.size false)) qs [] s hQs (fun i hi => by cases hi) hpo (fun i hi => absurd hi (hnoL i)) (fun i _ hi => absurd hi (hnoL i)) (fun i hi => absurd hi (hnoL i)) (fun i m _ _ hi => by cases hi) (fun _ _ => rfl) (fun j hj => by cases hj);have hS:SimT E ml2 (ops.toList.map edgesOf) (befs (ops.toList.map edgesOf)) K s.tm (LL (Array.replicate ops.size false)) ([] ++ qs) s':=⟨⟨_,G1.1,G1.2⟩,hClos,G2,fun i hi => absurd hi (hnoL i),fun i _ hi => absurd hi (hnoL i),G3,G4,G5,G6⟩;refine sim_anyT (B:=B) hC hsz htr hes (Q:=Q) (K:=K) (tm0:=s.tm) hQ ops.size (Array.replicate ops.size false) C s' a _ _ hS (by simp) ?_ ?_
   ·have hmix:mix ml2 (LL (Array.replicate ops.size false)) s'.tm s.tm = s.tm:=by
     funext t
     have:¬ wr ml2 (LL (Array.replicate ops.size false)) t:=fun ⟨i,_,_,_,hi⟩ => hnoL i hi
     simp [mix,this]
    have:({ s' with tm:=mix ml2 (LL (Array.replicate ops.size false)) s'.tm s.tm }:St) = s:=by
     rw [hmix];obtain ⟨tm',bx',nt',live'⟩:=s';obtain ⟨tm,bx,nt,live⟩:=s;simp only at e1 e2 e3
     subst e1; subst e2; subst e3; rfl
    rw [this]; exact hr2
   ·refine Nat.le_trans (length_filter_le _ _) ?_
    rw [length_range,hsz]; exact lR
  ·cases k
 ·cases k
end
section
inductive M where
 | skip
 | ops (l:List MOpr)
 | tree (t:RT)
 | seq (a b:M)
 | cond (x:X) (a b:M)
 | block (id:Nat) (a:M)
 | loop (a:M)
 | exit (id:Nat)
 | ret
def trR (P:Program) (n:Nat) (ops:Array Oper) (draw:Bool):Option (List MOpr) :=
 match trOprs P n ops ops.toList with
 | some ml =>
  if draw then
   let es:=ops.toList.map edgesOf
   let bs:=befs es
   let ml:=besides (ml.map (toQuiet ml)) bs 0 (ml.map (toQuiet ml))
   let ord:=canonOrd ml es ml.length []
   if canonOk ml es bs ord then some (ord.filterMap (ml[·]?)) else none
  else some (ml.map markCall)
 | none => none
def tr (P:Program) (n:Nat):Code -> Option M
 | .skip => some .skip
 | .region _ ops draw =>
  match trR P n ops draw with
  | some l => some (.ops l)
  | none => if draw then (trT P n ops).map .tree else none
 | .seq a b =>
  match tr P n a,tr P n b with
  | some a,some b => some (.seq a b)
  | _,_ => none
 | .cond x a b =>
  match trX x,tr P n a,tr P n b with
  | some x,some a,some b => some (.cond x a b)
  | _,_,_ => none
 | .block id a => (tr P n a).map (.block id)
 | .loop a => (tr P n a).map .loop
 | .exit id => some (.exit id)
 | .ret => some .ret
 | _ => none
def lift (E:Env) (B:Base) (Q:Exit -> St -> Prop):Exit -> Act -> World -> Prop:=fun e a w => ∃ C s,Rep E B C s a w /\ match e with
 | .normal => Q .normal s
 | .exit i => Q (.exit i) s
 | .ret => Q .ret s
 | _ => False
theorem lift_mono {E:Env} {B:Base} {Q Q':Exit -> St -> Prop} (h:∀ e s,Q e s -> Q' e s):∀ e a w,lift E B Q e a w -> lift E B Q' e a w:=by
 rintro e a w ⟨C,s,hr,hq⟩;exact ⟨C,s,hr,by cases e <;> first | exact h _ _ hq | exact hq⟩
def mw (E:Env) (B:Base) (m:M) (Q:Exit -> St -> Prop) (s:St):Prop:=∀ code,tr E.P B.n code = some m -> ∀ C a w,Rep E B C s a w -> code.wp E.P (lift E B Q) a w
section
variable {E:Env} {B:Base} {s:St} {Q:Exit -> St -> Prop}
theorem zdd {P:Program} {n:Nat} {c:Code} {m:M} (h:tr P n c = some m) :
  (m = .skip /\ c = .skip) \/ (∃ id ops d l,m = .ops l /\ c = .region id ops d /\ trR P n ops d = some l) \/ (∃ a b a' b',m = .seq a' b' /\ c = .seq a b /\ tr P n a = some a' /\ tr P n b = some b') \/
  (∃ x a b x' a' b',m = .cond x' a' b' /\ c = .cond x a b /\ trX x = some x' /\ tr P n a = some a' /\ tr P n b = some b') \/ (∃ id a a',m = .block id a' /\ c = .block id a /\ tr P n a = some a') \/
  (∃ a a',m = .loop a' /\ c = .loop a /\ tr P n a = some a') \/ (∃ id,m = .exit id /\ c = .exit id) \/ (m = .ret /\ c = .ret) \/ (∃ id ops t,m = .tree t /\ c = .region id ops true /\ trT P n ops = some t):=by
 cases c with
 | skip => simp only [tr,sI] at h; subst h; exact .inl ⟨rfl,rfl⟩
 | region id ops d =>
  simp only [tr] at h
  cases hr:trR P n ops d with
  | none =>
   rw [hr] at h
   cases d with
   | false => cases h
   | true =>
    cases ht:trT P n ops with
    | none => rw [ht] at h; cases h
    | some t => rw [ht] at h; simp only [if_true,Option.map_some,sI] at h; subst h; exact .inr (.inr (.inr (.inr (.inr (.inr (.inr (.inr ⟨id,ops,t,rfl,rfl,ht⟩)))))))
  | some l => rw [hr] at h; simp only [sI] at h; subst h; exact .inr (.inl ⟨id,ops,d,l,rfl,rfl,hr⟩)
 | seq a b =>
  simp only [tr] at h
  split at h
  ·rename_i a' b' h1 h2
   simp only [sI] at h; subst h; exact .inr (.inr (.inl ⟨a,b,a',b',rfl,rfl,h1,h2⟩))
  ·cases h
 | cond x a b =>
  simp only [tr] at h
  split at h
  ·rename_i x' a' b' h0 h1 h2
   simp only [sI] at h; subst h; exact .inr (.inr (.inr (.inl ⟨x,a,b,x',a',b',rfl,rfl,h0,h1,h2⟩)))
  ·cases h
 | block id a =>
  simp only [tr] at h
  cases hr:tr P n a with
  | none => rw [hr] at h; cases h
  | some l => rw [hr] at h; simp only [Option.map_some,sI] at h; subst h; exact .inr (.inr (.inr (.inr (.inl ⟨id,a,l,rfl,rfl,hr⟩))))
 | loop a =>
  simp only [tr] at h
  cases hr:tr P n a with
  | none => rw [hr] at h; cases h
  | some l => rw [hr] at h; simp only [Option.map_some,sI] at h; subst h; exact .inr (.inr (.inr (.inr (.inr (.inl ⟨a,l,rfl,rfl,hr⟩)))))
 | exit id => simp only [tr,sI] at h; subst h; exact .inr (.inr (.inr (.inr (.inr (.inr (.inl ⟨id,rfl,rfl⟩))))))
 | ret => simp only [tr,sI] at h; subst h; exact .inr (.inr (.inr (.inr (.inr (.inr (.inr (.inl ⟨rfl,rfl⟩)))))))
 | _ => simp [tr] at h
theorem mw_mono {m:M} {Q':Exit -> St -> Prop} (h:mw E B m Q s) (hq:∀ e s,Q e s -> Q' e s):mw E B m Q' s:=fun c hc C a w hr => wp_mono (h c hc C a w hr) (lift_mono hq)
theorem zai (h:Q .normal s):mw E B .skip Q s:=by
 intro c hc C a w hr;obtain ⟨_,rfl⟩ | ⟨_,_,_,_,h',_⟩ | ⟨_,_,_,_,h',_⟩ | ⟨_,_,_,_,_,_,h',_⟩ | ⟨_,_,_,h',_⟩ | ⟨_,_,h',_⟩ | ⟨_,h',_⟩ | ⟨h',_⟩ | ⟨_,_,_,h',_⟩:=zdd hc <;> first | (cases h'; done) | exact wp_skip ⟨C,s,hr,h⟩
theorem zae (h:Q .ret s):mw E B .ret Q s:=by
 intro c hc C a w hr;obtain ⟨h',_⟩ | ⟨_,_,_,_,h',_⟩ | ⟨_,_,_,_,h',_⟩ | ⟨_,_,_,_,_,_,h',_⟩ | ⟨_,_,_,h',_⟩ | ⟨_,_,h',_⟩ | ⟨_,h',_⟩ | ⟨_,rfl⟩ | ⟨_,_,_,h',_⟩:=zdd hc <;> first | (cases h'; done) | exact wp_ret ⟨C,s,hr,h⟩
theorem zat {id:Nat} (h:Q (.exit id) s):mw E B (.exit id) Q s:=by
 intro c hc C a w hr;obtain ⟨h',_⟩ | ⟨_,_,_,_,h',_⟩ | ⟨_,_,_,_,h',_⟩ | ⟨_,_,_,_,_,_,h',_⟩ | ⟨_,_,_,h',_⟩ | ⟨_,_,h',_⟩ | ⟨i,h',rfl⟩ | ⟨h',_⟩ | ⟨_,_,_,h',_⟩:=zdd hc <;> first | (cases h'; done) | (cases h'; exact wp_exit ⟨C,s,hr,h⟩)
def seqK (E:Env) (B:Base) (b:M) (Q:Exit -> St -> Prop):Exit -> St -> Prop
 | .normal,s => mw E B b Q s
 | e,s => Q e s
theorem zak {a b:M} (h:mw E B a (seqK E B b Q) s):mw E B (.seq a b) Q s:=by
 intro c hc C ac w hr;obtain ⟨h',_⟩ | ⟨_,_,_,_,h',_⟩ | ⟨x,y,_,_,h',rfl,h1,h2⟩ | ⟨_,_,_,_,_,_,h',_⟩ | ⟨_,_,_,h',_⟩ | ⟨_,_,h',_⟩ | ⟨_,h',_⟩ | ⟨h',_⟩ | ⟨_,_,_,h',_⟩:=zdd hc <;> try (cases h'; done)
 simp only [M.seq.injEq] at h'; obtain ⟨rfl,rfl⟩:=h'
 refine wp_seq (wp_mono (h x h1 C ac w hr) ?_);rintro e a' w' ⟨C',s',hr',hq⟩
 cases e with
 | normal => exact hq y h2 C' a' w' hr'
 | exit i => exact ⟨C',s',hr',hq⟩
 | ret => exact ⟨C',s',hr',hq⟩
 | _ => exact hq.elim
theorem zaU {x:X} {a b:M} {t:Bool} (hx:ev s.tm x = .d (.v (.bool t))) (h1:t = true -> mw E B a Q s) (h2:t = false -> mw E B b Q s):mw E B (.cond x a b) Q s:=by
 intro c hc C ac w hr;obtain ⟨h',_⟩ | ⟨_,_,_,_,h',_⟩ | ⟨_,_,_,_,h',_⟩ | ⟨x0,a0,b0,_,_,_,h',rfl,k0,k1,k2⟩ | ⟨_,_,_,h',_⟩ | ⟨_,_,h',_⟩ | ⟨_,h',_⟩ | ⟨h',_⟩ | ⟨_,_,_,h',_⟩:=zdd hc <;> try (cases h'; done)
 simp only [M.cond.injEq] at h'; obtain ⟨rfl,rfl,rfl⟩:=h'
 have hv:=hr.ro x0 x k0;rw [hx] at hv
 have hb:ac.eval x0 = .bool t:=by
  generalize ac.eval x0 = z at hv
  cases hv with
  | d _ _ hv => cases hv with
   | v _ _ => rfl
 exact wp_cond_split hb (fun e => h1 e a0 k1 C ac w hr) (fun e => h2 e b0 k2 C ac w hr)
def blockK (id:Nat) (Q:Exit -> St -> Prop):Exit -> St -> Prop
 | .exit i,s => if i = id then Q .normal s else Q (.exit i) s
 | e,s => Q e s
theorem zab {id:Nat} {a:M} (h:mw E B a (blockK id Q) s):mw E B (.block id a) Q s:=by
 intro c hc C ac w hr;obtain ⟨h',_⟩ | ⟨_,_,_,_,h',_⟩ | ⟨_,_,_,_,h',_⟩ | ⟨_,_,_,_,_,_,h',_⟩ | ⟨i,a0,_,h',rfl,k⟩ | ⟨_,_,h',_⟩ | ⟨_,h',_⟩ | ⟨h',_⟩ | ⟨_,_,_,h',_⟩:=zdd hc <;> try (cases h'; done)
 simp only [M.block.injEq] at h'; obtain ⟨rfl,rfl⟩:=h'
 refine wp_block (wp_mono (h a0 k C ac w hr) ?_);rintro e a' w' ⟨C',s',hr',hq⟩
 cases e with
 | normal => exact ⟨C',s',hr',hq⟩
 | exit i =>
  simp only [Exit.inBlock];simp only [blockK] at hq;by_cases hi:i = id
  ·rw [if_pos hi] at hq ⊢; exact ⟨C',s',hr',hq⟩
  ·rw [if_neg hi] at hq ⊢; exact ⟨C',s',hr',hq⟩
 | ret => exact ⟨C',s',hr',hq⟩
 | _ => exact hq.elim
def loopK (I:Nat -> St -> Prop) (n:Nat) (Q:Exit -> St -> Prop):Exit -> St -> Prop
 | .normal,s => ∃ k,k < n /\ I k s
 | e,s => Q e s
theorem mw_loop {a:M} (I:Nat -> St -> Prop) (n:Nat) (h0:I n s) (h:∀ n s,I n s -> mw E B a (loopK I n Q) s):mw E B (.loop a) Q s:=by
 intro c hc C ac w hr;obtain ⟨h',_⟩ | ⟨_,_,_,_,h',_⟩ | ⟨_,_,_,_,h',_⟩ | ⟨_,_,_,_,_,_,h',_⟩ | ⟨_,_,_,h',_⟩ | ⟨a0,_,h',rfl,k⟩ | ⟨_,h',_⟩ | ⟨h',_⟩ | ⟨_,_,_,h',_⟩:=zdd hc <;> try (cases h'; done)
 simp only [M.loop.injEq] at h'; obtain rfl:=h'
 refine wp_loop_ghost (fun n a w => ∃ C s,Rep E B C s a w /\ I n s) n ⟨C,s,hr,h0⟩ ?_;rintro n a1 w1 ⟨C1,s1,hr1,hi⟩;refine wp_mono (h n s1 hi a0 k C1 a1 w1 hr1) ?_;rintro e a' w' ⟨C',s',hr',hq⟩
 cases e with
 | normal => obtain ⟨k,hk,hi'⟩:=hq; exact ⟨k,hk,C',s',hr',hi'⟩
 | exit i => exact ⟨C',s',hr',hq⟩
 | ret => exact ⟨C',s',hr',hq⟩
 | _ => exact hq.elim
theorem zaf {l:List MOpr} (h:po E l (Q .normal) s):mw E B (.ops l) Q s:=by
 intro c hc C ac w hr;obtain ⟨h',_⟩ | ⟨id,ops,d,_,h',rfl,k⟩ | ⟨_,_,_,_,h',_⟩ | ⟨_,_,_,_,_,_,h',_⟩ | ⟨_,_,_,h',_⟩ | ⟨_,_,h',_⟩ | ⟨_,h',_⟩ | ⟨h',_⟩ | ⟨_,_,_,h',_⟩:=zdd hc <;> try (cases h'; done)
 simp only [M.ops.injEq] at h'; obtain rfl:=h'
 unfold trR at k
 split at k
 ·rename_i ml hml
  obtain ⟨m1,m2⟩:=zcT hml;have hsz:ops.size = ml.length:=by rw [m1,Array.length_toList]
  cases d with
  | false =>
   simp only [Bool.false_eq_true,if_false,sI] at k; subst k
   refine wp_region ?_;refine po_sound (B:=B) (range ops.size) (ml.map markCall) (by simp [hsz]) (fun k i mo h1 h2 => ?_) hr h (fun C' s' a' w' hr' hk => ⟨C',s',hr',hk⟩);rw [getElem?_map] at h2;obtain ⟨mo0,h3,rfl⟩:=Option.map_eq_some_iff.1 h2
   have htr0:∀ (o:Oper) (m:MOpr),TrO E.P B.n ops o m -> TrO E.P B.n ops o (markCall m):=by
    intro o m ht;unfold markCall; split <;> exact ht
   have hk:k < ops.size:=by
    rcases Nat.lt_or_ge k ops.size with h | h
    ·exact h
    ·rw [getElem?_eq_none (by simpa using h)] at h1; cases h1
   rw [getElem?_range hk] at h1; simp only [sI] at h1; subst h1
   exact ⟨ops[k],Array.getElem?_eq_getElem hk,htr0 _ _ (zdz (m2 k ops[k] mo0 (by simp [hk]) h3))⟩
  | true =>
   simp only [if_true] at k
   split at k
   ·rename_i hcan
    simp only [sI] at k; subst k
    have hC:=zgh hcan;refine wp_region_any E.mixed ?_
    have hr2:Rep E B C s ac { w with drawn:=w.drawn + 1 }:=by
     have hcell:∀ p:Addr,({ w with drawn:=w.drawn + 1 }:World).cell? p = w.cell? p:=fun _ => rfl
     have hF:Fix C w { w with drawn:=w.drawn + 1 }:=⟨fun _ _ _ => rfl,fun _ _ cs fz h => ⟨cs,fz,h⟩⟩;refine ⟨⟨hr.inv.nb,fun p cs hp => ?_,hr.inv.boxF,hr.inv.boxG,hr.inv.inj,hr.inv.tok,hr.inv.tinj,hr.inv.fin,hr.inv.ng,E.low w _ hr.inv.t lR (fun _ _ => rfl)⟩,hr.nt,hr.n2,⟨hr.ext.os,hr.ext.tape,hr.ext.output,hr.ext.size,hr.ext.F,hr.ext.fix,hr.ext.block,hr.ext.bx,hr.ext.newF,hr.ext.newT,hr.ext.newB,hr.ext.tk⟩,hr.size,hr.defers,fun t => (hr.tm t).frame (CxLe.refl C) hF⟩;obtain ⟨vs,e,hh,hl⟩:=hr.inv.box p cs hp;exact ⟨vs,e,hh,hl.frame (CxLe.refl C) hF⟩
    obtain ⟨ml2,hml2⟩:∃ ml2,ml2 = besides (ml.map (toQuiet ml)) (befs (ops.toList.map edgesOf)) 0 (ml.map (toQuiet ml)):=⟨_,rfl⟩;rw [<- hml2] at hC h;have hsz:ops.size = ml2.length:=by rw [hml2,zcU,length_map]; exact hsz
    have htr:∀ (i:Nat) (o:Oper) (m:MOpr),ops[i]? = some o -> ml2[i]? = some m -> TrO E.P B.n ops o m:=fun i o m ho hm => by
     rw [hml2] at hm;obtain ⟨m0,h0,g1,g2,g3⟩:=zcV hm;rw [getElem?_map] at h0
     cases hmi:ml[i]? with
     | none => rw [hmi] at h0; cases h0
     | some m1 =>
      rw [hmi] at h0; simp only [Option.map_some,sI] at h0; subst h0
      have t0:=m2 i o m1 (by simpa using ho) hmi;have t1:=zdz t0
      have t2:TrO E.P B.n ops o (toQuiet ml m1):=ze1 t1 fun k xs hk => by
       have:=t1.1
       rw [hk] at this
       rcases this with h | ⟨_,_,_,h⟩
       ·exact h
       ·cases h
      unfold TrO at t2 ⊢;rw [g1,g2,g3]; exact t2
    have hes:∀ (i:Nat) (o:Oper),ops[i]? = some o -> (ops.toList.map edgesOf).getD i [] = edgesOf o:=fun i o ho => by
     rw [getD_eq_getElem?_getD,getElem?_map,Array.getElem?_toList,ho]; rfl
    have hnoL:∀ i,¬ LL (Array.replicate ops.size false) i:=by
     intro i hi;unfold LL at hi
     rcases Nat.lt_or_ge i ops.size with h | h
     ·simp [h] at hi
     ·simp [Array.getD_eq_getD_getElem?,Array.getElem?_eq_none (show (Array.replicate ops.size false).size <= i by simpa using h)] at hi
    obtain ⟨pre',rest',s',hS,e1,e2,e3,_⟩:=quiets (E:=E) (B:=B) (K:=Q .normal) (tm0:=s.tm) hC (L:=LL (Array.replicate ops.size false)) _ [] s rfl h (fun i hi => absurd hi (hnoL i)) (fun i _ hi => absurd hi (hnoL i)) (fun i hi => absurd hi (hnoL i)) (fun i m _ _ hi => by cases hi) (fun _ _ => rfl) (fun j hj => by cases hj);refine sim_any hC hsz htr hes (Q:=lift E B Q) (K:=Q .normal) (tm0:=s.tm) (fun C' s' a' w' hr' hk => ⟨C',s',hr',hk⟩) ops.size (Array.replicate ops.size false) C s' ac _ pre' rest' hS (by simp) ?_ ?_
    ·have hmix:mix ml2 (LL (Array.replicate ops.size false)) s'.tm s.tm = s.tm:=by
      funext t
      have:¬ wr ml2 (LL (Array.replicate ops.size false)) t:=fun ⟨i,_,_,_,hi⟩ => hnoL i hi
      simp [mix,this]
     have:({ s' with tm:=mix ml2 (LL (Array.replicate ops.size false)) s'.tm s.tm }:St) = s:=by
      rw [hmix];obtain ⟨tm',bx',nt',live'⟩:=s';obtain ⟨tm,bx,nt,live⟩:=s;simp only at e1 e2 e3
      subst e1; subst e2; subst e3; rfl
     rw [this]; exact hr2
    ·refine Nat.le_trans (length_filter_le _ _) ?_
     rw [length_range,hsz]; exact lR
   ·cases k
 ·cases k
theorem zbq {t:RT} (h:pt E (Q .normal) t s):mw E B (.tree t) Q s:=by
 intro c hc C ac w hr;obtain ⟨h',_⟩ | ⟨_,_,_,_,h',_⟩ | ⟨_,_,_,_,h',_⟩ | ⟨_,_,_,_,_,_,h',_⟩ | ⟨_,_,_,h',_⟩ | ⟨_,_,h',_⟩ | ⟨_,h',_⟩ | ⟨h',_⟩ | ⟨id,ops,t',h',rfl,k⟩:=zdd hc <;> try (cases h'; done)
 simp only [M.tree.injEq] at h'; obtain rfl:=h'
 exact zho k hr h (fun C' s' a' w' hr' hk => ⟨C',s',hr',hk⟩)
/-! ### Functions -/
inductive MRes where
 | tm (t:Nat)
 | cell (ag:Bool) (n t:Nat)
def trRes (P:Program):ResultVar -> Option MRes
 | .tmp t => some (.tm t)
 | .cell t ty =>
  match isRowT P ty,sizeT P ty with
  | some ag,some n => if ag || decide (n = 1) then some (.cell ag n t) else none
  | _,_ => none
def trRess (P:Program):List ResultVar -> Option (List MRes)
 | [] => some []
 | r :: l =>
  match trRes P r,trRess P l with
  | some x,some y => some (x :: y)
  | _,_ => none
def resM (s:St):MRes -> Option PV
 | .tm t => some (s.tm t)
 | .cell ag n t =>
  match s.tm t with
  | .ref p o =>
   match s.bx[p]? with
   | some cs => if o + n <= cs.length then ldv ag ((cs.drop o).take n) else none
   | none => none
  | _ => none
def ressM (s:St):List MRes -> Option (List PV)
 | [] => some []
 | r :: l =>
  match resM s r,ressM s l with
  | some x,some y => some (x :: y)
  | _,_ => none
def one:List PV -> PV
 | [v] => v
 | l => .tup l
def look (P:Program) (f:Nat):Option (Nat × M × List MRes) :=
 match P.funcs[f]? with
 | some fn =>
  match fn.body with
  | some c =>
   match tr P fn.ntmps c,trRess P fn.results.toList with
   | some m,some rs => some (fn.ntmps,m,rs)
   | _,_ => none
  | none => none
 | none => none
def initS (args:List PV):St:=⟨fun t => args.getD t (.tup []),[],2,[]⟩
def retK (rs:List MRes) (R:PV -> (Nat -> Prop) -> Prop):Exit -> St -> Prop:=fun e s => (e = .normal \/ e = .ret) /\ ∃ l,ressM s rs = some l /\ R (one l) (· ∈ s.live)
def resSem (tmps:Array Value):ResultVar -> Sem Value
 | .tmp t => Pure.pure (tmps.getD t undef)
 | .cell a t => asAddr (tmps.getD a undef) >>= fun b => loadVar t b
theorem results_eq (fn:Func) (tmps:Array Value):results fn tmps = (fn.results.mapM (resSem tmps) >>= fun vs => Pure.pure (if h:vs.size = 1 then vs[0] else Value.tuple vs)):=by
 unfold results
 congr 1
theorem ress_run {C:Cx} {a:Act} {w:World} (hr:Rep E B C s a w):∀ {rs:List ResultVar} {ms:List MRes} {l:List PV},trRess E.P rs = some ms -> ressM s ms = some l ->
  ∃ vs:List Value,(rs.mapM (resSem a.tmps)).run E.P w = .ok vs w /\ vs.length = l.length /\ ∀ (j:Nat) (x:PV) (y:Value),l[j]? = some x -> vs[j]? = some y -> RpV C w x y
 | [],ms,l,h1,h2 => by
  simp only [trRess,sI] at h1; subst h1
  simp only [ressM,sI] at h2; subst h2
  exact ⟨[],by simp,rfl,fun j x y h => by simp at h⟩
 | r :: rs,ms,l,h1,h2 => by
  simp only [trRess] at h1
  split at h1
  ·rename_i m ms' k1 k2
   simp only [sI] at h1; subst h1
   simp only [ressM] at h2
   split at h2
   ·rename_i x l' k3 k4
    simp only [sI] at h2; subst h2
    obtain ⟨vs,q1,q2,q3⟩:=ress_run hr k2 k4
    have hone:∃ v,(resSem a.tmps r).run E.P w = .ok v w /\ RpV C w x v:=by
     cases r with
     | tmp t =>
      simp only [trRes,sI] at k1; subst k1
      simp only [resM,sI] at k3; subst k3
      exact ⟨_,rfl,hr.tm t⟩
     | cell t ty =>
      simp only [trRes] at k1
      split at k1
      ·rename_i ag n g1 g2
       split at k1
       ·rename_i hag
        have hag':ag = true \/ n = 1:=by simpa using hag
        simp only [sI] at k1; subst k1
        simp only [resM] at k3
        split at k3
        ·rename_i p o hp
         have hv:=hr.tm t;rw [hp] at hv;generalize hz:a.tmps.getD t undef = z at hv
         cases hv
         split at k3
         ·rename_i cs hcs
          split at k3
          ·rename_i hle
           obtain ⟨us,e1,e2,e3⟩:=zge hr.inv.bo hcs hle;obtain ⟨u,f1,f2⟩:=zcu e2 e1 g1 g2 hag';refine ⟨u,?_,f2 _ _ e3 k3⟩;simp only [resSem,hz];simpa [Instr.loadAt,Instr.sureAddr,asAddr] using f1
          ·cases k3
         ·cases k3
        ·cases k3
       ·cases k1
      ·cases k1
    obtain ⟨v,g1,g2⟩:=hone;refine ⟨v :: vs,?_,by simp [q2],fun j x' y' hx hy => ?_⟩
    ·rw [mapM_cons,Sem.run_bind,g1]
     simp only [Result.andThen_ok];rw [Sem.run_bind,q1];rfl
    ·match j with
     | 0 => simp at hx hy; subst hx; subst hy; exact g2
     | j + 1 => exact q3 j x' y' (by simpa using hx) (by simpa using hy)
   ·cases h2
  ·cases h1
def retG (rs:List MRes) (R:PV -> List (List PC) -> Nat -> List Nat -> Prop):Exit -> St -> Prop:=fun e s => (e = .normal \/ e = .ret) /\ ∃ l,ressM s rs = some l /\ R (one l) s.bx s.nt s.live
def argS (args:List PV) (bx:List (List PC)) (nt:Nat) (live:List Nat):St:=⟨fun t => args.getD t (.tup []),bx,nt,live⟩
theorem fn_core {f n:Nat} {m:M} {rs:List MRes} (hl:look E.P f = some (n,m,rs)) {args:List PV} {bx:List (List PC)} {nt:Nat} {live:List Nat} {R:PV -> List (List PC) -> Nat -> List Nat -> Prop} (hn:args.length <= n)
  (C:Cx) (w:World) (h:mw E ⟨C,w,n⟩ m (retG rs R) (argS args bx nt live)) (vs:List Value) (hI:Inv E.NG E.T C bx (· ∈ live) w) (hnt:C.nt = nt) (hold:∀ t,t ∈ live -> C.old t) (hn2:2 <= nt) (hlen:vs.length = args.length) (hvs:∀ (j:Nat) (x:PV) (y:Value),args[j]? = some x -> vs[j]? = some y -> RpV C w x y) :
  Calls E.P f vs.toArray w fun e w' => ∃ u x bx' nt' live' C',e = .returned u /\ R x bx' nt' live' /\ Inv E.NG E.T C' bx' (· ∈ live') w' /\ C'.nt = nt' /\ Ext C w C' bx'.length (· ∈ live') w' /\ RpV C' w' x u:=by
 unfold look at hl
 split at hl
 ·rename_i fn hf
  split at hl
  ·rename_i c hc
   split at hl
   ·rename_i m' rs' h1 h2
    simp only [sI,Prod.mk.injEq] at hl;obtain ⟨rfl,rfl,rfl⟩:=hl;refine calls_of_wp hf hc ?_
    have hr:Rep E ⟨C,w,fn.ntmps⟩ C (argS args bx nt live) { tmps:=vs.toArray ++ Array.replicate (fn.ntmps - vs.toArray.size) undef,defers:=[] } w:=by
     have hnb:=hI.nb;refine ⟨hI,hnt,hn2,?_,by simp; omega,rfl,fun t => ?_⟩
     ·exact ⟨rfl,rfl,rfl,lR,fun _ _ h => h,Fix.refl C w,fun _ _ _ _ => rfl,⟨lR,fun _ _ => rfl⟩,fun _ _ h => .inl h,(fun t b ht hb => .inr ⟨t,hold t ht,hb⟩),(fun p hp hp2 => by have h1:C.nb <= p:=hp; have h2:p < bx.length:=hp2; omega),⟨lR,fun _ _ => ⟨rfl,rfl,rfl,rfl⟩⟩⟩
     ·show RpV C w (args.getD t (.tup [])) _
      rw [getD_eq_getElem?_getD,Array.getD_eq_getD_getElem?];by_cases ht:t < args.length
      ·have hx:args[t]? = some args[t]:=getElem?_eq_getElem ht
       have hy:vs[t]? = some (vs[t]'(by omega)):=getElem?_eq_getElem (by omega)
       have:=hvs t _ _ hx hy
       rw [hx,Array.getElem?_append_left (by simp; omega)];simp only [getElem?_toArray,hy,Option.getD_some];exact this
      ·rw [getElem?_eq_none (by omega),Array.getElem?_append_right (by simp; omega)]
       have:(Array.replicate (fn.ntmps - vs.toArray.size) undef)[t - vs.toArray.size]?.getD undef = .tuple (toArray []):=by
        rw [Array.getElem?_replicate]; split <;> rfl
       rw [this];exact .tup [] [] rfl (fun j x y h => by simp at h)
    have hw:=h c h1 C _ w hr;refine wp_mono hw ?_;rintro e a' w' ⟨C',s',hr',hq⟩
    have key:(∃ l,ressM s' rs' = some l /\ R (one l) s'.bx s'.nt s'.live) -> a'.defers = [] /\ ∃ v,(results fn a'.tmps).run E.P w' = .ok v w' /\ ∃ u x bx' nt' live' C',Ending.returned v = .returned u /\ R x bx' nt' live' /\ Inv E.NG E.T C' bx' (· ∈ live') w' /\ C'.nt = nt' /\ Ext C w C' bx'.length (· ∈ live') w' /\ RpV C' w' x u:=by
     rintro ⟨l,hl,hR⟩;obtain ⟨us,k1,k2,k3⟩:=ress_run hr' h2 hl
     have hres:(results fn a'.tmps).run E.P w' = .ok (if h:us.toArray.size = 1 then us.toArray[0] else .tuple us.toArray) w':=by
      rw [results_eq,Sem.run_bind,Array.mapM_eq_mapM_toList,Sem.run_map,k1];rfl
     refine ⟨hr'.defers,_,hres,_,one l,s'.bx,s'.nt,s'.live,C',rfl,hR,hr'.inv,hr'.nt,hr'.ext,?_⟩
     match l,us,k2,k3 with
     | [],[],_,_ => exact .tup [] [] rfl (fun j x y h => by simp at h)
     | [x],[u],_,k3 => exact k3 0 x u rfl rfl
     | x :: x2 :: l,u :: u2 :: us,hk,k3 => exact .tup (x :: x2 :: l) (u :: u2 :: us) (by simpa using hk) k3
    cases e with
    | normal => exact key hq.2
    | ret => exact key hq.2
    | exit i => exact absurd hq.1 (by rintro (h | h) <;> cases h)
    | _ => exact hq.elim
   ·cases hl
  ·cases hl
 ·cases hl
theorem zaW {f n:Nat} {m:M} {rs:List MRes} (hl:look E.P f = some (n,m,rs)) {args:List PV} {R:PV -> (Nat -> Prop) -> Prop} (hn:args.length <= n)
  (h:∀ B,B.n = n -> mw E B m (retK rs R) (initS args)):Fn E f args R:=by
 intro C w vs hI hnt hold hlen hvs;have hI':Inv E.NG E.T C [] (· ∈ ([]:List Nat)) w:=⟨hI.nb,hI.box,hI.boxF,hI.boxG,hI.inj,(fun t ht => by cases ht),(fun t s b ht => by cases ht),hI.fin,hI.ng,hI.t⟩;refine (fn_core (R:=fun x _ _ live => R x (· ∈ live)) hl hn C w (h ⟨C,w,n⟩ rfl) vs hI' hnt (fun t ht => by cases ht) lR hlen hvs).mono ?_;rintro e w' ⟨u,x,bx',nt',live',C',e1,e2,e3,e4,e5,e6⟩;exact ⟨u,x,bx',(· ∈ live'),C',e1,e2,e3,e5,e6⟩
theorem zaG {f n:Nat} {m:M} {rs:List MRes} (hl:look E.P f = some (n,m,rs)) {args:List PV} {bx:List (List PC)} {nt:Nat} {live:List Nat} {R:PV -> List (List PC) -> Nat -> List Nat -> Prop} (hn:args.length <= n)
  (h:∀ B,B.n = n -> mw E B m (retG rs R) (argS args bx nt live)):FnG E f args bx nt live R :=
 fun C w vs hI hnt hold hn2 hlen hvs => fn_core hl hn C w (h ⟨C,w,n⟩ rfl) vs hI hnt (fun t ht => by rw [hold]; exact ht) hn2 hlen hvs
end
end
section
def FnV (E:Env) (f:Nat) (args:List PV) (v:PV):Prop:=Fn E f args (fun x _ => x.dat = some v)
def cif (b:Bool) (v:PV):PV:=match b with
 | true => v
 | false => .tup []
def up (d:Nat) (v:PV) (tm:Nat -> PV):Nat -> PV:=fun t => match Nat.beq t d with
 | true => v
 | false => tm t
theorem up_eq (d:Nat) (v:PV) (tm:Nat -> PV):(fun t => if t = d then v else tm t) = up d v tm:=by
 funext t
 unfold up;by_cases h:t = d
 ·subst h; simp
 ·rw [if_neg h]; have:Nat.beq t d = false:=by cases hb:Nat.beq t d with
   | false => rfl
   | true => exact absurd (Nat.eq_of_beq_eq_true hb) h
  rw [this]
theorem up_self {d:Nat} {v:PV} {tm:Nat -> PV} (h:tm d = v):up d v tm = tm:=by
 rw [<- up_eq]; funext t
 by_cases ht:t = d
 ·subst ht; rw [if_pos rfl,h]
 ·rw [if_neg ht]
theorem zbS {tm:Nat -> PV} {bx:LP PC} {nt:Nat} {live:List Nat} {d:Nat} {v:PV}:St.put ⟨tm,bx,nt,live⟩ (some d) v = ⟨up d v tm,bx,nt,live⟩:=by
 simp only [St.put,up_eq]
section
variable {E:Env} {d:Nat} {dd:Option Nat} {o:MO} {g:Option (Nat × Bool)} {c:List X} {r:List MOpr} {K:St -> Prop} {s:St} {tm:Nat -> PV} {bx:LP PC} {nt:Nat} {live:List Nat}
theorem zaa (h:K s):po E [] K s:=h
theorem po_q {v:PV} (hg:gd g tm = some true) (hq:qf (ev tm) bx o = some v) (h:po E r K ⟨up d v tm,bx,nt,live⟩):po E (⟨some d,o,g,c⟩ :: r) K ⟨tm,bx,nt,live⟩:=by
 refine ⟨true,hg,.inl ⟨rfl,?_⟩⟩;rw [<- zbS] at h
 cases o <;> first | exact .inl ⟨v,hq,h⟩ | (simp [qf] at hq; done)
theorem po_b {e:Bool} (hg:gd g tm = some true) (hq:qf (ev tm) bx o = some (.d (.v (.bool e)))) (h:∀ b,b = e -> po E r K ⟨up d (.d (.v (.bool b))) tm,bx,nt,live⟩):po E (⟨some d,o,g,c⟩ :: r) K ⟨tm,bx,nt,live⟩:=po_q hg hq (h e rfl)
theorem po_skip (hg:gd g tm = some false) (h:po E r K ⟨up d (.tup []) tm,bx,nt,live⟩):po E (⟨some d,o,g,c⟩ :: r) K ⟨tm,bx,nt,live⟩:=by
 rw [<- zbS] at h; exact ⟨false,hg,.inr ⟨rfl,h⟩⟩
theorem zbf {x:X} {cs:List PC} (hq:pcells (ev tm x) = some cs) (h:po E r K ⟨up d (.ref bx.length 0) tm,bx ++ [cs],nt,live⟩):po E (⟨some d,.box x,none,[]⟩ :: r) K ⟨tm,bx,nt,live⟩:=by
 rw [<- zbS] at h;exact ⟨true,rfl,.inl ⟨rfl,.inr ⟨.ref bx.length 0,⟨tm,bx ++ [cs],nt,live⟩,by simp only [lf,hq,Option.map_some],rfl,h⟩⟩⟩
theorem zcz {z:List Value} (h:po E r K ⟨up d (.ref bx.length 0) tm,bx ++ [z.map ofC],nt,live⟩):po E (⟨some d,.zero z,none,[]⟩ :: r) K ⟨tm,bx,nt,live⟩:=by
 rw [<- zbS] at h;exact ⟨true,rfl,.inl ⟨rfl,.inr ⟨.ref bx.length 0,⟨tm,bx ++ [z.map ofC],nt,live⟩,rfl,rfl,h⟩⟩⟩
theorem po_zbld {T U:TypeId} (h:po E r K ⟨up d (.ref bx.length 0) tm,bx ++ [[.bld bx.length T 1 U,.sl 1 []]],nt,live⟩):po E (⟨some d,.zbld T U,none,[]⟩ :: r) K ⟨tm,bx,nt,live⟩:=by
 rw [<- zbS] at h;exact ⟨true,rfl,.inl ⟨rfl,.inr ⟨.ref bx.length 0,⟨tm,bx ++ [[.bld bx.length T 1 U,.sl 1 []]],nt,live⟩,rfl,rfl,h⟩⟩⟩
theorem zaq {n:Nat} {xs:List X} {es:LP PC} (hq:litP (ev tm) n xs = some es) (h:po E r K ⟨up d (.d (.sl nt es)) tm,bx,nt + 1,nt :: live⟩):po E (⟨some d,.lit n xs,none,[]⟩ :: r) K ⟨tm,bx,nt,live⟩:=by
 rw [<- zbS] at h;exact ⟨true,rfl,.inl ⟨rfl,.inr ⟨_,_,by simp only [lf,hq,Option.map_some],rfl,h⟩⟩⟩
theorem zaQ {n t t':Nat} {x y:X} {es ds:LP PC} (hx:ev tm x = .d (.sl t es)) (hy:ev tm y = .d (.sl t' ds)) (ht:t = 1 \/ t ∈ live) (hl:es.length + ds.length <= 4294967296) (hd:∀ e ∈ ds,e.length = n) (he:∀ e ∈ es,e.length = n)
  (h:po E r K ⟨up d (.d (.sl nt (es ++ ds))) tm,bx,nt + 1,nt :: live.filter (· != t)⟩):po E (⟨some d,.app n x y,none,c⟩ :: r) K ⟨tm,bx,nt,live⟩:=by
 rw [<- zbS] at h;exact ⟨true,rfl,.inl ⟨rfl,.inl ⟨_,_,by simp only [lf,hx,hy]; rw [if_pos ⟨ht,hl,hd,he⟩],h⟩⟩⟩
theorem zaw {n p o':Nat} {a x:X} {cs z:List PC} (ha:ev tm a = .ref p o') (hx:pcells (ev tm x) = some cs) (hz:bx[p]? = some z) (hn:cs.length = n /\ o' + n <= z.length) (hc:c.all (apartX (ev tm) a) = true)
  (h:po E r K ⟨tm,bx.set p (spl z o' cs),nt,live⟩):po E (⟨none,.store n a x,none,c⟩ :: r) K ⟨tm,bx,nt,live⟩ :=
 ⟨true,rfl,.inl ⟨rfl,.inr ⟨_,_,by simp only [lf,ha,hx,hz]; rw [if_pos hn],hc,h⟩⟩⟩
theorem zaH {n:Nat} {x i:X} {t:Nat} {es:LP PC} {k:IntKind} {j:Int} {e:List PC} (hg:gd g tm = some true) (hx:ev tm x = .d (.sl t es)) (hi:ev tm i = .d (.v (.int k j))) (he:0 <= j /\ es[j.toNat]? = some e) (hn:e.length = n)
  (h:po E r K ⟨up d (.pt e) tm,bx,nt,live⟩):po E (⟨some d,.ix n x i,g,c⟩ :: r) K ⟨tm,bx,nt,live⟩:=by
 refine po_q hg ?_ h;simp only [qf,hx,hi,if_pos he.1,he.2,if_pos hn]
theorem zad {f:Nat} {xs:List X} {args:List PV} {v:PV} (hd:PV.dats (xs.map (ev tm)) = some args) (hF:FnV E f args v) (h:po E r K ⟨up d v tm,bx,nt,live⟩):po E (⟨some d,.call f xs,none,c⟩ :: r) K ⟨tm,bx,nt,live⟩:=by
 rw [<- zbS] at h;exact ⟨true,rfl,.inl ⟨rfl,.inl ⟨args,_,hd,hF,.inl fun x lv hx => ⟨v,hx,h⟩⟩⟩⟩
theorem zaC {f:Nat} {xs:List X} {args:List PV} {v:PV} {b:Bool} (hg:gd g tm = some b) (hd:b = true -> PV.dats (xs.map (ev tm)) = some args) (hF:b = true -> FnV E f args v) (h:po E r K ⟨up d (cif b v) tm,bx,nt,live⟩):po E (⟨some d,.call f xs,g,c⟩ :: r) K ⟨tm,bx,nt,live⟩:=by
 rw [<- zbS] at h
 cases b with
 | true => exact ⟨true,hg,.inl ⟨rfl,.inl ⟨args,_,hd rfl,hF rfl,.inl fun x lv hx => ⟨v,hx,h⟩⟩⟩⟩
 | false => exact ⟨false,hg,.inr ⟨rfl,h⟩⟩
end
theorem po_g {E:Env} {d:Nat} {k:Nat} {r:List MOpr} {K:St -> Prop} {tm:Nat -> PV} {bx:LP PC} {nt:Nat} {live:List Nat} {f:Nat} {xs:List X} {args:List PV} {R:PV -> LP PC -> Nat -> List Nat -> Prop} (hd:xs.map (ev tm) = args) (hF:FnG E f args bx nt live R)
  (h:∀ x bx' nt' live',R x bx' nt' live' -> po E r K ⟨up d x tm,bx',nt',live'⟩):po E (⟨some d,.call f xs,none,[.f k]⟩ :: r) K ⟨tm,bx,nt,live⟩:=by
 subst hd;refine ⟨true,rfl,.inl ⟨rfl,.inr ⟨rfl,R,hF,fun x bx' nt' live' hR => ⟨fun y hy => by rw [mem_singleton] at hy; subst hy; exact zeg _ _ _ _,?_⟩⟩⟩⟩;rw [zbS]; exact h x bx' nt' live' hR
theorem zfq {E:Env} {d:Nat} {k:Nat} {ys:List X} {r:List MOpr} {K:St -> Prop} {tm:Nat -> PV} {bx:LP PC} {nt:Nat} {live:List Nat} {f:Nat} {xs:List X} {args:List PV} {R:PV -> LP PC -> Nat -> List Nat -> Prop} (hd:xs.map (ev tm) = args) (hF:FnG E f args bx nt live R)
  (hk:∀ x bx' nt' live',R x bx' nt' live' -> ∀ y ∈ ys,keepX (ev tm) bx bx' y)
  (h:∀ x bx' nt' live',R x bx' nt' live' -> po E r K ⟨up d x tm,bx',nt',live'⟩):po E (⟨some d,.call f xs,none,.f k :: ys⟩ :: r) K ⟨tm,bx,nt,live⟩:=by
 subst hd;refine ⟨true,rfl,.inl ⟨rfl,.inr ⟨rfl,R,hF,fun x bx' nt' live' hR => ⟨fun y hy => ?_,?_⟩⟩⟩⟩
 ·rcases mem_cons.1 hy with rfl | hy
  ·exact zeg _ _ _ _
  ·exact hk x bx' nt' live' hR y hy
 ·rw [zbS]; exact h x bx' nt' live' hR
theorem po_vg {E:Env} {d:Nat} {k:Nat} {r:List MOpr} {K:St -> Prop} {tm:Nat -> PV} {bx:LP PC} {nt:Nat} {live:List Nat} {f:Nat} {x:X} {xs:List X} {cap args:List PV} {R:PV -> LP PC -> Nat -> List Nat -> Prop} (hx:ev tm x = .fn f cap) (hok:okFn E.P f = true) (hd:xs.map (ev tm) ++ cap = args) (hF:FnG E f args bx nt live R)
  (h:∀ y bx' nt' live',R y bx' nt' live' -> po E r K ⟨up d y tm,bx',nt',live'⟩):po E (⟨some d,.callv x xs,none,[.f k]⟩ :: r) K ⟨tm,bx,nt,live⟩:=by
 subst hd;refine ⟨true,rfl,.inl ⟨rfl,f,cap,hx,hok,.inr ⟨rfl,R,hF,fun y bx' nt' live' hR => ⟨fun z hz => by rw [mem_singleton] at hz; subst hz; exact zeg _ _ _ _,?_⟩⟩⟩⟩;rw [zbS]; exact h y bx' nt' live' hR
theorem po_v {E:Env} {d:Nat} {c:List X} {r:List MOpr} {K:St -> Prop} {tm:Nat -> PV} {bx:LP PC} {nt:Nat} {live:List Nat} {f:Nat} {x:X} {xs:List X} {cap args:List PV} {v:PV} (hx:ev tm x = .fn f cap) (hok:okFn E.P f = true) (hd:PV.dats (xs.map (ev tm) ++ cap) = some args) (hF:FnV E f args v)
  (h:po E r K ⟨up d v tm,bx,nt,live⟩):po E (⟨some d,.callv x xs,none,c⟩ :: r) K ⟨tm,bx,nt,live⟩:=by
 rw [<- zbS] at h;exact ⟨true,rfl,.inl ⟨rfl,f,cap,hx,hok,.inl ⟨args,_,hd,hF,.inl fun x lv hx => ⟨v,hx,h⟩⟩⟩⟩
theorem zas {E:Env} {B:Base} {a:M} {Q:Exit -> St -> Prop} {s:St} (I:Nat -> St -> Prop) (n:Nat) (h0:I n s) (h:∀ n tm bx nt live,I n ⟨tm,bx,nt,live⟩ -> mw E B a (loopK I n Q) ⟨tm,bx,nt,live⟩):mw E B (.loop a) Q s :=
 mw_loop I n h0 fun n s hi => by obtain ⟨tm,bx,nt,live⟩:=s; exact h n tm bx nt live hi
theorem zan {E:Env} {B:Base} {a b:M} {Q:Exit -> St -> Prop} {s:St} (I:St -> Prop) (h:mw E B a (fun e s => match e with | .normal => I s | e => Q e s) s) (k:∀ tm bx nt live,I ⟨tm,bx,nt,live⟩ -> mw E B b Q ⟨tm,bx,nt,live⟩):mw E B (.seq a b) Q s:=by
 refine zak (mw_mono h ?_);rintro e ⟨tm,bx,nt,live⟩ hq
 cases e <;> first | exact k _ _ _ _ hq | exact hq
/-- an operation that always runs -/
instance instX (n:Nat):OfNat X n:=⟨.t n⟩
abbrev qo (d:Nat) (o:MO):MOpr:=⟨some d,o,none,[]⟩
abbrev ci (n:Int):X:=.c (.int .i64 n)
abbrev cB (b:Bool):X:=.c (.bool b)
abbrev qm (d a:Nat):MOpr:=⟨some d,.mv (.t a),none,[]⟩
abbrev qg (d a b:Nat) (v:Bool):MOpr:=⟨some d,.mv (.t a),some (b,v),[]⟩
abbrev qS (n a b:Nat):MOpr:=⟨none,.store n (.t a) (.t b),none,[]⟩
abbrev ql (d n a:Nat):MOpr:=⟨some d,.load false n (.t a),none,[]⟩
abbrev qL (d n a:Nat):MOpr:=⟨some d,.load true n (.t a),none,[]⟩
abbrev qF (d k a:Nat):MOpr:=⟨some d,.fld k (.t a),none,[]⟩
abbrev qe (d a k:Nat):MOpr:=⟨some d,.ext (.t a) k,none,[]⟩
abbrev qc (d f:Nat) (xs:List X) (k:Nat):MOpr:=⟨some d,.call f xs,none,[.f k]⟩
abbrev so (l:List MOpr) (m:M):M:=.seq (.ops l) m
abbrev oR (l:List MOpr):M:=.seq (.ops l) .ret
abbrev oC (l:List MOpr) (x:X) (m:M):M:=.seq (.seq (.ops l) (.cond x m .skip)) .ret
theorem mwF {E:Env} {B:Base} {Q:Exit -> St -> Prop} {s:St} {x:X} {a b:M} (h:mw E B b Q s) (hx:ev s.tm x = .d (.v (.bool false)):=by exact rfl):mw E B (.cond x a b) Q s:=zaU (t:=false) hx (fun h => absurd h (by decide)) (fun _ => h)
theorem mwT {E:Env} {B:Base} {Q:Exit -> St -> Prop} {s:St} {x:X} {a b:M} (h:mw E B a Q s) (hx:ev s.tm x = .d (.v (.bool true)):=by exact rfl):mw E B (.cond x a b) Q s:=zaU (t:=true) hx (fun _ => h) (fun h => absurd h (by decide))
theorem mZ {G A:Prop} (h:A) (f:A -> G:=by intro h; (repeat' refine po_skip rfl ?_); exact h):G:=f h
theorem mM {G A:Prop} (h:A) (f:A -> G:=by intro h; refine zak (zak (zaf ?_)); exact h):G:=f h
theorem mR {G:Prop} (f:G:=by exact zae ⟨.inr rfl,_,rfl,rfl⟩):G:=f
theorem mT {G A:Prop} (h:A) (f:A -> G:=by intro h; (repeat' (first | refine pm ?_ | refine pq ?_ | refine px ?_ | refine zcz ?_ | refine zaa ?_)); refine mwT ?_; exact h):G:=f h
theorem mF {G A:Prop} (h:A) (f:A -> G:=by intro h; (repeat' (first | refine pm ?_ | refine pq ?_ | refine px ?_ | refine zcz ?_ | refine zaa ?_)); refine mwF ?_; exact h):G:=f h
theorem mK {G A:Prop} (h:A) (f:A -> G:=by intro h; (repeat' (first | refine pm ?_ | refine pq ?_ | refine px ?_ | refine zcz ?_ | refine zaa ?_)); refine mwF ?_; refine zai ?_; exact h):G:=f h
theorem mL {G A:Prop} (h:A) (f:A -> G:=by intro h; (first | refine pm ?_ | refine pq ?_); refine zaa ?_; exact h):G:=f h
theorem mN {G A:Prop} (h:A) (f:A -> G:=by intro h; (repeat' (first | refine pm ?_ | refine pq ?_ | refine px ?_ | refine zcz ?_ | refine zaa ?_)); exact h):G:=f h
theorem mS {G A:Prop} (h:A) (f:A -> G:=by intro h; (first | refine pm ?_ | refine pq ?_); exact h):G:=f h
theorem mO {G A:Prop} (h:A) (f:A -> G:=by intro h; refine zak (zaf ?_); exact h):G:=f h
theorem mP {G A:Prop} (h:A) (f:A -> G:=by intro h; refine zak (zaf ?_); (repeat' (first | refine pm ?_ | refine pq ?_ | refine px ?_ | refine zcz ?_ | refine zaa ?_)); exact h):G:=f h
theorem mQ {G A:Prop} (h:A) (f:A -> G:=by intro h; refine zak (zaf ?_); (first | refine pm ?_ | refine pq ?_); exact h):G:=f h
end
section
mutual
def D.pc:D -> List PC
 | .one v => [.v v]
 | .agg fs => D.pcs fs
 | .sl _ es => [.sl 0 (D.pcE es)]
def D.pcs:List D -> List PC
 | [] => []
 | d :: ds => D.pc d ++ D.pcs ds
def D.pcE:List D -> LP PC
 | [] => []
 | d :: ds => D.pc d :: D.pcE ds
end
mutual
def D.wf:D -> Prop
 | .one v => v.oneCell' = true
 | .agg fs => D.wfs fs
 | .sl n es => (∀ e ∈ es,D.width e = n) /\ D.wfs es
def D.wfs:List D -> Prop
 | [] => True
 | d :: ds => D.wf d /\ D.wfs ds
end
mutual
theorem D.pc_len:∀ d:D,d.pc.length = d.width
 | .one v => rfl
 | .agg fs => by simp only [D.pc,D.width]; exact D.pcs_len fs
 | .sl n es => rfl
theorem D.pcs_len:∀ ds:List D,(D.pcs ds).length = D.widths ds
 | [] => rfl
 | d :: ds => by simp only [D.pcs,D.widths,length_append,D.pc_len d,D.pcs_len ds]
end
theorem D.pcE_map:∀ ds:List D,D.pcE ds = ds.map D.pc
 | [] => rfl
 | d :: ds => by simp [D.pcE,D.pcE_map ds]
mutual
theorem D.pc_er:∀ d:D,erL d.pc = d.pc
 | .one v => rfl
 | .agg fs => by simp only [D.pc]; exact D.pcs_er fs
 | .sl n es => by simp only [D.pc,erL,PC.er,D.pcE_er es]
theorem D.pcs_er:∀ ds:List D,erL (D.pcs ds) = D.pcs ds
 | [] => rfl
 | d :: ds => by
  have h1:=D.pc_er d; have h2:=D.pcs_er ds
  rw [zbj] at h1 h2 ⊢;simp only [D.pcs,map_append,h1,h2]
theorem D.pcE_er:∀ ds:List D,erLL (D.pcE ds) = D.pcE ds
 | [] => rfl
 | d :: ds => by simp only [D.pcE,erLL,D.pc_er d,D.pcE_er ds]
end
mutual
theorem RepC.rp {C:Cx} {w:World} {S:Nat -> Prop} (hF:∀ b o,S b -> C.F b o):∀ {d:D} {cs:List Value},RepC S w d cs -> d.wf -> RpL C w d.pc cs
 | .one v,cs,h,hw => by simp only [RepC] at h; subst h; simp only [D.wf] at hw; exact .one1 (.v v hw)
 | .agg fs,cs,h,hw => by simp only [RepC] at h; simp only [D.wf] at hw; exact RepCs.rp hF h hw
 | .sl n es,cs,h,hw => by
  simp only [RepC] at h; simp only [D.wf] at hw
  obtain ⟨a,c,rfl,h⟩:=h;simp only [D.pc];refine .one1 ?_;by_cases hne:es = []
  ·subst hne; exact .emp a c
  ·obtain ⟨hn,h1,h2,b,o,xs,rfl,hb,hx,hwd,hr⟩:=h hne
   have hlen:xs.length = n * es.length:=by
    rw [hr.len]
    have:∀ l:List D,(∀ e ∈ l,D.width e = n) -> D.widths l = n * l.length:=by
     intro l
     induction l with
     | nil => intro _; rfl
     | cons d l ih => intro hl; simp only [D.widths,length_cons,Nat.mul_succ,hl d (by simp),ih fun e he => hl e (by simp [he])]; omega
    exact this es hwd
   have hE:=RepCs.rpE hF hr hwd hw.2;have hel:(D.pcE es).length = es.length:=by rw [D.pcE_map]; simp
   have hget:∀ i j,i < es.length -> j < n -> n * i + j < xs.length:=by
    intro i j hi hj;rw [hlen]
    calc n * i + j < n * i + n:=by omega
     _ = n * (i + 1):=by rw [Nat.mul_succ]
     _ <= n * es.length:=Nat.mul_le_mul_left n hi
   rw [<- hel];refine .rd _ b o n c (fun i j => xs.getD (n * i + j) undef) (by rw [hel]; exact h1) h2 ⟨hn,?_,?_,fun i j _ _ => hF _ _ hb⟩ ?_
   ·intro e he
    rw [D.pcE_map] at he;obtain ⟨d,hd,rfl⟩:=mem_map.1 he;rw [D.pc_len]; exact hwd d hd
   ·intro i j hi hj
    rw [hel] at hi
    have:=hget i j hi hj
    exact hx _ _ (by rw [getD_eq_getElem?_getD,getElem?_eq_getElem this]; rfl)
   ·intro i j e y he hy
    obtain ⟨v,hv1,hv2⟩:=hE i j e y he hy;rw [getD_eq_getElem?_getD,hv1]; exact hv2
theorem RepCs.rp {C:Cx} {w:World} {S:Nat -> Prop} (hF:∀ b o,S b -> C.F b o):∀ {ds:List D} {cs:List Value},RepCs S w ds cs -> D.wfs ds -> RpL C w (D.pcs ds) cs
 | [],cs,h,hw => by simp only [RepCs] at h; subst h; exact .nil
 | d :: ds,cs,h,hw => by
  simp only [RepCs] at h; simp only [D.wfs] at hw
  obtain ⟨c1,c2,rfl,h1,h2,h3⟩:=h;exact (RepC.rp hF h2 hw.1).append (RepCs.rp hF h3 hw.2)
theorem RepCs.rpE {C:Cx} {w:World} {S:Nat -> Prop} (hF:∀ b o,S b -> C.F b o) {n:Nat}:∀ {ds:List D} {cs:List Value},RepCs S w ds cs -> (∀ e ∈ ds,D.width e = n) -> D.wfs ds ->
  ∀ (i j:Nat) (e:List PC) (y:PC),(D.pcE ds)[i]? = some e -> e[j]? = some y -> ∃ v,cs[n * i + j]? = some v /\ RpC C w y v
 | [],cs,h,_,hw,i,j,e,y,he,hy => by simp [D.pcE] at he
 | d :: ds,cs,h,hwd,hw,i,j,e,y,he,hy => by
  simp only [RepCs] at h; simp only [D.wfs] at hw
  obtain ⟨c1,c2,rfl,h1,h2,h3⟩:=h;have hd:=hwd d (by simp)
  match i with
  | 0 =>
   simp only [D.pcE,getElem?_cons_zero,sI] at he; subst he
   have hr:=RepC.rp hF h2 hw.1
   have hj:j < c1.length:=by
    rw [hr.1];by_cases hj:j < d.pc.length
    ·exact hj
    ·rw [getElem?_eq_none (Nat.not_lt.1 hj)] at hy; cases hy
   refine ⟨c1[j],?_,hr.2 j y _ hy (by simp)⟩
   rw [Nat.mul_zero,Nat.zero_add,getElem?_append_left hj]; simp
  | i + 1 =>
   simp only [D.pcE,getElem?_cons_succ] at he;obtain ⟨v,hv1,hv2⟩:=RepCs.rpE hF h3 (fun e he => hwd e (by simp [he])) hw.2 i j e y he hy;refine ⟨v,?_,hv2⟩;rw [getElem?_append_right (by rw [h1,hd,Nat.mul_succ]; omega),<- hv1]
   congr 1; rw [h1,hd,Nat.mul_succ]; omega
end
theorem RpL.split {C:Cx} {w:World} {c1 c2:List PC} {vs:List Value} (h:RpL C w (c1 ++ c2) vs):∃ v1 v2,vs = v1 ++ v2 /\ v1.length = c1.length /\ RpL C w c1 v1 /\ RpL C w c2 v2:=by
 refine ⟨vs.take c1.length,vs.drop c1.length,by simp,?_,?_,?_⟩
 ·have:=h.1; rw [length_append] at this; rw [length_take]; omega
 ·have:=h.slice 0 c1.length; simpa using this
 ·have:=h.slice c1.length c2.length
  rw [drop_left,take_of_length_le lR,take_of_length_le] at this
  ·exact this
  ·have:=h.1; rw [length_append] at this; rw [length_drop]; omega
mutual
theorem RpL.rep {C:Cx} {w:World} {S:Nat -> Prop} (hF:∀ b o,C.F b o -> S b):∀ {d:D} {cs:List Value},RpL C w d.pc cs -> d.wf -> RepC S w d cs
 | .one v,cs,h,hw => by
  simp only [D.pc] at h;obtain ⟨x,xs,rfl,h1,h2⟩:=h.inv1
  have:=h2.inv0; subst this
  cases h1; simp only [RepC]
 | .agg fs,cs,h,hw => by simp only [RepC]; simp only [D.wf] at hw; simp only [D.pc] at h; exact RpL.reps hF h hw
 | .sl n es,cs,h,hw => by
  simp only [D.wf] at hw; simp only [D.pc] at h
  obtain ⟨x,xs,rfl,h1,h2⟩:=h.inv1
  have:=h2.inv0; subst this
  have hel:(D.pcE es).length = es.length:=by rw [D.pcE_map]; simp
  simp only [RepC];generalize he:D.pcE es = es' at h1 hel
  cases h1 with
  | emp a c =>
   have:es = []:=by rw [D.pcE_map] at he; simpa using he
   subst this; exact ⟨a,c,rfl,fun h => absurd rfl h⟩
  | nilo t h2 ht hb => exact absurd h2 (by decide)
  | own t es b u h2 ht hb hlen hl hc hr h => exact absurd h2 (by decide)
  | rd _ b o n' c u hl hc hr hh =>
   rw [hel];refine ⟨_,c,rfl,fun hne => ?_⟩
   have hn:n' = n:=by
    match es,hne,he with
    | d :: es,_,he =>
     rw [<- he] at hr;have h1:=hr.wid d.pc (by simp [D.pcE]);rw [D.pc_len,hw.1 d (by simp)] at h1; omega
   subst hn
   obtain ⟨xs,hx1,hx2⟩:∃ xs:List Value,xs.length = n' * es.length /\ ∀ i j,i < es.length -> j < n' -> xs[n' * i + j]? = some (u i j):=by
    refine ⟨(range (n' * es.length)).map fun m => u (m / n') (m % n'),by simp,fun i j hi hj => ?_⟩
    have hlt:n' * i + j < n' * es.length:=by
     calc n' * i + j < n' * i + n':=by omega
      _ = n' * (i + 1):=by rw [Nat.mul_succ]
      _ <= n' * es.length:=Nat.mul_le_mul_left n' hi
    rw [getElem?_map,getElem?_range hlt];simp only [Option.map_some,sI];rw [Nat.mul_add_div hr.pos,Nat.mul_add_mod,Nat.div_eq_of_lt hj,Nat.mod_eq_of_lt hj,Nat.add_zero]
   have hpos:=hr.pos;have h00:C.F b (o + (n' * 0 + 0)):=hr.fix 0 0 (by rw [hel]; cases es with | nil => exact absurd rfl hne | cons => simp) hpos;refine ⟨hpos,by omega,hc,b,o,xs,rfl,hF _ _ h00,fun j v hj => ?_,hw.1,RpL.repE hF hw.1 hw.2 hx1 hx2 (fun i j e y h1 h2 => hh i j e y (by rw [<- he]; exact h1) h2)⟩
   have hjl:j < n' * es.length:=by
    rw [<- hx1];by_cases hj':j < xs.length
    ·exact hj'
    ·rw [getElem?_eq_none (Nat.not_lt.1 hj')] at hj; cases hj
   have h1:j / n' < es.length:=(Nat.div_lt_iff_lt_mul hpos).2 (by rw [Nat.mul_comm]; exact hjl);have h2:j % n' < n':=Nat.mod_lt _ hpos;have h3:n' * (j / n') + j % n' = j:=Nat.div_add_mod j n';have h4:=hx2 _ _ h1 h2;rw [h3,hj] at h4;have h5:=hr.cell _ _ (by rw [hel]; exact h1) h2;rw [h3,<- h4] at h5;exact h5
theorem RpL.reps {C:Cx} {w:World} {S:Nat -> Prop} (hF:∀ b o,C.F b o -> S b):∀ {ds:List D} {cs:List Value},RpL C w (D.pcs ds) cs -> D.wfs ds -> RepCs S w ds cs
 | [],cs,h,hw => by simp only [D.pcs] at h; simp only [RepCs]; exact h.inv0
 | d :: ds,cs,h,hw => by
  simp only [D.pcs] at h; simp only [D.wfs] at hw; simp only [RepCs]
  obtain ⟨v1,v2,rfl,h1,h2,h3⟩:=h.split;exact ⟨v1,v2,rfl,by rw [h1,D.pc_len],RpL.rep hF h2 hw.1,RpL.reps hF h3 hw.2⟩
theorem RpL.repE {C:Cx} {w:World} {S:Nat -> Prop} (hF:∀ b o,C.F b o -> S b) {n:Nat}:∀ {ds:List D} {xs:List Value} {u:Nat -> Nat -> Value},(∀ e ∈ ds,D.width e = n) -> D.wfs ds -> xs.length = n * ds.length -> (∀ i j,i < ds.length -> j < n -> xs[n * i + j]? = some (u i j)) ->
  (∀ (i j:Nat) (e:List PC) (y:PC),(D.pcE ds)[i]? = some e -> e[j]? = some y -> RpC C w y (u i j)) -> RepCs S w ds xs
 | [],xs,u,_,hw,hl,_,_ => by simp only [RepCs]; exact eq_nil_of_length_eq_zero (by rw [hl]; simp)
 | d :: ds,xs,u,hwd,hw,hl,hx,h => by
  simp only [D.wfs] at hw; simp only [RepCs]
  have hd:=hwd d (by simp);rw [length_cons,Nat.mul_succ] at hl;refine ⟨xs.take n,xs.drop n,by simp,by rw [length_take]; omega,RpL.rep hF ⟨by rw [length_take,D.pc_len]; omega,fun j c y hc hy => ?_⟩ hw.1,?_⟩
  ·rw [getElem?_take] at hy
   split at hy
   ·rename_i hj
    have:=hx 0 j (by simp) hj
    rw [Nat.mul_zero,Nat.zero_add,hy] at this;simp only [sI] at this;rw [this]; exact h 0 j d.pc c rfl hc
   ·cases hy
  ·refine RpL.repE hF (u:=fun i j => u (i + 1) j) (fun e he => hwd e (by simp [he])) hw.2 (by rw [length_drop]; omega) (fun i j hi hj => ?_) (fun i j e y he hy => h (i + 1) j e y he hy)
   have:=hx (i + 1) j (by simpa using hi) hj
   rw [getElem?_drop,<- this]; congr 1; rw [Nat.mul_succ]; omega
end
end
section
theorem zau:∀ a b:List PC,toksL (a ++ b) = toksL a ++ toksL b
 | [],b => rfl
 | c :: cs,b => by simp only [cons_append,toksL,zau cs b,append_assoc]
theorem zaL:∀ a b:List PC,ownedL (a ++ b) = (ownedL a && ownedL b)
 | [],b => by simp [ownedL]
 | c :: cs,b => by simp only [cons_append,ownedL,zaL cs b,Bool.and_assoc]
def C0 (w:World):Cx:=⟨fun b _ => b < w.heap.size,0,fun _ => 0,2,fun _ => none,fun _ => 0,fun _ => 0,fun _ => 0,fun _ => False⟩
theorem rd1 {w:World} {d:D} {v:Value} {c:PC} (h:Rd w d [v]) (hw:d.wf) (hc:d.pc = [c]):RpV (C0 w) w (.d c) v:=.d _ _ (by
 have:=h.rp (C:=C0 w) (fun _ _ hb => hb) hw
 rw [hc] at this;exact this.2 0 c v rfl rfl)
theorem Fn.use {E:Env} {f:Nat} {args:List PV} {R:PV -> (Nat -> Prop) -> Prop} (h:Fn E f args R) {w:World} (hng:E.NG <= w.heap.size) (hT:E.T w) {vs:List Value} (hl:vs.length = args.length) (hv:∀ (j:Nat) (x:PV) (y:Value),args[j]? = some x -> vs[j]? = some y -> RpV (C0 w) w x y) :
  Calls E.P f vs.toArray w fun e w' => ∃ u x bx live C',e = .returned u /\ R x live /\ Inv E.NG E.T C' bx live w' /\ RpV C' w' x u /\ Below w.heap.size w w' /\ E.T w' /\ ∀ t b,live t -> C'.tk t = some b -> w.heap.size <= b:=by
 refine (h (C0 w) w vs ⟨rfl,fun p cs hp => by simp at hp,fun p hp => by simp at hp,fun p hp => by simp at hp,fun p q hp => by simp at hp,fun t ht => ht.elim,fun t s b ht => ht.elim,fun b o h => h,hng,hT⟩ rfl (fun t h => h) hl hv).mono ?_;rintro e w' ⟨u,x,bx,live,C',e1,e2,e3,e4,e5⟩;exact ⟨u,x,bx,live,C',e1,e2,e3,e5,⟨e4.os,e4.tape,e4.output,e4.size,fun k hk => e4.block0 (fun t h => h) k hk (fun p hp => by simp [C0] at hp)⟩,e3.t,fun t b => e4.newT0 (fun t h => h) t b⟩
theorem FnV.old {E:Env} {f:Nat} {args:List PV} {v:Value} (ho:v.oneCell' = true) (h:∀ (w:World) (C:Cx) (vs:List Value),(∀ b o,C.F b o -> b < w.heap.size) -> E.NG <= w.heap.size -> E.T w -> vs.length = args.length -> (∀ (j:Nat) (x:PV) (y:Value),args[j]? = some x -> vs[j]? = some y -> RpV C w x y) ->
  Calls E.P f vs.toArray w fun e w' => e = .returned v /\ Below w.heap.size w w'):FnV E f args (.d (.v v)):=by
 intro C w vs hI hnt hold hl hv;refine (h w C vs hI.fin hI.ng hI.t hl hv).mono ?_;rintro e w' ⟨rfl,hb⟩;have hF:Fix C w w':=.of (fun b o hF => World.cell?_of_block (a:=⟨b,o,none⟩) (hb.block b (hI.fin b o hF))) hb.block
 refine ⟨v,.d (.v v),[],fun _ => False,C,rfl,rfl,⟨hI.nb,fun p cs hp => by simp at hp,fun p hp => by simp at hp,fun p hp => by simp at hp,fun p q hp => by simp at hp,fun t ht => ht.elim,fun t s b ht => ht.elim,fun b o h => Nat.lt_of_lt_of_le (hI.fin b o h) hb.size,Nat.le_trans hI.ng hb.size,E.low w w' hI.t hb.size (fun k hk => hb.block k (Nat.lt_of_lt_of_le hk hI.ng))⟩,
  ⟨hb.os,hb.tape,hb.output,hb.size,fun _ _ h => h,hF,fun k hk _ _ => hb.block k hk,⟨lR,fun _ _ => rfl⟩,fun _ _ h => .inl h,fun t b ht => ht.elim,(fun p hp hp2 => by simp at hp2),⟨lR,fun _ _ => ⟨rfl,rfl,rfl,rfl⟩⟩⟩,.d _ _ (.v v ho)⟩
theorem vRd {C:Cx} {w:World} (hF:∀ b o,C.F b o -> b < w.heap.size) {d:D} {y:Value} (hw:d.wf) (h:RpV C w (.ag d.pc) y):∃ cs:List Value,y = .agg cs.toArray /\ Rd w d cs:=by
 cases h with
 | ag _ vs h => exact ⟨vs,rfl,RpL.rep hF h hw⟩
theorem vRd1 {C:Cx} {w:World} (hF:∀ b o,C.F b o -> b < w.heap.size) {d:D} {c:PC} {y:Value} (hw:d.wf) (hc:d.pc = [c]) (h:RpV C w (.d c) y):Rd w d [y]:=by
 cases h with
 | d _ _ h => exact RpL.rep hF (by rw [hc]; exact .one1 h) hw
end
section
open Go.Lib (validD)
end
section
theorem zhp {w:World} {b o:Nat} {v:Value} (h:w.cell? ⟨b,o,none⟩ = some v):b < w.heap.size:=by
 apply Classical.byContradiction; intro hn
 simp [World.cell?,Array.getElem?_eq_none (Nat.le_of_not_lt hn)] at h
def StrRow (w:World) (v:Value) (ls:List (L8)):Prop :=
 ∃ a c,v = .slice a ls.length c /\ (ls ≠ [] -> ∃ b o,a = some ⟨b,o,none⟩ /\ ∀ k (h:k < ls.length),w.cell? ⟨b,o + k,none⟩ = some (.string ⟨ls[k].toArray⟩))
def ixF:List (L8) -> L8 -> Nat -> Int
 | [],_,_ => -1
 | a :: r,s,k => if a = s then k else ixF r s (k + 1)
theorem ixF_yes {ls:List (L8)} {s:L8} {k:Nat} (hk:k < ls.length) (he:ls[k] = s):ixF (ls.drop k) s k = k:=by
 rw [drop_eq_getElem_cons hk,ixF,if_pos he]
theorem ixF_no {ls:List (L8)} {s:L8} {k:Nat} (hk:k < ls.length) (he:¬ ls[k] = s):ixF (ls.drop k) s k = ixF (ls.drop (k + 1)) s (k + 1):=by
 rw [drop_eq_getElem_cons hk,ixF,if_neg he]
theorem ixF_end {ls:List (L8)} {s:L8}:ixF (ls.drop ls.length) s ls.length = -1:=by
 rw [drop_length]; rfl
theorem l11At_any (ls:List (L8)) (v:Value) (s:L8) (w:World) (h:StrRow w v ls) (hl:ls.length <= 9223372036854775807) :
  Calls Tryz.prog 60 #[v,.string ⟨s.toArray⟩] w fun e w' => e = .returned (.int .i64 (ixF ls s 0)) /\ Below w.heap.size w w':=by
 obtain ⟨a,c,rfl,hg⟩:=h;obtain ⟨r,hr⟩:∃ r,ixF ls s 0 = r:=⟨_,rfl⟩;rw [hr]
 go_enter Tryz.func60,Tryz.ntmps60
 go_wp2
 go_loopw [5] (fun i wr => ∃ (k:Nat),k <= ls.length /\ i = .int .i64 k /\ ixF (ls.drop k) s k = r /\ Below w.heap.size w wr) (fun i _ => ls.length - (intOf i).toNat)
 case atStart => exact ⟨0,Nat.zero_le _,rfl,hr,Below.refl _ _⟩
 case round =>
  obtain ⟨k,hk,rfl,hix,hbel⟩:=hrel;have HX:=Lib.hid hix; clear hix
  by_cases hk2:k < ls.length
  ·obtain ⟨b,o,rfl,hcell⟩:=hg (by intro e; rw [e] at hk2; simp at hk2)
   have hc:=hcell k hk2;have hb:b < w.heap.size:=zhp hc;clear hcell hg;obtain ⟨hbc,_⟩:=zbF hbel;have hi1:(0:Int) <= k:=by omega
   have hi2:(k:Int) < ls.length:=by omega
   go_wp2
   ·have he:(ls[k] == s) = true:=by assumption
    have hk3:=ixF_yes hk2 (by simpa using he);rw [HX.out] at hk3;go_ret;exact ⟨ret_int hk3.symm,hbel⟩
   ·have he:(ls[k] == s) = false:=by assumption
    have hk3:=ixF_no hk2 (s:=s) (by simpa using he);go_roundw
    case rel => exact ⟨k + 1,by omega,by go_num,by rw [<- hk3,HX.out],hbel⟩
    case measure => simp [intOf] <;> omega
  ·obtain rfl:k = ls.length:=by omega
   have hk3:=HX.out;rw [ixF_end] at hk3;go_wp2;go_ret;exact ⟨ret_int hk3,hbel⟩
end
section
end
section
def pI (n:Int):PC:=.v (.int .i64 n)
def pB (b:Bool):PC:=.v (.bool b)
def pS (l:L8):PC:=.v (.string ⟨l.toArray⟩)
def pSr (ks:List (L8)):LP PC:=ks.map fun k => [pS k]
def pSs (ks:List (L8)):PC:=.sl 0 (pSr ks)
theorem pSr_er (ks:List (L8)):erLL (pSr ks) = pSr ks:=by
 simp [pSr,zaO,zbj,PC.er,pS,Function.comp_def]
theorem zgk (ks:List (L8)):(pSs ks).er = pSs ks:=by simp only [pSs,PC.er,pSr_er]
theorem pSr_tok (ks:List (L8)):toksLL (pSr ks) = []:=by
 induction ks with
 | nil => rfl
 | cons k ks ih => simp only [pSr,map_cons] at ih ⊢; simp [toksLL,toksL,PC.toks,pS] ; simpa [pS] using ih
theorem pSr_own (ks:List (L8)):ownedLL (pSr ks) = true:=by
 induction ks with
 | nil => rfl
 | cons k ks ih => simp only [pSr,map_cons] at ih ⊢; simp [ownedLL,ownedL,PC.owned,pS] ; simpa [pS] using ih
theorem dSs_pc (ks:List (L8)):(dSs ks).pc = [pSs ks]:=by
 simp only [dSs,D.pc,pSs,pSr,D.pcE_map,map_map]; rfl
theorem dSs_wf (ks:List (L8)):(dSs ks).wf:=by
 simp only [dSs,D.wf];refine ⟨fun e he => by obtain ⟨k,_,rfl⟩:=mem_map.1 he; rfl,?_⟩
 induction ks with
 | nil => trivial
 | cons k ks ih => exact ⟨rfl,ih⟩
structure OwnL (nt:Nat) (live:List Nat) (cs:List PC):Prop where
 own:ownedL cs = true
 nd:(toksL cs).Nodup
 mem:∀ t ∈ toksL cs,t ∈ live /\ t < nt
theorem zb7:∀ a b:LP PC,ownedLL (a ++ b) = (ownedLL a && ownedLL b)
 | [],b => by simp [ownedLL]
 | c :: cs,b => by simp only [cons_append,ownedLL,zb7 cs b,Bool.and_assoc]
theorem zba:∀ a b:LP PC,toksLL (a ++ b) = toksLL a ++ toksLL b
 | [],b => rfl
 | c :: cs,b => by simp only [cons_append,toksLL,zba cs b,append_assoc]
theorem zaF {t:Nat} (h:2 <= t) (es:LP PC):PC.toks (.sl t es) = t :: toksLL es:=by rw [PC.toks,if_pos h]
theorem zbl {t:Nat} (h:2 <= t) (es:LP PC):PC.owned (.sl t es) = ownedLL es:=by
 rw [PC.owned,decide_eq_true (show t ≠ 0 by omega)]; simp
mutual
theorem PC.toks_ge:∀ (c:PC) (t:Nat),t ∈ c.toks -> 2 <= t
 | .v x,t,h => by simp [PC.toks] at h
 | .bld _ _ _ _,t,h => by simp [PC.toks] at h
 | .anyp,t,h => by simp [PC.toks] at h
 | .row _ _ _,t,h => by simp [PC.toks] at h
 | .sl s es,t,h => by
  by_cases h2:2 <= s
  ·rw [PC.toks,if_pos h2] at h
   rcases mem_cons.1 h with rfl | h
   ·exact h2
   ·exact toksLL_ge es t h
  ·rw [PC.toks,if_neg h2] at h; exact toksLL_ge es t h
theorem zbN:∀ (l:List PC) (t:Nat),t ∈ toksL l -> 2 <= t
 | [],t,h => by simp [toksL] at h
 | c :: cs,t,h => by
  rw [toksL,mem_append] at h;exact h.elim (PC.toks_ge c t) (zbN cs t)
theorem toksLL_ge:∀ (l:LP PC) (t:Nat),t ∈ toksLL l -> 2 <= t
 | [],t,h => by simp [toksLL] at h
 | c :: cs,t,h => by
  rw [toksLL,mem_append] at h;exact h.elim (zbN c t) (toksLL_ge cs t)
end
theorem toks_sl1 (es:LP PC):PC.toks (.sl 1 es) = toksLL es:=by rw [PC.toks,if_neg (by decide)]
theorem owned_sl1 (es:LP PC):PC.owned (.sl 1 es) = ownedLL es:=by
 rw [PC.owned,decide_eq_true (show (1:Nat) ≠ 0 by omega)]; simp
theorem OwnL.push {nt nt' t:Nat} {live:List Nat} {a b:List PC} {rows:LP PC} {e:List PC} (h:OwnL nt live (a ++ .sl t rows :: b)) (h2:2 <= t) (hn:nt <= nt') (he:ownedL e = true) (hd:(toksL e).Nodup) (hm:∀ t ∈ toksL e,nt <= t /\ t < nt') (hnt:2 <= nt') :
  OwnL (nt' + 1) (nt' :: (toksL e ++ live).filter (· != t)) (a ++ .sl nt' (rows ++ [e]) :: b):=by
 obtain ⟨o1,o2,o3⟩:=h;rw [zaL,ownedL,zbl h2,Bool.and_eq_true,Bool.and_eq_true] at o1;rw [zau,toksL,zaF h2] at o2 o3;have q:=o2;rw [nodup_append] at q;obtain ⟨q1,q2,q3⟩:=q;rw [cons_append,nodup_cons,nodup_append] at q2;obtain ⟨q4,q5,q6,q7⟩:=q2
 have hlt:∀ x,x ∈ toksL a \/ x ∈ toksLL rows \/ x ∈ toksL b -> x ∈ live /\ x < nt /\ x ≠ t:=by
  rintro x (hx | hx | hx)
  ·have:=o3 x (by simp [hx]); exact ⟨this.1,this.2,fun e => q3 x hx t (by simp) e⟩
  ·have:=o3 x (by simp [hx]); exact ⟨this.1,this.2,fun e => q4 (by simp [<- e,hx])⟩
  ·have:=o3 x (by simp [hx]); exact ⟨this.1,this.2,fun e => q4 (by simp [<- e,hx])⟩
 have ht:=o3 t (by simp);refine ⟨?_,?_,?_⟩
 ·rw [zaL,ownedL,zbl hnt,zb7,o1.1,o1.2.1,o1.2.2]; simp [ownedLL,he]
 ·rw [zau,toksL,zaF hnt,zba]
  simp only [toksLL,append_nil,cons_append];rw [nodup_append];refine ⟨q1,nodup_cons.2 ⟨fun hx => ?_,?_⟩,fun x hx y hy hxy => ?_⟩
  ·simp only [mem_append] at hx
   rcases hx with (hx | hx) | hx
   ·have:=hlt nt' (.inr (.inl hx)); omega
   ·have:=hm nt' hx; omega
   ·have:=hlt nt' (.inr (.inr hx)); omega
  ·rw [append_assoc,nodup_append]
   refine ⟨q5,nodup_append.2 ⟨hd,q6,fun x hx y hy hxy => ?_⟩,fun x hx y hy hxy => ?_⟩
   ·subst hxy; have:=hm x hx; have:=hlt x (.inr (.inr hy)); omega
   ·subst hxy
    rcases mem_append.1 hy with hy | hy
    ·have:=hm x hy; have:=hlt x (.inr (.inl hx)); omega
    ·exact q7 x hx x hy rfl
  ·subst hxy
   simp only [mem_cons,mem_append] at hy
   rcases hy with hy | (hy | hy) | hy
   ·have:=hlt x (.inl hx); omega
   ·exact q3 x hx x (by simp [hy]) rfl
   ·have:=hm x hy; have:=hlt x (.inl hx); omega
   ·exact q3 x hx x (by simp [hy]) rfl
 ·intro x hx
  rw [zau,toksL,zaF hnt,zba] at hx;simp only [toksLL,append_nil,cons_append,mem_append,mem_cons] at hx
  have old:x ∈ toksL a \/ x ∈ toksLL rows \/ x ∈ toksL b -> x ∈ nt' :: (toksL e ++ live).filter (· != t) /\ x < nt' + 1:=by
   intro hx
   have:=hlt x hx
   refine ⟨mem_cons.2 (.inr (mem_filter.2 ⟨mem_append.2 (.inr this.1),by simpa using this.2.2⟩)),by omega⟩
  rcases hx with hx | hx | (hx | hx) | hx
  ·exact old (.inl hx)
  ·exact ⟨by simp [hx],by omega⟩
  ·exact old (.inr (.inl hx))
  ·have:=hm x hx
   refine ⟨mem_cons.2 (.inr (mem_filter.2 ⟨mem_append.2 (.inl hx),?_⟩)),by omega⟩
   have:x ≠ t:=by omega
   simpa using this
  ·exact old (.inr (.inr hx))
theorem OwnL.push1 {nt nt':Nat} {live:List Nat} {a b:List PC} {e:List PC} (h:OwnL nt live (a ++ .sl 1 [] :: b)) (hn:nt <= nt') (he:ownedL e = true) (hd:(toksL e).Nodup) (hm:∀ t ∈ toksL e,nt <= t /\ t < nt') (hnt:2 <= nt') :
  OwnL (nt' + 1) (nt' :: (toksL e ++ live).filter (· != 1)) (a ++ .sl nt' ([] ++ [e]) :: b):=by
 obtain ⟨o1,o2,o3⟩:=h;rw [zaL,ownedL,owned_sl1,Bool.and_eq_true,Bool.and_eq_true] at o1;rw [zau,toksL,toks_sl1] at o2 o3;simp only [toksLL,nil_append] at o2 o3;have q:=o2;rw [nodup_append] at q;obtain ⟨q1,q2,q3⟩:=q;have hlt:∀ x,x ∈ toksL a \/ x ∈ toksL b -> x ∈ live /\ x < nt:=fun x hx => o3 x (mem_append.2 hx)
 refine ⟨?_,?_,?_⟩
 ·rw [zaL,ownedL,zbl hnt,o1.1,o1.2.2]; simp [ownedLL,he]
 ·rw [zau,toksL,zaF hnt]
  simp only [toksLL,append_nil,cons_append,nil_append];rw [nodup_append];refine ⟨q1,nodup_cons.2 ⟨fun hx => ?_,nodup_append.2 ⟨hd,q2,fun x hx y hy hxy => ?_⟩⟩,fun x hx y hy hxy => ?_⟩
  ·rcases mem_append.1 hx with hx | hx
   ·have:=hm nt' hx; omega
   ·have:=hlt nt' (.inr hx); omega
  ·subst hxy; have:=hm x hx; have:=hlt x (.inr hy); omega
  ·subst hxy
   have:=hlt x (.inl hx)
   rcases mem_cons.1 hy with hy | hy
   ·omega
   ·rcases mem_append.1 hy with hy | hy
    ·have:=hm x hy; omega
    ·exact q3 x hx x hy rfl
 ·intro x hx
  have hx2:=zbN _ x hx;rw [zau,toksL,zaF hnt] at hx;simp only [toksLL,append_nil,cons_append,nil_append,mem_append,mem_cons] at hx
  have hf:∀ y,2 <= y -> y ∈ toksL e ++ live -> y ∈ nt' :: (toksL e ++ live).filter (· != 1):=by
   intro y h2 hy
   have:y ≠ 1:=by omega
   exact mem_cons.2 (.inr (mem_filter.2 ⟨hy,by simpa using this⟩))
  rcases hx with hx | hx | hx | hx
  ·have:=hlt x (.inl hx); exact ⟨hf x hx2 (mem_append.2 (.inr this.1)),by omega⟩
  ·exact ⟨by simp [hx],by omega⟩
  ·have:=hm x hx; exact ⟨hf x hx2 (mem_append.2 (.inl hx)),by omega⟩
  ·have:=hlt x (.inr hx); exact ⟨hf x hx2 (mem_append.2 (.inr this.1)),by omega⟩
structure NewL (nt nt':Nat) (cs:List PC):Prop where
 own:ownedL cs = true
 nd:(toksL cs).Nodup
 mem:∀ t ∈ toksL cs,nt <= t /\ t < nt'
end
section
def has (tm:Nat -> PV):List (Nat × PV) -> Prop
 | [] => True
 | (d,v) :: r => tm d = v /\ has tm r
def ups:List (Nat × PV) -> (Nat -> PV) -> Nat -> PV
 | [],tm => tm
 | (d,v) :: r,tm => up d v (ups r tm)
theorem zac:∀ {l:List (Nat × PV)} {tm:Nat -> PV},has tm l -> ∃ tm0,tm = ups l tm0:=by
 intro l tm h;refine ⟨tm,?_⟩
 induction l with
 | nil => rfl
 | cons p l ih =>
  obtain ⟨d,v⟩:=p;simp only [ups];rw [<- ih h.2,up_self h.1]
theorem zd4 {rows:LP PC} {rs:LP PC} (h:erLL rows = rs):rows.length = rs.length:=by rw [<- h,zaO]; simp
theorem zfr {rows rs:LP PC} {n:Nat} (h:erLL rows = rs) (hr:∀ e ∈ rs,e.length = n):∀ e ∈ rows,e.length = n:=by
 intro e he
 have:erL e ∈ rs:=by rw [<- h,zaO]; exact mem_map.2 ⟨e,he,rfl⟩
 have:=hr _ this
 rw [zbj] at this; simpa using this
theorem zbT (a b:LP PC):erLL (a ++ b) = erLL a ++ erLL b:=by simp [zaO]
theorem zhq (ks:List (L8)):∀ e ∈ pSr ks,e.length = 1:=by
 intro e he; obtain ⟨x,_,rfl⟩:=mem_map.1 he; rfl
theorem zbr (ks:List (L8)):(pSr ks).length = ks.length:=by simp [pSr]
theorem zb8 {ks:List (L8)} {j:Nat} (h:j < ks.length):(pSr ks)[j]? = some [pS ks[j]]:=by
 rw [pSr,getElem?_map,getElem?_eq_getElem h]; rfl
theorem wrap_lt {n:Int} (h:0 <= n) (h2:n < 9223372036854775808):IntKind.wrap .i64 n = n:=by
 rw [IntKind.wrap_i64]; omega
end
section
section
variable {NG:Nat} {T:World -> Prop} {bx:LP PC} {w:World}
end
end
section
structure Keep (S:Nat -> Prop) (w w':World):Prop where
 os:w'.os = w.os
 tape:w'.tape = w.tape
 output:w'.output = w.output
 size:w.heap.size <= w'.heap.size
 block:∀ k,k < w.heap.size -> ¬ S k -> w'.heap[k]? = w.heap[k]?
theorem Keep.refl (S:Nat -> Prop) (w:World):Keep S w w:=⟨rfl,rfl,rfl,lR,fun _ _ _ => rfl⟩
theorem Keep.trans {S:Nat -> Prop} {a b c:World} (h:Keep S a b) (k:Keep S b c):Keep S a c :=
 ⟨k.os.trans h.os,k.tape.trans h.tape,k.output.trans h.output,Nat.le_trans h.size k.size,fun i hi hs => (k.block i (Nat.lt_of_lt_of_le hi h.size) hs).trans (h.block i hi hs)⟩
theorem Keep.of_below {S:Nat -> Prop} {w w':World} (h:Below w.heap.size w w'):Keep S w w':=⟨h.os,h.tape,h.output,h.size,fun k hk _ => h.block k hk⟩
theorem Keep.below {S:Nat -> Prop} {w w':World} {B:Nat} (h:Keep S w w') (hB:B <= w.heap.size) (hs:∀ k,k < B -> ¬ S k):Below B w w':=⟨h.os,h.tape,h.output,h.size,fun k hk => h.block k (Nat.lt_of_lt_of_le hk hB) (hs k hk)⟩
theorem Keep.then {S:Nat -> Prop} {a b c:World} (h:Keep S a b) (k:Below b.heap.size b c):Keep S a c:=h.trans (Keep.of_below k)
theorem Keep.alloc {S:Nat -> Prop} {a w:World} (h:Keep S a w) (o:Obj):Keep S a (w.alloc o):=h.then ((Below.refl _ _).alloc lR o)
theorem Keep.setCell {S:Nat -> Prop} {a w:World} (h:Keep S a w) {p:Addr} (hp:S p.block \/ a.heap.size <= p.block) (u:Value):Keep S a (w.setCell p u) :=
 ⟨h.os,h.tape,h.output,by simpa [World.setCell] using h.size,fun k hk hs => (Below.heap_setCell w p u k (by
  rintro rfl
  rcases hp with hp | hp
  ·exact hs hp
  ·omega)).trans (h.block k hk hs)⟩
theorem Keep.cell {S:Nat -> Prop} {w w':World} (h:Keep S w w') {b o:Nat} (hb:b < w.heap.size) (hs:¬ S b):w'.cell? ⟨b,o,none⟩ = w.cell? ⟨b,o,none⟩:=World.cell?_of_block (a:=⟨b,o,none⟩) (h.block b hb hs)
def RdN (N:Nat) (w:World) (d:D) (cs:List Value):Prop:=RepC (· < N) w d cs
theorem RdN.rd {N:Nat} {w:World} {d:D} {cs:List Value} (h:RdN N w d cs):Rd w d cs:=Rd.of h
theorem Rd.rdN {w:World} {d:D} {cs:List Value} (h:Rd w d cs):RdN w.heap.size w d cs:=h
theorem RdN.below {N:Nat} {w w':World} {d:D} {cs:List Value} (h:RdN N w d cs) (hb:Below N w w'):RdN N w' d cs:=RepC.frame (fun b hlt => hb.block b hlt) h
theorem RdN.keep {N:Nat} {S:Nat -> Prop} {w w':World} {d:D} {cs:List Value} (h:RdN N w d cs) (hk:Keep S w w') (hN:N <= w.heap.size) (hs:∀ k,k < N -> ¬ S k):RdN N w' d cs:=h.below (hk.below hN hs)
theorem V.layS {S:Nat -> Prop} {w:World} {v:V} {cs:List Value} (h:RepC S w v.d cs):∃ k n e s kids v1,v = .mk k n e s kids /\ cs = [.int .i64 k,.int .i64 n,.int .i64 e,.string ⟨s.toArray⟩,v1] /\ RepC S w (.sl 5 (V.ds kids)) [v1]:=by
 obtain ⟨k,n,e,s,kids⟩:=v;simp only [V.d,RepC,RepCs,dI,dS,D.width] at h;obtain ⟨c1,r1,rfl,_,rfl,c2,r2,rfl,_,rfl,c3,r3,rfl,_,rfl,c4,r4,rfl,_,rfl,c5,r5,rfl,_,⟨a5,n5,rfl,h5⟩,rfl⟩:=h;refine ⟨k,n,e,s,kids,_,rfl,rfl,?_⟩;simp only [RepC]; exact ⟨a5,n5,rfl,h5⟩
theorem RepC.slice {S:Nat -> Prop} {w:World} {n:Nat} {es:List D} {v:Value} (h:RepC S w (.sl n es) [v]) :
  ∃ a c,v = .slice a es.length c /\ (es ≠ [] -> 0 < n /\ es.length <= c /\ c <= maxLen /\ ∃ b o,a = some ⟨b,o,none⟩ /\ S b /\
   ∀ i (hi:i < es.length),∃ cs,cs.length = n /\ RepC S w es[i] cs /\ ∀ j u,cs[j]? = some u -> w.cell? ⟨b,o + (n * i + j),none⟩ = some u):=by
 simp only [RepC] at h;obtain ⟨a,c,hv,h⟩:=h;simp only [cons.injEq,and_true] at hv;refine ⟨a,c,hv,fun hne => ?_⟩;obtain ⟨hn,h1,h2,b,o,xs,ha,hb,hx,hw,hr⟩:=h hne;refine ⟨hn,h1,h2,b,o,ha,hb,fun i hi => ?_⟩;obtain ⟨cs,hc1,hc2,hc3⟩:=hr.get hw i hi;refine ⟨cs,hc1,hc2,fun j u hj => hx _ _ ?_⟩
 have:j < cs.length:=by
  rcases Nat.lt_or_ge j cs.length with h | h
  ·exact h
  ·simp [getElem?_eq_none h] at hj
 rw [hc3 j (by omega)]; exact hj
theorem RepC.values {S:Nat -> Prop} {w:World} {ls:List V} {v:Value} (h:RepC S w (.sl 5 (V.ds ls)) [v]) :
  ∃ a c,v = .slice a ls.length c /\ (ls ≠ [] -> ls.length <= c /\ c <= maxLen /\ ∃ b o,a = some ⟨b,o,none⟩ /\ S b /\ ∀ i (hi:i < ls.length),∃ v0 v1 v2 v3 v4,RepC S w ls[i].d [v0,v1,v2,v3,v4] /\
   w.cell? ⟨b,o + i * 5,none⟩ = some v0 /\ w.cell? ⟨b,o + i * 5 + 1,none⟩ = some v1 /\ w.cell? ⟨b,o + i * 5 + 2,none⟩ = some v2 /\ w.cell? ⟨b,o + i * 5 + 3,none⟩ = some v3 /\ w.cell? ⟨b,o + i * 5 + 4,none⟩ = some v4):=by
 rw [V.ds_map] at h;obtain ⟨a,c,hv,h⟩:=RepC.slice h;rw [length_map] at hv;refine ⟨a,c,hv,fun hne => ?_⟩;obtain ⟨_,h1,h2,b,o,ha,hb,hg⟩:=h (by simpa using hne);refine ⟨by simpa using h1,h2,b,o,ha,hb,fun i hi => ?_⟩;obtain ⟨cs,hl,hr,hc⟩:=hg i (by simpa using hi);rw [getElem_map] at hr
 match cs,hl with
 | [v0,v1,v2,v3,v4],_ =>
  rw [Nat.mul_comm 5 i] at hc;exact ⟨v0,v1,v2,v3,v4,hr,hc 0 _ rfl,hc 1 _ rfl,hc 2 _ rfl,hc 3 _ rfl,hc 4 _ rfl⟩
theorem V.formS {S:Nat -> Prop} {w:World} {v:V} {cs:List Value} (h:RepC S w v.d cs):∃ k n e s a1 n1 c1,cs = [.int .i64 k,.int .i64 n,.int .i64 e,.string ⟨(s:L8).toArray⟩,.slice a1 n1 c1]:=V.form (Rd.of h)
end
section
section
variable {E:Env} {B:Base} {C:Cx} {s:St} {a:Act} {w w':World} {S:Nat -> Prop} {L:List Nat}
end
end
section
section
variable {E:Env} {B:Base} {C:Cx} {s:St} {a:Act} {w:World}
end
/-! ### A mark -/
end
section
section
variable {E:Env} {B:Base} {f:Nat} {tm:Nat -> PV} {bx:LP PC} {nt:Nat} {live:List Nat} {cs:List PC} {k r:Int} {d:Nat} {dd dd':D} {K:St -> Prop} {L:List Nat} {kt:List Nat} {kb:List Bool}
end
end
section
def vK (kids:List V):LP PC:=kids.map fun x => x.d.pc
def vC (v:V):List PC:=[pI v.kind,pI v.num,pI v.exp,pS v.text,.sl 0 (vK v.kids)]
theorem V.pc_eq (x:V):x.d.pc = vC x:=by
 obtain ⟨k,n,e,s,kids⟩:=x;simp only [V.d,D.pc,D.pcs,D.pcE_map,V.ds_map,map_map,append_nil];rfl
theorem zcj (kids:List V):vK kids = kids.map vC:=by unfold vK; exact map_congr_left fun x _ => x.pc_eq
theorem zb9 (x:V):erL (vC x) = vC x:=by rw [<- V.pc_eq]; exact D.pc_er _
theorem vK_er (kids:List V):erLL (vK kids) = vK kids:=by
 have:vK kids = D.pcE (kids.map V.d):=by rw [D.pcE_map,map_map]; rfl
 rw [this]; exact D.pcE_er _
mutual
theorem V.wfd:∀ x:V,x.d.wf
 | .mk k n e s kids => by
  simp only [V.d,D.wf,D.wfs];exact ⟨rfl,rfl,rfl,rfl,⟨fun e he => by rw [V.ds_map] at he; obtain ⟨y,_,rfl⟩:=mem_map.1 he; exact V.width y,V.wfds kids⟩,trivial⟩
theorem V.wfds:∀ xs:List V,D.wfs (V.ds xs)
 | [] => trivial
 | x :: xs => ⟨V.wfd x,V.wfds xs⟩
end
theorem zgl (kids:List V):∀ e ∈ vK kids,e.length = 5:=by
 intro e he; rw [zcj] at he; obtain ⟨x,_,rfl⟩:=mem_map.1 he; rfl
theorem zbo {kids:List V} {j:Nat} (h:j < kids.length):(vK kids)[j]? = some (vC kids[j]):=by
 rw [zcj,getElem?_map,getElem?_eq_getElem h]; rfl
theorem zaY (kids:List V):(vK kids).length = kids.length:=by simp [vK]
theorem zbA (x:V):PV.dats [.ag (vC x)] = some [.ag (vC x)]:=congrArg (fun l => some [PV.ag l]) (zb9 x)
end
section
mutual
def V.tagB (p q:Int):V -> Bool
 | .mk k n _ _ ks => (decide (k = 9) && (decide (n = p) || decide (n = q))) || V.tagsB p q ks
def V.tagsB (p q:Int):List V -> Bool
 | [] => false
 | v :: vs => v.tagB p q || V.tagsB p q vs
end
theorem V.tagB_eq (p q:Int) (v:V):v.tagB p q = ((decide (v.kind = 9) && (decide (v.num = p) || decide (v.num = q))) || V.tagsB p q v.kids):=by obtain ⟨k,n,e,s,ks⟩:=v; rfl
theorem V.tagsB_app (p q:Int):∀ a b:List V,V.tagsB p q (a ++ b) = (V.tagsB p q a || V.tagsB p q b)
 | [],b => by simp [V.tagsB]
 | x :: a,b => by simp [V.tagsB,V.tagsB_app p q a b,Bool.or_assoc]
theorem V.tagsB_snoc {p q:Int} {ls:List V} {i:Nat} (h:i < ls.length) (h1:V.tagsB p q (ls.take i) = false) (h2:ls[i].tagB p q = false):V.tagsB p q (ls.take (i + 1)) = false:=by
 rw [take_succ_eq_append_getElem h,V.tagsB_app,h1]; simp [V.tagsB,h2]
theorem V.tagsB_get {p q:Int}:∀ {ls:List V} {i:Nat} (h:i < ls.length),ls[i].tagB p q = true -> V.tagsB p q ls = true
 | [],i,h,_ => absurd h (by simp)
 | x :: ls,0,_,h1 => by simp only [getElem_cons_zero] at h1; simp [V.tagsB,h1]
 | x :: ls,i + 1,h,h1 => by
  simp only [getElem_cons_succ] at h1;simp [V.tagsB,V.tagsB_get (Nat.lt_of_succ_lt_succ h) h1]
def V.cfits (v:V):Bool:=v.ok && !v.tagB 4 4
theorem V.nodes_eq0 (v:V):v.nodes = 1 + V.nodess v.kids:=by obtain ⟨k,n,e,s,ks⟩:=v; rfl
theorem zcW:∀ v:V,v.nodes <= v.bulk + 1
 | .mk k n e s kids => by
  have:∀ l:List V,(∀ x ∈ l,x.nodes <= x.bulk + 1) -> V.nodess l <= V.bulks l + l.length:=by
   intro l
   induction l with
   | nil => intro _; simp [V.nodess]
   | cons a r ih => intro h; have:=h a (by simp); have:=ih fun x hx => h x (by simp [hx]); simp only [V.nodess,V.bulks,length_cons]; omega
  have:=this kids fun x hx => zcW x
  simp only [V.nodes,V.bulk]; omega
end
section
def cnum (n:Int):L8:=if 0 <= n then hd 0 n.toNat else hd 1 (-1 - n).toNat
def cborOwn (k n e:Int) (s:L8) (m:Nat):L8 :=
 if k = 0 then hd 7 22
 else if k = 1 \/ k = 2 then hd 7 (19 + k).toNat
 else if k = 3 then cnum n
 else if k = 4 then hd 6 4 ++ hd 4 2 ++ cnum e ++ cnum n
 else if k = 5 then hd 3 s.length ++ s
 else if k = 6 then hd 2 s.length ++ s
 else if k = 7 then hd 4 m
 else if k = 8 then hd 5 (m / 2)
 else hd 6 (IntKind.u64.wrap n).toNat
mutual
def V.cbor:V -> L8
 | .mk k n e s ks => cborOwn k n e s ks.length ++ if 0 <= k /\ k <= 6 then [] else V.cbors ks
def V.cbors:List V -> L8
 | [] => []
 | v :: vs => v.cbor ++ V.cbors vs
end
theorem V.cbor_eq (v:V):v.cbor = cborOwn v.kind v.num v.exp v.text v.kids.length ++ if 0 <= v.kind /\ v.kind <= 6 then [] else V.cbors v.kids:=by
 obtain ⟨k,n,e,s,ks⟩:=v;unfold V.cbor; rfl
theorem V.cbors_app:∀ a b:List V,V.cbors (a ++ b) = V.cbors a ++ V.cbors b
 | [],b => rfl
 | x :: a,b => by simp only [cons_append,V.cbors,V.cbors_app a b,append_assoc]
theorem V.cbors_snoc {ks:List V} {i:Nat} (h:i < ks.length):V.cbors (ks.take (i + 1)) = V.cbors (ks.take i) ++ ks[i].cbor:=by
 rw [take_succ_eq_append_getElem h,V.cbors_app]; simp [V.cbors]
theorem V.cbors_take (ks:List V) (i:Nat):(V.cbors (ks.take i)).length <= (V.cbors ks).length:=by
 have:=V.cbors_app (ks.take i) (ks.drop i)
 rw [take_append_drop] at this;rw [this,length_append]; omega
theorem zd5 (n:Int):(cnum n).length <= 9:=by
 unfold cnum; split
 ·exact (za3 _ _).1
 ·exact (za3 _ _).1
theorem zhr (k n e:Int) (s:L8) (m:Nat):(cborOwn k n e s m).length <= 36 + s.length:=by
 have h:=fun a b => (za3 a b).1
 have h1:=zd5 n;have h2:=zd5 e;unfold cborOwn
 repeat' split
 all_goals try simp only [length_append]
 ·have:=h 7 22; omega
 ·have:=h 7 (19 + k).toNat; omega
 ·omega
 ·have:=h 6 4; have:=h 4 2; omega
 ·have:=h 3 s.length; omega
 ·have:=h 2 s.length; omega
 ·have:=h 4 m; omega
 ·have:=h 5 (m / 2); omega
 ·have:=h 6 (IntKind.u64.wrap n).toNat; omega
mutual
theorem V.cbor_len:∀ v:V,v.cbor.length <= 36 * v.nodes + v.bulk
 | .mk k n e s ks => by
  have h1:=zhr k n e s ks.length;have h2:=V.cbors_len ks;simp only [V.cbor,V.nodes,V.bulk,length_append];split
  ·simp only [length_nil]; omega
  ·omega
theorem V.cbors_len:∀ vs:List V,(V.cbors vs).length <= 36 * V.nodess vs + V.bulks vs
 | [] => by simp [V.cbors]
 | v :: vs => by
  have h1:=V.cbor_len v;have h2:=V.cbors_len vs;simp only [V.cbors,V.nodess,V.bulks,length_append]; omega
end
end
section
def m_s_CborFits:M:=so [qo 1 (.box 0),qo 2 (.mv (cB false))] (so [qL 3 5 1,qc 4 61 [3] 1,qm 5 4,⟨some 6,.load true 5 1,some (5,true),[]⟩,⟨some 7,.call 121 [6],some (5,true),[.f 1]⟩,⟨some 8,.not 7,some (5,true),[]⟩,qo 9 (.pick 5 8 (cB false)),qm 2 9] .ret)
theorem zfs:look Tryz.prog 100 = some (10,m_s_CborFits,[.tm 2]):=by kernel_rfl
def m_s_l10Tag:M:=so [qo 3 (.box 0),qo 6 (.mv (cB false))] (.seq (so [qF 8 0 3,ql 9 1 8,qo 10 (.bin .eql false 9 (ci 9)),qm 11 10,⟨some 12,.fld 1 3,some (11,true),[]⟩,⟨some 13,.load false 1 12,some (11,true),[]⟩,qg 14 1 11 true,⟨some 15,.bin .eql false 13 14,some (11,true),[]⟩,qg 16 15 11 true,⟨some 17,.fld 1 3,some (16,false),[]⟩,⟨some 18,.load false 1 17,some (16,false),[]⟩,qg 19 2 16 false,⟨some 20,.bin .eql false 18 19,some (16,false),[]⟩,⟨some 21,.pick 16 (cB true) 20,some (11,true),[]⟩,qo 22 (.pick 11 21 (cB false))] (.cond 22 (so [qo 6 (.mv (cB true))] .ret) .skip)) (.seq (so [qo 7 (.mv (ci 0))] (.block 0 (.loop (.seq (so [qm 23 7,qF 24 4 3,ql 25 1 24,qo 26 (.len 25),qo 27 (.bin .lss false 23 26)] (.cond 27 .skip (.exit 0))) (.seq (.block 1 (so [qF 30 4 3,ql 31 1 30,qm 32 7,qo 33 (.ix 5 31 32),qL 34 5 33,qm 35 1,qm 36 2,qc 37 101 [34,35,36] 1] (.cond 37 (so [qo 6 (.mv (cB true))] .ret) .skip))) (.ops [qm 28 7,qo 29 (.bin .add false 28 (ci 1)),qm 7 29])))))) (so [qo 6 (.mv (cB false))] .ret)))
theorem zhs:look Tryz.prog 101 = some (38,m_s_l10Tag,[.tm 6]):=by kernel_rfl
def m_s_l05Four:M:=so [qo 1 (.box 0),qo 2 (.mv (cB false))] (.seq (so [qF 4 0 1,ql 5 1 4,qo 6 (.bin .eql false 5 (ci 9)),qm 7 6,⟨some 8,.fld 1 1,some (7,true),[]⟩,⟨some 9,.load false 1 8,some (7,true),[]⟩,⟨some 10,.bin .eql false 9 (ci 4),some (7,true),[]⟩,qo 11 (.pick 7 10 (cB false))] (.cond 11 (so [qo 2 (.mv (cB true))] .ret) .skip)) (.seq (so [qo 3 (.mv (ci 0))] (.block 0 (.loop (.seq (so [qm 12 3,qF 13 4 1,ql 14 1 13,qo 15 (.len 14),qo 16 (.bin .lss false 12 15)] (.cond 16 .skip (.exit 0))) (.seq (.block 1 (so [qF 19 4 1,ql 20 1 19,qm 21 3,qo 22 (.ix 5 20 21),qL 23 5 22,qc 24 121 [23] 1] (.cond 24 (so [qo 2 (.mv (cB true))] .ret) .skip))) (.ops [qm 17 3,qo 18 (.bin .add false 17 (ci 1)),qm 3 18])))))) (so [qo 2 (.mv (cB false))] .ret)))
theorem zgm:look Tryz.prog 121 = some (25,m_s_l05Four,[.tm 2]):=by kernel_rfl
end
section
section
variable {E:Env} {K:St -> Prop} {tm:Nat -> PV} {bx:LP PC} {nt d:Nat} {live:List Nat} {r:List MOpr} {g:Option (Nat × Bool)} {c:List X} {x y:X} {a b n:Int}
theorem zam (hg:gd g tm = some true) (hx:ev tm x = .d (pI a)) (hy:ev tm y = .d (pI b)) (hn:a + b = n) (h1:-9223372036854775808 <= n /\ n <= 9223372036854775807) (h:po E r K ⟨up d (.d (pI n)) tm,bx,nt,live⟩):po E (⟨some d,.bin .add false x y,g,c⟩ :: r) K ⟨tm,bx,nt,live⟩:=by
 refine po_q hg ?_ h;simp only [qf,hx,hy,pI];show some (PV.d (.v (.int .i64 (IntKind.wrap .i64 (a + b))))) = some (PV.d (.v (.int .i64 n)));have e:IntKind.wrap .i64 (a + b) = n:=by rw [hn,IntKind.wrap_i64]; omega
 rw [e]
theorem zaK (hg:gd g tm = some true) (hx:ev tm x = .d (pI a)) (hy:ev tm y = .d (pI b)) (hn:a - b = n) (h1:-9223372036854775808 <= n /\ n <= 9223372036854775807) (h:po E r K ⟨up d (.d (pI n)) tm,bx,nt,live⟩):po E (⟨some d,.bin .sub false x y,g,c⟩ :: r) K ⟨tm,bx,nt,live⟩:=by
 refine po_q hg ?_ h;simp only [qf,hx,hy,pI];show some (PV.d (.v (.int .i64 (IntKind.wrap .i64 (a - b))))) = some (PV.d (.v (.int .i64 n)));have e:IntKind.wrap .i64 (a - b) = n:=by rw [hn,IntKind.wrap_i64]; omega
 rw [e]
theorem zcc (hg:gd g tm = some true) (hx:ev tm x = .d (pI a)) (hy:ev tm y = .d (pI b)) (hn:a * b = n) (h1:-9223372036854775808 <= n /\ n <= 9223372036854775807) (h:po E r K ⟨up d (.d (pI n)) tm,bx,nt,live⟩):po E (⟨some d,.bin .mul false x y,g,c⟩ :: r) K ⟨tm,bx,nt,live⟩:=by
 refine po_q hg ?_ h;simp only [qf,hx,hy,pI];show some (PV.d (.v (.int .i64 (IntKind.wrap .i64 (a * b))))) = some (PV.d (.v (.int .i64 n)));have e:IntKind.wrap .i64 (a * b) = n:=by rw [hn,IntKind.wrap_i64]; omega
 rw [e]
end
theorem zax {E:Env} {K:St -> Prop} {tm:Nat -> PV} {bx:LP PC} {nt d:Nat} {live:List Nat} {r:List MOpr} {g:Option (Nat × Bool)} {c:List X} {x y:X} {la lb:L8} (hg:gd g tm = some true) (hx:ev tm x = .d (pS la)) (hy:ev tm y = .d (pS lb)) (hl:la.length + lb.length <= 9223372036854775807) (h:po E r K ⟨up d (.d (pS (la ++ lb))) tm,bx,nt,live⟩):po E (⟨some d,.bin .add false x y,g,c⟩ :: r) K ⟨tm,bx,nt,live⟩:=by
 refine po_q hg ?_ h;simp only [qf,hx,hy,pS];have e1:(⟨la.toArray⟩:ByteArray).size = la.length:=by simp [ByteArray.size]
 have e2:(⟨lb.toArray⟩:ByteArray).size = lb.length:=by simp [ByteArray.size]
 show Option.map _ (if (⟨la.toArray⟩:ByteArray).size + (⟨lb.toArray⟩:ByteArray).size <= 9223372036854775807 then some (Value.string ((⟨la.toArray⟩:ByteArray) ++ ⟨lb.toArray⟩)) else none) = _;rw [if_pos (by rw [e1,e2]; exact hl),zdL];rfl
theorem OwnL.pushA {nt nt' t:Nat} {live:List Nat} {a b:List PC} {rows:LP PC} {e:List PC} (h:OwnL nt live (a ++ .sl t rows :: b)) (ht:t = 1 /\ rows = [] \/ 2 <= t) (hn:nt <= nt') (he:ownedL e = true) (hd:(toksL e).Nodup) (hm:∀ t ∈ toksL e,nt <= t /\ t < nt') (hnt:2 <= nt') :
  OwnL (nt' + 1) (nt' :: (toksL e ++ live).filter (· != t)) (a ++ .sl nt' (rows ++ [e]) :: b):=by
 rcases ht with ⟨rfl,rfl⟩ | h2
 ·exact h.push1 hn he hd hm hnt
 ·exact h.push h2 hn he hd hm hnt
theorem OwnL.app {nt t:Nat} {live:List Nat} {a b:List PC} {rows:LP PC} (h:OwnL nt live (a ++ .sl t rows :: b)) (ht:t = 1 /\ rows = [] \/ 2 <= t) (l:List Nat):t = 1 \/ t ∈ l ++ live:=by
 rcases ht with ht | h2
 ·exact .inl ht.1
 ·refine .inr (mem_append.2 (.inr (h.mem t ?_).1))
  rw [zau]; simp [toksL,PC.toks,h2]
theorem zck {tm:Nat -> PV} {bx:LP PC} {nt:Nat} {live:List Nat} {n t p:Nat} {cs:List PC} (ht:tm t = .ref p 0) (hb:bx[p]? = some cs) (hn:cs.length = n):ressM ⟨tm,bx,nt,live⟩ [.cell true n t] = some [.ag cs]:=by
 simp only [ressM,resM,ht,hb,Nat.zero_add,drop_zero,ldv,hn,Nat.le_refl,if_true];rw [<- hn,take_length]
end
section
noncomputable def ngl:Nat:=Tryz.prog.globals.size
noncomputable def env (T:World -> Prop) (hT:Low ngl T):Env:=⟨Tryz.prog,ngl,T,hT,by kernel_rfl⟩
theorem zaj {T:World -> Prop} {hT:Low ngl T} {f:Nat} {r:Nat × M × List MRes} (h:look Tryz.prog f = some r):look (env T hT).P f = some r:=h
end
section
theorem RepCs.append {S:Nat -> Prop} {w:World}:∀ {ds es:List D} {c1 c2:List Value},RepCs S w ds c1 -> RepCs S w es c2 -> RepCs S w (ds ++ es) (c1 ++ c2)
 | [],es,c1,c2,h,k => by simp only [RepCs] at h; subst h; exact k
 | d :: ds,es,c1,c2,h,k => by
  simp only [RepCs] at h; obtain ⟨e1,e2,rfl,hl,h1,h2⟩:=h
  simp only [cons_append,RepCs];exact ⟨e1,e2 ++ c2,by simp,hl,h1,RepCs.append h2 k⟩
theorem RepCs.one {S:Nat -> Prop} {w:World} {d:D} {c:List Value} (h:RepC S w d c):RepCs S w [d] c:=by
 simp only [RepCs]; exact ⟨c,[],by simp,h.len,h,rfl⟩
section
variable {H:Type} {enc:TypeId × Value -> H} {P:Program} {w:World} {base:Nat} {spare:Nat -> Bool} {held:Bool}
theorem trod_sl {α:Type} {t e:TypeId} {n0:Nat} {f:α -> D} {ok:α -> Prop} (ht:P.underlying t = some (.slice e)) (hc:P.cellsOf e = n0) (hn:0 < n0) (hw:∀ x,D.width (f x) = n0)
  {fuel:Nat} (helem:∀ n cs y,n < fuel -> DataW.trod enc P w base spare held n e cs = some y -> ∃ x:α,Rd w (f x) cs /\ ok x)
  {cs:List Value} {y:DataW H × List MemPlace} (h:DataW.trod enc P w base spare held fuel t cs = some y) :
  ∃ (xs:List α) (v:Value),cs = [v] /\ Rd w (.sl n0 (xs.map f)) [v] /\ (∀ x ∈ xs,ok x) /\ xs.length <= maxLen:=by
 rcases DataW.trod_slice ht h with ⟨rfl,_⟩ | ⟨a,len,cap,elems,rest,n,hfu,rfl,_,_,hl,hm,hlen,hel,_,_⟩
 ·exact ⟨[],_,rfl,by simp [Rd,RepC],by simp,by simp⟩
 ·have key:∀ k,k <= len -> ∃ (xs:List α) (flat:List Value),xs.length = k /\ flat.length = n0 * k /\ RepCs (· < w.heap.size) w (xs.map f) flat /\ (∀ x ∈ xs,ok x) /\ ∀ (j:Nat) u,flat[j]? = some u -> w.cell? (a.add j) = some u:=by
   intro k
   induction k with
   | zero => intro _; exact ⟨[],[],rfl,rfl,by simp [RepCs],by simp,by simp⟩
   | succ k ih =>
    intro hk;obtain ⟨xs,flat,h1,h2,h3,h4,h5⟩:=ih (by omega);have hek:=hel k (by omega);rw [getElem?_eq_getElem (by omega)] at hek
    cases hcs:w.cells? base (a.add (k * P.cellsOf e)) (P.cellsOf e) with
    | none => rw [hcs] at hek; simp at hek
    | some cs' =>
     rw [hcs,Option.bind_some] at hek;obtain ⟨x,hx1,hx2⟩:=helem n _ _ (by omega) hek;obtain ⟨_,hcl,hcc⟩:=World.cells?_some hcs;refine ⟨xs ++ [x],flat ++ cs',by simp [h1],by rw [length_append,h2,hcl,hc,Nat.mul_succ],?_,?_,?_⟩
     ·rw [map_append]; exact RepCs.append h3 (RepCs.one hx1)
     ·intro z hz; rcases mem_append.1 hz with hz | hz
      ·exact h4 z hz
      ·simp at hz; subst hz; exact hx2
     ·intro j u hj
      by_cases hjl:j < flat.length
      ·rw [getElem?_append_left hjl] at hj; exact h5 j u hj
      ·rw [getElem?_append_right (by omega)] at hj
       have hjn:j - flat.length < cs'.length:=by
        rcases Nat.lt_or_ge (j - flat.length) cs'.length with h | h
        ·exact h
        ·simp [getElem?_eq_none h] at hj
       have:=hcc (j - flat.length) (by omega)
       rw [Addr.add_add,hc,h2,Nat.mul_comm k n0,show n0 * k + (j - n0 * k) = j by omega] at this;rw [this,<- h2]; exact hj
  obtain ⟨xs,flat,h1,h2,h3,h4,h5⟩:=key len lR;refine ⟨xs,_,rfl,?_,h4,by omega⟩;simp only [Rd,RepC];refine ⟨some a,cap,by simp [h1],fun hne => ?_⟩
  have hpos:0 < len:=by
   rcases Nat.eq_zero_or_pos len with h0 | h0
   ·exfalso; apply hne; rw [map_eq_nil_iff,<- length_eq_zero_iff]; omega
   ·exact h0
  have hfl:0 < flat.length:=by rw [h2]; exact Nat.mul_pos hn hpos
  have hc0:=h5 0 flat[0] (by simp)
  have hsp:a.spot = none:=by
   have:=World.cell?_spot hc0
   simpa [Addr.add] using this
  obtain ⟨b,o,s⟩:=a;simp only at hsp;subst hsp
  have hb:b < w.heap.size:=by
   rw [za0] at hc0;by_cases hlt:b < w.heap.size
   ·exact hlt
   ·simp [World.cell?,Array.getElem?_eq_none (Nat.not_lt.1 hlt)] at hc0
  refine ⟨hn,by simpa [h1] using hl,hm,b,o,flat,rfl,hb,fun j u hj => ?_,?_,h3⟩
  ·have:=h5 j u hj; rwa [za0] at this
  ·intro x hx; rw [mem_map] at hx; obtain ⟨z,_,rfl⟩:=hx; exact hw z
end
end
end Go.Proofs.YtmmcehkdnnolkaaGreatDoor
/- Plain facts on UTF-8: a sign by its bytes, a text by its signs. No program in sight. -/
namespace Go.Proofs.YtmmcehkdnnolkaaGreatDoor
open Go.RowKit Go.Lib
def utf (n:Nat):List UInt8 :=
 if 1114111 < n \/ (55296 <= n /\ n <= 57343) then []
 else if n < 128 then [byteOf n]
 else if n < 2048 then [byteOf (192 + n / 64),byteOf (128 + n % 64)]
 else if n < 65536 then [byteOf (224 + n / 4096),byteOf (128 + n / 64 % 64),byteOf (128 + n % 64)]
 else [byteOf (240 + n / 262144),byteOf (128 + n / 4096 % 64),byteOf (128 + n / 64 % 64),byteOf (128 + n % 64)]
def many (b:Nat):Nat × Nat :=
 if b < 128 then (1,b) else if 192 <= b /\ b <= 223 then (2,b % 32) else if 224 <= b /\ b <= 239 then (3,b % 16) else if 240 <= b /\ b <= 247 then (4,b % 8) else (0,0)
def sgnV (n:Nat) (l:List UInt8):Nat:=l.foldl (fun n b => n * 64 + b.toNat % 64) n
def sgn (l:List UInt8):Option (Nat × Nat) :=
 if l = [] \/ ((decodeL l).1 = 65533 /\ (decodeL l).2 = 1) then none else some (decodeL l)
theorem byteOf_eq {m:Nat} {b:UInt8}:byteOf m = b ↔ m % 256 = b.toNat:=by
 rw [<- UInt8.toNat_inj,zaJ]
theorem zdB (b:Nat):(b < 128 /\ many b = (1,b)) \/ (192 <= b /\ b <= 223 /\ many b = (2,b % 32)) \/ (224 <= b /\ b <= 239 /\ many b = (3,b % 16)) \/ (240 <= b /\ b <= 247 /\ many b = (4,b % 8)) \/ ((128 <= b /\ b < 192 \/ 248 <= b) /\ many b = (0,0)):=by
 unfold many;by_cases h1:b < 128
 ·simp [h1]
 by_cases h2:192 <= b /\ b <= 223
 ·simp [h1,h2]
 by_cases h3:224 <= b /\ b <= 239
 ·rw [if_neg h1,if_neg h2,if_pos h3]; simp [h3]
 by_cases h4:240 <= b /\ b <= 247
 ·rw [if_neg h1,if_neg h2,if_neg h3,if_pos h4]; simp [h4]
 ·rw [if_neg h1,if_neg h2,if_neg h3,if_neg h4]; right; right; right; right; exact ⟨by omega,rfl⟩
theorem zd6 {n b0 b1 b2 b3 v m:Nat} {u l:List UInt8} {p:Prop} [Decidable p] (hp:¬ p) (c:Prop)
  (hy:c -> decodeN n b0 b1 b2 b3 = (v,m) /\ ¬ (v = 65533 /\ m = 1) /\ u = l) (hn:¬ c -> decodeN n b0 b1 b2 b3 = (65533,1) /\ u ≠ l) :
  (if (decodeN n b0 b1 b2 b3).1 = 65533 /\ (decodeN n b0 b1 b2 b3).2 = 1 then none else some (decodeN n b0 b1 b2 b3)) = if p \/ u ≠ l then none else some (v,m):=by
 by_cases hc:c
 ·obtain ⟨h1,h2,h3⟩:=hy hc
  rw [h1,if_neg h2,if_neg]; intro h; rcases h with h | h
  ·exact hp h
  ·exact h h3
 ·obtain ⟨h1,h3⟩:=hn hc
  rw [h1,if_pos ⟨rfl,rfl⟩,if_pos (.inr h3)]
theorem zcd {n b0 b1 b2 b3:Nat} (hb:128 <= b0) (h:n < 2 \/ (n < 3 /\ 224 <= b0) \/ (n < 4 /\ 240 <= b0)):decodeN n b0 b1 b2 b3 = (65533,1):=by
 unfold decodeN; rw [if_neg (by omega),if_neg (by omega),if_neg (by omega),if_neg (by omega)]
theorem sgn_many (b0:UInt8) (t:List UInt8) :
  sgn (b0 :: t) = if ((many b0.toNat).1 = 0 \/ t.length + 1 < (many b0.toNat).1) \/ utf (sgnV (many b0.toNat).2 (t.take ((many b0.toNat).1 - 1))) ≠ (b0 :: t).take (many b0.toNat).1 then none
   else some (sgnV (many b0.toNat).2 (t.take ((many b0.toNat).1 - 1)),(many b0.toNat).1):=by
 have hb0:=b0.toNat_lt;unfold sgn;rw [decodeL_N];simp only [List.cons_ne_nil,false_or,List.length_cons,List.getD_cons_zero]
 rcases zdB b0.toNat with ⟨h,e⟩ | ⟨h1,h2,e⟩ | ⟨h1,h2,e⟩ | ⟨h1,h2,e⟩ | ⟨h,e⟩
 ·rw [e]
  refine zd6 (by simp) True (fun _ => ⟨?_,by simp [sgnV]; omega,?_⟩) (fun h => absurd trivial h)
  ·rw [decodeN_ascii _ _ _ _ _ h]; simp [sgnV]
  ·simp only [sgnV,List.take_zero,Nat.sub_self,List.foldl_nil,List.take_succ_cons]
   unfold utf; rw [if_neg (by omega),if_pos h,List.cons.injEq]; exact ⟨byteOf_eq.2 (by omega),rfl⟩
 ·rw [e]
  match t with
  | [] => rw [zcd (by omega) (by simp; try omega),if_pos ⟨rfl,rfl⟩,if_pos (by simp)]
  | b1 :: t =>
   have hb1:=b1.toNat_lt;simp only [List.getD_cons_succ,List.getD_cons_zero,sgnV,Nat.reduceSub,List.take_succ_cons,List.take_zero,List.foldl_cons,List.foldl_nil,List.length_cons];refine zd6 (by omega) (b1.toNat / 64 = 2 /\ 128 <= b0.toNat % 32 * 64 + b1.toNat % 64) (fun hc => ⟨?_,by omega,?_⟩) (fun hc => ⟨?_,?_⟩)
   ·unfold decodeN; rw [if_neg (by omega),if_pos (by omega),if_pos (by omega)]
   ·unfold utf; rw [if_neg (by omega),if_neg (by omega),if_pos (by omega),List.cons.injEq,List.cons.injEq]
    exact ⟨byteOf_eq.2 (by omega),byteOf_eq.2 (by omega),rfl⟩
   ·unfold decodeN; rw [if_neg (by omega)]
    by_cases h:b1.toNat / 64 = 2
    ·rw [if_pos (by omega),if_neg (by omega)]
    ·rw [if_neg (by omega),if_neg (by omega),if_neg (by omega)]
   ·unfold utf; rw [if_neg (by omega)]
    by_cases h:128 <= b0.toNat % 32 * 64 + b1.toNat % 64
    ·rw [if_neg (by omega),if_pos (by omega)]
     intro he; simp only [List.cons.injEq,byteOf_eq,and_true] at he; omega
    ·rw [if_pos (by omega)]; simp
 ·rw [e]
  match t with
  | [] => rw [zcd (by omega) (by simp; try omega),if_pos ⟨rfl,rfl⟩,if_pos (by simp)]
  | [b1] => rw [zcd (by omega) (by simp; try omega),if_pos ⟨rfl,rfl⟩,if_pos (by simp)]
  | b1 :: b2 :: t =>
   have hb1:=b1.toNat_lt;have hb2:=b2.toNat_lt;simp only [List.getD_cons_succ,List.getD_cons_zero,sgnV,Nat.reduceSub,List.take_succ_cons,List.take_zero,List.foldl_cons,List.foldl_nil,List.length_cons];obtain ⟨v,hv⟩:∃ v,(b0.toNat % 16 * 64 + b1.toNat % 64) * 64 + b2.toNat % 64 = v:=⟨_,rfl⟩;refine zd6 (by omega) (b1.toNat / 64 = 2 /\ b2.toNat / 64 = 2 /\ 2048 <= v /\ ¬ (55296 <= v /\ v <= 57343)) (fun hc => ⟨?_,by omega,?_⟩) (fun hc => ⟨?_,?_⟩)
   ·rw [hv]; unfold decodeN; rw [if_neg (by omega),if_neg (by omega),if_pos (by omega),if_pos (by omega)]; simp; omega
   ·rw [hv]; unfold utf; rw [if_neg (by omega),if_neg (by omega),if_neg (by omega),if_pos (by omega)]; simp only [List.cons.injEq,and_true]
    exact ⟨byteOf_eq.2 (by omega),byteOf_eq.2 (by omega),byteOf_eq.2 (by omega)⟩
   ·unfold decodeN; rw [if_neg (by omega),if_neg (by omega)]
    by_cases h:b1.toNat / 64 = 2 /\ b2.toNat / 64 = 2
    ·rw [if_pos (by omega),if_neg (by omega)]
    ·rw [if_neg (by omega),if_neg (by omega)]
   ·rw [hv]; unfold utf
    by_cases h:55296 <= v /\ v <= 57343
    ·rw [if_pos (by omega)]; simp
    by_cases h:2048 <= v
    ·rw [if_neg (by omega),if_neg (by omega),if_neg (by omega),if_pos (by omega)]
     intro he; simp only [List.cons.injEq,byteOf_eq,and_true] at he; omega
    ·rw [if_neg (by omega)]; split
     ·simp
     ·rw [if_pos (by omega)]; simp
 ·rw [e]
  match t with
  | [] => rw [zcd (by omega) (by simp; try omega),if_pos ⟨rfl,rfl⟩,if_pos (by simp)]
  | [b1] => rw [zcd (by omega) (by simp; try omega),if_pos ⟨rfl,rfl⟩,if_pos (by simp)]
  | [b1,b2] => rw [zcd (by omega) (by simp; try omega),if_pos ⟨rfl,rfl⟩,if_pos (by simp)]
  | b1 :: b2 :: b3 :: t =>
   have hb1:=b1.toNat_lt;have hb2:=b2.toNat_lt;have hb3:=b3.toNat_lt;simp only [List.getD_cons_succ,List.getD_cons_zero,sgnV,Nat.reduceSub,List.take_succ_cons,List.take_zero,List.foldl_cons,List.foldl_nil,List.length_cons];obtain ⟨v,hv⟩:∃ v,((b0.toNat % 8 * 64 + b1.toNat % 64) * 64 + b2.toNat % 64) * 64 + b3.toNat % 64 = v:=⟨_,rfl⟩;refine zd6 (by omega) (b1.toNat / 64 = 2 /\ b2.toNat / 64 = 2 /\ b3.toNat / 64 = 2 /\ 65536 <= v /\ v <= 1114111) (fun hc => ⟨?_,by omega,?_⟩) (fun hc => ⟨?_,?_⟩)
   ·rw [hv]; unfold decodeN; rw [if_neg (by omega),if_neg (by omega),if_neg (by omega),if_pos (by omega),if_pos (by omega)]; simp; omega
   ·rw [hv]; unfold utf; rw [if_neg (by omega),if_neg (by omega),if_neg (by omega),if_neg (by omega)]; simp only [List.cons.injEq,and_true]
    exact ⟨byteOf_eq.2 (by omega),byteOf_eq.2 (by omega),byteOf_eq.2 (by omega),byteOf_eq.2 (by omega)⟩
   ·unfold decodeN; rw [if_neg (by omega),if_neg (by omega),if_neg (by omega)]
    by_cases h:b1.toNat / 64 = 2 /\ b2.toNat / 64 = 2 /\ b3.toNat / 64 = 2
    ·rw [if_pos (by omega),if_neg (by omega)]
    ·rw [if_neg (by omega)]
   ·rw [hv]; unfold utf
    by_cases h:1114111 < v \/ (55296 <= v /\ v <= 57343)
    ·rw [if_pos (by omega)]; simp
    by_cases h:65536 <= v
    ·rw [if_neg (by omega),if_neg (by omega),if_neg (by omega),if_neg (by omega)]
     intro he; simp only [List.cons.injEq,byteOf_eq,and_true] at he; omega
    ·rw [if_neg (by omega)]; split
     ·simp
     split
     ·simp
     ·rw [if_pos (by omega)]; simp
 ·rw [e,if_pos (by rw [decodeN_bad _ _ _ _ _ (by omega)]; simp),if_pos (by simp)]
theorem sgn_bd {l:List UInt8} {n m:Nat} (h:sgn l = some (n,m)):n <= 1114111 /\ 1 <= m /\ m <= l.length:=by
 unfold sgn at h; split at h
 ·cases h
 ·rename_i hc
  simp only [Option.some.injEq] at h;have h1:=decodeL_rune l; have h2:=decodeL_width l; have h3:=decodeL_le l (fun e => hc (.inl e))
  rw [h] at h1 h2 h3; exact ⟨h1,h2,h3⟩
theorem validD_sgn (l:List UInt8) (hne:l ≠ []):validD l = match sgn l with | none => false | some (_,m) => validD (l.drop m):=by
 rw [validD_step l hne]; unfold sgn
 by_cases h:(decodeL l).1 = 65533 /\ (decodeL l).2 = 1
 ·rw [if_pos h,if_pos (.inr h)]
 ·rw [if_neg h,if_neg (by simp [hne,h])]
theorem many_bd (b:Nat) (hb:b < 256):(many b).1 <= 4 /\ (many b).2 < 256:=by
 rcases zdB b with ⟨_,e⟩ | ⟨_,_,e⟩ | ⟨_,_,e⟩ | ⟨_,_,e⟩ | ⟨_,e⟩ <;> rw [e] <;> simp <;> omega
theorem sgnV_snoc (v:Nat) (t:List UInt8) (j:Nat) (h:j < t.length):sgnV v (t.take (j + 1)) = sgnV v (t.take j) * 64 + t[j].toNat % 64:=by
 unfold sgnV; rw [zga t j h,List.foldl_append]; rfl
theorem sgnV_lt (t:List UInt8):∀ v,sgnV v t < (v + 1) * 64 ^ t.length:=by
 induction t with
 | nil => intro v; simp [sgnV]
 | cons b t ih =>
  intro v;have h1:=ih (v * 64 + b.toNat % 64);have h2:(v * 64 + b.toNat % 64 + 1) <= (v + 1) * 64:=by omega
  have h3:=Nat.mul_le_mul_right (64 ^ t.length) h2;show sgnV (v * 64 + b.toNat % 64) t < _;rw [List.length_cons,Nat.pow_succ,Nat.mul_comm (64 ^ t.length) 64,<- Nat.mul_assoc]; omega
theorem sgnV_bd (v:Nat) (t:List UInt8) (j:Nat) (hv:v < 256) (hj:j <= 3):sgnV v (t.take j) < 67108864:=by
 have h1:=sgnV_lt (t.take j) v;have h2:(t.take j).length <= 3:=by rw [List.length_take]; omega
 have h3:64 ^ (t.take j).length <= 64 ^ 3:=Nat.pow_le_pow_right (by omega) h2;have h4:(v + 1) * 64 ^ (t.take j).length <= 256 * 64 ^ 3:=Nat.mul_le_mul (by omega) h3;omega
def signAt (l:List UInt8) (i:Int):Int × Int :=
 if 0 <= i /\ i < l.length then (match sgn (l.drop i.toNat) with | none => (-1,-1) | some (n,m) => ((n:Int),i + m)) else (-1,-1)
theorem signAt_far {l:List UInt8} {i:Int} (h:¬ (0 <= i /\ i < l.length)):signAt l i = (-1,-1):=by unfold signAt; rw [if_neg h]
theorem zcX {l:List UInt8} {k:Nat} (h:sgn (l.drop k) = none):signAt l k = (-1,-1):=by
 unfold signAt; split
 ·rw [Int.toNat_natCast,h]
 ·rfl
theorem zen {l:List UInt8} {k n m:Nat} (hk:k < l.length) (h:sgn (l.drop k) = some (n,m)):signAt l k = ((n:Int),(k:Int) + m):=by
 unfold signAt; rw [if_pos (by omega),Int.toNat_natCast,h]
end Go.Proofs.YtmmcehkdnnolkaaGreatDoor
/- Masks of integers of 64 bits and of bytes, as remainders. No program in sight. -/
namespace Go.Proofs.YtmmcehkdnnolkaaGreatDoor
open Go.RowKit
theorem zbO (x:Int) (k:Nat) (hk:k <= 62) (m:Int) (hm:m = 2 ^ k - 1):bits .and .i64 x m = x % 2 ^ k:=by
 subst hm;have hp:(2:Nat) ^ k <= 2 ^ 62:=Nat.pow_le_pow_right (by omega) hk;have h0:(1:Nat) <= 2 ^ k:=Nat.one_le_two_pow;have e:((2:Int) ^ k - 1) = ((2 ^ k - 1:Nat):Int):=by rw [Int.natCast_sub h0]; simp
 have hm:(BitVec.ofInt 64 ((2:Int) ^ k - 1)).toNat = 2 ^ k - 1:=by
  rw [e,BitVec.ofInt_natCast,BitVec.toNat_ofNat]; exact Nat.mod_eq_of_lt (by omega)
 show IntKind.i64.wrap ((BitVec.ofInt 64 x &&& BitVec.ofInt 64 ((2:Int) ^ k - 1)).toNat:Int) = _;rw [BitVec.toNat_and,hm,Nat.and_two_pow_sub_one_eq_mod,BitVec.toNat_ofInt]
 have hd:((2 ^ k:Nat):Int) ∣ ((2 ^ 64:Nat):Int):=by
  have:(2:Nat) ^ k ∣ 2 ^ 64:=Nat.pow_dvd_pow 2 (by omega)
  exact Int.natCast_dvd_natCast.2 this
 have h1:(((x % ((2 ^ 64:Nat):Int)).toNat % 2 ^ k:Nat):Int) = x % ((2 ^ k:Nat):Int):=by
  rw [Int.natCast_emod,Int.toNat_of_nonneg (Int.emod_nonneg _ (by decide)),Int.emod_emod_of_dvd _ hd]
 rw [h1];have h2:((2 ^ k:Nat):Int) = (2:Int) ^ k:=by simp
 have h3:(0:Int) < ((2 ^ k:Nat):Int):=by omega
 have h4:=Int.emod_nonneg x (show ((2 ^ k:Nat):Int) ≠ 0 by omega);have h5:=Int.emod_lt_of_pos x h3;rw [<- h2,IntKind.wrap_i64];omega
theorem m1 (x:Int):bits .and .i64 x 1 = x % 2:=zbO x 1 (by decide) 1 (by decide)
theorem m7 (x:Int):bits .and .i64 x 7 = x % 8:=zbO x 3 (by decide) 7 (by decide)
theorem m15 (x:Int):bits .and .i64 x 15 = x % 16:=zbO x 4 (by decide) 15 (by decide)
theorem m31 (x:Int):bits .and .i64 x 31 = x % 32:=zbO x 5 (by decide) 31 (by decide)
theorem m63 (x:Int):bits .and .i64 x 63 = x % 64:=zbO x 6 (by decide) 63 (by decide)
theorem m127 (x:Int):bits .and .i64 x 127 = x % 128:=zbO x 7 (by decide) 127 (by decide)
theorem m255 (x:Int):bits .and .i64 x 255 = x % 256:=zbO x 8 (by decide) 255 (by decide)
attribute [go_sem] m1 m7 m15 m31 m63 m127 m255
end Go.Proofs.YtmmcehkdnnolkaaGreatDoor
/- Whether a text is right: the contracts of PutSign, GetSign, Signs and TextOk of the reference. -/
namespace Go.Proofs.YtmmcehkdnnolkaaGreatDoor
open Go.RowKit Go.Lib
set_option maxRecDepth 10000 in
theorem zht (b:UInt8) (w:World) :
  Calls Tryz.prog 131 #[.int .i64 (b.toNat:Nat)] w fun e w' => e = .returned (.tuple #[.int .i64 ((many b.toNat).1:Nat),.int .i64 ((many b.toNat).2:Nat)]) /\ w = w':=by
 have hb:=b.toNat_lt;generalize b.toNat = n at *;have h0:(0:Int) <= n:=by omega
 rcases zdB n with ⟨h,e⟩ | ⟨h1,h2,e⟩ | ⟨h1,h2,e⟩ | ⟨h1,h2,e⟩ | ⟨h,e⟩
 ·have H:=Lib.hid e; clear e
  have n1:((n:Int) < 128):=by omega
  go_enter Tryz.func131,Tryz.ntmps131
  go_wp2
  go_ret2
  rw [H.out]; exact ⟨rfl,rfl⟩
 ·have H:=Lib.hid e; clear e
  have r1:inR n 192 223 = true:=zaM (by omega);have n1:¬ ((n:Int) < 128):=by omega
  clear h1 h2
  go_enter Tryz.func131,Tryz.ntmps131
  go_wp2_with (go_at_call 27; refine (zaT _ _ _ _).mono ?_; rintro e w' ⟨rfl,rfl⟩)
  go_ret2
  rw [H.out]; exact ⟨rfl,rfl⟩
 ·have H:=Lib.hid e; clear e
  have r1:inR n 192 223 = false:=zbk (by omega);have r2:inR n 224 239 = true:=zaM (by omega);have n1:¬ ((n:Int) < 128):=by omega
  clear h1 h2
  go_enter Tryz.func131,Tryz.ntmps131
  go_wp2_with (go_at_call 27; refine (zaT _ _ _ _).mono ?_; rintro e w' ⟨rfl,rfl⟩)
  go_ret2
  rw [H.out]; exact ⟨rfl,rfl⟩
 ·have H:=Lib.hid e; clear e
  have r1:inR n 192 223 = false:=zbk (by omega);have r2:inR n 224 239 = false:=zbk (by omega);have r3:inR n 240 247 = true:=zaM (by omega);have n1:¬ ((n:Int) < 128):=by omega
  clear h1 h2
  go_enter Tryz.func131,Tryz.ntmps131
  go_wp2_with (go_at_call 27; refine (zaT _ _ _ _).mono ?_; rintro e w' ⟨rfl,rfl⟩)
  go_ret2
  rw [H.out]; exact ⟨rfl,rfl⟩
 ·have H:=Lib.hid e; clear e
  have r1:inR n 192 223 = false:=zbk (by omega);have r2:inR n 224 239 = false:=zbk (by omega);have r3:inR n 240 247 = false:=zbk (by omega);have n1:¬ ((n:Int) < 128):=by omega
  clear h
  go_enter Tryz.func131,Tryz.ntmps131
  go_wp2_with (go_at_call 27; refine (zaT _ _ _ _).mono ?_; rintro e w' ⟨rfl,rfl⟩)
  go_ret2
  rw [H.out]; exact ⟨rfl,rfl⟩
def putSign (n:Int):List UInt8:=if n < 0 then [] else utf n.toNat
theorem zeo (n:Nat):putSign n = utf n:=by unfold putSign; rw [if_neg (by omega)]; simp
theorem zhu {n:Int} (h:¬ (0 <= n /\ n <= 1114111)):putSign n = []:=by
 unfold putSign; by_cases h0:n < 0
 ·rw [if_pos h0]
 ·rw [if_neg h0]; unfold utf; rw [if_pos (by omega)]
theorem zhv {n:Int} (h:55296 <= n /\ n <= 57343):putSign n = []:=by
 unfold putSign; rw [if_neg (by omega)]; unfold utf; rw [if_pos (by omega)]
set_option maxHeartbeats 400000 in
set_option maxRecDepth 10000 in
theorem zgn (n:Int) (w:World) (hn:i64ok n) :
  Calls Tryz.prog 132 #[.int .i64 n] w fun e w' => e = .returned (.string ⟨(putSign n).toArray⟩) /\ Below w.heap.size w w':=by
 obtain ⟨hn1,hn2⟩:=hn;by_cases hr:0 <= n /\ n <= 1114111
 ·have r1:inR n 0 1114111 = true:=zaM hr
  by_cases hs:55296 <= n /\ n <= 57343
  ·have r2:inR n 55296 57343 = true:=zaM hs
   have H:=Lib.hid (zhv hs);clear hr hs
   go_enter Tryz.func132,Tryz.ntmps132
   go_wp2_with (go_at_call 27; refine (zaT _ _ _ _).mono ?_; rintro e w' ⟨rfl,rfl⟩)
   go_ret;exact ⟨zch H.out.symm,Below.refl _ _⟩
  ·have r2:inR n 55296 57343 = false:=zbk hs
   obtain ⟨hr1,hr2⟩:=hr;have hcv1:=fun b c w => conv1 (P:=Tryz.prog) Tryz.underlying22 Tryz.underlying5 Tryz.underlying9 b c w
   have hcv2:=fun b c w => conv2 (P:=Tryz.prog) Tryz.underlying22 Tryz.underlying5 Tryz.underlying9 b c w
   have hcv3:=fun b c w => conv3 (P:=Tryz.prog) Tryz.underlying22 Tryz.underlying5 Tryz.underlying9 b c w
   have hcv4:=fun b c w => conv4 (P:=Tryz.prog) Tryz.underlying22 Tryz.underlying5 Tryz.underlying9 b c w
   by_cases c1:n < 128
   ·have H:Hid (putSign n = [byteOf n.toNat]):=by
     show _ = _; unfold putSign; rw [if_neg (by omega)]; unfold utf; rw [if_neg (by omega),if_pos (by omega)]
    clear hs
    go_enter Tryz.func132,Tryz.ntmps132
    go_wp2_with (go_at_call 27; refine (zaT _ _ _ _).mono ?_; rintro e w' ⟨rfl,rfl⟩)
    go_ret;exact ⟨zch H.out.symm,(Below.refl _ _).alloc (Nat.le_refl _) _⟩
   ·by_cases c2:n < 2048
    ·have H:Hid (putSign n =  [byteOf (192 + n.toNat / 64),byteOf (128 + n.toNat % 64)]):=by
      show _ = _; unfold putSign; rw [if_neg (by omega)]; unfold utf; rw [if_neg (by omega),if_neg (by omega),if_pos (by omega)]
     clear hs
     go_enter Tryz.func132,Tryz.ntmps132
     go_wp2_with (go_at_call 27; refine (zaT _ _ _ _).mono ?_; rintro e w' ⟨rfl,rfl⟩)
     go_ret;refine ⟨zch ?_,(Below.refl _ _).alloc (Nat.le_refl _) _⟩;rw [H.out]; try rfl
     simp only [List.cons.injEq,and_true];exact ⟨congrArg byteOf (by omega),congrArg byteOf (by omega)⟩
    ·by_cases c3:n < 65536
     ·have H:Hid (putSign n = [byteOf (224 + n.toNat / 4096),byteOf (128 + n.toNat / 64 % 64),byteOf (128 + n.toNat % 64)]):=by
       show _ = _; unfold putSign; rw [if_neg (by omega)]; unfold utf; rw [if_neg (by omega),if_neg (by omega),if_neg (by omega),if_pos (by omega)]
      clear hs
      go_enter Tryz.func132,Tryz.ntmps132
      go_wp2_with (go_at_call 27; refine (zaT _ _ _ _).mono ?_; rintro e w' ⟨rfl,rfl⟩)
      go_ret;refine ⟨zch ?_,(Below.refl _ _).alloc (Nat.le_refl _) _⟩;rw [H.out]; try rfl
      simp only [List.cons.injEq,and_true];exact ⟨congrArg byteOf (by omega),congrArg byteOf (by omega),congrArg byteOf (by omega)⟩
     ·have H:Hid (putSign n = [byteOf (240 + n.toNat / 262144),byteOf (128 + n.toNat / 4096 % 64),byteOf (128 + n.toNat / 64 % 64),byteOf (128 + n.toNat % 64)]):=by
       show _ = _; unfold putSign; rw [if_neg (by omega)]; unfold utf; rw [if_neg (by omega),if_neg (by omega),if_neg (by omega),if_neg (by omega)]
      clear hs
      go_enter Tryz.func132,Tryz.ntmps132
      go_wp2_with (go_at_call 27; refine (zaT _ _ _ _).mono ?_; rintro e w' ⟨rfl,rfl⟩)
      go_ret;refine ⟨zch ?_,(Below.refl _ _).alloc (Nat.le_refl _) _⟩;rw [H.out]; try rfl
      simp only [List.cons.injEq,and_true];exact ⟨congrArg byteOf (by omega),congrArg byteOf (by omega),congrArg byteOf (by omega),congrArg byteOf (by omega)⟩
 ·have r1:inR n 0 1114111 = false:=zbk hr
  have H:=Lib.hid (zhu hr);clear hr
  go_enter Tryz.func132,Tryz.ntmps132
  go_wp2_with (go_at_call 27; refine (zaT _ _ _ _).mono ?_; rintro e w' ⟨rfl,rfl⟩)
  go_ret;exact ⟨zch H.out.symm,Below.refl _ _⟩
set_option maxHeartbeats 1000000 in
set_option maxRecDepth 10000 in
theorem zgo (l:List UInt8) (i:Int) (w:World) (hi:i64ok i) (hl:l.length <= 4611686018427387904) :
  Calls Tryz.prog 118 #[.string ⟨l.toArray⟩,.int .i64 i] w fun e w' => e = .returned (.tuple #[.int .i64 (signAt l i).1,.int .i64 (signAt l i).2]) /\ Below w.heap.size w w':=by
 obtain ⟨hi1,hi2⟩:=hi;by_cases hr:0 <= i /\ i < l.length
 ·obtain ⟨k,rfl⟩:∃ k:Nat,i = k:=⟨i.toNat,by omega⟩
  have hk:k < l.length:=by omega
  have hk1:(0:Int) <= k:=by omega
  have hk2:(k:Int) < l.length:=by omega
  have hS:=sgn_many l[k] (l.drop (k + 1));rw [<- List.drop_eq_getElem_cons hk] at hS;have hbd:=many_bd l[k].toNat l[k].toNat_lt;obtain ⟨hbd1,hbd2⟩:=hbd;have HC:=Lib.hid (zht l[k]);obtain ⟨m,hm⟩:∃ m,(many l[k].toNat).1 = m:=⟨_,rfl⟩;obtain ⟨v0,hv⟩:∃ v,(many l[k].toNat).2 = v:=⟨_,rfl⟩;rw [hm] at hbd1 hS;rw [hv] at hbd2 hS
  have HC:Hid (∀ w,Calls Tryz.prog 131 #[.int .i64 (l[k].toNat:Nat)] w fun e w' => e = .returned (.tuple #[.int .i64 (m:Nat),.int .i64 (v0:Nat)]) /\ w = w'):=by
   intro w; rw [<- hm,<- hv]; exact HC.out w
  clear hm hv hr;by_cases hA:m = 0 \/ (l.drop (k + 1)).length + 1 < m
  ·rw [if_pos (.inl hA)] at hS
   have H:=Lib.hid (zcX hS);clear hS;rw [List.length_drop] at hA;by_cases hA0:m = 0
   ·subst hA0
    go_enter Tryz.func118,Tryz.ntmps118
    go_wp2_with (go_at_call 131; refine (HC.out _).mono ?_; rintro e w1 ⟨rfl,rfl⟩)
    go_ret2
    rw [H.out]; exact ⟨rfl,Below.refl _ _⟩
   ·have hA1:(l.length:Int) - k < m:=by omega
    have hA2:((m:Int) == 0) = false:=by simpa using hA0
    clear hA hA0
    go_enter Tryz.func118,Tryz.ntmps118
    go_wp2_with (go_at_call 131; refine (HC.out _).mono ?_; rintro e w1 ⟨rfl,rfl⟩)
    go_ret2
    rw [H.out]; exact ⟨rfl,Below.refl _ _⟩
  ·have hA0:1 <= m:=by omega
   have hA1:k + m <= l.length:=by rw [List.length_drop] at hA; omega
   have hA2:((m:Int) == 0) = false:=by simp; omega
   have hA3:¬ (l.length:Int) - k < m:=by omega
   have hle:((l.drop (k + 1)).length:Nat) = l.length - (k + 1):=List.length_drop;have HS:=Lib.hid hS;have HA:=Lib.hid hA;have HL:=Lib.hid hle;clear hA hS hle
   go_enter Tryz.func118,Tryz.ntmps118
   go_wp2_with (go_at_call 131; refine (HC.out _).mono ?_; rintro e w1 ⟨rfl,rfl⟩)
   go_loop [7,8] (fun x i => ∃ (j:Nat),j + 1 <= m /\ i = .int .i64 ((j + 1:Nat):Int) /\ x = .int .i64 (sgnV v0 ((l.drop (k + 1)).take j))) (fun _ i => 5 - (RowKit.intOf i).toNat)
   case atStart => exact ⟨0,by omega,rfl,by simp [sgnV]⟩
   case round =>
    obtain ⟨j,hj,rfl,rfl⟩:=hrel;by_cases hlt:j + 1 < m
    ·have hjl:j < (l.drop (k + 1)).length:=by have:=HL.out; omega
     have HN:=Lib.hid (sgnV_snoc v0 (l.drop (k + 1)) j hjl);have hb:=sgnV_bd v0 (l.drop (k + 1)) j hbd2 (by omega);have hget:(l.drop (k + 1))[j] = l[k + (j + 1)]'(by have:=HL.out; omega):=by rw [List.getElem_drop]; congr 1; omega
     rw [hget] at HN;have hk4:k + (j + 1) < l.length:=by omega
     have e1:((k:Int) + (j + 1:Nat)).toNat = k + (j + 1):=by omega
     obtain ⟨x,hx⟩:∃ x,sgnV v0 ((l.drop (k + 1)).take j) = x:=⟨_,rfl⟩;rw [hx] at HN hb ⊢;have HX:=Lib.hid hx; clear hx
     go_wp2
     go_round
     case rel =>
      refine ⟨j + 1,by omega,by go_num,?_⟩;rw [HN.out]; go_num
     case measure => simp [RowKit.intOf] <;> omega
    ·obtain rfl:m = j + 1:=by omega
     have hb:=sgnV_bd v0 (l.drop (k + 1)) j hbd2 (by omega);have HS2:=HS.out;have hpre:¬ ((j + 1 = 0) \/ (l.drop (k + 1)).length + 1 < j + 1):=HA.out;simp only [hpre,false_or,Nat.add_sub_cancel] at HS2;have HS2:=Lib.hid HS2;clear hpre;go_wp2;obtain ⟨x,hx⟩:∃ x,sgnV v0 ((l.drop (k + 1)).take j) = x:=⟨_,rfl⟩;rw [hx] at hb HS2;have HX:=Lib.hid hx;simp only [hx];clear hx HS;have hB:=Below.refl w.heap.size w;have z1:IntKind.i64.wrap ((k:Int) + (↑j + 1)) = (k:Int) + (↑j + 1):=IntWalk.i64_in _ (by omega);have z2:(0:Int) <= (k:Int) + (↑j + 1):=by omega
     have z3:(k:Int) <= (k:Int) + (↑j + 1):=by omega
     have z4:(k:Int) + (↑j + 1) <= l.length:=by omega
     have z5:((k:Int) + (↑j + 1)).toNat = k + (j + 1):=by omega
     have hxo:i64ok x:=⟨by omega,by omega⟩
     go_region_held3 (fun W => Below w.heap.size w W) (first | exact hB | exact hB.drew)
      (first | (go_at_call 132; refine (zgn x _ hxo).mono ?_; rintro e w2 ⟨rfl,hb2⟩; replace hB:=zaB (by first | exact hB | exact hB.drew) hb2 (Nat.le_refl _)))
     go_wp2
     ·have he:(!putSign ↑x == List.take (j + 1) (List.drop k l)) = true:=by assumption
      rw [zeo] at he;have h2:=HS2.out;rw [if_pos (by simpa using he)] at h2
      go_ret2
      rw [zcX h2]; exact ⟨rfl,hB⟩
     ·have he:(!putSign ↑x == List.take (j + 1) (List.drop k l)) = false:=by assumption
      rw [zeo] at he;have h2:=HS2.out;rw [if_neg (by simpa using he)] at h2
      go_ret2
      rw [zen hk h2]; exact ⟨by simp,hB⟩
 ·have H:=Lib.hid (signAt_far hr)
  by_cases h0:i < 0
  ·clear hr
   go_enter Tryz.func118,Tryz.ntmps118
   go_wp2
   go_ret2
   rw [H.out]; exact ⟨rfl,Below.refl _ _⟩
  ·have h1:¬ i < l.length:=by omega
   clear hr
   go_enter Tryz.func118,Tryz.ntmps118
   go_wp2
   go_ret2
   rw [H.out]; exact ⟨rfl,Below.refl _ _⟩
end Go.Proofs.YtmmcehkdnnolkaaGreatDoor
namespace Go.Proofs.YtmmcehkdnnolkaaGreatDoor
open Go.RowKit
set_option maxHeartbeats 4000000
set_option maxRecDepth 100000
open List
section
open Go.RowKit Go.Lib
theorem tyI:ElemTy Tryz.prog 101 3 1 8:=ElemTy.mk' Tryz.underlying101 (z:=.int .i64 0) (by kernel_rfl) rfl (by decide)
theorem signAt_bd {l:L8} {k:Nat} (_:k <= l.length):-1 <= (signAt l k).1 /\ (signAt l k).1 <= 1114111 /\ -1 <= (signAt l k).2 /\ (signAt l k).2 <= l.length:=by
 unfold signAt; split
 ·rename_i h
  rw [Int.toNat_natCast]
  cases hs:sgn (l.drop k) with
  | none => simp; try omega
  | some r =>
   obtain ⟨n,m⟩:=r
   have:=sgn_bd hs
   simp [length_drop] at this ⊢; omega
 ·simp; try omega
theorem zhw {l:L8} {k:Nat} (hk:k < l.length):((signAt l k).2 < 0 /\ validD (l.drop k) = false) \/ (∃ m:Nat,(signAt l k).2 = (k + m:Nat) /\ 1 <= m /\ k + m <= l.length /\ validD (l.drop k) = validD (l.drop (k + m))):=by
 have hne:l.drop k ≠ []:=by simp; omega
 have hv:=validD_sgn (l.drop k) hne
 cases hs:sgn (l.drop k) with
 | none => rw [hs] at hv; left; rw [zcX hs]; exact ⟨by simp,hv⟩
 | some r =>
  obtain ⟨n,m⟩:=r
  have:=sgn_bd hs
  rw [hs] at hv; right; rw [zen hk hs]; simp [length_drop,drop_drop] at this hv ⊢
  exact ⟨m,rfl,by omega,by omega,hv⟩
theorem signs_spec (l:L8) (w:World) (hl:l.length <= 4294967295) :
  Calls Tryz.prog 89 #[.string ⟨l.toArray⟩] w fun e w' => (∃ a n c,e = .returned (.slice a n c) /\ n <= 4294967295 /\ (l ≠ [] -> (decide (0 < n)) = validD l)) /\ Below w.heap.size w w':=by
 obtain ⟨ok,hok⟩:∃ ok,validD l = ok:=⟨_,rfl⟩;rw [hok]
 go_enter Tryz.func89,Tryz.ntmps89
 go_wp2
 go_loopw [3,4] (fun v i wr => ∃ (k:Nat) (xs:List Value),k <= l.length /\ i = .int .i64 k /\ OwnR wr w.heap.size 3 v xs /\ xs.length <= k /\ (0 < k -> 0 < xs.length) /\ validD (l.drop k) = ok /\ Below w.heap.size w wr) (fun _ i _ => l.length - (RowKit.intOf i).toNat)
 case atStart => exact ⟨0,[],Nat.zero_le _,rfl,OwnR.start,by simp,by simp,by simpa using hok,(Below.refl _ _).alloc lR _⟩
 case round =>
  obtain ⟨k,xs,hk,rfl,hown,hx1,hx2,hv,hbel⟩:=hrel;have HV:=Lib.hid hv; clear hv hok
  have hsz:=hbel.size;obtain ⟨a,c,rfl⟩:=hown.any;by_cases hlt:k < l.length
  ·have hki:i64ok k:=⟨by omega,by omega⟩
   have HB:=signAt_bd (l:=l) (k:=k) hk;have HS:=Lib.hid (zhw hlt);obtain ⟨p,hp⟩:∃ p,signAt l k = p:=⟨_,rfl⟩
   have HC:Hid (∀ w,Calls Tryz.prog 118 #[.string ⟨l.toArray⟩,.int .i64 k] w fun e w' => e = .returned (.tuple #[.int .i64 p.1,.int .i64 p.2]) /\ Below w.heap.size w w'):=by
    intro w; rw [<- hp]; exact zgo l k w hki (by omega)
   rw [hp] at HB HS;clear hp;obtain ⟨p1,p2⟩:=p;simp only at HB HS HC;obtain ⟨HB1,HB2,HB3,HB4⟩:=HB;by_cases hneg:p2 < 0
   ·have hf:ok = false:=by
     rcases HS.out with ⟨_,h2⟩ | ⟨m,h1,_⟩
     ·rw [<- HV.out,h2]
     ·omega
    have HF:=Lib.hid hf;clear hf
    go_wp2_with (go_at_call 118; refine (HC.out _).mono ?_; rintro e w1 ⟨rfl,hb1⟩)
    go_ret;exact ⟨⟨_,_,_,rfl,by simp,fun _ => by rw [HF.out]; rfl⟩,(zaB hbel hb1 lR).alloc (Nat.le_trans hsz hb1.size) _⟩
   ·obtain ⟨m,hm1,hm2,hm3,hm4⟩:∃ m:Nat,p2 = (k + m:Nat) /\ 1 <= m /\ k + m <= l.length /\ validD (l.drop k) = validD (l.drop (k + m)):=by
     rcases HS.out with ⟨h1,_⟩ | h
     ·omega
     ·exact h
    subst hm1;have HM:=Lib.hid hm4;clear hm4
    go_wp2_with (first | (go_at_call 118; refine (HC.out _).mono ?_; rintro e w1 ⟨rfl,hb1⟩) | (at_builtin; refine wp_appR (ys:=[.int .i64 p1]) tyI rfl rfl w.heap.size ((hown.below hb1).alloc _) rfl ⟨w1.heap.size,0,none⟩ 1 rfl (cell_one_new _ _ _) (by simp [Value.oneCell']) (by simp; omega) (by decide) (by have:=hb1.size; simp; omega) ?_))
    intro v' w2 hown1 hgr _;have hbel1:=OwnR.grown ((hown.below hb1).alloc _) ((zaB hbel hb1 lR).alloc (Nat.le_trans hsz hb1.size) _) hgr (by have:=hb1.size; simp; omega);clear hown hbel;go_wp2;go_roundw
    case rel => exact ⟨k + m,_,hm3,by go_num,hown1,by simp; omega,by simp,by rw [<- HM.out]; exact HV.out,hbel1⟩
    case measure => simp [RowKit.intOf]; omega
  ·obtain rfl:k = l.length:=by omega
   have h1:=HV.out;rw [drop_length] at h1;have HF:=Lib.hid h1;clear h1;go_wp2;go_ret;exact ⟨⟨_,_,_,rfl,by omega,fun hne => by rw [<- HF.out,decide_eq_true (hx2 (length_pos_iff.2 hne))]; rfl⟩,hbel⟩
theorem zcY (l:L8) (w:World) (hl:l.length <= 4294967295) :
  Calls Tryz.prog 59 #[.string ⟨l.toArray⟩] w fun e w' => e = .returned (.bool (validD l)) /\ Below w.heap.size w w':=by
 by_cases h:l = []
 ·subst h
  go_enter Tryz.func59,Tryz.ntmps59
  go_wp2;go_ret;exact ⟨rfl,Below.refl _ _⟩
 ·have HC:=Lib.hid (signs_spec l w hl)
  have h1:l.isEmpty = false:=by simpa using h
  have HN:=Lib.hid h;clear h
  go_enter Tryz.func59,Tryz.ntmps59
  go_wp2_with (go_at_call 89; refine HC.out.mono ?_; rintro e w1 ⟨⟨a,n,c,rfl,hn,hv⟩,hb1⟩; have HV:=Lib.hid (hv HN.out); clear hv)
  go_ret;exact ⟨by rw [<- HV.out]; rfl,hb1⟩
end
end Go.Proofs.YtmmcehkdnnolkaaGreatDoor
/- Decimals of a value: the program's fits and isDec, the reference's l02Whole. -/
namespace Go.Proofs.YtmmcehkdnnolkaaGreatDoor
open Go.RowKit
theorem zep {k:Nat} {n:Int} (h:-9223372036854775808 <= n * 10 /\ n * 10 <= 9223372036854775807):fitsN (k + 1) n = fitsN k (n * 10):=by
 show (inR _ _ _ && _) = _; rw [zaM h]; rfl
theorem fitsN_no {k:Nat} {n:Int} (h:¬ (-9223372036854775808 <= n * 10 /\ n * 10 <= 9223372036854775807)):fitsN (k + 1) n = false:=by
 show (inR _ _ _ && _) = _; rw [zbk h]; rfl
theorem tdiv10 (q:Int):Int.tdiv q 10 * 10 - 9 <= q /\ q <= Int.tdiv q 10 * 10 + 9 /\ (0 <= q -> Int.tdiv q 10 * 10 <= q) /\ (q <= 0 -> q <= Int.tdiv q 10 * 10):=by
 have h1:=Int.mul_tdiv_add_tmod q 10;have h2:=Int.tmod_lt_of_pos q (show (0:Int) < 10 by decide);have h3:-10 < Int.tmod q 10:=by have:=Int.tmod_lt_of_pos (-q) (show (0:Int) < 10 by decide); rw [Int.neg_tmod] at this; omega
 have h4:0 <= q -> 0 <= Int.tmod q 10:=fun h => Int.tmod_nonneg 10 h
 have h5:q <= 0 -> Int.tmod q 10 <= 0:=fun h => by have:=Int.tmod_nonneg 10 (show 0 <= -q by omega); rw [Int.neg_tmod] at this; omega
 refine ⟨by omega,by omega,fun h => ?_,fun h => ?_⟩
 ·have:=h4 h; omega
 ·have:=h5 h; omega
theorem wrap_no {n:Int} (h:¬ (-9223372036854775808 <= n * 10 /\ n * 10 <= 9223372036854775807)):(wrap64 (Int.tdiv (wrap64 (n * 10)) 10) != n) = true:=by
 simp only [bne_iff_ne,ne_eq];intro e;have hq:-9223372036854775808 <= wrap64 (n * 10) /\ wrap64 (n * 10) <= 9223372036854775807:=by unfold wrap64; omega
 generalize wrap64 (n * 10) = q at e hq;obtain ⟨a,b,c,d⟩:=tdiv10 q
 have:wrap64 (Int.tdiv q 10) = Int.tdiv q 10:=by unfold wrap64; omega
 rw [this] at e;subst e;by_cases h0:0 <= q
 ·have:=c h0; omega
 ·have:=d (by omega); omega
set_option maxHeartbeats 400000 in
theorem zgp (n:Int) (k:Nat) (w:World) (hn:i64ok n) (hk:k <= 1000) :
  Calls Tryz.prog 133 #[.int .i64 n,.int .i64 k] w fun e w' => e = .returned (.bool (decide (0 < k) && fitsN k n)) /\ w = w':=by
 obtain ⟨ok,hok⟩:∃ ok,fitsN k n = ok:=⟨_,rfl⟩;rw [hok];have HOK:=Lib.hid hok; clear hok
 go_enter Tryz.func133,Tryz.ntmps133
 go_wp2
 go_loopw [0,5] (fun x i wr => ∃ (j:Nat) (m:Int),j <= k /\ i = .int .i64 j /\ x = .int .i64 m /\ i64ok m /\ fitsN (k - j) m = ok /\ w = wr) (fun _ i _ => k - (intOf i).toNat)
 case atStart => exact ⟨0,n,Nat.zero_le _,rfl,rfl,hn,HOK.out,rfl⟩
 case round =>
  obtain ⟨j,m,hj,rfl,rfl,hm,hf,rfl⟩:=hrel;by_cases hlt:j < k
  ·obtain ⟨r,hr⟩:∃ r,k - j = r + 1:=⟨k - j - 1,by omega⟩
   rw [hr] at hf;have hlt':(j:Int) < k:=by omega
   by_cases hin:-9223372036854775808 <= m * 10 /\ m * 10 <= 9223372036854775807
   ·rw [zep hin] at hf
    have HF:=Lib.hid hf; clear hf
    go_wp2;exact ⟨⟨j + 1,m * 10,by omega,by go_num,rfl,hin,by rw [show k - (j + 1) = r by omega]; exact HF.out,trivial⟩,by simp [intOf]; omega⟩
   ·rw [fitsN_no hin] at hf
    have HF:=Lib.hid hf; clear hf
    have hw:=wrap_no hin;go_wp2;go_ret;exact ⟨by rw [<- HF.out]; simp,rfl⟩
  ·obtain rfl:j = k:=by omega
   rw [Nat.sub_self] at hf;have HF:=Lib.hid (show true = ok from hf); clear hf
   go_wp2;go_ret;exact ⟨by rw [<- HF.out]; simp,rfl⟩
def fitsR (ok:Bool) (p:Int):Value:=if ok then .tuple #[.int .i64 p,.bool true] else .tuple #[.int .i64 0,.bool false]
set_option maxHeartbeats 400000 in
theorem fits_any (n:Int) (k:Nat) (w:World) (hn:i64ok n) (hk:k <= 1000) :
  Calls Tryz.prog 138 #[.int .i64 n,.int .i64 k] w fun e w' => e = .returned (fitsR (fitsN k n) (n * 10 ^ k)) /\ w = w':=by
 obtain ⟨ok,hok⟩:∃ ok,fitsN k n = ok:=⟨_,rfl⟩;obtain ⟨p,hp⟩:∃ p,n * 10 ^ k = p:=⟨_,rfl⟩;rw [hok,hp];have HOK:=Lib.hid hok; clear hok
 have HP:=Lib.hid hp; clear hp
 go_enter Tryz.func138,Tryz.ntmps138
 go_wp2
 go_loopw [0,1] (fun x i wr => ∃ (j:Nat) (m:Int),j <= k /\ i = .int .i64 j /\ x = .int .i64 m /\ i64ok m /\ fitsN j m = ok /\ m * 10 ^ j = p /\ w = wr) (fun _ i _ => (intOf i).toNat)
 case atStart => exact ⟨k,n,Nat.le_refl _,rfl,rfl,hn,HOK.out,HP.out,rfl⟩
 case round =>
  obtain ⟨j,m,hj,rfl,rfl,hm,hf,hpp,rfl⟩:=hrel;by_cases hj0:j = 0
  ·subst hj0
   have HF:=Lib.hid (show true = ok from hf);have HPP:=Lib.hid (show m = p by simpa using hpp);clear hf hpp;go_wp2
   go_ret2
   exact ⟨by rw [<- HF.out,HPP.out]; rfl,rfl⟩
  ·obtain ⟨r,rfl⟩:∃ r,j = r + 1:=⟨j - 1,by omega⟩
   have hj1:(0:Int) < (r + 1:Nat):=by omega
   have hpp2:m * 10 * 10 ^ r = p:=by rw [<- hpp,Int.pow_succ,Int.mul_assoc,Int.mul_comm 10]
   have HPP:=Lib.hid hpp2;by_cases hm0:m = 0
   ·subst hm0
    have h0:∀ r,fitsN r 0 = true:=by intro r; induction r with
     | zero => rfl
     | succ r ih => rw [zep (by decide)]; exact ih
    have HF:=Lib.hid (show true = ok by rw [<- hf,h0]);have HP0:=Lib.hid (show (0:Int) = p by simpa using hpp);clear hf hpp hpp2 h0;go_wp2
    go_ret2
    exact ⟨by rw [<- HF.out,<- HP0.out]; rfl,rfl⟩
   ·have hne:(m != 0) = true:=by simpa using hm0
    by_cases hin:-9223372036854775808 <= m * 10 /\ m * 10 <= 9223372036854775807
    ·rw [zep hin] at hf
     have HF:=Lib.hid hf; clear hf hpp hpp2
     have g1:¬ (922337203685477580:Int) < m:=by omega
     have g2:¬ m < (-922337203685477580:Int):=by omega
     go_wp2;exact ⟨⟨r,m * 10,by omega,by go_num,rfl,hin,HF.out,HPP.out,trivial⟩,by simp [intOf]⟩
    ·rw [fitsN_no hin] at hf
     have HF:=Lib.hid hf; clear hf hpp hpp2
     by_cases g1:(922337203685477580:Int) < m
     ·go_wp2
      go_ret2
      exact ⟨by rw [<- HF.out]; rfl,rfl⟩
     ·have g2:m < (-922337203685477580:Int):=by omega
      go_wp2
      go_ret2
      exact ⟨by rw [<- HF.out]; rfl,rfl⟩
theorem decOk_e {n e:Int} (h:¬ (-20 <= e /\ e <= 20)):decOk n e = false:=by unfold decOk; rw [zbk h]; rfl
set_option maxHeartbeats 1000000 in
set_option maxRecDepth 10000 in
theorem isDec_any (x:V) (cs:List Value) (w:World) (h:Rd w x.d cs) (hwf:x.wf) :
  Calls Tryz.prog 126 #[.agg cs.toArray] w fun e w' => e = .returned (.bool (decOk x.num x.exp)) /\ Below w.heap.size w w':=by
 obtain ⟨k,n,e,s,kids,v1,rfl,rfl,hkids⟩:=V.lay h;obtain ⟨a1,c1,rfl⟩:=Rd.sl_form hkids;obtain ⟨hk,hn,he,hs,_⟩:=hwf;have H1:=Lib.hid (decOk_e (n:=n) (e:=e));show Calls _ _ _ _ fun e' w' => e' = .returned (.bool (decOk n e)) /\ _
 obtain ⟨ok,hok⟩:∃ ok,decOk n e = ok:=⟨_,rfl⟩;rw [hok];have HA:=Lib.hid ((Below.refl w.heap.size w).alloc (Nat.le_refl _) (.cells #[.int .i64 k,.int .i64 n,.int .i64 e,.string ⟨s.toArray⟩,.slice a1 (V.ds kids).length c1] 51));clear h hkids;by_cases h1:-20 <= e /\ e <= 20
 ·by_cases h2:e = 0
  ·have H:Hid (ok = false):=by show _ = _; rw [<- hok,h2]; unfold decOk; rw [zaM (by decide)]; simp
   subst h2;clear hok
   go_enter Tryz.func126,Tryz.ntmps126
   go_wp2;go_ret;exact ⟨by rw [H.out]; rfl,HA.out⟩
  ·have g2:(e == 0) = false:=by simpa using h2
   by_cases h3:-999999999999999999 <= n /\ n <= 999999999999999999
   ·by_cases h4:Int.tmod n 10 = 0
    ·have H:Hid (ok = false):=by show _ = _; rw [<- hok]; unfold decOk; rw [h4]; simp
     have g4:(Int.tmod n 10 == 0) = true:=by simpa using h4
     clear hok
     go_enter Tryz.func126,Tryz.ntmps126
     go_wp2;go_ret;exact ⟨by rw [H.out]; rfl,HA.out⟩
    ·have g4:(Int.tmod n 10 == 0) = false:=by simpa using h4
     by_cases h5:0 < e
     ·obtain ⟨j,rfl⟩:∃ j:Nat,e = j:=⟨e.toNat,by omega⟩
      have H:Hid (ok = !fitsN j n):=by show _ = _; rw [<- hok]; unfold decOk; rw [zaM h1,zaM h3]; simp [h4,show j ≠ 0 by omega,show 0 < j by omega]
      clear hok
      go_enter Tryz.func126,Tryz.ntmps126
      cases hf:fitsN j n with
      | true =>
       have HF:=Lib.hid hf; clear hf
       go_wp2_with (first | (go_at_call 54; refine (za2 _ _ _ _).mono ?_; rintro e w1 ⟨rfl,rfl⟩; first | rw [zaM h1] | rw [zaM h3]) | (go_at_call 138; refine (fits_any n j _ hn (by omega)).mono ?_; rw [HF.out]; rintro e w1 ⟨rfl,rfl⟩; simp only [fitsR,if_true]))
       go_ret
       exact ⟨by rw [H.out,HF.out]; rfl,HA.out⟩
      | false =>
       have HF:=Lib.hid hf; clear hf
       go_wp2_with (first | (go_at_call 54; refine (za2 _ _ _ _).mono ?_; rintro e w1 ⟨rfl,rfl⟩; first | rw [zaM h1] | rw [zaM h3]) | (go_at_call 138; refine (fits_any n j _ hn (by omega)).mono ?_; rw [HF.out]; rintro e w1 ⟨rfl,rfl⟩; simp only [fitsR,Bool.false_eq_true,if_false]))
       go_ret;exact ⟨by rw [H.out,HF.out]; rfl,HA.out⟩
     ·have H:Hid (ok = true):=by show _ = _; rw [<- hok]; unfold decOk; rw [zaM h1,zaM h3]; simp [h2,h4,h5]
      clear hok
      go_enter Tryz.func126,Tryz.ntmps126
      go_wp2;go_ret;exact ⟨by rw [H.out]; rfl,HA.out⟩
   ·have H:Hid (ok = false):=by show _ = _; rw [<- hok]; unfold decOk; rw [zbk h3]; simp
    clear hok
    go_enter Tryz.func126,Tryz.ntmps126
    go_wp2
    all_goals (go_ret; exact ⟨by rw [H.out]; rfl,HA.out⟩)
 ·have H:Hid (ok = false):=hok.symm.trans (H1.out h1)
  clear hok
  go_enter Tryz.func126,Tryz.ntmps126
  go_wp2
  all_goals (go_ret; exact ⟨by rw [H.out]; rfl,HA.out⟩)
end Go.Proofs.YtmmcehkdnnolkaaGreatDoor
/- Whether values are keys and values by turns: the reference's l02Pairs. -/
namespace Go.Proofs.YtmmcehkdnnolkaaGreatDoor
open Go.RowKit
theorem ze4 {α:Type} (f:V -> α) (ks:List V) (m:Nat) (h:m < ks.length):(ks.take (m + 1)).map f = (ks.take m).map f ++ [f ks[m]]:=by
 rw [List.take_succ_eq_append_getElem h,List.map_append]; rfl
theorem zeq {α:Type} [DecidableEq α] {f:V -> α} {ks:List V} {j:Nat} (hj:j < ks.length) (h:uniq f (ks.take j) = true) (hk:isKeyK ks[j].kind = true) (hn:f ks[j] ∉ (ks.take j).map f):uniq f (ks.take (j + 1)) = true:=by
 rw [List.take_succ_eq_append_getElem hj,zec,h,hk,decide_eq_true hn]; rfl
theorem zgq {α:Type} [DecidableEq α] {f:V -> α} {ks:List V} {j:Nat} (hj:j < ks.length) (hk:isKeyK ks[j].kind = false):uniq f ks = false:=by
 apply zgd (j + 1)
 rw [List.take_succ_eq_append_getElem hj,zec,hk,Bool.false_and,Bool.and_false]
theorem zer {α:Type} [DecidableEq α] {f:V -> α} {ks:List V} {j:Nat} (hj:j < ks.length) (hn:f ks[j] ∈ (ks.take j).map f):uniq f ks = false:=by
 apply zgd (j + 1)
 rw [List.take_succ_eq_append_getElem hj,zec,decide_eq_false (fun h => h hn),Bool.and_false,Bool.and_false]
set_option maxHeartbeats 4000000 in
set_option maxRecDepth 10000 in
theorem zgr (xs:List V) (v:Value) (w:World) (h:Rd w (.sl 5 (V.ds xs)) [v]) (hlen:xs.length <= 4294967295) :
  Calls Tryz.prog 134 #[v] w fun e w' => e = .returned (.bool (pairsOk xs)) /\ Below w.heap.size w w':=by
 obtain ⟨a,c,rfl,hg⟩:=h.values;obtain ⟨ok,hok⟩:∃ ok,pairsOk xs = ok:=⟨_,rfl⟩;rw [hok];have HOK:=Lib.hid hok; clear hok h
 obtain ⟨ks,hks⟩:∃ ks,odds xs = ks:=⟨_,rfl⟩;have hkl:ks.length = (xs.length + 1) / 2:=by rw [<- hks,zbQ]
 have HKG:Hid (∀ j (h1:2 * j < xs.length) (h2:j < ks.length),ks[j] = xs[2 * j]):=by
  intro j h1 h2; subst hks; exact odds_get xs j h1
 have HKS:=Lib.hid hks; clear hks
 go_enter Tryz.func134,Tryz.ntmps134
 go_wp2
 go_loopw [3] (fun i wr => ∃ (j k:Nat),k = 2 * j /\ j <= ks.length /\ i = .int .i64 k /\ uniq V.mark (ks.take j) = true /\ Below w.heap.size w wr) (fun i _ => xs.length + 1 - (intOf i).toNat)
 case atStart => exact ⟨0,0,rfl,Nat.zero_le _,rfl,by simp [uniq],Below.refl _ _⟩
 case round =>
  obtain ⟨j,k,hkj,hj,rfl,hu,hbel⟩:=hrel;have HKJ:=Lib.hid hkj;have HU:=Lib.hid hu; clear hu
  by_cases hlt:k < xs.length
  ·have hjk:j < ks.length:=by omega
   have hkk:=HKG.out j (by omega) hjk;obtain ⟨_,_,b,o,rfl,hb,hcell⟩:=hg (by intro e; rw [e] at hlt; simp at hlt);have HC:=Lib.hid hcell;obtain ⟨v0,v1,v2,v3,v4,hr,d0,d1,d2,d3,d4⟩:=hcell k hlt;clear hcell;obtain ⟨xk,xn,xe,xs',xkids,y4,hx,hcs,_⟩:=V.lay hr;simp only [List.cons.injEq,and_true] at hcs;obtain ⟨rfl,rfl,rfl,rfl,rfl⟩:=hcs;have hbc:=(zbF hbel).1;have D0:=Lib.hid d0;have D1:=Lib.hid d1;have D3:=Lib.hid d3;rw [<- hbc _ _ hb] at d0 d1 d3;clear hr d2 d4;have hkx:ks[j] = .mk xk xn xe xs' xkids:=by rw [hkk,<- hx]; subst hkj; rfl
   have hi1:(0:Int) <= k:=by omega
   have hi3:(k:Int) < xs.length:=by omega
   have HX:=Lib.hid hkx;clear hbc hkk hx hkx hkj;by_cases hkey:isKeyK xk = true
   ·have HK:=Lib.hid hkey
    have hkk:(xk != 5) = false \/ ((xk != 5) = true /\ (xk != 3) = false):=by simp [isKeyK] at hkey ⊢; omega
    clear hkey
    rcases hkk with hk5 | ⟨hk5,hk3⟩
    ·go_wp2
     go_loopw [4] (fun i wr => ∃ (m r:Nat),r = 2 * m /\ m <= j /\ i = .int .i64 r /\ (V.mk xk xn xe xs' xkids).mark ∉ (ks.take m).map V.mark /\ Below w.heap.size w wr) (fun i _ => k + 1 - (intOf i).toNat)
     case atStart => exact ⟨0,0,rfl,Nat.zero_le _,rfl,by simp,hbel⟩
     case round =>
      obtain ⟨m,r,hrm,hm,rfl,hni,hbel2⟩:=hrel;have HRM:=Lib.hid hrm;have HNI:=Lib.hid hni; clear hni
      have hkj:=HKJ.out;by_cases hml:r < k
      ·have hmk:m < ks.length:=by omega
       have hmm:=HKG.out m (by omega) hmk;obtain ⟨u0,u1,u2,u3,u4,hr2,e0,e1,e2,e3,e4⟩:=HC.out r (by omega);obtain ⟨yk,yn,ye,ys,ykids,y5,hy,hcs2,_⟩:=V.lay hr2;simp only [List.cons.injEq,and_true] at hcs2;obtain ⟨rfl,rfl,rfl,rfl,rfl⟩:=hcs2;have hbc2:=(zbF hbel2).1;rw [<- hbc2 _ _ hb] at e0 e1 e3;have d0':=(hbc2 _ _ hb).trans D0.out;have d1':=(hbc2 _ _ hb).trans D1.out;have d3':=(hbc2 _ _ hb).trans D3.out;clear hr2 e2 e4 d0 d1 d3;have hky:ks[m] = .mk yk yn ye ys ykids:=by rw [hmm,<- hy]; subst hrm; rfl
       have HY:=Lib.hid hky;have hj1:(0:Int) <= r:=by omega
       have hj3:(r:Int) < xs.length:=by omega
       have hj5:(r:Int) < k:=by omega
       have hm5:m < j:=by omega
       have hr5:r + 2 < k + 3:=by omega
       clear hbc2 hmm hy hky hrm hkj;by_cases heq:yk = xk /\ yn = xn /\ ys = xs'
       ·obtain ⟨rfl,rfl,rfl⟩:=heq
        have HF:Hid (pairsOk xs = false):=by
         show _ = _; unfold pairsOk; rw [HKS.out,zer hjk (by
          rw [HX.out];refine List.mem_map.2 ⟨ks[m],List.mem_take_iff_getElem.2 ⟨m,by omega,rfl⟩,by rw [HY.out]; rfl⟩)]; rfl
        have g1:(yk == yk) = true:=by simp
        have g2:(yn == yn) = true:=by simp
        go_wp2
        go_quiet (fail)
        go_wp2;go_ret;exact ⟨by rw [<- HOK.out,HF.out]; rfl,by first | exact hbel2 | exact hbel2.drew | exact below_drewN hbel2 _⟩
       ·have HM:Hid ((V.mk xk xn xe xs' xkids).mark ∉ (ks.take (m + 1)).map V.mark):=by
         show _ ∉ _;rw [ze4 _ _ _ hmk,List.mem_append,HY.out];rintro (h | h)
         ·exact HNI.out h
         ·simp only [List.mem_singleton,V.mark,V.kind,V.num,V.text,Prod.mk.injEq] at h
          exact heq ⟨h.1.symm,h.2.1.symm,h.2.2.symm⟩
        by_cases h1:yk = xk
        ·subst h1
         have g1:(yk == yk) = true:=by simp
         by_cases h2:yn = xn
         ·subst h2
          have g2:(yn == yn) = true:=by simp
          have h3:¬ ys = xs':=fun e => heq ⟨rfl,rfl,e⟩
          have g3:(ys == xs') = false:=by simpa using h3
          clear heq h3;go_wp2
          go_quiet (fail)
          go_wp2;go_roundw
          case rel => exact ⟨m + 1,r + 2,by have:=HRM.out; omega,by omega,by go_num,HM.out,by first | exact hbel2 | exact hbel2.drew | exact below_drewN hbel2 _⟩
          case measure => simp [intOf]; omega
         ·have g2:(yn == xn) = false:=by simpa using h2
          clear heq h2;go_wp2
          go_quiet (fail)
          go_wp2;go_roundw
          case rel => exact ⟨m + 1,r + 2,by have:=HRM.out; omega,by omega,by go_num,HM.out,by first | exact hbel2 | exact hbel2.drew | exact below_drewN hbel2 _⟩
          case measure => simp [intOf]; omega
        ·have g1:(yk == xk) = false:=by simpa using h1
         clear heq h1;go_wp2
         go_quiet (fail)
         go_wp2;go_roundw
         case rel => exact ⟨m + 1,r + 2,by have:=HRM.out; omega,by omega,by go_num,HM.out,by first | exact hbel2 | exact hbel2.drew | exact below_drewN hbel2 _⟩
         case measure => simp [intOf]; omega
      ·obtain rfl:m = j:=by omega
       have HM:Hid (uniq V.mark (ks.take (m + 1)) = true):=zeq hjk HU.out (by rw [HX.out]; exact HK.out) (by rw [HX.out]; exact HNI.out);clear hrm hkj;go_wp2;go_roundw
       case rel => exact ⟨m + 1,k + 2,by have:=HKJ.out; omega,by omega,by go_num,HM.out,hbel2⟩
       case measure => simp [intOf]; omega
    ·go_wp2
     go_loopw [4] (fun i wr => ∃ (m r:Nat),r = 2 * m /\ m <= j /\ i = .int .i64 r /\ (V.mk xk xn xe xs' xkids).mark ∉ (ks.take m).map V.mark /\ Below w.heap.size w wr) (fun i _ => k + 1 - (intOf i).toNat)
     case atStart => exact ⟨0,0,rfl,Nat.zero_le _,rfl,by simp,hbel⟩
     case round =>
      obtain ⟨m,r,hrm,hm,rfl,hni,hbel2⟩:=hrel;have HRM:=Lib.hid hrm;have HNI:=Lib.hid hni; clear hni
      have hkj:=HKJ.out;by_cases hml:r < k
      ·have hmk:m < ks.length:=by omega
       have hmm:=HKG.out m (by omega) hmk;obtain ⟨u0,u1,u2,u3,u4,hr2,e0,e1,e2,e3,e4⟩:=HC.out r (by omega);obtain ⟨yk,yn,ye,ys,ykids,y5,hy,hcs2,_⟩:=V.lay hr2;simp only [List.cons.injEq,and_true] at hcs2;obtain ⟨rfl,rfl,rfl,rfl,rfl⟩:=hcs2;have hbc2:=(zbF hbel2).1;rw [<- hbc2 _ _ hb] at e0 e1 e3;have d0':=(hbc2 _ _ hb).trans D0.out;have d1':=(hbc2 _ _ hb).trans D1.out;have d3':=(hbc2 _ _ hb).trans D3.out;clear hr2 e2 e4 d0 d1 d3;have hky:ks[m] = .mk yk yn ye ys ykids:=by rw [hmm,<- hy]; subst hrm; rfl
       have HY:=Lib.hid hky;have hj1:(0:Int) <= r:=by omega
       have hj3:(r:Int) < xs.length:=by omega
       have hj5:(r:Int) < k:=by omega
       have hm5:m < j:=by omega
       have hr5:r + 2 < k + 3:=by omega
       clear hbc2 hmm hy hky hrm hkj;by_cases heq:yk = xk /\ yn = xn /\ ys = xs'
       ·obtain ⟨rfl,rfl,rfl⟩:=heq
        have HF:Hid (pairsOk xs = false):=by
         show _ = _; unfold pairsOk; rw [HKS.out,zer hjk (by
          rw [HX.out];refine List.mem_map.2 ⟨ks[m],List.mem_take_iff_getElem.2 ⟨m,by omega,rfl⟩,by rw [HY.out]; rfl⟩)]; rfl
        have g1:(yk == yk) = true:=by simp
        have g2:(yn == yn) = true:=by simp
        go_wp2
        go_quiet (fail)
        go_wp2;go_ret;exact ⟨by rw [<- HOK.out,HF.out]; rfl,by first | exact hbel2 | exact hbel2.drew | exact below_drewN hbel2 _⟩
       ·have HM:Hid ((V.mk xk xn xe xs' xkids).mark ∉ (ks.take (m + 1)).map V.mark):=by
         show _ ∉ _;rw [ze4 _ _ _ hmk,List.mem_append,HY.out];rintro (h | h)
         ·exact HNI.out h
         ·simp only [List.mem_singleton,V.mark,V.kind,V.num,V.text,Prod.mk.injEq] at h
          exact heq ⟨h.1.symm,h.2.1.symm,h.2.2.symm⟩
        by_cases h1:yk = xk
        ·subst h1
         have g1:(yk == yk) = true:=by simp
         by_cases h2:yn = xn
         ·subst h2
          have g2:(yn == yn) = true:=by simp
          have h3:¬ ys = xs':=fun e => heq ⟨rfl,rfl,e⟩
          have g3:(ys == xs') = false:=by simpa using h3
          clear heq h3;go_wp2
          go_quiet (fail)
          go_wp2;go_roundw
          case rel => exact ⟨m + 1,r + 2,by have:=HRM.out; omega,by omega,by go_num,HM.out,by first | exact hbel2 | exact hbel2.drew | exact below_drewN hbel2 _⟩
          case measure => simp [intOf]; omega
         ·have g2:(yn == xn) = false:=by simpa using h2
          clear heq h2;go_wp2
          go_quiet (fail)
          go_wp2;go_roundw
          case rel => exact ⟨m + 1,r + 2,by have:=HRM.out; omega,by omega,by go_num,HM.out,by first | exact hbel2 | exact hbel2.drew | exact below_drewN hbel2 _⟩
          case measure => simp [intOf]; omega
        ·have g1:(yk == xk) = false:=by simpa using h1
         clear heq h1;go_wp2
         go_quiet (fail)
         go_wp2;go_roundw
         case rel => exact ⟨m + 1,r + 2,by have:=HRM.out; omega,by omega,by go_num,HM.out,by first | exact hbel2 | exact hbel2.drew | exact below_drewN hbel2 _⟩
         case measure => simp [intOf]; omega
      ·obtain rfl:m = j:=by omega
       have HM:Hid (uniq V.mark (ks.take (m + 1)) = true):=zeq hjk HU.out (by rw [HX.out]; exact HK.out) (by rw [HX.out]; exact HNI.out);clear hrm hkj;go_wp2;go_roundw
       case rel => exact ⟨m + 1,k + 2,by have:=HKJ.out; omega,by omega,by go_num,HM.out,hbel2⟩
       case measure => simp [intOf]; omega
   ·have hk5:(xk != 5) = true:=by simp [isKeyK] at hkey ⊢; omega
    have hk3:(xk != 3) = true:=by simp [isKeyK] at hkey ⊢; omega
    have HF:Hid (pairsOk xs = false):=by
     show _ = _; unfold pairsOk; rw [HKS.out,zgq hjk (by rw [HX.out]; simpa [V.kind] using hkey)]; rfl
    clear hkey;go_wp2;go_ret;exact ⟨by rw [<- HOK.out,HF.out]; rfl,hbel⟩
  ·obtain rfl:j = ks.length:=by omega
   clear hkj;have h1:=HU.out;rw [List.take_length] at h1
   have HF:Hid (pairsOk xs = (decide (xs.length % 2 = 0) && decide (xs.length <= 300))):=by
    show _ = _; unfold pairsOk; rw [HKS.out,h1]; rfl
   clear h1;by_cases he:xs.length % 2 = 0
   ·have he':((xs.length:Int) % 2 == 0) = true:=by simp; omega
    rw [decide_eq_true he] at HF;clear he;go_wp2;go_ret;exact ⟨by rw [<- HOK.out,HF.out]; go_num,hbel⟩
   ·have he':((xs.length:Int) % 2 == 0) = false:=by simp; omega
    rw [decide_eq_false he] at HF;clear he;go_wp2;go_ret;exact ⟨by rw [<- HOK.out,HF.out]; rfl,hbel⟩
end Go.Proofs.YtmmcehkdnnolkaaGreatDoor
/- When a value is right but for its kids: the reference's l02Own. -/
namespace Go.Proofs.YtmmcehkdnnolkaaGreatDoor
open Go.RowKit
open Go.Lib (validD)
theorem isE (s:List UInt8):s.isEmpty = decide (s = []):=by cases s <;> simp
theorem len0 (l:List V):((l.length:Int) == 0) = decide (l = []):=by
 cases l with
 | nil => rfl
 | cons a r => simp; omega
theorem len1 (l:List V):((l.length:Int) == 1) = decide (l.length = 1):=by rw [Bool.eq_iff_iff]; simp; omega
set_option maxHeartbeats 400000 in
theorem zgs (n e:Int) (w:World) (hn:i64ok n) (he:-1000 <= e /\ e <= 1000) :
  Calls Tryz.prog 133 #[.int .i64 n,.int .i64 e] w fun r w' => r = .returned (.bool (decide (0 < e) && fitsN e.toNat n)) /\ w = w':=by
 by_cases h:0 < e
 ·obtain ⟨k,rfl⟩:∃ k:Nat,e = k:=⟨e.toNat,by omega⟩
  refine (zgp n k w hn (by omega)).mono ?_;rintro r w' ⟨rfl,rfl⟩;exact ⟨zaI (by rw [decide_eq_true (show 0 < k by omega),decide_eq_true h]; rfl),rfl⟩
 ·have H:=Lib.hid (show (decide (0 < e) && fitsN e.toNat n) = false by rw [decide_eq_false h]; rfl)
  have h2:¬ (0:Int) < e:=h
  go_enter Tryz.func133,Tryz.ntmps133
  go_wp2
  go_loopw [5] (fun i wr => i = .int .i64 0 /\ w = wr) (fun _ _ => 0)
  case atStart => exact ⟨rfl,rfl⟩
  case round =>
   obtain ⟨rfl,rfl⟩:=hrel;go_wp2;go_ret;exact ⟨by rw [H.out]; simp <;> omega,rfl⟩
set_option maxHeartbeats 4000000 in
set_option maxRecDepth 10000 in
theorem l02Own_any (x:V) (cs:List Value) (w:World) (h:Rd w x.d cs) (hwf:x.wf) (hbk:x.bulk <= 4294967295) :
  Calls Tryz.prog 119 #[.agg cs.toArray] w fun e w' => e = .returned (.bool x.self) /\ Below w.heap.size w w':=by
 obtain ⟨k,n,e,s,kids,v1,rfl,rfl,hkids⟩:=V.lay h;have hP:=Lib.hid (fun w1 (hb:Below w.heap.size w w1) => zgr kids v1 w1 (hkids.below hb) (by simp only [V.bulk] at hbk; omega));obtain ⟨a1,c1,rfl⟩:=Rd.sl_form hkids;rw [V.ds_map,List.length_map] at hP ⊢;have hsl:s.length <= 4294967295:=by simp only [V.bulk] at hbk; omega
 have hkl:kids.length <= 4294967295:=by simp only [V.bulk] at hbk; omega
 obtain ⟨hk,hn,he,_,_,_⟩:=hwf;obtain ⟨ok,hok⟩:∃ ok,V.self (.mk k n e s kids) = ok:=⟨_,rfl⟩;rw [hok];have hA:=(Below.refl w.heap.size w).alloc (Nat.le_refl _) (.cells #[.int .i64 k,.int .i64 n,.int .i64 e,.string ⟨s.toArray⟩,.slice a1 kids.length c1] 51);clear h hkids hbk;have HOK:=Lib.hid hok; clear hok
 have HA:=Lib.hid hA; clear hA; have hW0:=Lib.hid hn; clear hW0
 by_cases q7:k = 7
 ·subst q7
  go_enter Tryz.func119,Tryz.ntmps119
  go_wp2
  go_quiet (fail)
  go_wp2
  all_goals (go_ret; refine ⟨zaI ?_,by first | exact below_drewN ((Below.refl _ _).alloc (Nat.le_refl _) _) _ | exact zaB (below_drewN ((Below.refl _ _).alloc (Nat.le_refl _) _) _) (by assumption) (by first | exact Nat.le_refl _ | simp)⟩; rw [<- HOK.out]; simp_all [V.self,V.selfBy,isE] <;> (intros; omega))
 by_cases q0:k = 0
 ·subst q0
  go_enter Tryz.func119,Tryz.ntmps119
  go_wp2
  go_quiet (fail)
  go_wp2
  all_goals (go_ret; refine ⟨zaI ?_,by first | exact below_drewN ((Below.refl _ _).alloc (Nat.le_refl _) _) _ | exact zaB (below_drewN ((Below.refl _ _).alloc (Nat.le_refl _) _) _) (by assumption) (by first | exact Nat.le_refl _ | simp)⟩; rw [<- HOK.out]; simp_all [V.self,V.selfBy,len0] <;> (intros; omega))
 by_cases q1:k = 1
 ·subst q1
  go_enter Tryz.func119,Tryz.ntmps119
  go_wp2
  go_quiet (fail)
  go_wp2
  all_goals (go_ret; refine ⟨zaI ?_,by first | exact below_drewN ((Below.refl _ _).alloc (Nat.le_refl _) _) _ | exact zaB (below_drewN ((Below.refl _ _).alloc (Nat.le_refl _) _) _) (by assumption) (by first | exact Nat.le_refl _ | simp)⟩; rw [<- HOK.out]; simp_all [V.self,V.selfBy,len0] <;> (intros; omega))
 by_cases q2:k = 2
 ·subst q2
  go_enter Tryz.func119,Tryz.ntmps119
  go_wp2
  go_quiet (fail)
  go_wp2
  all_goals (go_ret; refine ⟨zaI ?_,by first | exact below_drewN ((Below.refl _ _).alloc (Nat.le_refl _) _) _ | exact zaB (below_drewN ((Below.refl _ _).alloc (Nat.le_refl _) _) _) (by assumption) (by first | exact Nat.le_refl _ | simp)⟩; rw [<- HOK.out]; simp_all [V.self,V.selfBy,len0] <;> (intros; omega))
 by_cases q3:k = 3
 ·subst q3
  go_enter Tryz.func119,Tryz.ntmps119
  go_wp2
  go_quiet (fail)
  go_wp2
  all_goals (go_ret; refine ⟨zaI ?_,by first | exact below_drewN ((Below.refl _ _).alloc (Nat.le_refl _) _) _ | exact zaB (below_drewN ((Below.refl _ _).alloc (Nat.le_refl _) _) _) (by assumption) (by first | exact Nat.le_refl _ | simp)⟩; rw [<- HOK.out]; simp_all [V.self,V.selfBy,len0] <;> (intros; omega))
 by_cases q6:k = 6
 ·subst q6
  by_cases hs2:s.length <= 2000
  ·skip
   go_enter Tryz.func119,Tryz.ntmps119
   go_wp2
   go_quiet (fail)
   go_wp2
   all_goals (go_ret; refine ⟨zaI ?_,by first | exact below_drewN ((Below.refl _ _).alloc (Nat.le_refl _) _) _ | exact zaB (below_drewN ((Below.refl _ _).alloc (Nat.le_refl _) _) _) (by assumption) (by first | exact Nat.le_refl _ | simp)⟩; rw [<- HOK.out]; simp_all [V.self,V.selfBy,len0] <;> (intros; omega))
  ·skip
   go_enter Tryz.func119,Tryz.ntmps119
   go_wp2
   go_quiet (fail)
   go_wp2
   all_goals (go_ret; refine ⟨zaI ?_,by first | exact below_drewN ((Below.refl _ _).alloc (Nat.le_refl _) _) _ | exact zaB (below_drewN ((Below.refl _ _).alloc (Nat.le_refl _) _) _) (by assumption) (by first | exact Nat.le_refl _ | simp)⟩; rw [<- HOK.out]; simp_all [V.self,V.selfBy] <;> (intros; omega))
 by_cases q5:k = 5
 ·subst q5
  by_cases hs2:s.length <= 2000
  ·skip
   go_enter Tryz.func119,Tryz.ntmps119
   go_wp2
   go_quiet (fail)
   go_wp2_with (go_at_call 59; refine (zcY s _ hsl).mono ?_; rintro e1 w1 ⟨rfl,hb1⟩; have f3:w1.cell? ⟨w.heap.size,3,none⟩ = some (.string ⟨s.toArray⟩):=(by rw [(zbF hb1).1 _ _ (by simp)]; simp [go_sem]); have f4:w1.cell? ⟨w.heap.size,4,none⟩ = some (.slice a1 kids.length c1):=(by rw [(zbF hb1).1 _ _ (by simp)]; simp [go_sem]))
   all_goals (go_ret; refine ⟨zaI ?_,by first | exact below_drewN ((Below.refl _ _).alloc (Nat.le_refl _) _) _ | exact zaB (below_drewN ((Below.refl _ _).alloc (Nat.le_refl _) _) _) (by assumption) (by first | exact Nat.le_refl _ | simp)⟩; rw [<- HOK.out]; simp_all [V.self,V.selfBy,len0] <;> (intros; omega))
  ·skip
   go_enter Tryz.func119,Tryz.ntmps119
   go_wp2
   go_quiet (fail)
   go_wp2_with (go_at_call 59; refine (zcY s _ hsl).mono ?_; rintro e1 w1 ⟨rfl,hb1⟩; have f3:w1.cell? ⟨w.heap.size,3,none⟩ = some (.string ⟨s.toArray⟩):=(by rw [(zbF hb1).1 _ _ (by simp)]; simp [go_sem]); have f4:w1.cell? ⟨w.heap.size,4,none⟩ = some (.slice a1 kids.length c1):=(by rw [(zbF hb1).1 _ _ (by simp)]; simp [go_sem]))
   all_goals (go_ret; refine ⟨zaI ?_,by first | exact below_drewN ((Below.refl _ _).alloc (Nat.le_refl _) _) _ | exact zaB (below_drewN ((Below.refl _ _).alloc (Nat.le_refl _) _) _) (by assumption) (by first | exact Nat.le_refl _ | simp)⟩; rw [<- HOK.out]; simp_all [V.self,V.selfBy] <;> (intros; omega))
 by_cases q8:k = 8
 ·subst q8
  go_enter Tryz.func119,Tryz.ntmps119
  go_wp2
  go_quiet (fail)
  go_wp2_with (go_at_call 134; refine (hP.out _ (below_drewN ((Below.refl _ _).alloc (Nat.le_refl _) _) _)).mono ?_; rintro e1 w1 ⟨rfl,hb1⟩)
  all_goals (go_ret; refine ⟨zaI ?_,by first | exact below_drewN ((Below.refl _ _).alloc (Nat.le_refl _) _) _ | exact zaB (below_drewN ((Below.refl _ _).alloc (Nat.le_refl _) _) _) (by assumption) (by first | exact Nat.le_refl _ | simp)⟩; rw [<- HOK.out]; simp_all [V.self,V.selfBy] <;> (intros; omega))
 by_cases q9:k = 9
 ·subst q9
  go_enter Tryz.func119,Tryz.ntmps119
  go_wp2
  go_quiet (fail)
  go_wp2_with (go_at_call 27; refine (zaT _ _ _ _).mono ?_; rintro e1 w1 ⟨rfl,rfl⟩)
  all_goals (go_ret; refine ⟨zaI ?_,by first | exact below_drewN ((Below.refl _ _).alloc (Nat.le_refl _) _) _ | exact zaB (below_drewN ((Below.refl _ _).alloc (Nat.le_refl _) _) _) (by assumption) (by first | exact Nat.le_refl _ | simp)⟩; rw [<- HOK.out]; simp_all [V.self,V.selfBy,len1] <;> (intros; omega))
 by_cases q4:k = 4
 ·subst q4
  by_cases g1:Int.tmod n 10 = 0
  ·have g1':(Int.tmod n 10 != 0) = false:=by simpa using g1
   have H:=Lib.hid (show ok = false by rw [<- HOK.out]; simp [V.self,V.selfBy,decOk,g1])
   go_enter Tryz.func119,Tryz.ntmps119
   go_wp2
   go_quiet (fail)
   go_wp2;go_ret;exact ⟨by rw [H.out]; rfl,below_drewN ((Below.refl _ _).alloc (Nat.le_refl _) _) _⟩
  ·have g1':(Int.tmod n 10 != 0) = true:=by simpa using g1
   by_cases g2:-20 <= e /\ e <= 20
   ·by_cases g3:e = 0
    ·subst g3
     have H:=Lib.hid (show ok = false by rw [<- HOK.out]; simp [V.self,V.selfBy,decOk])
     go_enter Tryz.func119,Tryz.ntmps119
     go_wp2
     go_quiet (fail)
     go_wp2_with (go_at_call 27; refine (zaT _ _ _ _).mono ?_; rintro e1 w1 ⟨rfl,rfl⟩)
     all_goals (go_ret; exact ⟨by rw [H.out]; rfl,below_drewN ((Below.refl _ _).alloc (Nat.le_refl _) _) _⟩)
    ·have g3':(e == 0) = false:=by simpa using g3
     by_cases g4:-999999999999999999 <= n /\ n <= 999999999999999999
     ·by_cases g5:s = []
      ·subst g5
       by_cases g6:kids = []
       ·subst g6
        have H:=Lib.hid (show ok = !(decide (0 < e) && fitsN e.toNat n) by rw [<- HOK.out]; simp [V.self,V.selfBy,decOk,zaM g2,zaM g4,g1,g3])
        go_enter Tryz.func119,Tryz.ntmps119
        go_wp2
        go_quiet (fail)
        go_wp2_with (first | (go_at_call 27; refine (zaT _ _ _ _).mono ?_; rintro e1 w1 ⟨rfl,rfl⟩; first | rw [zaM g2] | rw [zaM g4]) | (go_at_call 133; refine (zgs n e _ hn (by omega)).mono ?_; rintro e1 w1 ⟨rfl,rfl⟩))
        go_ret;exact ⟨by rw [H.out]; simp,below_drewN ((Below.refl _ _).alloc (Nat.le_refl _) _) _⟩
       ·have H:=Lib.hid (show ok = false by rw [<- HOK.out]; simp [V.self,V.selfBy,g6])
        have g6':((kids.length:Int) == 0) = false:=by rw [len0,decide_eq_false g6]
        go_enter Tryz.func119,Tryz.ntmps119
        go_wp2
        go_quiet (fail)
        go_wp2_with (first | (go_at_call 27; refine (zaT _ _ _ _).mono ?_; rintro e1 w1 ⟨rfl,rfl⟩; first | rw [zaM g2] | rw [zaM g4]))
        go_ret;exact ⟨by rw [H.out]; rfl,below_drewN ((Below.refl _ _).alloc (Nat.le_refl _) _) _⟩
      ·have H:=Lib.hid (show ok = false by rw [<- HOK.out]; simp [V.self,V.selfBy,g5])
       have g5':s.isEmpty = false:=by rw [isE,decide_eq_false g5]
       go_enter Tryz.func119,Tryz.ntmps119
       go_wp2
       go_quiet (fail)
       go_wp2_with (first | (go_at_call 27; refine (zaT _ _ _ _).mono ?_; rintro e1 w1 ⟨rfl,rfl⟩; first | rw [zaM g2] | rw [zaM g4]))
       go_ret;exact ⟨by rw [H.out]; rfl,below_drewN ((Below.refl _ _).alloc (Nat.le_refl _) _) _⟩
     ·have H:=Lib.hid (show ok = false by rw [<- HOK.out]; simp [V.self,V.selfBy,decOk,zbk g4])
      go_enter Tryz.func119,Tryz.ntmps119
      go_wp2
      go_quiet (fail)
      go_wp2_with (first | (go_at_call 27; refine (zaT _ _ _ _).mono ?_; rintro e1 w1 ⟨rfl,rfl⟩; first | rw [zbk g4] | rw [zaM g2]))
      go_ret;exact ⟨by rw [H.out]; rfl,below_drewN ((Below.refl _ _).alloc (Nat.le_refl _) _) _⟩
   ·have H:=Lib.hid (show ok = false by rw [<- HOK.out]; simp [V.self,V.selfBy,decOk,zbk g2])
    have H2:=Lib.hid (zbk g2)
    go_enter Tryz.func119,Tryz.ntmps119
    go_wp2
    go_quiet (fail)
    go_wp2_with (go_at_call 27; refine (zaT _ _ _ _).mono ?_; rintro e1 w1 ⟨rfl,rfl⟩; try rw [H2.out])
    all_goals (go_ret; exact ⟨by rw [H.out]; rfl,below_drewN ((Below.refl _ _).alloc (Nat.le_refl _) _) _⟩)
 have H:=Lib.hid (show ok = false by rw [<- HOK.out]; simp [V.self,V.selfBy,q0,q1,q2,q3,q4,q5,q6,q7,q8,q9])
 go_enter Tryz.func119,Tryz.ntmps119
 go_wp2
 go_quiet (fail)
 go_wp2
 all_goals (go_ret; exact ⟨by rw [H.out]; rfl,below_drewN ((Below.refl _ _).alloc (Nat.le_refl _) _) _⟩)
end Go.Proofs.YtmmcehkdnnolkaaGreatDoor
/- When a value is right: the reference's l02Right, Nodes and ValueOk. -/
namespace Go.Proofs.YtmmcehkdnnolkaaGreatDoor
open Go.RowKit
def VRtA (n:Nat):Prop:=∀ (x:V) (cs:List Value) (d:Int) (w:World),x.nodes <= n -> Rd w x.d cs -> x.wf -> x.bulk <= 4294967295 -> -1000 <= d -> d <= 1000 ->
 Calls Tryz.prog 90 #[.agg cs.toArray,.int .i64 d] w fun e w' => e = .returned (.bool (V.rightBy pairsOk d x)) /\ Below w.heap.size w w'
theorem V.rights_false {q:List V -> Bool} {d:Int} {xs:List V} (k:Nat) (hk:k < xs.length) (h:V.rightBy q d xs[k] = false):V.rightsBy q d xs = false:=by
 rw [V.rightsBy_all]; apply Bool.eq_false_iff.2; intro hh
 rw [List.all_eq_true] at hh
 have:=hh xs[k] (List.getElem_mem hk); rw [h] at this; cases this
theorem V.rights_snoc {q:List V -> Bool} {d:Int} {xs:List V} (k:Nat) (hk:k < xs.length) (h:V.rightsBy q d (xs.take k) = true) (h2:V.rightBy q d xs[k] = true):V.rightsBy q d (xs.take (k + 1)) = true:=by
 rw [List.take_succ_eq_append_getElem hk,V.rightsBy_all,List.all_append]; rw [V.rightsBy_all] at h; rw [h]; simp [h2]
theorem V.nodes_split (xs:List V) (k:Nat) (hk:k < xs.length):V.nodess (xs.take (k + 1)) = V.nodess (xs.take k) + xs[k].nodes:=by
 rw [List.take_succ_eq_append_getElem hk]
 have hn:∀ (ls:List V) (x:V),V.nodess (ls ++ [x]) = V.nodess ls + x.nodes:=by
  intro ls x; induction ls with
  | nil => simp [V.nodess]
  | cons a ls ih => simp only [List.cons_append,V.nodess,ih]; omega
 exact hn _ _
theorem V.nodess_take:∀ (xs:List V) (k:Nat),V.nodess (xs.take k) <= V.nodess xs
 | [],k => by simp [V.nodess]
 | x :: xs,0 => by simp [V.nodess]
 | x :: xs,k + 1 => by have:=V.nodess_take xs k; simp only [List.take_succ_cons,V.nodess]; omega
mutual
theorem V.nodes_bulk:∀ x:V,x.nodes <= x.bulk + 1
 | .mk _ _ _ s kids => by have:=V.nodess_bulks kids; simp only [V.nodes,V.bulk]; omega
theorem V.nodess_bulks:∀ xs:List V,V.nodess xs <= xs.length + V.bulks xs
 | [] => by simp [V.nodess]
 | x :: xs => by have:=V.nodes_bulk x; have:=V.nodess_bulks xs; simp only [V.nodess,V.bulks,List.length_cons]; omega
end
theorem V.bulk_get' {ls:List V} {m:Nat} (h:ls.length + V.bulks ls <= m) (k:Nat) (hk:k < ls.length):ls[k].bulk <= m:=by
 have h1:=V.bulks_snoc ls k hk; have h2:=V.bulks_take ls (k + 1); omega
set_option maxHeartbeats 2000000 in
set_option maxRecDepth 10000 in
theorem VRtA_of {n:Nat} (hA:VRtA n):VRtA (n + 1):=by
 intro x cs d w hn h hwf hbk hd1 hd2;have HO:=Lib.hid (fun w1 (hb:Below w.heap.size w w1) => l02Own_any x cs w1 (h.below hb) hwf hbk);obtain ⟨k,m,e,s,kids,v1,rfl,rfl,hkids⟩:=V.lay h;have hnk:V.nodess kids <= n:=by simp only [V.nodes] at hn; omega
 have hkw:V.wfs kids:=hwf.2.2.2.2.2;have hkb:kids.length + V.bulks kids <= 4294967295:=by simp only [V.bulk] at hbk; omega
 obtain ⟨a2,c2,rfl,hg⟩:=hkids.values;obtain ⟨ok,hok⟩:∃ ok,V.rightBy pairsOk d (.mk k m e s kids) = ok:=⟨_,rfl⟩;rw [hok];have HOK:=Lib.hid hok; clear hok
 obtain ⟨W0,hW0⟩:∃ W0,W0 = w.alloc (.cells #[.int .i64 k,.int .i64 m,.int .i64 e,.string ⟨s.toArray⟩,.slice a2 kids.length c2] 51):=⟨_,rfl⟩;have HW:=Lib.hid hW0;have hA0:Below w.heap.size w W0:=by rw [hW0]; exact (Below.refl _ _).alloc (Nat.le_refl _) _
 have hz:w.heap.size < W0.heap.size:=by rw [hW0]; simp
 have KB:Hid (∀ W,Below W0.heap.size W0 W -> W.cell? ⟨w.heap.size,0,none⟩ = some (.int .i64 k) /\ W.cell? ⟨w.heap.size,1,none⟩ = some (.int .i64 m) /\ W.cell? ⟨w.heap.size,2,none⟩ = some (.int .i64 e) /\ W.cell? ⟨w.heap.size,3,none⟩ = some (.string ⟨s.toArray⟩) /\ W.cell? ⟨w.heap.size,4,none⟩ = some (.slice a2 kids.length c2)):=by
  intro W hb;obtain ⟨hc,_⟩:=zbF hb;simp only [hc _ _ hz]; subst hW0; simp
 clear hW0 h hkids hwf hbk;obtain ⟨f0,f1,f2,f3,f4⟩:=KB.out _ (Below.refl _ _);by_cases hd0:d < 0
 ·have HF:=Lib.hid (show ok = false by rw [<- HOK.out]; simp only [V.rightBy]; rw [decide_eq_false (show ¬ 0 <= d by omega)]; simp)
  go_enter Tryz.func90,Tryz.ntmps90
  go_wp2;rw [<- HW.out];go_ret;exact ⟨by rw [HF.out]; rfl,hA0⟩
 have D0:=Lib.hid (decide_eq_true (show 0 <= d by omega))
 cases hs:V.self (.mk k m e s kids) with
 | false =>
  have HS:=Lib.hid hs;have HF:=Lib.hid (show ok = false by rw [<- HOK.out]; simp only [V.rightBy]; rw [show V.selfBy pairsOk (.mk k m e s kids) = false from hs]; simp);clear hs
  go_enter Tryz.func90,Tryz.ntmps90
  go_wp2_with (go_at_call 119; rw [<- HW.out]; refine (HO.out _ hA0).mono ?_; rw [HS.out]; rintro e w1 ⟨rfl,hb1⟩)
  go_ret
  exact ⟨by rw [HF.out]; rfl,zaB hA0 hb1 (Nat.le_refl _)⟩
 | true =>
 have HS:=Lib.hid hs;have HF0:=Lib.hid (show ok = V.rightsBy pairsOk (d - 1) kids by rw [<- HOK.out]; simp only [V.rightBy]; rw [show V.selfBy pairsOk (.mk k m e s kids) = true from hs,D0.out]; simp);clear hs
 go_enter Tryz.func90,Tryz.ntmps90
 go_wp2_with (go_at_call 119; rw [<- HW.out]; refine (HO.out _ hA0).mono ?_; rw [HS.out]; rintro e w1 ⟨rfl,hb1⟩)
 go_loopw [5] (fun i wr => ∃ (j:Nat),j <= kids.length /\ i = .int .i64 j /\ V.rightsBy pairsOk (d - 1) (kids.take j) = true /\ Below W0.heap.size W0 wr) (fun i _ => kids.length - (intOf i).toNat)
 case atStart => exact ⟨0,Nat.zero_le _,rfl,by simp [V.rightsBy],hb1⟩
 case round =>
  obtain ⟨j,hj,rfl,hr,hbel⟩:=hrel;have HR:=Lib.hid hr; clear hr f0 f1 f2 f3 f4
  obtain ⟨f0,f1,f2,f3,f4⟩:=KB.out _ hbel;have hbw:=zaB hA0 hbel (Nat.le_refl _);by_cases hlt:j < kids.length
  ·obtain ⟨_,_,b,o,rfl,hb,hcell⟩:=hg (by intro e; rw [e] at hlt; simp at hlt)
   obtain ⟨v0,v1,v2,v3,v4,hr,d0,d1,d2,d3,d4⟩:=hcell j hlt;clear hcell hg;obtain ⟨k1,k2,k3,s4,a6,n6,m6,hcs⟩:=V.form hr;simp only [List.cons.injEq,and_true] at hcs;obtain ⟨rfl,rfl,rfl,rfl,rfl⟩:=hcs;have hbc:=(zbF hbw).1;rw [<- hbc _ _ hb] at d0 d1 d2 d3 d4;clear hbc;have hi1:(0:Int) <= j:=by omega
   have hi3:(j:Int) < kids.length:=by omega
   have hn1:=V.nodes_get kids j hlt;have HC:=Lib.hid (hA kids[j] _ (d - 1) wr (Nat.le_trans hn1 hnk) (hr.below hbw) (V.wfs_get hkw j hlt) (V.bulk_get' hkb j hlt) (by omega) (by omega))
   cases hv:V.rightBy pairsOk (d - 1) kids[j] with
   | true =>
    have HV:=Lib.hid hv;have HS2:=Lib.hid (V.rights_snoc j hlt HR.out hv);clear hv
    go_wp2_with (go_at_call 90; refine HC.out.mono ?_; rw [HV.out]; rintro e w2 ⟨rfl,hb2⟩)
    go_roundw
    case rel => exact ⟨j + 1,by omega,by go_num,HS2.out,zaB hbel hb2 (Nat.le_refl _)⟩
    case measure => simp [intOf]; omega
   | false =>
    have HV:=Lib.hid hv;have HF:=Lib.hid (show ok = false by rw [HF0.out]; exact V.rights_false j hlt hv);clear hv
    go_wp2_with (go_at_call 90; refine HC.out.mono ?_; rw [HV.out]; rintro e w2 ⟨rfl,hb2⟩)
    go_ret;exact ⟨by rw [HF.out]; rfl,zaB hbw hb2 (Nat.le_refl _)⟩
  ·obtain rfl:j = kids.length:=by omega
   have h1:=HR.out;rw [List.take_length] at h1;have HF:=Lib.hid (show ok = true by rw [HF0.out]; exact h1);clear h1;go_wp2;go_ret;exact ⟨by rw [HF.out]; rfl,hbw⟩
theorem VRt_all:∀ n,VRtA n
 | 0 => fun x cs d w hn => absurd x.nodes_pos (by omega)
 | n + 1 => VRtA_of (VRt_all n)
def VMnA (n:Nat):Prop:=∀ (x:V) (cs:List Value) (w:World),x.nodes <= n -> Rd w x.d cs -> x.bulk <= 4294967295 ->
 Calls Tryz.prog 91 #[.agg cs.toArray] w fun e w' => e = .returned (.int .i64 (x.nodes:Nat)) /\ Below w.heap.size w w'
set_option maxHeartbeats 2000000 in
set_option maxRecDepth 10000 in
theorem VMnA_of {n:Nat} (hA:VMnA n):VMnA (n + 1):=by
 intro x cs w hn h hbk;obtain ⟨k,m,e,s,kids,v1,rfl,rfl,hkids⟩:=V.lay h;have hnk:V.nodess kids <= n:=by simp only [V.nodes] at hn; omega
 have hkb:kids.length + V.bulks kids <= 4294967295:=by simp only [V.bulk] at hbk; omega
 have hnb:=V.nodess_bulks kids;obtain ⟨a2,c2,rfl,hg⟩:=hkids.values;obtain ⟨W0,hW0⟩:∃ W0,W0 = w.alloc (.cells #[.int .i64 k,.int .i64 m,.int .i64 e,.string ⟨s.toArray⟩,.slice a2 kids.length c2] 51):=⟨_,rfl⟩;have HW:=Lib.hid hW0;have hA0:Below w.heap.size w W0:=by rw [hW0]; exact (Below.refl _ _).alloc (Nat.le_refl _) _
 have hz:w.heap.size < W0.heap.size:=by rw [hW0]; simp
 have KB:Hid (∀ W,Below W0.heap.size W0 W -> W.cell? ⟨w.heap.size,4,none⟩ = some (.slice a2 kids.length c2)):=by
  intro W hb;obtain ⟨hc,_⟩:=zbF hb;simp only [hc _ _ hz]; subst hW0; simp
 clear hW0 h hkids hbk
 go_enter Tryz.func91,Tryz.ntmps91
 go_wp2;rw [<- HW.out]
 go_loopw [3,4] (fun x i wr => ∃ (j:Nat),j <= kids.length /\ i = .int .i64 j /\ x = .int .i64 (1 + V.nodess (kids.take j):Nat) /\ Below W0.heap.size W0 wr) (fun _ i _ => kids.length - (intOf i).toNat)
 case atStart => exact ⟨0,Nat.zero_le _,rfl,by simp [V.nodess],Below.refl _ _⟩
 case round =>
  obtain ⟨j,hj,rfl,rfl,hbel⟩:=hrel;have f5:=KB.out _ hbel;have hbw:=zaB hA0 hbel (Nat.le_refl _);by_cases hlt:j < kids.length
  ·obtain ⟨_,_,b,o,rfl,hb,hcell⟩:=hg (by intro e; rw [e] at hlt; simp at hlt)
   obtain ⟨v0,v1,v2,v3,v4,hr,d0,d1,d2,d3,d4⟩:=hcell j hlt;clear hcell hg;obtain ⟨k1,k2,k3,s4,a6,n6,m6,hcs⟩:=V.form hr;simp only [List.cons.injEq,and_true] at hcs;obtain ⟨rfl,rfl,rfl,rfl,rfl⟩:=hcs;have hbc:=(zbF hbw).1;rw [<- hbc _ _ hb] at d0 d1 d2 d3 d4;clear hbc;have hi1:(0:Int) <= j:=by omega
   have hi3:(j:Int) < kids.length:=by omega
   have hn1:=V.nodes_get kids j hlt;have HC:=Lib.hid (hA kids[j] _ wr (Nat.le_trans hn1 hnk) (hr.below hbw) (V.bulk_get' hkb j hlt));have HS:=Lib.hid (V.nodes_split kids j hlt);have ht1:=V.nodess_take kids j;obtain ⟨q,hq⟩:∃ q,V.nodess (kids.take j) = q:=⟨_,rfl⟩;rw [hq] at HS ht1 ⊢;clear hq;obtain ⟨p,hp⟩:∃ p,kids[j].nodes = p:=⟨_,rfl⟩;rw [hp] at HS hn1 HC;clear hp
   go_wp2_with (go_at_call 91; refine HC.out.mono ?_; rintro e w1 ⟨rfl,hb1⟩)
   go_roundw
   case rel => exact ⟨j + 1,by omega,by go_num,by rw [HS.out]; go_num,zaB hbel hb1 (Nat.le_refl _)⟩
   case measure => simp [intOf]; omega
  ·obtain rfl:j = kids.length:=by omega
   rw [List.take_length];go_wp2;go_ret;exact ⟨rfl,hbw⟩
theorem VMn_all:∀ n,VMnA n
 | 0 => fun x cs w hn => absurd x.nodes_pos (by omega)
 | n + 1 => VMnA_of (VMn_all n)
set_option maxHeartbeats 400000 in
set_option maxRecDepth 10000 in
theorem zgt (x:V) (cs:List Value) (w:World) (h:Rd w x.d cs) (hwf:x.wf) (hbk:x.bulk <= 4294967295) :
  Calls Tryz.prog 61 #[.agg cs.toArray] w fun e w' => e = .returned (.bool x.ok) /\ Below w.heap.size w w':=by
 obtain ⟨k,m,e,s,a2,n2,c2,rfl⟩:=V.form h;obtain ⟨W0,hW0⟩:∃ W0,W0 = w.alloc (.cells #[.int .i64 k,.int .i64 m,.int .i64 e,.string ⟨s.toArray⟩,.slice a2 n2 c2] 51):=⟨_,rfl⟩;have HW:=Lib.hid hW0;have hA:Below w.heap.size w W0:=by rw [hW0]; exact (Below.refl _ _).alloc (Nat.le_refl _) _
 have hz:w.heap.size < W0.heap.size:=by rw [hW0]; simp
 have KB:Hid (∀ W,Below W0.heap.size W0 W -> W.cell? ⟨w.heap.size,0,none⟩ = some (.int .i64 k) /\ W.cell? ⟨w.heap.size,1,none⟩ = some (.int .i64 m) /\ W.cell? ⟨w.heap.size,2,none⟩ = some (.int .i64 e) /\ W.cell? ⟨w.heap.size,3,none⟩ = some (.string ⟨s.toArray⟩) /\ W.cell? ⟨w.heap.size,4,none⟩ = some (.slice a2 n2 c2)):=by
  intro W hb;obtain ⟨hc,_⟩:=zbF hb;simp only [hc _ _ hz]; subst hW0; simp
 have hnb:=x.nodes_bulk;have HR:=Lib.hid (fun W (hb:Below W0.heap.size W0 W) => VRt_all x.nodes x _ 12 W (Nat.le_refl _) (h.below (zaB hA hb (Nat.le_refl _))) hwf hbk (by decide) (by decide));have HM:=Lib.hid (fun W (hb:Below W0.heap.size W0 W) => VMn_all x.nodes x _ W (Nat.le_refl _) (h.below (zaB hA hb (Nat.le_refl _))) hbk);have hB:=Below.refl W0.heap.size W0;clear hW0 h
 go_enter Tryz.func61,Tryz.ntmps61
 cases hr:V.rightBy pairsOk 12 x with
 | true =>
  have HV:=Lib.hid hr; clear hr
  go_wp2_with (first | (go_at_call 90; rw [<- HW.out]; refine (HR.out _ hB).mono ?_; rw [HV.out]; rintro e w1 ⟨rfl,hb1⟩; obtain ⟨p0,p1,p2,p3,p4⟩:=KB.out _ hb1) | (go_at_call 91; refine (HM.out _ hb1).mono ?_; rintro e w2 ⟨rfl,hb2⟩))
  go_ret;refine ⟨zaI ?_,zaB hA (zaB hb1 hb2 (Nat.le_refl _)) (Nat.le_refl _)⟩
  unfold V.ok; rw [HV.out,Bool.true_and,Bool.eq_iff_iff]; simp; omega
 | false =>
  have HV:=Lib.hid hr; clear hr
  go_wp2_with (first | (go_at_call 90; rw [<- HW.out]; refine (HR.out _ hB).mono ?_; rw [HV.out]; rintro e w1 ⟨rfl,hb1⟩))
  go_ret;refine ⟨zaI ?_,zaB hA hb1 (Nat.le_refl _)⟩;unfold V.ok; rw [HV.out]; rfl
end Go.Proofs.YtmmcehkdnnolkaaGreatDoor
namespace Go.Proofs.YtmmcehkdnnolkaaGreatDoor
open Go.RowKit
set_option maxHeartbeats 4000000
set_option maxRecDepth 100000
open List
section
variable {T:World -> Prop} {hT:Low ngl T}
theorem vok_fn (v:V) (hw:v.wf) (hb:v.bulk <= 4294967295):FnV (env T hT) 61 [.ag (vC v)] (.d (pB v.ok)):=by
 refine FnV.old rfl fun w C vs hF _ _ hlen hv => ?_
 match vs,hlen with
 | [a],_ =>
  have h0:=hv 0 _ _ rfl rfl;rw [<- V.pc_eq] at h0;obtain ⟨cs,rfl,h1⟩:=vRd hF (V.wfd v) h0;exact zgt v cs w h1 hw hb
end
section
section
variable {E:Env} {K:St -> Prop} {tm:Nat -> PV} {bx:LP PC} {nt d:Nat} {live:List Nat} {r:List MOpr}
theorem zaE {n p:Nat} {x:X} {g:Option (Nat × Bool)} {c:List X} {cs:List PC} (hg:gd g tm = some true) (hx:ev tm x = .ref p 0) (hb:bx[p]? = some cs) (hn:cs.length = n) (h:po E r K ⟨up d (.ag cs) tm,bx,nt,live⟩):po E (⟨some d,.load true n x,g,c⟩ :: r) K ⟨tm,bx,nt,live⟩:=by
 refine po_q hg ?_ h;simp only [qf,hx,hb,Nat.zero_add,drop_zero,ldv,hn,Nat.le_refl,if_true];rw [<- hn,take_length]
theorem zar {n p:Nat} {a x:X} {c:List X} {cs z:List PC} (ha:ev tm a = .ref p 0) (hx:ev tm x = .ag cs) (hb:bx[p]? = some z) (hn:cs.length = n) (hz:z.length = n) (hc:c.all (apartX (ev tm) a) = true) (h:po E r K ⟨tm,bx.set p cs,nt,live⟩):po E (⟨none,.store n a x,none,c⟩ :: r) K ⟨tm,bx,nt,live⟩:=by
 have hs:spl z 0 cs = cs:=by
  unfold spl;rw [take_zero,nil_append,Nat.zero_add,hn,<- hz,drop_length,append_nil]
 have hx':pcells (ev tm x) = some cs:=by rw [hx]; rfl
 refine zaw ha hx' hb ⟨hn,by omega⟩ hc ?_;rw [hs]; exact h
end
theorem zcl {E:Env} {B:Base} {m:M} {Q:Exit -> St -> Prop} {s:St} (I:St -> Prop) (h:I s) (k:∀ tm bx nt live,I ⟨tm,bx,nt,live⟩ -> mw E B m Q ⟨tm,bx,nt,live⟩):mw E B m Q s:=by
 obtain ⟨tm,bx,nt,live⟩:=s;exact k tm bx nt live h
theorem zgu {a v:List PC} (h:erL a = v):PV.dats [.ag a] = some [.ag v]:=by rw [<- h]; rfl
theorem zhx {a b v w:List PC} (h:erL a = v) (k:erL b = w):PV.dats [.ag a,.ag b] = some [.ag v,.ag w]:=by rw [<- h,<- k]; rfl
theorem dats1i {a v:List PC} (h:erL a = v) (x:Value):PV.dats [.ag a,.d (.v x)] = some [.ag v,.d (.v x)]:=by rw [<- h]; rfl
end
section
mutual
def PC.lw (n:Nat):PC -> Prop
 | .v _ => True
 | .bld p _ _ _ => p < n
 | .anyp => True
 | .row p _ _ => p < n
 | .sl _ es => lwLL n es
def lwL (n:Nat):List PC -> Prop
 | [] => True
 | c :: cs => PC.lw n c /\ lwL n cs
def lwLL (n:Nat):LP PC -> Prop
 | [] => True
 | l :: ls => lwL n l /\ lwLL n ls
end
mutual
def PV.lw (n:Nat):PV -> Prop
 | .d c => c.lw n
 | .ag cs => lwL n cs
 | .tup vs => lwVs n vs
 | .raw _ => True
 | .ref _ _ => False
 | .pt _ => False
 | .fn _ _ => False
def lwVs (n:Nat):List PV -> Prop
 | [] => True
 | v :: vs => PV.lw n v /\ lwVs n vs
end
theorem zft {n:Nat}:∀ {cs:List PC} (j:Nat) (c:PC),lwL n cs -> cs[j]? = some c -> c.lw n
 | c :: cs,0,_,h,e => by simp at e; subst e; exact h.1
 | c :: cs,j + 1,_,h,e => zft j _ h.2 (by simpa using e)
theorem zfu {n:Nat}:∀ {cs:LP PC} (j:Nat) (c:List PC),lwLL n cs -> cs[j]? = some c -> lwL n c
 | c :: cs,0,_,h,e => by simp at e; subst e; exact h.1
 | c :: cs,j + 1,_,h,e => zfu j _ h.2 (by simpa using e)
theorem zcI {n:Nat}:∀ {cs:List PV} (j:Nat) (c:PV),lwVs n cs -> cs[j]? = some c -> c.lw n
 | c :: cs,0,_,h,e => by simp at e; subst e; exact h.1
 | c :: cs,j + 1,_,h,e => zcI j _ h.2 (by simpa using e)
mutual
theorem owned_lw {n:Nat}:∀ {c:PC},c.owned = true -> c.lw n
 | .v _,_ => by simp only [PC.lw]
 | .bld _ _ _ _,ho => by simp [PC.owned] at ho
 | .anyp,_ => by simp only [PC.lw]
 | .row _ _ _,ho => by simp [PC.owned] at ho
 | .sl t es,ho => by
  simp only [PC.owned,Bool.and_eq_true,Bool.or_eq_true,decide_eq_true_eq] at ho;simp only [PC.lw]
  rcases ho.1 with h0 | h0
  ·exact ownedLL_lw ho.2
  ·rw [isEmpty_iff.1 h0]; simp only [lwLL]
theorem zaX {n:Nat}:∀ {c:List PC},ownedL c = true -> lwL n c
 | [],_ => by simp only [lwL]
 | c :: cs,ho => by
  simp only [ownedL,Bool.and_eq_true] at ho;simp only [lwL];exact ⟨owned_lw ho.1,zaX ho.2⟩
theorem ownedLL_lw {n:Nat}:∀ {c:LP PC},ownedLL c = true -> lwLL n c
 | [],_ => by simp only [lwLL]
 | c :: cs,ho => by
  simp only [ownedLL,Bool.and_eq_true] at ho;simp only [lwLL];exact ⟨zaX ho.1,ownedLL_lw ho.2⟩
end
def Cx.reb (C:Cx) (n:Nat) (f:Nat -> Nat):Cx:={ C with nb:=n,bx:=f }
theorem RpC.reb {C:Cx} {w:World} {n:Nat} {f:Nat -> Nat} {c:PC} {v:Value} (h:RpC C w c v):c.lw 0 -> RpC (C.reb n f) w c v:=by
 induction h with
 | v x h => intro _; exact .v x h
 | bld p T t U v h cs fz ht hv hU => intro hl; exact absurd hl (Nat.not_lt_zero p)
 | anyp a h => intro _; exact .anyp a h
 | row p l c h hl hc => intro hlw; exact absurd hlw (Nat.not_lt_zero p)
 | emp a c => intro _; exact .emp a c
 | nil => intro _; exact .nil
 | nilo t h2 ht hb => intro _; exact .nilo (C:=C.reb n f) t h2 ht hb
 | rd es b o k c u hl hc hr h ih =>
  intro hf;simp only [PC.lw] at hf
  exact .rd (C:=C.reb n f) es b o k c u hl hc ⟨hr.pos,hr.wid,hr.cell,hr.fix⟩ fun i j e y he hy => ih i j e y he hy (zft j y (zfu i e hf he) hy)
 | own t es b u h2 ht hb hlen hl hc hr h ih =>
  intro hf;simp only [PC.lw] at hf;exact .own (C:=C.reb n f) t es b u h2 ht hb hlen hl hc ⟨hr.pos,hr.wid,hr.cell,hr.fix⟩ fun i j e y he hy => ih i j e y he hy (zft j y (zfu i e hf he) hy)
theorem RpL.reb {C:Cx} {w:World} {n:Nat} {f:Nat -> Nat} {cs:List PC} {vs:List Value} (h:RpL C w cs vs) (hl:lwL 0 cs):RpL (C.reb n f) w cs vs:=⟨h.1,fun j c y h1 h2 => (h.2 j c y h1 h2).reb (zft j c hl h1)⟩
theorem RpV.reb {C:Cx} {w:World} {n:Nat} {f:Nat -> Nat} {x:PV} {v:Value} (h:RpV C w x v):x.lw 0 -> RpV (C.reb n f) w x v:=by
 induction h with
 | d x v h => intro hl; exact .d x v (h.reb (by simpa only [PV.lw] using hl))
 | ag cs vs h => intro hl; exact .ag cs vs (h.reb (by simpa only [PV.lw] using hl))
 | tup xs vs hl _ ih => intro hf; simp only [PV.lw] at hf; exact .tup xs vs hl fun j x y h1 h2 => ih j x y h1 h2 (zcI j x hf h1)
 | ref p o h => intro hl; simp only [PV.lw] at hl
 | pt cs b o u hc hF h => intro hl; simp only [PV.lw] at hl
 | fn f xs vs hl h ih => intro hl; simp only [PV.lw] at hl
 | raw v => intro _; exact .raw v
theorem FnG.lift1 {E:Env} {f:Nat} {args:List PV} {c:List PC} {nt:Nat} {live:List Nat} {R:PV -> List PC -> Nat -> List Nat -> Prop}
  (h:FnG E f (.ref 0 0 :: args) [c] nt live (fun x b n l => ∃ c' rest,b = c' :: rest /\ x.lw 0 /\ lwL 0 c' /\ R x c' n l)) (ha:lwVs 0 args) (hc:lwL 0 c) {bx:LP PC} {p:Nat} (hp:bx[p]? = some c) :
  FnG E f (.ref p 0 :: args) bx nt live (fun x b n l => ∃ c',b = bx.set p c' /\ R x c' n l):=by
 intro C w vs hI hnt hold hn2 hlen hv
 have hplt:p < bx.length:=by
  rcases Nat.lt_or_ge p bx.length with h' | h'
  ·exact h'
  ·rw [getElem?_eq_none h'] at hp; cases hp
 have hnb:=hI.nb
 have hI1:Inv E.NG E.T (C.reb 1 fun _ => C.bx p) [c] (· ∈ live) w:=by
  refine ⟨rfl,fun q cs hq => ?_,fun q _ => hI.boxF p hplt,fun q _ => hI.boxG p hplt,fun q r hq hr _ => ?_,fun t ht => ?_,hI.tinj,hI.fin,hI.ng,hI.t⟩
  ·match q with
   | 0 =>
    simp only [getElem?_cons_zero,sI] at hq; subst hq
    obtain ⟨vs,e,h1,h2⟩:=hI.box p _ hp
    exact ⟨vs,e,h1,h2.reb hc⟩
   | q + 1 => simp at hq
  ·simp only [length_singleton] at hq hr; omega
  ·obtain ⟨a1,a2,a3⟩:=hI.tok t ht
   refine ⟨a1,a2,a3.imp id ?_⟩;rintro ⟨b,cur,e,c1,c2,c3,c4,c5,c6,c7,c8,c9,c10⟩;exact ⟨b,cur,e,c1,c2,c3,c4,c5,c6,c7,c8,c9,fun q _ => c10 p hplt⟩
 have hv1:∀ (j:Nat) (x:PV) (y:Value),(PV.ref 0 0 :: args)[j]? = some x -> vs[j]? = some y -> RpV (C.reb 1 fun _ => C.bx p) w x y:=by
  intro j x y hx hy
  match j with
  | 0 =>
   simp only [getElem?_cons_zero,sI] at hx; subst hx
   have:=hv 0 _ y rfl hy
   cases this
   exact RpV.ref (C:=C.reb 1 fun _ => C.bx p) 0 0 (by show 0 < 1; omega)
  | j + 1 =>
   rw [getElem?_cons_succ] at hx;exact (hv (j + 1) x y (by rw [getElem?_cons_succ]; exact hx) hy).reb (zcI j x ha hx)
 refine (h (C.reb 1 fun _ => C.bx p) w vs hI1 hnt hold hn2 (by simpa using hlen) hv1).mono ?_;rintro e w' ⟨u,x,b,n,l,C1,rfl,⟨c',rest,rfl,k1,k2,k3⟩,I1,hn,E1,hx⟩;have hb0:C1.bx 0 = C.bx p:=E1.bx.2 0 (by show 0 < 1; omega);have hle:CxLe C (C1.reb C.nb C.bx):=⟨E1.F,lR,fun _ _ => rfl,E1.tk.1,E1.tk.2⟩;have hF:Fix C w w':=E1.fix
 have hnotok:∀ q,q < bx.length -> ∀ t,t ∈ live -> C.tk t ≠ some (C.bx q):=by
  intro q hq t ht he;obtain ⟨_,_,⟨z,_⟩ | ⟨b,cur,e,c1,c2,c3,c4,c5,c6,c7,c8,c9,c10⟩⟩:=hI.tok t ht
  ·rw [he] at z; cases z
  ·rw [he] at c1; simp only [sI] at c1; subst c1; exact c10 q hq rfl
 have hold2:∀ t,(C.reb 1 fun _ => C.bx p).old t -> t ∈ live:=fun t ht => by
  have:C.old t:=ht
  rw [hold] at this; exact this
 refine ⟨u,x,bx.set p c',n,l,C1.reb C.nb C.bx,rfl,⟨c',rfl,k3⟩,?_,hn,?_,hx.reb k1⟩
 ·refine ⟨by rw [length_set]; exact hnb,fun q cs hq => ?_,fun q hq o hFo => ?_,by rw [length_set]; exact hI.boxG,by rw [length_set]; exact hI.inj,fun t ht => ?_,I1.tinj,I1.fin,I1.ng,I1.t⟩
  ·by_cases hqp:q = p
   ·subst hqp
    rw [getElem?_set_self hplt] at hq;simp only [sI] at hq; subst hq
    obtain ⟨vs,e,h1,h2⟩:=I1.box 0 c' rfl;rw [hb0] at h1;exact ⟨vs,e,h1,h2.reb k2⟩
   ·rw [getElem?_set_ne (fun h => hqp h.symm)] at hq
    have hqlt:q < bx.length:=by
     rcases Nat.lt_or_ge q bx.length with h' | h'
     ·exact h'
     ·rw [getElem?_eq_none h'] at hq; cases hq
    obtain ⟨vs,e,h1,h2⟩:=hI.box q cs hq;refine ⟨vs,e,(E1.block (C.bx q) (zaN h1) (fun r _ he => hqp (hI.inj q p hqlt hplt he.symm)) (fun t ht he => hnotok q hqlt t (hold2 t ht) he)).trans h1,h2.frame hle hF⟩
  ·rw [length_set] at hq
   rcases E1.newF (C.bx q) o hFo with h1 | h1 | ⟨s,h1,h2⟩
   ·exact hI.boxF q hq o h1
   ·have:=hI.lt hq; omega
   ·exact hnotok q hq s (hold2 s h1) h2
  ·obtain ⟨a1,a2,a3⟩:=I1.tok t ht
   refine ⟨a1,a2,a3.imp id ?_⟩;rintro ⟨b,cur,e,c1,c2,c3,c4,c5,c6,c7,c8,c9,c10⟩;refine ⟨b,cur,e,c1,c2,c3,c4,c5,c6,c7,c8,c9,fun q hq he => ?_⟩;rw [length_set] at hq;have he:C.bx q = b:=he
   rcases E1.newT t b ht c1 with h1 | ⟨s,h1,h2⟩
   ·have:=hI.lt hq; omega
   ·exact hnotok q hq s (hold2 s h1) (by rw [he]; exact h2)
 ·exact ⟨E1.os,E1.tape,E1.output,E1.size,E1.F,E1.fix,fun k hk hne ho => E1.block k hk (fun r _ => hne p (by omega)) ho,⟨lR,fun _ _ => rfl⟩,E1.newF,E1.newT,fun q hq hq2 => by rw [length_set] at hq2; omega,E1.tk⟩
/-! ### trees -/
theorem zaA {E:Env} {K:St -> Prop} {m:MOpr} {a n:RT} {s:St} (h1:po E [m] (pt E K a) s) (h2:pt E K n s):pt E K (.alt m a n) s:=⟨h1,h2⟩
theorem zao {E:Env} {K:St -> Prop} {qs:List MOpr} {a:RT} {s:St} (h:po E qs (fun s => (a.isLeaf = true -> K s) /\ pt E K a s) s):pt E K (.node qs a) s:=h
theorem zay {E:Env} {K:St -> Prop} {s:St}:pt E K .leaf s:=trivial
theorem zaR {E:Env} {K:St -> Prop} {s:St} (h:K s):(RT.leaf.isLeaf = true -> K s) /\ pt E K .leaf s:=⟨fun _ => h,trivial⟩
theorem zaz {E:Env} {K:St -> Prop} {m:MOpr} {a n:RT} {s:St} (h:pt E K (.alt m a n) s):((RT.alt m a n).isLeaf = true -> K s) /\ pt E K (.alt m a n) s:=⟨fun h => (Bool.noConfusion h:K s),h⟩
/-! ### steps -/
def MO.plain:MO -> Bool
 | .mv _ | .load .. | .fld .. | .field .. | .ext .. | .nilc _ | .not _ | .build .. | .lens _ | .b2s _ | .litq .. | .mkfn .. | .pick .. => true
 | _ => false
section
variable {E:Env} {K:St -> Prop} {tm:Nat -> PV} {bx:LP PC} {nt d:Nat} {live:List Nat} {r:List MOpr} {g:Option (Nat × Bool)} {c:List X} {o:MO} {x y:X}
theorem po_s {v:PV} (_ho:o.plain = true) (hg:gd g tm = some true) (hq:qf (ev tm) bx o = some v) (h:po E r K ⟨up d v tm,bx,nt,live⟩):po E (⟨some d,o,g,c⟩ :: r) K ⟨tm,bx,nt,live⟩:=po_q hg hq h
theorem zal {e:Bool} (hg:gd g tm = some true) (hq:qf (ev tm) bx o = some (.d (.v (.bool e)))) (he:e = false) (h:po E r K ⟨up d (.d (.v (.bool false))) tm,bx,nt,live⟩):po E (⟨some d,o,g,c⟩ :: r) K ⟨tm,bx,nt,live⟩:=by subst he; exact po_q hg hq h
theorem zah {e:Bool} (hg:gd g tm = some true) (hq:qf (ev tm) bx o = some (.d (.v (.bool e)))) (he:e = true) (h:po E r K ⟨up d (.d (.v (.bool true))) tm,bx,nt,live⟩):po E (⟨some d,o,g,c⟩ :: r) K ⟨tm,bx,nt,live⟩:=by subst he; exact po_q hg hq h
theorem zav {t n:Nat} {es:LP PC} (hg:gd g tm = some true) (hx:ev tm x = .d (.sl t es)) (hn:es.length = n) (h:po E r K ⟨up d (.d (pI n)) tm,bx,nt,live⟩):po E (⟨some d,.len x,g,c⟩ :: r) K ⟨tm,bx,nt,live⟩:=by
 refine po_q hg ?_ h;simp only [qf,hx,hn]; rfl
theorem zbb {k kk:IntKind} {a n:Int} (hg:gd g tm = some true) (hx:ev tm x = .d (.v (.int kk a))) (hn:k.wrap a = n) (h:po E r K ⟨up d (.d (.v (.int k n))) tm,bx,nt,live⟩):po E (⟨some d,.conv k x,g,c⟩ :: r) K ⟨tm,bx,nt,live⟩:=by
 refine po_q hg ?_ h;simp only [qf,hx,hn]
theorem po_mv {v:PV} (hg:gd g tm = some true) (hx:ev tm x = v) (h:po E r K ⟨up d v tm,bx,nt,live⟩):po E (⟨some d,.mv x,g,c⟩ :: r) K ⟨tm,bx,nt,live⟩:=by
 subst hx; exact po_q hg rfl h
theorem pm {v:PV} (h:po E r K ⟨up d v tm,bx,nt,live⟩) (hg:gd g tm = some true:=by exact rfl) (hx:ev tm x = v:=by conv => lhs; whnf):po E (⟨some d,.mv x,g,c⟩ :: r) K ⟨tm,bx,nt,live⟩:=po_mv hg hx h
theorem pq {v:PV} (h:po E r K ⟨up d v tm,bx,nt,live⟩) (ho:o.plain = true:=by exact rfl) (hg:gd g tm = some true:=by exact rfl) (hq:qf (ev tm) bx o = some v:=by exact rfl):po E (⟨some d,o,g,c⟩ :: r) K ⟨tm,bx,nt,live⟩:=po_s ho hg hq h
theorem px {cs:List PC} (h:po E r K ⟨up d (.ref bx.length 0) tm,bx ++ [cs],nt,live⟩) (hq:pcells (ev tm x) = some cs:=by exact rfl):po E (⟨some d,.box x,none,[]⟩ :: r) K ⟨tm,bx,nt,live⟩:=zbf hq h
theorem po_ixs {l:L8} {j:Int} {k:Nat} {b:UInt8} {kk:IntKind} (hg:gd g tm = some true) (hx:ev tm x = .d (pS l)) (hi:ev tm y = .d (.v (.int kk j))) (hj:j = k) (hb:l[k]? = some b) (h:po E r K ⟨up d (.d (.v (.int .u8 b.toNat))) tm,bx,nt,live⟩):po E (⟨some d,.ixs x y,g,c⟩ :: r) K ⟨tm,bx,nt,live⟩:=by
 refine po_q hg ?_ h;subst hj;simp only [qf,hx,hi,pS];rw [if_pos (by omega)];simp [hb]
theorem zbU {l rs:L8} {lo hi:Option X} {a b:Nat} (hg:gd g tm = some true) (hx:ev tm x = .d (pS l)) (hlo:bound (ev tm) 0 lo = some a) (hhi:bound (ev tm) l.length hi = some b) (hle:a <= b /\ b <= l.length) (hr:(l.drop a).take (b - a) = rs) (h:po E r K ⟨up d (.d (pS rs)) tm,bx,nt,live⟩):po E (⟨some d,.slcs x lo hi,g,c⟩ :: r) K ⟨tm,bx,nt,live⟩:=by
 refine po_q hg ?_ h;subst hr;simp only [qf,hx,pS];rw [hlo,hhi];simp only;rw [if_pos hle]
theorem zaD {e:X -> PV} {dft k:Nat} {x:X} {kk:IntKind} {i:Int} (h:e x = .d (.v (.int kk i))) (hi:i = k):bound e dft (some x) = some k:=by
 subst hi;simp only [bound,h]; rw [if_pos (by omega)]; simp
end
theorem zaZ {E:Env} {B:Base} {Q:Exit -> St -> Prop} {s:St} {x:X} {a b:M} {t:Bool} {p:Prop} [Decidable p] (ht:t = decide p) (hx:ev s.tm x = .d (.v (.bool t))) (h1:p -> t = true -> mw E B a Q s) (h2:¬ p -> t = false -> mw E B b Q s):mw E B (.cond x a b) Q s :=
 zaU hx (fun h => h1 (of_decide_eq_true (ht.symm.trans h)) h) (fun h => h2 (of_decide_eq_false (ht.symm.trans h)) h)
theorem zbB {E:Env} {B:Base} {Q:Exit -> St -> Prop} {s:St} {x:X} {a b:M} {p:Prop} [Decidable p] (hx:ev s.tm x = .d (.v (.bool (decide p)))) (h1:p -> mw E B a Q s) (h2:¬ p -> mw E B b Q s):mw E B (.cond x a b) Q s :=
 zaU hx (fun h => h1 (of_decide_eq_true h)) (fun h => h2 (of_decide_eq_false h))
end
end Go.Proofs.YtmmcehkdnnolkaaGreatDoor
/- What JSON holds of a value. No program in sight. -/
namespace Go.Proofs.YtmmcehkdnnolkaaGreatDoor
open Go.RowKit
end Go.Proofs.YtmmcehkdnnolkaaGreatDoor
/- What JSON holds of a right value: sizes and steps. No program in sight. -/
namespace Go.Proofs.YtmmcehkdnnolkaaGreatDoor
open Go.RowKit
open Go.Lib (validD)
end Go.Proofs.YtmmcehkdnnolkaaGreatDoor
/- What JSON holds of any value. No program in sight. -/
namespace Go.Proofs.YtmmcehkdnnolkaaGreatDoor
open Go.RowKit
end Go.Proofs.YtmmcehkdnnolkaaGreatDoor
/- How big what JSON holds of a value is. No program in sight. -/
namespace Go.Proofs.YtmmcehkdnnolkaaGreatDoor
open Go.RowKit
theorem V.self_text {q:List V -> Bool} {k n e:Int} {s:List UInt8} {kids:List V} (h:V.selfBy q (.mk k n e s kids) = true):s.length <= 2000:=by
 simp only [V.selfBy] at h;by_cases h0:k = 0 \/ k = 1 \/ k = 2
 ·rw [if_pos h0] at h; simp only [Bool.and_eq_true,decide_eq_true_eq] at h; simp [h.2.2.1]
 rw [if_neg h0] at h;by_cases h3:k = 3
 ·rw [if_pos h3] at h; simp only [Bool.and_eq_true,decide_eq_true_eq] at h; simp [h.2.1]
 rw [if_neg h3] at h;by_cases h4:k = 4
 ·rw [if_pos h4] at h; simp only [Bool.and_eq_true,decide_eq_true_eq] at h; simp [h.2.1]
 rw [if_neg h4] at h;by_cases h5:k = 5
 ·rw [if_pos h5] at h; simp only [Bool.and_eq_true,decide_eq_true_eq] at h; exact h.2.2.2.1
 rw [if_neg h5] at h;by_cases h6:k = 6
 ·rw [if_pos h6] at h; simp only [Bool.and_eq_true,decide_eq_true_eq] at h; exact h.2.2.1
 rw [if_neg h6] at h;by_cases h7:k = 7
 ·rw [if_pos h7] at h; simp only [Bool.and_eq_true,decide_eq_true_eq] at h; simp [h.2.2]
 rw [if_neg h7] at h;by_cases h8:k = 8
 ·rw [if_pos h8] at h; simp only [Bool.and_eq_true,decide_eq_true_eq] at h; simp [h.2.2.1]
 rw [if_neg h8] at h;by_cases h9:k = 9
 ·rw [if_pos h9] at h; simp only [Bool.and_eq_true,decide_eq_true_eq] at h; simp [h.2.2.1]
 rw [if_neg h9] at h; cases h
mutual
theorem V.right_bulk (q:List V -> Bool):∀ (d:Int) (x:V),V.rightBy q d x = true -> x.bulk + 1 <= 2001 * x.nodes
 | d,.mk k n e s kids,h => by
  simp only [V.rightBy,Bool.and_eq_true] at h;have h1:=V.rights_bulk q (d - 1) kids h.1;have h2:=V.self_text h.2.2;simp only [V.bulk,V.nodes]; omega
theorem V.rights_bulk (q:List V -> Bool):∀ (d:Int) (xs:List V),V.rightsBy q d xs = true -> V.bulks xs + xs.length <= 2001 * V.nodess xs
 | _,[],_ => by simp [V.bulks]
 | d,x :: xs,h => by
  simp only [V.rightsBy,Bool.and_eq_true] at h;have h1:=V.right_bulk q d x h.1;have h2:=V.rights_bulk q d xs h.2;simp only [V.bulks,V.nodess,List.length_cons]; omega
end
theorem V.ok_bulk {x:V} (h:x.ok = true):x.bulk <= 1048576:=by
 unfold V.ok at h;simp only [Bool.and_eq_true,decide_eq_true_eq] at h
 have:=V.right_bulk _ _ _ h.1; omega
end Go.Proofs.YtmmcehkdnnolkaaGreatDoor
namespace Go.Proofs.YtmmcehkdnnolkaaGreatDoor
open Go.RowKit
set_option maxHeartbeats 4000000
set_option maxRecDepth 100000
open List
section
mutual
theorem V.right_mono (q:List V -> Bool):∀ (d:Int) (v:V),V.rightBy q d v = true -> V.rightBy q (d + 1) v = true
 | d,.mk k n e s kids,h => by
  simp only [V.rightBy,Bool.and_eq_true,decide_eq_true_eq] at h ⊢
  have:=V.rights_mono q (d - 1) kids h.1
  rw [show d - 1 + 1 = d + 1 - 1 by omega] at this;exact ⟨this,by omega,h.2.2⟩
theorem V.rights_mono (q:List V -> Bool):∀ (d:Int) (vs:List V),V.rightsBy q d vs = true -> V.rightsBy q (d + 1) vs = true
 | d,[],_ => rfl
 | d,v :: vs,h => by
  simp only [V.rightsBy,Bool.and_eq_true] at h ⊢;exact ⟨V.right_mono q d v h.1,V.rights_mono q d vs h.2⟩
end
theorem V.ok_kid {v:V} (h:v.ok = true) (i:Nat) (hi:i < v.kids.length):v.kids[i].ok = true:=by
 obtain ⟨k,n,e,s,kids⟩:=v;have hi':i < kids.length:=hi;unfold V.ok at h ⊢;rw [Bool.and_eq_true] at h ⊢;have h5:=of_decide_eq_true h.2;have h1:=h.1;simp only [V.rightBy,Bool.and_eq_true] at h1;replace h1:=h1.1;simp only [V.nodes] at h5;rw [V.rightsBy_all,all_eq_true] at h1;have h2:=h1 kids[i] (getElem_mem hi');have h3:=V.right_mono pairsOk _ _ h2;have h4:=V.nodes_get kids i hi';exact ⟨h3,decide_eq_true (by show kids[i].nodes <= 300; omega)⟩
theorem V.ok_len {v:V} (h:v.ok = true):v.kids.length <= 300:=by
 obtain ⟨k,n,e,s,kids⟩:=v;unfold V.ok at h;rw [Bool.and_eq_true] at h;have h5:=of_decide_eq_true h.2;simp only [V.nodes] at h5
 have key:∀ l:List V,l.length <= V.nodess l:=by
  intro l
  induction l with
  | nil => simp [V.nodess]
  | cons x xs ih => obtain ⟨a,b,c,d,f⟩:=x; simp only [V.nodess,V.nodes,length_cons]; omega
 have:=key kids
 show kids.length <= 300; omega
theorem V.wf_kid {v:V} (h:v.wf) (i:Nat) (hi:i < v.kids.length):v.kids[i].wf:=by
 obtain ⟨k,n,e,s,kids⟩:=v;exact V.wfs_get h.2.2.2.2.2 i hi
theorem V.nodes_kid {v:V} {n:Nat} (h:v.nodes <= n + 1) (i:Nat) (hi:i < v.kids.length):v.kids[i].nodes <= n:=by
 obtain ⟨k,m,e,s,kids⟩:=v;have hi':i < kids.length:=hi
 have:=V.nodes_get kids i hi'
 simp only [V.nodes] at h;show kids[i].nodes <= n; omega
end
section
variable {T:World -> Prop} {hT:Low ngl T}
attribute [local irreducible] po mw pt
def FoP (T:World -> Prop) (hT:Low ngl T) (N:Nat):Prop:=∀ v:V,v.nodes <= N -> v.nodes <= 4294967295 -> FnV (env T hT) 121 [.ag (vC v)] (.d (pB (v.tagB 4 4)))
def FoL (v:V) (m:Nat) (st:St):Prop:=∃ i:Nat,i <= v.kids.length /\ m = v.kids.length - i /\ has st.tm [(1,.ref 0 0),(3,.d (pI i))] /\ st.bx = [vC v] /\ V.tagsB 4 4 (v.kids.take i) = false
theorem four_step {N:Nat} (ih:FoP T hT N):FoP T hT (N + 1):=by
 intro v hn hbn;have hnk:=V.nodes_eq0 v;have hkn:=V.kids_nodes v.kids;refine zaW (zaj zgm) (by show 1 <= 25; decide) fun B hB => ?_
 unfold m_s_l05Four;refine mO ?_;refine zbf (cs:=vC v) rfl ?_;refine mN ?_;refine zan (fun st => has st.tm [(1,.ref 0 0)] /\ st.bx = [vC v] /\ ¬ (v.kind = 9 /\ v.num = 4)) ?_ ?_
 ·refine mO ?_
  (iterate 2 refine mS ?_);by_cases h:v.kind = 9
  ·refine zah rfl rfl (beq_iff_eq.2 h) ?_
   (iterate 3 refine mS ?_);by_cases h4:v.num = 4
   ·refine zah rfl rfl (beq_iff_eq.2 h4) ?_
    refine mT ?_;refine mP ?_;refine zae ⟨.inr rfl,[.d (pB true)],rfl,?_⟩;rw [V.tagB_eq,decide_eq_true h,decide_eq_true h4]; rfl
   ·refine zal rfl rfl (beq_eq_false_iff_ne.2 h4) ?_
    refine mK ?_;exact ⟨⟨rfl,trivial⟩,rfl,fun k => h4 k.2⟩
  ·refine zal rfl rfl (beq_eq_false_iff_ne.2 h) ?_
   refine mS ?_;refine mZ ?_;refine mK ?_;exact ⟨⟨rfl,trivial⟩,rfl,fun k => h k.1⟩
 rintro tm bx nt live ⟨ht,hbx,hno⟩;obtain ⟨tm0,rfl⟩:=zac ht;simp only at hbx; subst hbx
 clear ht;refine zan (fun st => V.tagsB 4 4 v.kids = false) ?_ ?_
 ·refine mP ?_
  refine zab ?_;refine zas (FoL v) v.kids.length ⟨0,Nat.zero_le _,rfl,⟨rfl,rfl,trivial⟩,rfl,rfl⟩ ?_;rintro m tm bx nt live ⟨i,hi,rfl,ht,hbx,htk⟩;obtain ⟨tm1,rfl⟩:=zac ht;simp only at hbx; subst hbx
  clear ht tm0;refine mM ?_;(iterate 3 refine mS ?_);refine zav (n:=v.kids.length) rfl rfl (zaY _) ?_;refine po_b rfl rfl (fun b hb => ?_);refine zaa ?_;refine zaZ (p:=(i:Int) < v.kids.length) hb rfl (fun him _ => ?_) (fun him _ => ?_)
  rotate_left
  ·refine zat ?_
   have:i = v.kids.length:=by omega
   subst this;rw [take_length] at htk; exact htk
  have hia:i < v.kids.length:=by omega
  refine zai ?_;refine zak (zab ?_);refine mO ?_;(iterate 3 refine mS ?_);refine zaH (es:=vK v.kids) (e:=vC v.kids[i]) rfl rfl rfl ⟨by omega,by rw [Int.toNat_natCast]; exact zbo hia⟩ rfl ?_;refine mS ?_;refine zad (zbA _) (ih v.kids[i] (V.nodes_kid hn i hia) (by have:=V.nodes_get v.kids i hia; omega)) ?_;refine zaa ?_
  cases hk:v.kids[i].tagB 4 4 with
  | true =>
   refine mwT ?_;refine mP ?_;refine zae ⟨.inr rfl,[.d (pB true)],rfl,?_⟩
   rw [V.tagB_eq,V.tagsB_get hia hk,Bool.or_true]; rfl
  | false =>
   refine mwF ?_;refine zai ?_;refine zaf ?_;refine mS ?_;refine zam (n:=((i + 1:Nat):Int)) rfl rfl rfl (by omega) (by omega) ?_;refine mN ?_;exact ⟨_,by show v.kids.length - (i + 1) < v.kids.length - i; omega,i + 1,by omega,rfl,⟨rfl,rfl,trivial⟩,rfl,V.tagsB_snoc hia htk hk⟩
 rintro tm bx nt live hks;refine mP ?_;refine zae ⟨.inr rfl,[.d (pB false)],rfl,?_⟩;rw [V.tagB_eq,hks,Bool.or_false,Bool.or_self,<- Bool.decide_and,decide_eq_false hno]; rfl
theorem four_fn (v:V) (hb:v.nodes <= 4294967295):FnV (env T hT) 121 [.ag (vC v)] (.d (pB (v.tagB 4 4))):=by
 have all:∀ N,FoP T hT N:=by
  intro N
  induction N with
  | zero => intro a hn; have:=a.nodes_pos; omega
  | succ N ih => exact four_step ih
 exact all v.nodes v lR hb
def TgP (T:World -> Prop) (hT:Low ngl T) (p q:Int) (N:Nat):Prop:=∀ v:V,v.nodes <= N -> v.nodes <= 4294967295 -> FnV (env T hT) 101 [.ag (vC v),.d (pI p),.d (pI q)] (.d (pB (v.tagB p q)))
def TgL (p q:Int) (v:V) (m:Nat) (st:St):Prop:=∃ i:Nat,i <= v.kids.length /\ m = v.kids.length - i /\ has st.tm [(1,.d (pI p)),(2,.d (pI q)),(3,.ref 0 0),(7,.d (pI i))] /\ st.bx = [vC v] /\ V.tagsB p q (v.kids.take i) = false
theorem dats1ii {v:V} (p q:Int):PV.dats [.ag (vC v),.d (pI p),.d (pI q)] = some [.ag (vC v),.d (pI p),.d (pI q)]:=congrArg (fun l => some [PV.ag l,.d (pI p),.d (pI q)]) (zb9 v)
theorem tag_step {p q:Int} {N:Nat} (ih:TgP T hT p q N):TgP T hT p q (N + 1):=by
 intro v hn hbn;have hnk:=V.nodes_eq0 v;have hkn:=V.kids_nodes v.kids;refine zaW (zaj zhs) (by show 3 <= 38; decide) fun B hB => ?_
 unfold m_s_l10Tag;refine mO ?_;refine zbf (cs:=vC v) rfl ?_;refine mN ?_
 have hit:v.kind = 9 -> (v.num = p \/ v.num = q) -> v.tagB p q = true:=fun h k => by
  rw [V.tagB_eq,decide_eq_true h]
  rcases k with k | k <;> rw [decide_eq_true k] <;> simp
 refine zan (fun st => has st.tm [(1,.d (pI p)),(2,.d (pI q)),(3,.ref 0 0)] /\ st.bx = [vC v] /\ ¬ (v.kind = 9 /\ (v.num = p \/ v.num = q))) ?_ ?_
 ·refine mO ?_
  (iterate 2 refine mS ?_);by_cases h:v.kind = 9
  ·refine zah rfl rfl (beq_iff_eq.2 h) ?_
   (iterate 4 refine mS ?_);by_cases h4:v.num = p
   ·refine zah rfl rfl (beq_iff_eq.2 h4) ?_
    refine mS ?_;refine mZ ?_;refine mT ?_;refine mP ?_;refine zae ⟨.inr rfl,[.d (pB true)],rfl,?_⟩;rw [hit h (.inl h4)]; rfl
   ·refine zal rfl rfl (beq_eq_false_iff_ne.2 h4) ?_
    (iterate 4 refine mS ?_);by_cases h5:v.num = q
    ·refine zah rfl rfl (beq_iff_eq.2 h5) ?_
     refine mT ?_;refine mP ?_;refine zae ⟨.inr rfl,[.d (pB true)],rfl,?_⟩;rw [hit h (.inr h5)]; rfl
    ·refine zal rfl rfl (beq_eq_false_iff_ne.2 h5) ?_
     refine mK ?_;exact ⟨⟨rfl,rfl,rfl,trivial⟩,rfl,fun k => k.2.elim h4 h5⟩
  ·refine zal rfl rfl (beq_eq_false_iff_ne.2 h) ?_
   refine mS ?_;refine mZ ?_;refine mK ?_;exact ⟨⟨rfl,rfl,rfl,trivial⟩,rfl,fun k => h k.1⟩
 rintro tm bx nt live ⟨ht,hbx,hno⟩;obtain ⟨tm0,rfl⟩:=zac ht;simp only at hbx; subst hbx
 clear ht;refine zan (fun st => V.tagsB p q v.kids = false) ?_ ?_
 ·refine mP ?_
  refine zab ?_;refine zas (TgL p q v) v.kids.length ⟨0,Nat.zero_le _,rfl,⟨rfl,rfl,rfl,rfl,trivial⟩,rfl,rfl⟩ ?_;rintro m tm bx nt live ⟨i,hi,rfl,ht,hbx,htk⟩;obtain ⟨tm1,rfl⟩:=zac ht;simp only at hbx; subst hbx
  clear ht tm0;refine mM ?_;(iterate 3 refine mS ?_);refine zav (n:=v.kids.length) rfl rfl (zaY _) ?_;refine po_b rfl rfl (fun b hb => ?_);refine zaa ?_;refine zaZ (p:=(i:Int) < v.kids.length) hb rfl (fun him _ => ?_) (fun him _ => ?_)
  rotate_left
  ·refine zat ?_
   have:i = v.kids.length:=by omega
   subst this;rw [take_length] at htk; exact htk
  have hia:i < v.kids.length:=by omega
  refine zai ?_;refine zak (zab ?_);refine mO ?_;(iterate 3 refine mS ?_);refine zaH (es:=vK v.kids) (e:=vC v.kids[i]) rfl rfl rfl ⟨by omega,by rw [Int.toNat_natCast]; exact zbo hia⟩ rfl ?_;(iterate 3 refine mS ?_);refine zad (dats1ii p q) (ih v.kids[i] (V.nodes_kid hn i hia) (by have:=V.nodes_get v.kids i hia; omega)) ?_;refine zaa ?_
  cases hk:v.kids[i].tagB p q with
  | true =>
   refine mwT ?_;refine mP ?_;refine zae ⟨.inr rfl,[.d (pB true)],rfl,?_⟩
   rw [V.tagB_eq,V.tagsB_get hia hk,Bool.or_true]; rfl
  | false =>
   refine mwF ?_;refine zai ?_;refine zaf ?_;refine mS ?_;refine zam (n:=((i + 1:Nat):Int)) rfl rfl rfl (by omega) (by omega) ?_;refine mN ?_;exact ⟨_,by show v.kids.length - (i + 1) < v.kids.length - i; omega,i + 1,by omega,rfl,⟨rfl,rfl,rfl,rfl,trivial⟩,rfl,V.tagsB_snoc hia htk hk⟩
 rintro tm bx nt live hks;refine mP ?_;refine zae ⟨.inr rfl,[.d (pB false)],rfl,?_⟩
 have:(decide (v.kind = 9) && (decide (v.num = p) || decide (v.num = q))) = false:=by
  rw [<- Bool.decide_or,<- Bool.decide_and,decide_eq_false hno]
 rw [V.tagB_eq,hks,Bool.or_false,this]; rfl
theorem tag_fn (p q:Int) (v:V) (hb:v.nodes <= 4294967295):FnV (env T hT) 101 [.ag (vC v),.d (pI p),.d (pI q)] (.d (pB (v.tagB p q))):=by
 have all:∀ N,TgP T hT p q N:=by
  intro N
  induction N with
  | zero => intro a hn; have:=a.nodes_pos; omega
  | succ N ih => exact tag_step ih
 exact all v.nodes v lR hb
theorem cfits_fn (v:V) (hw:v.wf) (hb:v.bulk <= 4294967290):FnV (env T hT) 100 [.ag (vC v)] (.d (pB v.cfits)):=by
 have hnb:=zcW v;refine zaW (zaj zfs) (by show 1 <= 10; decide) fun B hB => ?_
 unfold m_s_CborFits;refine mO ?_;refine zbf (cs:=vC v) rfl ?_;refine mN ?_;refine mO ?_;refine zaE (p:=0) (cs:=vC v) rfl rfl rfl rfl ?_;refine zad (zbA v) (vok_fn (T:=T) (hT:=hT) v hw (by omega)) ?_;refine mS ?_
 cases hk:v.ok with
 | false =>
  refine mZ ?_;refine mN ?_;refine zae ⟨.inr rfl,[.d (pB false)],rfl,?_⟩
  unfold V.cfits; rw [hk]; rfl
 | true =>
 refine zaE (p:=0) (cs:=vC v) rfl rfl rfl rfl ?_;refine zaC (b:=true) rfl (fun _ => zbA v) (fun _ => four_fn (T:=T) (hT:=hT) v (by omega)) ?_;refine mN ?_;refine zae ⟨.inr rfl,[.d (pB (!v.tagB 4 4))],rfl,?_⟩;unfold V.cfits; rw [hk]; rfl
end
end Go.Proofs.YtmmcehkdnnolkaaGreatDoor
