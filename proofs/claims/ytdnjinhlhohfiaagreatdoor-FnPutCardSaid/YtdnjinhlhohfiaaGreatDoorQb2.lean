/- Part 2 of a proof: PvT, PvU, PvV, PvK, PvW0, PvY, PvZ, PvW, PvX, Data, PvB, PvB2, PvO, Keep, PvN, PvN2, PvN3, ShapeDef, Range, ValueDef, Find, WrongDef, PvD, PvJ0, PvLw, PvVal, PvHlp, PvTrim, PvNe, PvLift, PvRow, Lcg, Drw0, PvEnv, Drw1M, IntM, Drw1, Drw2, Drw3, Lcg2 -/
import Derived.Test.YtdnjinhlhohfiaaGreatDoorQb1
import Derived.Deep.LoopGhost
import Derived.Lib.ValidLaws
import Derived.Test.YtdnjinhlhohfiaaGreatDoorRows
import Derived.BigQuiet
import Derived.StillTailTactics
import Derived.Lib.ItoaNum
namespace Go.Proofs.YtdnjinhlhohfiaaGreatDoor
open Go.RowKit
set_option maxHeartbeats 4000000
set_option maxRecDepth 100000
open List
section
theorem zdy {p q:Nat -> Bool} {i:Nat}:∀ {l:List Nat},(∀ j,q j = true -> p j = true) -> i ∈ l -> p i = true -> q i = false -> (l.filter q).length < (l.filter p).length
 | [],_,hi,_,_ => by simp at hi
 | x :: l,hpq,hi,hp,hq => by
  have hle:∀ l:List Nat,(l.filter q).length <= (l.filter p).length:=by
   intro l
   induction l with
   | nil => simp
   | cons y l ih =>
    by_cases hy:q y = true
    ·rw [filter_cons_of_pos hy,filter_cons_of_pos (hpq y hy)]; simp; exact ih
    ·rw [filter_cons_of_neg hy]
     by_cases hy2:p y = true
     ·rw [filter_cons_of_pos hy2]; simp; omega
     ·rw [filter_cons_of_neg hy2]; exact ih
  rcases mem_cons.1 hi with rfl | hi
  ·rw [filter_cons_of_neg (by rw [hq]; decide),filter_cons_of_pos hp]
   have:=hle l; simp; omega
  ·have ih:=zdy hpq hi hp hq
   by_cases hy:q x = true
   ·rw [filter_cons_of_pos hy,filter_cons_of_pos (hpq x hy)]; simp; exact ih
   ·rw [filter_cons_of_neg hy]
    by_cases hy2:p x = true
    ·rw [filter_cons_of_pos hy2]; simp; omega
    ·rw [filter_cons_of_neg hy2]; exact ih
section
variable {E:Env} {B:Base} {ml:List MOpr} {es bs:List (List Nat)} {ord:List Nat} {K:St -> Prop} {tm0:Nat -> PV} {ops:Array Oper} {Q:Exit -> Act -> World -> Prop}
def LL (listed:Array Bool) (i:Nat):Prop:=listed.getD i false = true
theorem LL_set {listed:Array Bool} {i:Nat} (hi:i < listed.size) (j:Nat):LL (listed.setIfInBounds i true) j ↔ j = i \/ LL listed j:=by
 unfold LL;by_cases h:j = i
 ·subst h; simp [hi]
 ·simp only [Array.getD_eq_getD_getElem?,Array.getElem?_setIfInBounds_ne (show i ≠ j by omega)]; simp [h]
theorem zcb {tm:Nat -> PV} {bx:LP PC} {nt:Nat} {live:List Nat} {d:Option Nat} {v:PV}:St.put ⟨tm,bx,nt,live⟩ d v = ⟨fun t => if d = some t then v else tm t,bx,nt,live⟩:=by
 cases d with
 | none => simp [St.put]
 | some d =>
  simp only [St.put,sI,St.mk.injEq,and_true]
  funext t
  by_cases h:t = d
  ·subst h; simp
  ·rw [if_neg h,if_neg (fun e => h e.symm)]
theorem sim_any (hc:Canon ml es bs ord) (hsz:ops.size = ml.length) (htr:∀ (i:Nat) (o:Oper) (m:MOpr),ops[i]? = some o -> ml[i]? = some m -> TrO E.P B.n ops o m) (hes:∀ (i:Nat) (o:Oper),ops[i]? = some o -> es.getD i [] = edgesOf o)
  (hK:∀ C' s' a' w',Rep E B C' s' a' w' -> K s' -> Q .normal a' w') :
  ∀ (fuel:Nat) (listed:Array Bool) (C:Cx) (s:St) (a:Act) (w:World) (pre rest:List Nat),Sim E B ml es bs ord K tm0 (LL listed) pre rest s -> listed.size = ops.size -> Rep E B C { s with tm:=mix ml (LL listed) s.tm tm0 } a w ->
   ((range ml.length).filter (fun i => !(listed.getD i false))).length <= fuel -> wpAny E.P .any ops Q fuel listed a w:=by
 -- all is listed
 have hdone:∀ (listed:Array Bool) (C:Cx) (s:St) (a:Act) (w:World) (pre rest:List Nat),Sim E B ml es bs ord K tm0 (LL listed) pre rest s -> Rep E B C { s with tm:=mix ml (LL listed) s.tm tm0 } a w -> (∀ i,i < ml.length -> LL listed i) -> Q .normal a w:=by
  intro listed C s a w pre rest hS hr hall
  have hrest:rest = []:=by
   cases hrr:rest with
   | nil => rfl
   | cons i r =>
    exfalso;have hio:i ∈ ord:=by rw [hS.split,hrr]; simp
    have hip:=hS.sub i (hall i ((hc.mem i).1 hio));have hnd:=hc.nodup;rw [hS.split,hrr] at hnd;exact (nodup_append.1 hnd).2.2 i hip i (by simp) rfl
  have hrun:=hS.run;rw [hrest] at hrun;refine hK C s a w ?_ hrun
  have htm:mix ml (LL listed) s.tm tm0 = s.tm:=by
   funext t
   by_cases hw:wr ml (LL listed) t
   ·simp [mix,hw]
   ·simp only [mix,hw,if_false]
    refine (hS.fresh t ?_).symm;rintro ⟨i,m,a1,a2,a3⟩;refine hw ⟨i,m,a1,a2,hall i ?_⟩
    rcases Nat.lt_or_ge i ml.length with h | h
    ·exact h
    ·simp [getElem?_eq_none h] at a1
  rw [htm] at hr; exact hr
 -- nothing is ready: all is listed
 have hready:∀ (listed:Array Bool),listed.size = ops.size -> Region.ready .any ops listed = [] -> ∀ i,i < ml.length -> LL listed i:=by
  intro listed hls hr i
  induction i using Nat.strongRecOn with
  | _ i ih =>
   intro hi
   apply Classical.byContradiction
   intro hn;have hio:i < ops.size:=by omega
   have:i ∈ Region.ready .any ops listed:=by
    rw [mem_ready];refine ⟨?_,ops[i],Array.getElem?_eq_getElem hio,fun e he hb => ?_⟩
    ·unfold LL at hn
     have hil:i < listed.size:=by omega
     simp only [Array.getD_eq_getD_getElem?,Array.getElem?_eq_getElem hil,Option.getD_some] at hn ⊢;simpa using hn
    ·have hm:e.on ∈ es.getD i []:=by
      rw [hes i ops[i] (Array.getElem?_eq_getElem hio)];unfold edgesOf;exact mem_map.2 ⟨e,mem_filter.2 ⟨by simpa using he,hb⟩,rfl⟩
     have:=hc.acyc i e.on hi hm
     exact ih e.on this (by omega)
   rw [hr] at this; cases this
 intro fuel
 induction fuel with
 | zero =>
  intro listed C s a w pre rest hS hls hr hcount
  have hall:∀ i,i < ml.length -> LL listed i:=by
   intro i hi
   apply Classical.byContradiction
   intro hn
   have:i ∈ (range ml.length).filter (fun i => !(listed.getD i false)):=mem_filter.2 ⟨mem_range.2 hi,by unfold LL at hn; simpa using hn⟩
   have h0:(range ml.length).filter (fun i => !(listed.getD i false)) = []:=eq_nil_of_length_eq_zero (by omega);rw [h0] at this; cases this
  refine ⟨?_,hdone listed C s a w pre rest hS hr hall⟩
  cases hrd:Region.ready .any ops listed with
  | nil => rfl
  | cons i r =>
   exfalso;have hm:i ∈ Region.ready .any ops listed:=by rw [hrd]; simp
   obtain ⟨h1,o,ho,_⟩:=mem_ready.1 hm;have hi:i < ops.size:=(Array.getElem?_eq_some_iff.1 ho).1
   have:=hall i (by omega)
   unfold LL at this;have hil:i < listed.size:=by omega
   simp only [Array.getD_eq_getD_getElem?,Array.getElem?_eq_getElem hil,Option.getD_some] at this h1
   rw [this] at h1; cases h1
 | succ fuel ih =>
  intro listed C s a w pre rest hS hls hr hcount;refine ⟨fun h => hdone listed C s a w pre rest hS hr (hready listed hls h),fun i hi => ?_⟩;obtain ⟨h1,o,ho,hall⟩:=mem_ready.1 hi;have hio:i < ops.size:=(Array.getElem?_eq_some_iff.1 ho).1;have hil:i < ml.length:=by omega
  have hils:i < listed.size:=by omega
  have hmi:ml[i]? = some ml[i]:=getElem?_eq_getElem hil;have htro:=htr i o ml[i] ho hmi;obtain ⟨t1,t2,t3,t4,t5⟩:=id htro;have htro0:TrO E.P B.n ops o { ml[i] with c:=ml[i].keep }:=htro
  have hnL:¬ LL listed i:=by
   unfold LL;simp only [Array.getD_eq_getD_getElem?,Array.getElem?_eq_getElem hils,Option.getD_some] at h1 ⊢;rw [h1]; decide
  have hrdy:∀ e ∈ es.getD i [],LL listed e:=by
   intro e he;rw [hes i o ho] at he;unfold edgesOf at he;obtain ⟨ed,hed,rfl⟩:=mem_map.1 he;obtain ⟨g1,g2⟩:=mem_filter.1 hed;exact hall ed (by simpa using g1) g2
  have hcl:∀ j ∈ befOf bs i,LL listed j:=hc.closed (LL listed) hS.closed i hil hrdy;have hset:=fun j => LL_set (listed:=listed) hils j
  have hcount':((range ml.length).filter (fun j => !((listed.setIfInBounds i true).getD j false))).length <= fuel:=by
   have hlt:=zdy (p:=fun j => !(listed.getD j false)) (q:=fun j => !((listed.setIfInBounds i true).getD j false)) (i:=i) (l:=range ml.length)
    (fun j hj => by
     simp only [Bool.not_eq_true'] at hj ⊢
     cases h0:listed.getD j false with
     | false => rfl
     | true => have:=(hset j).2 (.inr h0); unfold LL at this; rw [this] at hj; cases hj)
    (mem_range.2 hil) (by simp only [Bool.not_eq_true']; unfold LL at hnL; simpa using hnL) (by
     have:=(hset i).2 (.inl rfl); unfold LL at this; simp only [this]; rfl)
   omega
  have hls':(listed.setIfInBounds i true).size = ops.size:=by rw [Array.size_setIfInBounds]; exact hls
  have hdst:∀ (k:Nat) (mk:MOpr) (t:Nat),ml[k]? = some mk -> mk.d = some t -> ml[i].d = some t -> k = i:=fun k mk t a1 a2 a3 => hc.dst k i mk ml[i] t a1 hmi a2 a3
  have hwset:∀ t,wr ml (LL (listed.setIfInBounds i true)) t ↔ (ml[i].d = some t \/ wr ml (LL listed) t):=by
   intro t
   constructor
   ·rintro ⟨k,mk,a1,a2,a3⟩
    rcases (hset k).1 a3 with rfl | a3
    ·rw [hmi] at a1; simp only [sI] at a1; subst a1; exact .inl a2
    ·exact .inr ⟨k,mk,a1,a2,a3⟩
   ·rintro (h | ⟨k,mk,a1,a2,a3⟩)
    ·exact ⟨i,ml[i],hmi,h,(hset i).2 (.inl rfl)⟩
    ·exact ⟨k,mk,a1,a2,(hset k).2 (.inr a3)⟩
  have hgdm:∀ (f g:Nat -> PV),(∀ t ∈ ml[i].tmps,f t = g t) -> gd ml[i].g f = gd ml[i].g g:=fun f g h => zda fun t ht => h t (by unfold MOpr.tmps; exact mem_append.2 (.inr (by simpa using ht)))
  have hopm:∀ (f g:Nat -> PV),(∀ t ∈ ml[i].tmps,f t = g t) -> ∀ t ∈ ml[i].o.tmps,f t = g t:=fun f g h t ht => h t (by unfold MOpr.tmps; exact mem_append.2 (.inl ht))
  -- the machine's step,for either kind
  have machine:∀ (b:Bool) (K':St -> Prop),gd ml[i].g (mix ml (LL listed) s.tm tm0) = some b -> (b = true -> pstep E { ml[i] with c:=ml[i].keep } K' { s with tm:=mix ml (LL listed) s.tm tm0 }) -> (b = false -> K' (St.put { s with tm:=mix ml (LL listed) s.tm tm0 } ml[i].d (.tup []))) ->
    (∀ C' s' a' w',Rep E B C' s' a' w' -> K' s' -> wpAny E.P .any ops Q fuel (listed.setIfInBounds i true) a' w') -> wpOp E.P ops Q i (wpAny E.P .any ops Q fuel (listed.setIfInBounds i true)) a w:=by
   intro b K' hg hp1 hp2 hk;have hw:=zdu hr t2 hg;unfold wpOp;simp only [ho,hw]
   cases b with
   | true => rw [if_pos rfl]; exact .inl (zcj htro0 hr (hp1 rfl) hk Q)
   | false =>
    rw [if_neg (by decide)];refine hk C _ _ w (hr.put t5 (.tup [] [] rfl (fun j x y h => by simp at h))) ?_;rw [<- t3]; exact hp2 rfl
  by_cases hloud:ml[i].o.loud = true
  ·-- a loud one: the canonical order's next
   have hipre:i ∉ pre:=fun h => hnL (hS.loud i ml[i] hmi hloud h)
   have hior:i ∈ ord:=(hc.mem i).2 hil;have hnd:=hc.nodup
   obtain ⟨r,hrest⟩:∃ r,rest = i :: r:=by
    rw [hS.split] at hior hnd;have hirest:i ∈ rest:=(mem_append.1 hior).resolve_left hipre
    cases hrr:rest with
    | nil => rw [hrr] at hirest; cases hirest
    | cons l r =>
     by_cases hli:l = i
     ·exact ⟨r,by rw [hli]⟩
     ·exfalso
      have hlo:l ∈ ord:=by rw [hS.split,hrr]; simp
      have hll:l < ml.length:=(hc.mem l).1 hlo;have hml:ml[l]? = some ml[l]:=getElem?_eq_getElem hll;have hld:=hS.head l r ml[l] hrr hml;rw [hrr] at hnd
      rcases hc.loud l i ml[l] ml[i] hml hmi hld hloud hli with h | h
      ·exact (nodup_append.1 hnd).2.2 l (hS.sub l (hcl l h)) l (by simp) rfl
      ·exact hipre (hc.ord' pre l r (by rw [hS.split,hrr]) i h)
   have hsplit:ord = pre ++ i :: r:=by rw [hS.split,hrest]
   have hment:∀ t ∈ ml[i].tmps,s.tm t = mix ml (LL listed) s.tm tm0 t:=by
    intro t ht;by_cases hw:wr ml (LL listed) t
    ·simp [mix,hw]
    ·simp only [mix,hw,if_false]
     refine hS.fresh t ?_;rintro ⟨k,mk,a1,a2,a3⟩
     rcases hc.touch k i mk ml[i] t a1 hmi a2 ht with h | h
     ·exact hw ⟨k,mk,a1,a2,hcl k h⟩
     ·obtain ⟨p1,p2,hp⟩:=append_of_mem a3
      have:=hc.ord' p1 k (p2 ++ i :: r) (by rw [hsplit,hp]; simp) i h
      exact hipre (by rw [hp]; simp [this])
   have hrun:=hS.run;rw [hrest] at hrun;simp only [filterMap_cons,hmi] at hrun;obtain ⟨g,hg,hrun⟩:=hrun;have hg':gd ml[i].g (mix ml (LL listed) s.tm tm0) = some g:=by rw [<- hgdm _ _ hment]; exact hg
   -- behind it
   have after:∀ (v:PV) (bx':LP PC) (nt':Nat) (live':List Nat),po E (r.filterMap (ml[·]?)) K (St.put ⟨s.tm,bx',nt',live'⟩ ml[i].d v) -> (ml[i].wr = false -> bx' = s.bx \/ ∃ c,bx' = s.bx ++ [c]) -> (ml[i].wr = true -> Wrote (ev s.tm) ml[i] s.bx bx' \/ bx' = s.bx) ->
     ∀ C' a' w',Rep E B C' (St.put ⟨mix ml (LL listed) s.tm tm0,bx',nt',live'⟩ ml[i].d v) a' w' -> wpAny E.P .any ops Q fuel (listed.setIfInBounds i true) a' w':=by
    intro v bx' nt' live' hpo hbx hst C' a' w' hr';have hs1:∀ t,¬ ml[i].d = some t -> (St.put ⟨s.tm,bx',nt',live'⟩ ml[i].d v).tm t = s.tm t:=fun t ht => by rw [zcb]; simp [ht]
    have hb1:(St.put ⟨s.tm,bx',nt',live'⟩ ml[i].d v).bx = bx':=by rw [zcb]
    obtain ⟨pre',rest',s2,hS2,e1,e2,e3,e4⟩:=quiets (E:=E) (B:=B) (K:=K) (tm0:=tm0) hc (L:=LL (listed.setIfInBounds i true)) r (pre ++ [i]) (St.put ⟨s.tm,bx',nt',live'⟩ ml[i].d v) (by rw [hsplit]; simp) hpo
     (fun k hk => by rcases (hset k).1 hk with rfl | hk; exact hil; exact hS.lt k hk)
     (fun k hk hL e he => by
      rcases (hset k).1 hL with rfl | hL
      ·exact (hset e).2 (.inr (hrdy e he))
      ·exact (hset e).2 (.inr (hS.closed k hk hL e he)))
     (fun k hk => by rcases (hset k).1 hk with rfl | hk; simp; simp [hS.sub k hk])
     (fun k mk hk hl hkp => by
      rcases mem_append.1 hkp with h | h
      ·exact (hset k).2 (.inr (hS.loud k mk hk hl h))
      ·rw [mem_singleton] at h; exact (hset k).2 (.inl h))
     (fun t ht => by
      rw [hs1 t (fun h => ht ⟨i,ml[i],hmi,h,by simp⟩)];exact hS.fresh t fun ⟨k,mk,a1,a2,a3⟩ => ht ⟨k,mk,a1,a2,by simp [a3]⟩)
     (fun j hj hjL => by
      have hji:j ≠ i:=fun h => hjL ((hset j).2 (.inl h))
      have hjp:j ∈ pre:=(mem_append.1 hj).resolve_right (by simpa using hji);have hjL':¬ LL listed j:=fun h => hjL ((hset j).2 (.inr h))
      obtain ⟨p1,p2,hp⟩:=append_of_mem hjp
      have hbj:∀ k ∈ befOf bs j,k ∈ pre:=fun k hk => by
       have:=hc.ord' p1 j (p2 ++ i :: r) (by rw [hsplit,hp]; simp) k hk
       rw [hp]; simp [this]
      have hmm:mix ml (· ∈ befOf bs j) (St.put ⟨s.tm,bx',nt',live'⟩ ml[i].d v).tm tm0 = mix ml (· ∈ befOf bs j) s.tm tm0:=by
       funext t
       by_cases hw:wr ml (· ∈ befOf bs j) t
       ·simp only [mix,hw,if_true]
        refine hs1 t fun hd => ?_
        obtain ⟨k,mk,a1,a2,a3⟩:=hw
        have:=hdst k mk t a1 a2 hd
        subst this; exact hipre (hbj k a3)
       ·simp only [mix,hw,if_false]
      intro m hm hl;obtain ⟨u,hu1,hu2⟩:=hS.done j hjp hjL' m hm hl;refine ⟨u,fun t ht => ?_,?_⟩
      ·rw [hs1 t fun hd => hji (hdst j m t hm ht hd)]; exact hu1 t ht
      ·rw [hmm,hb1]
       refine hu2.imp (fun ⟨q1,q2⟩ => ⟨q1,?_⟩) id
       cases his:ml[i].wr with
       | false => exact qf_ext q2 (hbx his)
       | true =>
        rcases hst his with hwr | hsame
        ·cases hld:m.o.isLoad with
         | false => rw [qf_nobx hld (bx':=s.bx)]; exact q2
         | true =>
          rcases hc.store j i m ml[i] hm hmi hld his with (h | h) | ⟨x,x1,x2,x3⟩
          ·exact absurd (hcl j h) hjL'
          ·exact absurd (hbj i h) hipre
          ·refine qf_apart x1 (zaE fun t ht => ?_) hwr (fun k => ⟨k,rfl⟩) x2 q2
           by_cases hw:wr ml (· ∈ befOf bs j) t
           ·simp [mix,hw]
           ·simp only [mix,hw,if_false]
            refine (hS.fresh t ?_).symm;rintro ⟨k,mk,a1,a2,_⟩;exact hw ⟨k,mk,a1,a2,x3 t ht k mk a1 a2⟩
        ·rw [hsame]; exact q2)
    refine ih _ C' s2 a' w' pre' rest' hS2 hls' ?_ hcount'
    have heq:({ s2 with tm:=mix ml (LL (listed.setIfInBounds i true)) s2.tm tm0 }:St) = St.put ⟨mix ml (LL listed) s.tm tm0,bx',nt',live'⟩ ml[i].d v:=by
     rw [zcb] at e1 e2 e3 ⊢;simp only [St.mk.injEq];refine ⟨?_,e1,e2,e3⟩
     funext t
     have hsub:wr ml (LL (listed.setIfInBounds i true)) t -> wr ml (· ∈ pre ++ [i]) t:=fun ⟨k,mk,a1,a2,a3⟩ => ⟨k,mk,a1,a2,by
      rcases (hset k).1 a3 with rfl | a3
      ·simp
      ·simp [hS.sub k a3]⟩
     by_cases hd:ml[i].d = some t
     ·have hw:wr ml (LL (listed.setIfInBounds i true)) t:=(hwset t).2 (.inl hd)
      simp only [mix,hw,if_true,hd];rw [e4 t (hsub hw),zcb]; simp [hd]
     ·by_cases hw0:wr ml (LL listed) t
      ·have hw:wr ml (LL (listed.setIfInBounds i true)) t:=(hwset t).2 (.inr hw0)
       simp only [mix,hw,hw0,if_true,hd,if_false];rw [e4 t (hsub hw),hs1 t hd]
      ·have hw:¬ wr ml (LL (listed.setIfInBounds i true)) t:=fun h => by rcases (hwset t).1 h with h | h; exact hd h; exact hw0 h
       simp only [mix,hw,hw0,if_false,hd]
    rw [heq]; exact hr'
   rcases hrun with ⟨rfl,hrun⟩ | ⟨rfl,hrun⟩
   ·refine machine true _ hg' (fun _ => zdx (tm':=mix ml (LL listed) s.tm tm0) (hopm _ _ hment) hrun) (fun h => by cases h) ?_
    rintro C' s' a' w' hr' ⟨v,bx',nt',live',rfl,hk,hkind⟩
    rcases hkind with ⟨h,_⟩ | ⟨_,h,h'⟩
    ·rw [hloud] at h; cases h
    ·exact after v bx' nt' live' hk h (fun hs => .inl (h' hs)) C' a' w' hr'
   ·refine machine false (fun s' => s' = St.put { s with tm:=mix ml (LL listed) s.tm tm0 } ml[i].d (.tup [])) hg' (fun h => by cases h) (fun _ => rfl) ?_
    rintro C' s' a' w' hr' rfl;exact after (.tup []) s.bx s.nt s.live hrun (fun _ => .inl rfl) (fun _ => .inr rfl) C' a' w' hr'
  ·-- a quiet one: the canonical order has carried it out
   have hq:ml[i].o.loud = false:=by simpa using hloud
   have hior:i ∈ ord:=(hc.mem i).2 hil;have hnd:=hc.nodup
   have hipre:i ∈ pre:=by
    rw [hS.split] at hior hnd
    rcases mem_append.1 hior with h | h
    ·exact h
    ·exfalso
     cases hrr:rest with
     | nil => rw [hrr] at h; cases h
     | cons l r =>
      rw [hrr] at h hnd;have hlo:l ∈ ord:=by rw [hS.split,hrr]; simp
      have hll:l < ml.length:=(hc.mem l).1 hlo;have hml:ml[l]? = some ml[l]:=getElem?_eq_getElem hll;have hld:=hS.head l r ml[l] hrr hml;have hne:i ≠ l:=fun h => by subst h; rw [hmi] at hml; rw [hq] at hld; cases hld
      have hir:i ∈ r:=(mem_cons.1 h).resolve_left hne;obtain ⟨p1,p2,hp⟩:=append_of_mem hir
      have:=hc.asap (pre ++ l :: p1) i p2 ml[i] (by rw [hS.split,hrr,hp]; simp) hmi hq l ml[l] (by simp) hml hld
      exact (nodup_append.1 hnd).2.2 l (hS.sub l (hcl l this)) l (by simp) rfl
   obtain ⟨v,hv1,hv2⟩:=hS.done i hipre hnL ml[i] hmi hq;have hmix:=mix_eq hc (L:=LL listed) hS.lt hS.closed hmi hnL hrdy s.tm tm0;have hgc:=hgdm _ _ hmix;have hqc:=zcz (bx:=s.bx) (hopm _ _ hmix);rw [hgc,hqc] at hv2
   have hfin:∀ C' a' w',Rep E B C' (St.put { s with tm:=mix ml (LL listed) s.tm tm0 } ml[i].d v) a' w' -> wpAny E.P .any ops Q fuel (listed.setIfInBounds i true) a' w':=by
    intro C' a' w' hr';refine ih _ C' s a' w' pre rest ⟨hS.split,hS.head,hS.run,fun k hk => by rcases (hset k).1 hk with rfl | hk; exact hil; exact hS.lt k hk,fun k hk hL e he => ?_,fun k hk => by rcases (hset k).1 hk with rfl | hk; exact hipre; exact hS.sub k hk,fun k mk hk hl hkp => (hset k).2 (.inr (hS.loud k mk hk hl hkp)),hS.fresh,fun j hj hjL => hS.done j hj fun h => hjL ((hset j).2 (.inr h))⟩ hls' ?_ hcount'
    ·rcases (hset k).1 hL with rfl | hL
     ·exact (hset e).2 (.inr (hrdy e he))
     ·exact (hset e).2 (.inr (hS.closed k hk hL e he))
    ·have heq:({ s with tm:=mix ml (LL (listed.setIfInBounds i true)) s.tm tm0 }:St) = St.put { s with tm:=mix ml (LL listed) s.tm tm0 } ml[i].d v:=by
      rw [zcb];simp only [St.mk.injEq,and_true]
      funext t
      by_cases hd:ml[i].d = some t
      ·have hw:wr ml (LL (listed.setIfInBounds i true)) t:=(hwset t).2 (.inl hd)
       simp only [mix,hw,if_true,hd]; exact hv1 t hd
      ·by_cases hw0:wr ml (LL listed) t
       ·have hw:wr ml (LL (listed.setIfInBounds i true)) t:=(hwset t).2 (.inr hw0)
        simp only [mix,hw,hw0,if_true,hd,if_false]
       ·have hw:¬ wr ml (LL (listed.setIfInBounds i true)) t:=fun h => by rcases (hwset t).1 h with h | h; exact hd h; exact hw0 h
        simp only [mix,hw,hw0,if_false,hd]
     rw [heq]; exact hr'
   rcases hv2 with ⟨hg,hv⟩ | ⟨hg,rfl⟩
   ·refine machine true (fun s' => s' = St.put { s with tm:=mix ml (LL listed) s.tm tm0 } ml[i].d v) hg (fun _ => ?_) (fun h => by cases h) (fun C' s' a' w' hr' he => by subst he; exact hfin C' a' w' hr')
    unfold pstep;split
    ·rename_i e; simp only at e; rw [e] at hq; cases hq
    ·rename_i e; simp only at e; rw [e] at hq; cases hq
    ·rename_i e; simp only at e; rw [e] at hq; cases hq
    ·exact .inl ⟨v,hv,rfl⟩
   ·exact machine false (fun s' => s' = St.put { s with tm:=mix ml (LL listed) s.tm tm0 } ml[i].d (.tup [])) hg (fun h => by cases h) (fun _ => rfl) (fun C' s' a' w' hr' he => by subst he; exact hfin C' a' w' hr')
end
end
section
structure CanonT (ml:List MOpr) (es bs:List (List Nat)):Prop where
 len:es.length = ml.length
 blen:bs.length = ml.length
 acyc:∀ i e,i < ml.length -> e ∈ es.getD i [] -> e < i
 bef:∀ i j,i < ml.length -> j ∈ befOf bs i -> j ∈ es.getD i [] \/ ∃ e ∈ es.getD i [],j ∈ befOf bs e
 dst:∀ (i j:Nat) (a b:MOpr) (t:Nat),ml[i]? = some a -> ml[j]? = some b -> a.d = some t -> b.d = some t -> i = j
 touch:∀ (i j:Nat) (a b:MOpr) (t:Nat),ml[i]? = some a -> ml[j]? = some b -> a.d = some t -> t ∈ b.tmps -> i ∈ befOf bs j \/ j ∈ befOf bs i
 store:∀ (i j:Nat) (a b:MOpr),ml[i]? = some a -> ml[j]? = some b -> a.o.isLoad = true -> b.wr = true -> (i ∈ befOf bs j \/ j ∈ befOf bs i) \/ ∃ x,adrL a.o = some x /\ x ∈ b.c /\ ∀ t ∈ x.tmps,∀ (k:Nat) (mk:MOpr),ml[k]? = some mk -> mk.d = some t -> k ∈ befOf bs i
 self:∀ i,i < ml.length -> i ∉ befOf bs i
def Rdy (bs:List (List Nat)) (pre:List Nat) (i:Nat):Prop:=∀ j ∈ befOf bs i,j ∈ pre
def Clos (ml:List MOpr) (bs:List (List Nat)) (pre:List Nat):Prop:=∀ (i:Nat) (m:MOpr),ml[i]? = some m -> m.o.loud = false -> Rdy bs pre i -> i ∈ pre
def Qs (ml:List MOpr) (bs:List (List Nat)):List Nat -> List Nat -> Prop
 | _,[] => True
 | pre,i :: r => (∃ m,ml[i]? = some m /\ m.o.loud = false) /\ i ∉ pre /\ Rdy bs pre i /\ Qs ml bs (pre ++ [i]) r
def runT (E:Env) (ml:List MOpr) (bs:List (List Nat)) (K:St -> Prop):Nat -> List Nat -> St -> Prop
 | 0,_,_ => False
 | f + 1,pre,s => ∃ qs,Qs ml bs pre qs /\ Clos ml bs (pre ++ qs) /\ po E (qs.filterMap (ml[·]?)) (fun s => ((∀ i,i < ml.length -> i ∈ pre ++ qs) -> K s) /\
   ∀ (i:Nat) (m:MOpr),ml[i]? = some m -> m.o.loud = true -> i ∉ pre ++ qs -> Rdy bs (pre ++ qs) i -> po E [m] (runT E ml bs K f (pre ++ qs ++ [i])) s) s
structure SimT (E:Env) (ml:List MOpr) (es bs:List (List Nat)) (K:St -> Prop) (tm0:Nat -> PV) (L:Nat -> Prop) (pre:List Nat) (s:St):Prop where
 run:∃ f,((∀ i,i < ml.length -> i ∈ pre) -> K s) /\ ∀ (i:Nat) (m:MOpr),ml[i]? = some m -> m.o.loud = true -> i ∉ pre -> Rdy bs pre i -> po E [m] (runT E ml bs K f (pre ++ [i])) s
 clos:Clos ml bs pre
 down:∀ i ∈ pre,Rdy bs pre i
 lt:∀ i,L i -> i < ml.length
 closed:∀ i,i < ml.length -> L i -> ∀ e ∈ es.getD i [],L e
 sub:∀ i,L i -> i ∈ pre
 loud:∀ (i:Nat) (m:MOpr),ml[i]? = some m -> m.o.loud = true -> i ∈ pre -> L i
 fresh:∀ t,¬ wr ml (· ∈ pre) t -> s.tm t = tm0 t
 done:∀ j ∈ pre,¬ L j -> Done ml bs tm0 s.tm s.bx j
section
variable {E:Env} {B:Base} {ml:List MOpr} {es bs:List (List Nat)} {K:St -> Prop} {tm0:Nat -> PV}
theorem quietsT (hc:CanonT ml es bs) {L:Nat -> Prop} {K2:St -> Prop}:∀ (rest pre:List Nat) (s:St),Qs ml bs pre rest -> (∀ i ∈ pre,Rdy bs pre i) -> po E (rest.filterMap (ml[·]?)) K2 s -> (∀ i,L i -> i < ml.length) -> (∀ i,i < ml.length -> L i -> ∀ e ∈ es.getD i [],L e) -> (∀ i,L i -> i ∈ pre) ->
  (∀ (i:Nat) (m:MOpr),ml[i]? = some m -> m.o.loud = true -> i ∈ pre -> L i) -> (∀ t,¬ wr ml (· ∈ pre) t -> s.tm t = tm0 t) -> (∀ j ∈ pre,¬ L j -> Done ml bs tm0 s.tm s.bx j) ->
  ∃ s',K2 s' /\ (∀ i ∈ pre ++ rest,Rdy bs (pre ++ rest) i) /\ (∀ i,L i -> i ∈ pre ++ rest) /\ (∀ (i:Nat) (m:MOpr),ml[i]? = some m -> m.o.loud = true -> i ∈ pre ++ rest -> L i) /\ (∀ t,¬ wr ml (· ∈ pre ++ rest) t -> s'.tm t = tm0 t) /\ (∀ j ∈ pre ++ rest,¬ L j -> Done ml bs tm0 s'.tm s'.bx j) /\ s'.bx = s.bx /\ s'.nt = s.nt /\ s'.live = s.live /\ (∀ t,wr ml (· ∈ pre) t -> s'.tm t = s.tm t):=by
 intro rest
 induction rest with
 | nil =>
  intro pre s h1 hdn h2 h3 h4 h5 h6 h7 h8
  exact ⟨s,h2,by simpa using hdn,by simpa using h5,by simpa using h6,by simpa using h7,by simpa using h8,rfl,rfl,rfl,fun _ _ => rfl⟩
 | cons i rest ih =>
  intro pre s h1 hdn h2 h3 h4 h5 h6 h7 h8;obtain ⟨⟨mi,hmi0,hq0⟩,hipre,hbi,hQr⟩:=h1
  have hil:i < ml.length:=by
   rcases Nat.lt_or_ge i ml.length with h | h
   ·exact h
   ·simp [getElem?_eq_none h] at hmi0
  have hmi:ml[i]? = some ml[i]:=getElem?_eq_getElem hil;have hq:ml[i].o.loud = false:=by rw [hmi] at hmi0; simp only [sI] at hmi0; rw [hmi0]; exact hq0
  ·have hnd:=hq
   have hiL:¬ L i:=fun h => hipre (h5 i h)
   simp only [filterMap_cons,hmi] at h2;obtain ⟨g,hg,hrun⟩:=h2
   -- what i mentions is as the canonical order has it
   have hmix:∀ t ∈ ml[i].tmps,s.tm t = mix ml (· ∈ befOf bs i) s.tm tm0 t:=by
    intro t ht;by_cases hw:wr ml (· ∈ befOf bs i) t
    ·simp [mix,hw]
    ·simp only [mix,hw,if_false]
     refine h7 t ?_;rintro ⟨k,mk,a1,a2,a3⟩
     rcases hc.touch k i mk ml[i] t a1 hmi a2 ht with h | h
     ·exact hw ⟨k,mk,a1,a2,h⟩
     ·exact hipre (hdn k a3 i h)
   have hdi:∀ t,ml[i].d = some t -> ¬ wr ml (· ∈ pre) t:=by
    rintro t ht ⟨k,mk,a1,a2,a3⟩
    have:=hc.dst k i mk ml[i] t a1 hmi a2 ht
    subst this; exact hipre a3
   -- the step
   have step:∃ v,po E (rest.filterMap (ml[·]?)) K2 (s.put ml[i].d v) /\ ((gd ml[i].g s.tm = some true /\ qf (ev s.tm) s.bx ml[i].o = some v) \/ (gd ml[i].g s.tm = some false /\ v = .tup [])):=by
    rcases hrun with ⟨rfl,hrun⟩ | ⟨rfl,hrun⟩
    ·generalize hm:ml[i] = m at *
     have hno:∀ x,lf (ev s.tm) s m.o ≠ some x:=by
      intro x hx
      rcases zbL hx with ⟨x,e⟩ | ⟨z,e⟩ | ⟨n,xs,e⟩ | ⟨n,a,x,e⟩ | ⟨n,a,x,e⟩ | ⟨bT,bU,e⟩ <;> rw [e] at hq <;> cases hq
     have:∃ v,qf (ev s.tm) s.bx m.o = some v /\ po E (rest.filterMap (ml[·]?)) K2 (s.put m.d v):=by
      unfold pstep at hrun
      split at hrun
      ·rename_i e; rw [e] at hq; cases hq
      ·rename_i e; rw [e] at hq; cases hq
      ·rename_i e; rw [e] at hq; cases hq
      ·rcases hrun with h | ⟨v,s',hv,_,_⟩
       ·exact h
       ·exact absurd hv (hno _)
     obtain ⟨v,hv,hk⟩:=this;exact ⟨v,hk,.inl ⟨hg,hv⟩⟩
    ·exact ⟨.tup [],hrun,.inr ⟨hg,rfl⟩⟩
   obtain ⟨v,hk,hv⟩:=step
   have hput:∀ t,wr ml (· ∈ pre) t -> (s.put ml[i].d v).tm t = s.tm t:=by
    intro t ht
    cases hd:ml[i].d with
    | none => rfl
    | some d =>
     simp only [St.put];rw [if_neg (fun h => by subst h; exact hdi _ hd ht)]
   have hbx:(s.put ml[i].d v).bx = s.bx /\ (s.put ml[i].d v).nt = s.nt /\ (s.put ml[i].d v).live = s.live:=by cases ml[i].d <;> exact ⟨rfl,rfl,rfl⟩
   have hmono:∀ j,(∀ k ∈ befOf bs j,k ∈ pre) -> ∀ t,mix ml (· ∈ befOf bs j) (s.put ml[i].d v).tm tm0 t = mix ml (· ∈ befOf bs j) s.tm tm0 t:=by
    intro j hj t;by_cases hw:wr ml (· ∈ befOf bs j) t
    ·simp only [mix,hw,if_true]
     refine hput t ?_;obtain ⟨k,mk,a1,a2,a3⟩:=hw;exact ⟨k,mk,a1,a2,hj k a3⟩
    ·simp only [mix,hw,if_false]
   obtain ⟨s',g1,g2,g3,g4,g5,g6,e1,e2,e3,e4⟩:=ih (pre ++ [i]) (s.put ml[i].d v) hQr (fun k hk j hj => by
     rcases mem_append.1 hk with hk | hk
     ·exact mem_append.2 (.inl (hdn k hk j hj))
     ·rw [mem_singleton] at hk; subst hk; exact mem_append.2 (.inl (hbi j hj))) hk h3 h4 (fun k hk => by simp [h5 k hk]) (fun k m hm hl hk => by
     rcases mem_append.1 hk with hk | hk
     ·exact h6 k m hm hl hk
     ·rw [mem_singleton] at hk; subst hk; rw [hmi] at hm; simp only [sI] at hm; subst hm; rw [hq] at hl; cases hl)
    (fun t ht => by
     have hnp:¬ wr ml (· ∈ pre) t:=fun ⟨k,mk,a1,a2,a3⟩ => ht ⟨k,mk,a1,a2,by simp [a3]⟩
     cases hd:ml[i].d with
     | none => exact h7 t hnp
     | some d =>
      simp only [St.put];rw [if_neg (fun h => ht ⟨i,ml[i],hmi,by rw [hd,h],by simp⟩)];exact h7 t hnp)
    (fun j hj hjL => by
     rcases mem_append.1 hj with hj | hj
     ·-- an earlier one
      have hbj:∀ k ∈ befOf bs j,k ∈ pre:=hdn j hj;intro m hm hl;obtain ⟨u,hu1,hu2⟩:=h8 j hj hjL m hm hl;have hmm:=funext (hmono j hbj);refine ⟨u,fun t ht => ?_,?_⟩
      ·rw [hput t ⟨j,m,hm,ht,hj⟩]; exact hu1 t ht
      ·rw [hmm,hbx.1]; exact hu2
     ·rw [mem_singleton] at hj; subst hj
      intro m hm hl;rw [hmi] at hm; simp only [sI] at hm; subst hm
      have hmm:=funext (hmono j hbi);refine ⟨v,fun t ht => ?_,?_⟩
      ·rw [ht]; simp [St.put]
      ·rw [hmm,hbx.1]
       have hgc:gd ml[j].g s.tm = gd ml[j].g (mix ml (· ∈ befOf bs j) s.tm tm0):=zda fun t ht => hmix t (by
        unfold MOpr.tmps; exact mem_append.2 (.inr (by simpa using ht)))
       have hqc:qf (ev s.tm) s.bx ml[j].o = qf (ev (mix ml (· ∈ befOf bs j) s.tm tm0)) s.bx ml[j].o:=zcz fun t ht => hmix t (by unfold MOpr.tmps; exact mem_append.2 (.inl ht))
       rw [<- hgc,<- hqc]; exact hv)
   have hass:pre ++ [i] ++ rest = pre ++ i :: rest:=by simp
   rw [hass] at g2 g3 g4 g5 g6
   exact ⟨s',g1,g2,g3,g4,g5,g6,e1.trans hbx.1,e2.trans hbx.2.1,e3.trans hbx.2.2,fun t ht => by
    rw [e4 t (by obtain ⟨k,mk,a1,a2,a3⟩:=ht; exact ⟨k,mk,a1,a2,by simp [a3]⟩)]; exact hput t ht⟩
end
end
section
section
variable {ml:List MOpr} {es bs:List (List Nat)} (hc:CanonT ml es bs)
include hc
theorem CanonT.closed (L:Nat -> Prop) (hL:∀ i,i < ml.length -> L i -> ∀ e ∈ es.getD i [],L e):∀ (i:Nat),i < ml.length -> (∀ e ∈ es.getD i [],L e) -> ∀ j ∈ befOf bs i,L j:=by
 intro i
 induction i using Nat.strongRecOn with
 | _ i ih =>
  intro hi he j hj
  rcases hc.bef i j hi hj with h | ⟨e,he',h⟩
  ·exact he j h
  ·have hlt:=hc.acyc i e hi he'
   exact ih e hlt (by omega) (hL e (by omega) (he e he')) j h
end
section
variable {E:Env} {B:Base} {ml:List MOpr} {es bs:List (List Nat)} {K:St -> Prop} {tm0:Nat -> PV} {ops:Array Oper} {Q:Exit -> Act -> World -> Prop}
theorem mix_eqT (hc:CanonT ml es bs) {L:Nat -> Prop} (hLlt:∀ i,L i -> i < ml.length) (hLcl:∀ i,i < ml.length -> L i -> ∀ e ∈ es.getD i [],L e) {j:Nat} {m:MOpr} (hj:ml[j]? = some m) (hnot:¬ L j) (hready:∀ e ∈ es.getD j [],L e) (f g:Nat -> PV) :
  ∀ t ∈ m.tmps,mix ml (· ∈ befOf bs j) f g t = mix ml L f g t:=by
 intro t ht
 have hjl:j < ml.length:=by
  rcases Nat.lt_or_ge j ml.length with h | h
  ·exact h
  ·simp [getElem?_eq_none h] at hj
 have hcl:=hc.closed L hLcl;by_cases h1:wr ml (· ∈ befOf bs j) t
 ·have h2:wr ml L t:=by
   obtain ⟨i,mi,a1,a2,a3⟩:=h1;exact ⟨i,mi,a1,a2,hcl j hjl hready i a3⟩
  simp [mix,h1,h2]
 ·have h2:¬ wr ml L t:=by
   rintro ⟨i,mi,a1,a2,a3⟩
   rcases hc.touch i j mi m t a1 hj a2 ht with h | h
   ·exact h1 ⟨i,mi,a1,a2,h⟩
   ·exact hnot (hcl i (hLlt i a3) (hLcl i (hLlt i a3) a3) j h)
  simp [mix,h1,h2]
theorem sim_anyT (hc:CanonT ml es bs) (hsz:ops.size = ml.length) (htr:∀ (i:Nat) (o:Oper) (m:MOpr),ops[i]? = some o -> ml[i]? = some m -> TrO E.P B.n ops o m) (hes:∀ (i:Nat) (o:Oper),ops[i]? = some o -> es.getD i [] = edgesOf o)
  (hK:∀ C' s' a' w',Rep E B C' s' a' w' -> K s' -> Q .normal a' w') :
  ∀ (fuel:Nat) (listed:Array Bool) (C:Cx) (s:St) (a:Act) (w:World) (pre:List Nat),SimT E ml es bs K tm0 (LL listed) pre s -> listed.size = ops.size -> Rep E B C { s with tm:=mix ml (LL listed) s.tm tm0 } a w ->
   ((range ml.length).filter (fun i => !(listed.getD i false))).length <= fuel -> wpAny E.P .any ops Q fuel listed a w:=by
 -- all is listed
 have hdone:∀ (listed:Array Bool) (C:Cx) (s:St) (a:Act) (w:World) (pre:List Nat),SimT E ml es bs K tm0 (LL listed) pre s -> Rep E B C { s with tm:=mix ml (LL listed) s.tm tm0 } a w -> (∀ i,i < ml.length -> LL listed i) -> Q .normal a w:=by
  intro listed C s a w pre hS hr hall;obtain ⟨f0,hK0,_⟩:=hS.run;have hrun:=hK0 (fun i hi => hS.sub i (hall i hi));refine hK C s a w ?_ hrun
  have htm:mix ml (LL listed) s.tm tm0 = s.tm:=by
   funext t
   by_cases hw:wr ml (LL listed) t
   ·simp [mix,hw]
   ·simp only [mix,hw,if_false]
    refine (hS.fresh t ?_).symm;rintro ⟨i,m,a1,a2,a3⟩;refine hw ⟨i,m,a1,a2,hall i ?_⟩
    rcases Nat.lt_or_ge i ml.length with h | h
    ·exact h
    ·simp [getElem?_eq_none h] at a1
  rw [htm] at hr; exact hr
 -- nothing is ready: all is listed
 have hready:∀ (listed:Array Bool),listed.size = ops.size -> Region.ready .any ops listed = [] -> ∀ i,i < ml.length -> LL listed i:=by
  intro listed hls hr i
  induction i using Nat.strongRecOn with
  | _ i ih =>
   intro hi
   apply Classical.byContradiction
   intro hn;have hio:i < ops.size:=by omega
   have:i ∈ Region.ready .any ops listed:=by
    rw [mem_ready];refine ⟨?_,ops[i],Array.getElem?_eq_getElem hio,fun e he hb => ?_⟩
    ·unfold LL at hn
     have hil:i < listed.size:=by omega
     simp only [Array.getD_eq_getD_getElem?,Array.getElem?_eq_getElem hil,Option.getD_some] at hn ⊢;simpa using hn
    ·have hm:e.on ∈ es.getD i []:=by
      rw [hes i ops[i] (Array.getElem?_eq_getElem hio)];unfold edgesOf;exact mem_map.2 ⟨e,mem_filter.2 ⟨by simpa using he,hb⟩,rfl⟩
     have:=hc.acyc i e.on hi hm
     exact ih e.on this (by omega)
   rw [hr] at this; cases this
 intro fuel
 induction fuel with
 | zero =>
  intro listed C s a w pre hS hls hr hcount
  have hall:∀ i,i < ml.length -> LL listed i:=by
   intro i hi
   apply Classical.byContradiction
   intro hn
   have:i ∈ (range ml.length).filter (fun i => !(listed.getD i false)):=mem_filter.2 ⟨mem_range.2 hi,by unfold LL at hn; simpa using hn⟩
   have h0:(range ml.length).filter (fun i => !(listed.getD i false)) = []:=eq_nil_of_length_eq_zero (by omega);rw [h0] at this; cases this
  refine ⟨?_,hdone listed C s a w pre hS hr hall⟩
  cases hrd:Region.ready .any ops listed with
  | nil => rfl
  | cons i r =>
   exfalso;have hm:i ∈ Region.ready .any ops listed:=by rw [hrd]; simp
   obtain ⟨h1,o,ho,_⟩:=mem_ready.1 hm;have hi:i < ops.size:=(Array.getElem?_eq_some_iff.1 ho).1
   have:=hall i (by omega)
   unfold LL at this;have hil:i < listed.size:=by omega
   simp only [Array.getD_eq_getD_getElem?,Array.getElem?_eq_getElem hil,Option.getD_some] at this h1
   rw [this] at h1; cases h1
 | succ fuel ih =>
  intro listed C s a w pre hS hls hr hcount;refine ⟨fun h => hdone listed C s a w pre hS hr (hready listed hls h),fun i hi => ?_⟩;obtain ⟨h1,o,ho,hall⟩:=mem_ready.1 hi;have hio:i < ops.size:=(Array.getElem?_eq_some_iff.1 ho).1;have hil:i < ml.length:=by omega
  have hils:i < listed.size:=by omega
  have hmi:ml[i]? = some ml[i]:=getElem?_eq_getElem hil;have htro:=htr i o ml[i] ho hmi;obtain ⟨t1,t2,t3,t4,t5⟩:=id htro;have htro0:TrO E.P B.n ops o { ml[i] with c:=ml[i].keep }:=htro
  have hnL:¬ LL listed i:=by
   unfold LL;simp only [Array.getD_eq_getD_getElem?,Array.getElem?_eq_getElem hils,Option.getD_some] at h1 ⊢;rw [h1]; decide
  have hrdy:∀ e ∈ es.getD i [],LL listed e:=by
   intro e he;rw [hes i o ho] at he;unfold edgesOf at he;obtain ⟨ed,hed,rfl⟩:=mem_map.1 he;obtain ⟨g1,g2⟩:=mem_filter.1 hed;exact hall ed (by simpa using g1) g2
  have hcl:∀ j ∈ befOf bs i,LL listed j:=hc.closed (LL listed) hS.closed i hil hrdy;have hset:=fun j => LL_set (listed:=listed) hils j
  have hcount':((range ml.length).filter (fun j => !((listed.setIfInBounds i true).getD j false))).length <= fuel:=by
   have hlt:=zdy (p:=fun j => !(listed.getD j false)) (q:=fun j => !((listed.setIfInBounds i true).getD j false)) (i:=i) (l:=range ml.length)
    (fun j hj => by
     simp only [Bool.not_eq_true'] at hj ⊢
     cases h0:listed.getD j false with
     | false => rfl
     | true => have:=(hset j).2 (.inr h0); unfold LL at this; rw [this] at hj; cases hj)
    (mem_range.2 hil) (by simp only [Bool.not_eq_true']; unfold LL at hnL; simpa using hnL) (by
     have:=(hset i).2 (.inl rfl); unfold LL at this; simp only [this]; rfl)
   omega
  have hls':(listed.setIfInBounds i true).size = ops.size:=by rw [Array.size_setIfInBounds]; exact hls
  have hdst:∀ (k:Nat) (mk:MOpr) (t:Nat),ml[k]? = some mk -> mk.d = some t -> ml[i].d = some t -> k = i:=fun k mk t a1 a2 a3 => hc.dst k i mk ml[i] t a1 hmi a2 a3
  have hwset:∀ t,wr ml (LL (listed.setIfInBounds i true)) t ↔ (ml[i].d = some t \/ wr ml (LL listed) t):=by
   intro t
   constructor
   ·rintro ⟨k,mk,a1,a2,a3⟩
    rcases (hset k).1 a3 with rfl | a3
    ·rw [hmi] at a1; simp only [sI] at a1; subst a1; exact .inl a2
    ·exact .inr ⟨k,mk,a1,a2,a3⟩
   ·rintro (h | ⟨k,mk,a1,a2,a3⟩)
    ·exact ⟨i,ml[i],hmi,h,(hset i).2 (.inl rfl)⟩
    ·exact ⟨k,mk,a1,a2,(hset k).2 (.inr a3)⟩
  have hgdm:∀ (f g:Nat -> PV),(∀ t ∈ ml[i].tmps,f t = g t) -> gd ml[i].g f = gd ml[i].g g:=fun f g h => zda fun t ht => h t (by unfold MOpr.tmps; exact mem_append.2 (.inr (by simpa using ht)))
  have hopm:∀ (f g:Nat -> PV),(∀ t ∈ ml[i].tmps,f t = g t) -> ∀ t ∈ ml[i].o.tmps,f t = g t:=fun f g h t ht => h t (by unfold MOpr.tmps; exact mem_append.2 (.inl ht))
  -- the machine's step,for either kind
  have machine:∀ (b:Bool) (K':St -> Prop),gd ml[i].g (mix ml (LL listed) s.tm tm0) = some b -> (b = true -> pstep E { ml[i] with c:=ml[i].keep } K' { s with tm:=mix ml (LL listed) s.tm tm0 }) -> (b = false -> K' (St.put { s with tm:=mix ml (LL listed) s.tm tm0 } ml[i].d (.tup []))) ->
    (∀ C' s' a' w',Rep E B C' s' a' w' -> K' s' -> wpAny E.P .any ops Q fuel (listed.setIfInBounds i true) a' w') -> wpOp E.P ops Q i (wpAny E.P .any ops Q fuel (listed.setIfInBounds i true)) a w:=by
   intro b K' hg hp1 hp2 hk;have hw:=zdu hr t2 hg;unfold wpOp;simp only [ho,hw]
   cases b with
   | true => rw [if_pos rfl]; exact .inl (zcj htro0 hr (hp1 rfl) hk Q)
   | false =>
    rw [if_neg (by decide)];refine hk C _ _ w (hr.put t5 (.tup [] [] rfl (fun j x y h => by simp at h))) ?_;rw [<- t3]; exact hp2 rfl
  by_cases hloud:ml[i].o.loud = true
  ·-- a loud one: the canonical order's next
   have hipre:i ∉ pre:=fun h => hnL (hS.loud i ml[i] hmi hloud h)
   have hment:∀ t ∈ ml[i].tmps,s.tm t = mix ml (LL listed) s.tm tm0 t:=by
    intro t ht;by_cases hw:wr ml (LL listed) t
    ·simp [mix,hw]
    ·simp only [mix,hw,if_false]
     refine hS.fresh t ?_;rintro ⟨k,mk,a1,a2,a3⟩
     rcases hc.touch k i mk ml[i] t a1 hmi a2 ht with h | h
     ·exact hw ⟨k,mk,a1,a2,hcl k h⟩
     ·exact hipre (hS.down k a3 i h)
   obtain ⟨f0,_,hnext⟩:=hS.run;have hri:Rdy bs pre i:=fun j hj => hS.sub j (hcl j hj)
   obtain ⟨g,hg,hrun⟩:=hnext i ml[i] hmi hloud hipre hri;have hg':gd ml[i].g (mix ml (LL listed) s.tm tm0) = some g:=by rw [<- hgdm _ _ hment]; exact hg
   -- behind it
   have after:∀ (v:PV) (bx':LP PC) (nt':Nat) (live':List Nat),runT E ml bs K f0 (pre ++ [i]) (St.put ⟨s.tm,bx',nt',live'⟩ ml[i].d v) -> (ml[i].wr = false -> bx' = s.bx \/ ∃ c,bx' = s.bx ++ [c]) -> (ml[i].wr = true -> Wrote (ev s.tm) ml[i] s.bx bx' \/ bx' = s.bx) ->
     ∀ C' a' w',Rep E B C' (St.put ⟨mix ml (LL listed) s.tm tm0,bx',nt',live'⟩ ml[i].d v) a' w' -> wpAny E.P .any ops Q fuel (listed.setIfInBounds i true) a' w':=by
    intro v bx' nt' live' hpo hbx hst C' a' w' hr';have hs1:∀ t,¬ ml[i].d = some t -> (St.put ⟨s.tm,bx',nt',live'⟩ ml[i].d v).tm t = s.tm t:=fun t ht => by rw [zcb]; simp [ht]
    have hb1:(St.put ⟨s.tm,bx',nt',live'⟩ ml[i].d v).bx = bx':=by rw [zcb]
    obtain ⟨f1,rfl⟩:∃ f1,f0 = f1 + 1:=by
     cases f0 with
     | zero => exact hpo.elim
     | succ f1 => exact ⟨f1,rfl⟩
    obtain ⟨qs,hQs,hClos,hpo⟩:=hpo
    have hlt2:∀ k,LL (listed.setIfInBounds i true) k -> k < ml.length:=fun k hk => by
     rcases (hset k).1 hk with rfl | hk
     ·exact hil
     ·exact hS.lt k hk
    have hcl2:∀ k,k < ml.length -> LL (listed.setIfInBounds i true) k -> ∀ e ∈ es.getD k [],LL (listed.setIfInBounds i true) e:=fun k hk hL e he => by
     rcases (hset k).1 hL with rfl | hL
     ·exact (hset e).2 (.inr (hrdy e he))
     ·exact (hset e).2 (.inr (hS.closed k hk hL e he))
    obtain ⟨s2,G1,G2,G3,G4,G5,G6,e1,e2,e3,e4⟩:=quietsT (E:=E) (tm0:=tm0) hc (L:=LL (listed.setIfInBounds i true)) qs (pre ++ [i]) (St.put ⟨s.tm,bx',nt',live'⟩ ml[i].d v) hQs (fun k hk j hj => by
      rcases mem_append.1 hk with hk | hk
      ·exact mem_append.2 (.inl (hS.down k hk j hj))
      ·rw [mem_singleton] at hk; subst hk; exact mem_append.2 (.inl (hri j hj))) hpo
     (fun k hk => by rcases (hset k).1 hk with rfl | hk; exact hil; exact hS.lt k hk)
     (fun k hk hL e he => by
      rcases (hset k).1 hL with rfl | hL
      ·exact (hset e).2 (.inr (hrdy e he))
      ·exact (hset e).2 (.inr (hS.closed k hk hL e he)))
     (fun k hk => by rcases (hset k).1 hk with rfl | hk; simp; simp [hS.sub k hk])
     (fun k mk hk hl hkp => by
      rcases mem_append.1 hkp with h | h
      ·exact (hset k).2 (.inr (hS.loud k mk hk hl h))
      ·rw [mem_singleton] at h; exact (hset k).2 (.inl h))
     (fun t ht => by
      rw [hs1 t (fun h => ht ⟨i,ml[i],hmi,h,by simp⟩)];exact hS.fresh t fun ⟨k,mk,a1,a2,a3⟩ => ht ⟨k,mk,a1,a2,by simp [a3]⟩)
     (fun j hj hjL => by
      have hji:j ≠ i:=fun h => hjL ((hset j).2 (.inl h))
      have hjp:j ∈ pre:=(mem_append.1 hj).resolve_right (by simpa using hji);have hjL':¬ LL listed j:=fun h => hjL ((hset j).2 (.inr h))
      have hbj:∀ k ∈ befOf bs j,k ∈ pre:=hS.down j hjp
      have hmm:mix ml (· ∈ befOf bs j) (St.put ⟨s.tm,bx',nt',live'⟩ ml[i].d v).tm tm0 = mix ml (· ∈ befOf bs j) s.tm tm0:=by
       funext t
       by_cases hw:wr ml (· ∈ befOf bs j) t
       ·simp only [mix,hw,if_true]
        refine hs1 t fun hd => ?_
        obtain ⟨k,mk,a1,a2,a3⟩:=hw
        have:=hdst k mk t a1 a2 hd
        subst this; exact hipre (hbj k a3)
       ·simp only [mix,hw,if_false]
      intro m hm hl;obtain ⟨u,hu1,hu2⟩:=hS.done j hjp hjL' m hm hl;refine ⟨u,fun t ht => ?_,?_⟩
      ·rw [hs1 t fun hd => hji (hdst j m t hm ht hd)]; exact hu1 t ht
      ·rw [hmm,hb1]
       refine hu2.imp (fun ⟨q1,q2⟩ => ⟨q1,?_⟩) id
       cases his:ml[i].wr with
       | false => exact qf_ext q2 (hbx his)
       | true =>
        rcases hst his with hwr | hsame
        ·cases hld:m.o.isLoad with
         | false => rw [qf_nobx hld (bx':=s.bx)]; exact q2
         | true =>
          rcases hc.store j i m ml[i] hm hmi hld his with (h | h) | ⟨x,x1,x2,x3⟩
          ·exact absurd (hcl j h) hjL'
          ·exact absurd (hbj i h) hipre
          ·refine qf_apart x1 (zaE fun t ht => ?_) hwr (fun k => ⟨k,rfl⟩) x2 q2
           by_cases hw:wr ml (· ∈ befOf bs j) t
           ·simp [mix,hw]
           ·simp only [mix,hw,if_false]
            refine (hS.fresh t ?_).symm;rintro ⟨k,mk,a1,a2,_⟩;exact hw ⟨k,mk,a1,a2,x3 t ht k mk a1 a2⟩
        ·rw [hsame]; exact q2)
    refine ih _ C' s2 a' w' _ (SimT.mk ⟨f1,G1.1,G1.2⟩ hClos G2 hlt2 hcl2 G3 G4 G5 G6) hls' ?_ hcount'
    have heq:({ s2 with tm:=mix ml (LL (listed.setIfInBounds i true)) s2.tm tm0 }:St) = St.put ⟨mix ml (LL listed) s.tm tm0,bx',nt',live'⟩ ml[i].d v:=by
     rw [zcb] at e1 e2 e3 ⊢;simp only [St.mk.injEq];refine ⟨?_,e1,e2,e3⟩
     funext t
     have hsub:wr ml (LL (listed.setIfInBounds i true)) t -> wr ml (· ∈ pre ++ [i]) t:=fun ⟨k,mk,a1,a2,a3⟩ => ⟨k,mk,a1,a2,by
      rcases (hset k).1 a3 with rfl | a3
      ·simp
      ·simp [hS.sub k a3]⟩
     by_cases hd:ml[i].d = some t
     ·have hw:wr ml (LL (listed.setIfInBounds i true)) t:=(hwset t).2 (.inl hd)
      simp only [mix,hw,if_true,hd];rw [e4 t (hsub hw),zcb]; simp [hd]
     ·by_cases hw0:wr ml (LL listed) t
      ·have hw:wr ml (LL (listed.setIfInBounds i true)) t:=(hwset t).2 (.inr hw0)
       simp only [mix,hw,hw0,if_true,hd,if_false];rw [e4 t (hsub hw),hs1 t hd]
      ·have hw:¬ wr ml (LL (listed.setIfInBounds i true)) t:=fun h => by rcases (hwset t).1 h with h | h; exact hd h; exact hw0 h
       simp only [mix,hw,hw0,if_false,hd]
    rw [heq]; exact hr'
   rcases hrun with ⟨rfl,hrun⟩ | ⟨rfl,hrun⟩
   ·refine machine true _ hg' (fun _ => zdx (tm':=mix ml (LL listed) s.tm tm0) (hopm _ _ hment) hrun) (fun h => by cases h) ?_
    rintro C' s' a' w' hr' ⟨v,bx',nt',live',rfl,hk,hkind⟩
    rcases hkind with ⟨h,_⟩ | ⟨_,h,h'⟩
    ·rw [hloud] at h; cases h
    ·exact after v bx' nt' live' hk h (fun hs => .inl (h' hs)) C' a' w' hr'
   ·refine machine false (fun s' => s' = St.put { s with tm:=mix ml (LL listed) s.tm tm0 } ml[i].d (.tup [])) hg' (fun h => by cases h) (fun _ => rfl) ?_
    rintro C' s' a' w' hr' rfl;exact after (.tup []) s.bx s.nt s.live hrun (fun _ => .inl rfl) (fun _ => .inr rfl) C' a' w' hr'
  ·-- a quiet one: the canonical order has carried it out
   have hq:ml[i].o.loud = false:=by simpa using hloud
   have hipre:i ∈ pre:=hS.clos i ml[i] hmi hq fun j hj => hS.sub j (hcl j hj)
   obtain ⟨v,hv1,hv2⟩:=hS.done i hipre hnL ml[i] hmi hq;have hmix:=mix_eqT hc (L:=LL listed) hS.lt hS.closed hmi hnL hrdy s.tm tm0;have hgc:=hgdm _ _ hmix;have hqc:=zcz (bx:=s.bx) (hopm _ _ hmix);rw [hgc,hqc] at hv2
   have hfin:∀ C' a' w',Rep E B C' (St.put { s with tm:=mix ml (LL listed) s.tm tm0 } ml[i].d v) a' w' -> wpAny E.P .any ops Q fuel (listed.setIfInBounds i true) a' w':=by
    intro C' a' w' hr';refine ih _ C' s a' w' pre ⟨hS.run,hS.clos,hS.down,fun k hk => by rcases (hset k).1 hk with rfl | hk; exact hil; exact hS.lt k hk,fun k hk hL e he => ?_,fun k hk => by rcases (hset k).1 hk with rfl | hk; exact hipre; exact hS.sub k hk,fun k mk hk hl hkp => (hset k).2 (.inr (hS.loud k mk hk hl hkp)),hS.fresh,fun j hj hjL => hS.done j hj fun h => hjL ((hset j).2 (.inr h))⟩ hls' ?_ hcount'
    ·rcases (hset k).1 hL with rfl | hL
     ·exact (hset e).2 (.inr (hrdy e he))
     ·exact (hset e).2 (.inr (hS.closed k hk hL e he))
    ·have heq:({ s with tm:=mix ml (LL (listed.setIfInBounds i true)) s.tm tm0 }:St) = St.put { s with tm:=mix ml (LL listed) s.tm tm0 } ml[i].d v:=by
      rw [zcb];simp only [St.mk.injEq,and_true]
      funext t
      by_cases hd:ml[i].d = some t
      ·have hw:wr ml (LL (listed.setIfInBounds i true)) t:=(hwset t).2 (.inl hd)
       simp only [mix,hw,if_true,hd]; exact hv1 t hd
      ·by_cases hw0:wr ml (LL listed) t
       ·have hw:wr ml (LL (listed.setIfInBounds i true)) t:=(hwset t).2 (.inr hw0)
        simp only [mix,hw,hw0,if_true,hd,if_false]
       ·have hw:¬ wr ml (LL (listed.setIfInBounds i true)) t:=fun h => by rcases (hwset t).1 h with h | h; exact hd h; exact hw0 h
        simp only [mix,hw,hw0,if_false,hd]
     rw [heq]; exact hr'
   rcases hv2 with ⟨hg,hv⟩ | ⟨hg,rfl⟩
   ·refine machine true (fun s' => s' = St.put { s with tm:=mix ml (LL listed) s.tm tm0 } ml[i].d v) hg (fun _ => ?_) (fun h => by cases h) (fun C' s' a' w' hr' he => by subst he; exact hfin C' a' w' hr')
    unfold pstep;split
    ·rename_i e; simp only at e; rw [e] at hq; cases hq
    ·rename_i e; simp only at e; rw [e] at hq; cases hq
    ·rename_i e; simp only at e; rw [e] at hq; cases hq
    ·exact .inl ⟨v,hv,rfl⟩
   ·exact machine false (fun s' => s' = St.put { s with tm:=mix ml (LL listed) s.tm tm0 } ml[i].d (.tup [])) hg (fun h => by cases h) (fun _ => rfl) (fun C' s' a' w' hr' he => by subst he; exact hfin C' a' w' hr')
end
end
section
def isLoudAt (ml:List MOpr) (i:Nat):Bool :=
 match ml[i]? with
 | some m => m.o.loud
 | none => false
def pickNext (ml:List MOpr) (es:List (List Nat)) (done:List Nat):Option Nat :=
 let rs:=(range ml.length).filter fun i => !done.contains i && (es.getD i []).all done.contains
 match rs.find? fun i => !isLoudAt ml i with
 | some i => some i
 | none => rs.head?
def canonOrd (ml:List MOpr) (es:List (List Nat)):Nat -> List Nat -> List Nat
 | 0,done => done
 | k + 1,done =>
  match pickNext ml es done with
  | some i => canonOrd ml es k (done ++ [i])
  | none => done
def ordOk (ml:List MOpr) (bs:List (List Nat)):List Nat -> List Nat -> Bool
 | _,[] => true
 | pre,i :: r => (befOf bs i).all pre.contains && (isLoudAt ml i || pre.all fun j => !isLoudAt ml j || (befOf bs i).contains j) && ordOk ml bs (pre ++ [i]) r
def X.beq:X -> X -> Bool
 | .t a,.t b => a == b
 | _,_ => false
def besideOk (ml:List MOpr) (bs:List (List Nat)) (i:Nat) (a b:MOpr):Bool :=
 match adrL a.o with
 | some (.t t) => (b.c.any fun y => X.beq y (.t t)) && (range ml.length).all fun k => match ml[k]? with
  | some mk => !(mk.d == some t) || (befOf bs i).contains k
  | none => true
 | _ => false
def pairOk (ml:List MOpr) (bs:List (List Nat)) (i j:Nat):Bool :=
 match ml[i]?,ml[j]? with
 | some a,some b =>
  let o:=(befOf bs j).contains i || (befOf bs i).contains j
  (match a.d with
   | some t => (decide (i = j) || !(b.d == some t)) && (!b.tmps.contains t || o)
   | none => true) &&
  (decide (i = j) || !(a.o.loud && b.o.loud) || o) && (!(a.o.isLoad && b.wr) || o || besideOk ml bs i a b)
 | _,_ => true
def canonOk (ml:List MOpr) (es bs:List (List Nat)) (ord:List Nat):Bool :=
 decide (es.length = ml.length) && decide (bs.length = ml.length) && decide ord.Nodup && ord.all (fun i => decide (i < ml.length)) && (range ml.length).all ord.contains &&
 (range ml.length).all (fun i => (es.getD i []).all fun e => decide (e < i)) &&
 (range ml.length).all (fun i => (befOf bs i).all fun j => (es.getD i []).contains j || (es.getD i []).any fun e => (befOf bs e).contains j) &&
 (range ml.length).all (fun i => (range ml.length).all fun j => pairOk ml bs i j) && ordOk ml bs [] ord
theorem zb0 {ml:List MOpr} {bs:List (List Nat)}:∀ {ord pre0:List Nat},ordOk ml bs pre0 ord = true -> ∀ pre i post,ord = pre ++ i :: post -> (∀ j ∈ befOf bs i,j ∈ pre0 ++ pre) /\ (isLoudAt ml i = false -> ∀ j ∈ pre0 ++ pre,isLoudAt ml j = true -> j ∈ befOf bs i)
 | [],pre0,_,pre,i,post,h => by simp at h
 | x :: ord,pre0,hk,pre,i,post,h => by
  simp only [ordOk,Bool.and_eq_true,Bool.or_eq_true,all_eq_true,Bool.not_eq_true',contains_iff_mem] at hk;obtain ⟨⟨h1,h2⟩,h3⟩:=hk
  cases pre with
  | nil =>
   simp only [nil_append,cons.injEq] at h;obtain ⟨rfl,rfl⟩:=h;simp only [append_nil];refine ⟨h1,fun hq j hj hl => ?_⟩
   rcases h2 with h2 | h2
   ·rw [hq] at h2; cases h2
   ·rcases h2 j hj with h | h
    ·rw [hl] at h; cases h
    ·exact h
  | cons y pre =>
   simp only [cons_append,cons.injEq] at h;obtain ⟨rfl,h⟩:=h
   have:=zb0 h3 pre i post h
   simpa only [append_assoc,singleton_append] using this
theorem zeY {ml:List MOpr} {es bs:List (List Nat)} {ord:List Nat} (h:canonOk ml es bs ord = true):Canon ml es bs ord:=by
 simp only [canonOk,Bool.and_eq_true,decide_eq_true_eq,all_eq_true,mem_range,contains_iff_mem] at h;obtain ⟨⟨⟨⟨⟨⟨⟨⟨h1,h2⟩,h3⟩,h4⟩,h5⟩,h6⟩,h7⟩,h8⟩,h9⟩:=h
 have hlt:∀ {i:Nat} {m:MOpr},ml[i]? = some m -> i < ml.length:=fun {i m} hi => by
  rcases Nat.lt_or_ge i ml.length with h | h
  ·exact h
  ·simp [getElem?_eq_none h] at hi
 have hpair:∀ {i j:Nat} {a b:MOpr},ml[i]? = some a -> ml[j]? = some b -> (∀ t,a.d = some t -> (i = j \/ ¬ b.d = some t) /\ (t ∈ b.tmps -> i ∈ befOf bs j \/ j ∈ befOf bs i)) /\ (a.o.loud = true -> b.o.loud = true -> i ≠ j -> i ∈ befOf bs j \/ j ∈ befOf bs i) /\ (a.o.isLoad = true -> b.wr = true -> (i ∈ befOf bs j \/ j ∈ befOf bs i) \/ besideOk ml bs i a b = true):=by
  intro i j a b hi hj
  have:=h8 i (hlt hi) j (hlt hj)
  simp only [pairOk,hi,hj,Bool.and_eq_true,Bool.or_eq_true,decide_eq_true_eq,Bool.not_eq_true',contains_iff_mem] at this;obtain ⟨⟨p1,p2⟩,p3⟩:=this;refine ⟨fun t ht => ?_,fun hl hl2 hne => ?_,fun hl hs => ?_⟩
  ·rw [ht] at p1
   simp only [Bool.and_eq_true,Bool.or_eq_true,decide_eq_true_eq,Bool.not_eq_true',beq_eq_false_iff_ne,ne_eq,contains_iff_mem] at p1;refine ⟨p1.1,fun hm => p1.2.resolve_left fun hh => ?_⟩
   have:b.tmps.contains t = true:=contains_iff_mem.2 hm
   rw [hh] at this; cases this
  ·rcases p2 with (p2 | p2) | p2
   ·exact absurd p2 hne
   ·rw [hl,hl2] at p2; cases p2
   ·exact p2
  ·rcases p3 with (p3 | p3) | p3
   ·rw [hl,hs] at p3; cases p3
   ·exact .inl p3
   ·exact .inr p3
 refine ⟨h1,h2,h3,fun i => ⟨fun hi => h4 i hi,fun hi => h5 i hi⟩,fun i e hi he => h6 i hi e he,fun i j hi hj => ?_,fun i j a b t hi hj ha hb => ?_,fun i j a b t hi hj ha ht => ((hpair hi hj).1 t ha).2 ht,fun pre i post ho j hj => ?_,fun i j a b hi hj ha hb hne => (hpair hi hj).2.1 ha hb hne,
  fun pre i post a ho hi hq j b hj hb hl => ?_,fun i j a b hi hj ha hb => ((hpair hi hj).2.2 ha hb).imp id fun hb => ?_,fun i hi hm => ?_⟩
 ·have:=h7 i hi j hj
  simp only [Bool.or_eq_true,contains_iff_mem,any_eq_true] at this;exact this
 ·exact ((hpair hi hj).1 t ha).1.resolve_right fun h => h hb
 ·have:=(zb0 h9 pre i post ho).1 j hj; simpa using this
 ·have:=(zb0 h9 pre i post ho).2 (by simp [isLoudAt,hi,hq]) j (by simpa using hj) (by simp [isLoudAt,hb,hl])
  exact this
 ·unfold besideOk at hb
  split at hb
  ·rename_i t ht
   simp only [Bool.and_eq_true,any_eq_true,all_eq_true,mem_range] at hb;obtain ⟨⟨y,hy1,hy2⟩,hall⟩:=hb
   have hyt:y = .t t:=by
    cases y <;> simp only [X.beq,Bool.false_eq_true] at hy2
    simp only [beq_iff_eq] at hy2; rw [hy2]
   subst hyt;refine ⟨.t t,ht,hy1,fun t' ht' k mk hk hd => ?_⟩;simp only [X.tmps,mem_singleton] at ht'; subst ht'
   have:=hall k (hlt hk)
   simp only [hk,hd,beq_self_eq_true,Bool.not_true,Bool.false_or,contains_iff_mem] at this;exact this
  ·cases hb
 ·-- nothing comes before itself
  have hio:i ∈ ord:=h5 i hi;obtain ⟨p1,p2,hp⟩:=append_of_mem hio
  have:=(zb0 h9 p1 i p2 hp).1 i hm
  rw [hp] at h3;exact (nodup_append.1 h3).2.2 i (by simpa using this) i (by simp) rfl
end
section
def trOprs (P:Program) (n:Nat) (ops:Array Oper):List Oper -> Option (List MOpr)
 | [] => some []
 | o :: r =>
  match trOpr P n ops o,trOprs P n ops r with
  | some m,some l => some (m :: l)
  | _,_ => none
def onlySrc (ml:List MOpr) (t:Nat):Bool:=ml.all fun m => match m.o with
 | .app _ s _x => !s.tmps.contains t && (match m.g with | some (u,_) => !(u == t) | none => true) || !m.tmps.contains t
 | _ => !m.tmps.contains t
def toQuiet (ml:List MOpr) (m:MOpr):MOpr :=
 match m.o,m.d with
 | .lit n xs,some d => if onlySrc ml d then { m with o:=.litq n xs } else m
 | _,_ => m
def beside (ml:List MOpr) (bs:List (List Nat)) (j:Nat) (m:MOpr):MOpr :=
 if m.o.isStore then
  { m with c:=(range ml.length).filterMap fun i => match ml[i]? with | some a => if a.o.isLoad && !((befOf bs j).contains i || (befOf bs i).contains j) then adrL a.o else none | none => none }
 else if m.o.isCall then
  { m with c:=.f 0 :: (range ml.length).filterMap fun i => match ml[i]? with | some a => if a.o.isLoad && !((befOf bs j).contains i || (befOf bs i).contains j) then adrL a.o else none | none => none }
 else if m.o.isApp && (range ml.length).all (fun i => match ml[i]? with
   | some a => !a.o.isLoad || (befOf bs j).contains i || (befOf bs i).contains j
   | none => true) then { m with c:=[.f 0] }
 else m
def markCall (m:MOpr):MOpr:=if m.o.isCall || m.o.isApp then { m with c:=[.f 1] } else m
def besides (ml:List MOpr) (bs:List (List Nat)):Nat -> List MOpr -> List MOpr
 | _,[] => []
 | j,m :: r => beside ml bs j m :: besides ml bs (j + 1) r
theorem zck {P:Program} {n:Nat} {ops:Array Oper}:∀ {l:List Oper} {ml:List MOpr},trOprs P n ops l = some ml -> ml.length = l.length /\ ∀ (i:Nat) (o:Oper) (m:MOpr),l[i]? = some o -> ml[i]? = some m -> trOpr P n ops o = some m
 | [],ml,h => by simp only [trOprs,sI] at h; subst h; simp
 | o :: l,ml,h => by
  simp only [trOprs] at h
  split at h
  ·rename_i m r h1 h2
   simp only [sI] at h; subst h
   obtain ⟨k1,k2⟩:=zck h2;refine ⟨by simp [k1],fun i o' m' ho hm => ?_⟩
   match i with
   | 0 => simp at ho hm; subst ho; subst hm; exact h1
   | i + 1 => exact k2 i o' m' (by simpa using ho) (by simpa using hm)
  ·cases h
theorem zcl {ml:List MOpr} {bs:List (List Nat)}:∀ {l:List MOpr} {j:Nat},(besides ml bs j l).length = l.length
 | [],_ => rfl
 | m :: r,j => by simp [besides,zcl (l:=r)]
theorem zcm {ml:List MOpr} {bs:List (List Nat)}:∀ {l:List MOpr} {j i:Nat} {m:MOpr},(besides ml bs j l)[i]? = some m -> ∃ m0,l[i]? = some m0 /\ m.d = m0.d /\ m.o = m0.o /\ m.g = m0.g
 | [],_,i,m,h => by simp [besides] at h
 | x :: r,j,i,m,h => by
  simp only [besides] at h
  match i with
  | 0 =>
   simp only [getElem?_cons_zero,sI] at h; subst h
   refine ⟨x,rfl,?_⟩;unfold beside; split
   ·exact ⟨rfl,rfl,rfl⟩
   ·split
    ·exact ⟨rfl,rfl,rfl⟩
    ·split <;> exact ⟨rfl,rfl,rfl⟩
  | i + 1 =>
   simp only [getElem?_cons_succ] at h ⊢;exact zcm h
theorem zd9 {P:Program} {n:Nat} {ops:Array Oper} {o:Oper} {ml:List MOpr} {m:MOpr} (h:TrO P n ops o m) (hq:∀ k xs,m.o = .lit k xs -> trOp P o.op = some (.lit k xs)):TrO P n ops o (toQuiet ml m):=by
 unfold toQuiet;split
 ·rename_i k xs d h1 h2
  split
  ·obtain ⟨a1,a2,a3,a4,a5⟩:=h
   exact ⟨.inr ⟨k,xs,hq k xs h1,rfl⟩,a2,a3,rfl,a5⟩
  ·exact h
 ·exact h
end
section
inductive RT where
 | leaf
 | node (qs:List MOpr) (alts:RT)
 | alt (m:MOpr) (t next:RT)
def RT.isLeaf:RT -> Bool
 | .leaf => true
 | _ => false
def pt (E:Env) (K:St -> Prop):RT -> St -> Prop
 | .leaf,_ => True
 | .node qs a,s => po E qs (fun s => (a.isLeaf = true -> K s) /\ pt E K a s) s
 | .alt m t n,s => po E [m] (pt E K t) s /\ pt E K n s
def asapQ (ml:List MOpr) (bs:List (List Nat)):Nat -> List Nat -> List Nat
 | 0,_ => []
 | f + 1,pre =>
  match (range ml.length).find? (fun i => !isLoudAt ml i && !pre.contains i && (befOf bs i).all pre.contains) with
  | some i => i :: asapQ ml bs f (pre ++ [i])
  | none => []
def qsOk (ml:List MOpr) (bs:List (List Nat)):List Nat -> List Nat -> Bool
 | _,[] => true
 | pre,i :: r => decide (i < ml.length) && !isLoudAt ml i && !pre.contains i && (befOf bs i).all pre.contains && qsOk ml bs (pre ++ [i]) r
def closOk (ml:List MOpr) (bs:List (List Nat)) (pre:List Nat):Bool:=(range ml.length).all fun i => isLoudAt ml i || !(befOf bs i).all pre.contains || pre.contains i
def nextOf (ml:List MOpr) (bs:List (List Nat)) (pre:List Nat):List Nat:=(range ml.length).filter fun i => isLoudAt ml i && !pre.contains i && (befOf bs i).all pre.contains
def altsOf (ml:List MOpr) (rec:Nat -> Option RT):List Nat -> Option RT
 | [] => some .leaf
 | i :: r =>
  match ml[i]?,rec i,altsOf ml rec r with
  | some m,some t,some n => some (.alt m t n)
  | _,_,_ => none
def buildT (ml:List MOpr) (bs:List (List Nat)):Nat -> List Nat -> Option RT
 | 0,_ => none
 | f + 1,pre =>
  let qs:=asapQ ml bs ml.length pre
  if qsOk ml bs pre qs && closOk ml bs (pre ++ qs) then
   (altsOf ml (fun i => buildT ml bs f (pre ++ qs ++ [i])) (nextOf ml bs (pre ++ qs))).map (.node (qs.filterMap (ml[·]?)))
  else none
theorem zea {E:Env} {f:Nat} {xs:List PV} {d:Option Nat} {K K':St -> Prop} {s:St} (h:pcall E f xs d K s) (hk:∀ s,K s -> K' s):pcall E f xs d K' s:=by
 obtain ⟨args,R,h1,h2,h3⟩:=h;refine ⟨args,R,h1,h2,h3.imp (fun h x lv hR => ?_) fun h x lv k hR a b => ?_⟩
 ·obtain ⟨y,e1,e2⟩:=h x lv hR; exact ⟨y,e1,hk _ e2⟩
 ·obtain ⟨y,e1,e2,e3⟩:=h x lv k hR a b; exact ⟨y,e1,e2,hk _ e3⟩
theorem zdz {E:Env} {f:Nat} {xs:List PV} {d:Option Nat} {c:List X} {K K':St -> Prop} {s:St} (h:pcallG E f xs d c K s) (hk:∀ s,K s -> K' s):pcallG E f xs d c K' s:=by
 obtain ⟨R,h1,h2⟩:=h;exact ⟨R,h1,fun x b n l hR => ⟨(h2 x b n l hR).1,hk _ (h2 x b n l hR).2⟩⟩
theorem pstep_mono {E:Env} {o:MOpr} {K K':St -> Prop} {s:St} (h:pstep E o K s) (hk:∀ s,K s -> K' s):pstep E o K' s:=by
 obtain ⟨d,m,g,c⟩:=o
 cases m <;> simp only [pstep] at h ⊢ <;>
  first
   | (exact h.imp (fun h => zea h hk) fun h => ⟨h.1,zdz h.2 hk⟩)
   | (obtain ⟨f,cap,h1,h2,h3⟩:=h; exact ⟨f,cap,h1,h2,h3.imp (fun h => zea h hk) fun h => ⟨h.1,zdz h.2 hk⟩⟩)
   | (
     rcases h with ⟨v,s',h1,h2⟩ | ⟨h1,p,len,cap,z,tk2,ds,a1,a2,a3,a4,a5,a6⟩
     ·exact .inl ⟨v,s',h1,hk _ h2⟩
     ·exact .inr ⟨h1,p,len,cap,z,tk2,ds,a1,a2,a3,a4,a5,fun p' c' b' hA => ⟨(a6 p' c' b' hA).1,hk _ (a6 p' c' b' hA).2⟩⟩)
   | (
     rcases h with ⟨v,h1,h2⟩ | ⟨v,s',h1,h2,h3⟩
     ·exact .inl ⟨v,h1,hk _ h2⟩
     ·exact .inr ⟨v,s',h1,h2,hk _ h3⟩)
theorem zes {E:Env}:∀ {l:List MOpr} {K K':St -> Prop} {s:St},po E l K s -> (∀ s,K s -> K' s) -> po E l K' s
 | [],_,_,_,h,hk => hk _ h
 | o :: r,K,K',s,h,hk => by
  obtain ⟨g,hg,h⟩:=h;exact ⟨g,hg,h.imp (fun h => ⟨h.1,pstep_mono h.2 fun s h => zes h hk⟩) fun h => ⟨h.1,zes h.2 hk⟩⟩
theorem loudAt {ml:List MOpr} {i:Nat} {m:MOpr} (h:ml[i]? = some m):isLoudAt ml i = m.o.loud:=by unfold isLoudAt; rw [h]
theorem zbN {ml:List MOpr} {i:Nat} {m:MOpr} (h:ml[i]? = some m):i < ml.length:=by
 rcases Nat.lt_or_ge i ml.length with h' | h'
 ·exact h'
 ·simp [getElem?_eq_none h'] at h
theorem rdy_of {bs:List (List Nat)} {pre:List Nat} {i:Nat}:(befOf bs i).all pre.contains = true ↔ Rdy bs pre i:=by
 simp only [all_eq_true,contains_iff_mem]; exact Iff.rfl
theorem zeZ {ml:List MOpr} {bs:List (List Nat)}:∀ {qs pre:List Nat},qsOk ml bs pre qs = true -> Qs ml bs pre qs
 | [],_,_ => trivial
 | i :: r,pre,h => by
  simp only [qsOk,Bool.and_eq_true,decide_eq_true_eq,Bool.not_eq_true'] at h;obtain ⟨⟨⟨⟨h1,h2⟩,h3⟩,h4⟩,h5⟩:=h;have hm:ml[i]? = some ml[i]:=getElem?_eq_getElem h1;refine ⟨⟨ml[i],hm,by rw [<- loudAt hm]; exact h2⟩,fun hi => ?_,rdy_of.1 h4,zeZ h5⟩;rw [<- contains_iff_mem] at hi; rw [hi] at h3; cases h3
theorem zf5 {ml:List MOpr} {bs:List (List Nat)} {pre:List Nat} (h:closOk ml bs pre = true):Clos ml bs pre:=by
 intro i m hm hq hr;unfold closOk at h;rw [all_eq_true] at h
 have:=h i (mem_range.2 (zbN hm))
 rw [loudAt hm,hq,rdy_of.2 hr] at this;simpa using this
theorem zeb {E:Env} {ml:List MOpr} {K:St -> Prop} {rec:Nat -> Option RT}:∀ {l:List Nat} {t:RT} {s:St},altsOf ml rec l = some t -> pt E K t s -> ∀ i ∈ l,∃ m u,ml[i]? = some m /\ rec i = some u /\ po E [m] (pt E K u) s
 | [],_,_,_,_,i,hi => by cases hi
 | x :: r,t,s,h,hp,i,hi => by
  simp only [altsOf] at h
  split at h
  ·rename_i m u n h1 h2 h3
   simp only [sI] at h; subst h
   rcases mem_cons.1 hi with rfl | hi
   ·exact ⟨m,u,h1,h2,hp.1⟩
   ·exact zeb h3 hp.2 i hi
  ·cases h
theorem zf6 {ml:List MOpr} {rec:Nat -> Option RT} {l:List Nat} {t:RT} (h:altsOf ml rec l = some t) (hl:l = []):t.isLeaf = true:=by
 subst hl; simp only [altsOf,sI] at h; subst h; rfl
theorem ze0 {E:Env} {ml:List MOpr} {bs:List (List Nat)} {K:St -> Prop}:∀ {f:Nat} {pre:List Nat} {t:RT} {s:St},buildT ml bs f pre = some t -> pt E K t s -> runT E ml bs K f pre s
 | 0,_,_,_,h,_ => by simp [buildT] at h
 | f + 1,pre,t,s,h,hp => by
  simp only [buildT] at h
  split at h
  ·rename_i hok
   rw [Bool.and_eq_true] at hok;obtain ⟨a,ha,rfl⟩:=Option.map_eq_some_iff.1 h;refine ⟨_,zeZ hok.1,zf5 hok.2,zes hp fun s hk => ⟨fun hall => ?_,fun i m hm hl hi hr => ?_⟩⟩
   ·refine hk.1 (zf6 ha ?_)
    rw [nextOf,filter_eq_nil_iff];intro i hi
    have:=hall i (mem_range.1 hi)
    rw [<- contains_iff_mem] at this;show ¬ ((isLoudAt ml i && !(pre ++ asapQ ml bs ml.length pre).contains i && (befOf bs i).all (pre ++ asapQ ml bs ml.length pre).contains) = true);rw [this]; simp
   ·have hin:i ∈ nextOf ml bs (pre ++ asapQ ml bs ml.length pre):=by
     rw [nextOf,mem_filter];refine ⟨mem_range.2 (zbN hm),?_⟩;rw [loudAt hm,hl,rdy_of.2 hr]
     have:(pre ++ asapQ ml bs ml.length pre).contains i = false:=by
      cases hc:(pre ++ asapQ ml bs ml.length pre).contains i with
      | false => rfl
      | true => exact absurd (contains_iff_mem.1 hc) hi
     rw [this]; rfl
    obtain ⟨m',u,e1,e2,e3⟩:=zeb ha hk.2 i hin;rw [hm] at e1; simp only [sI] at e1; subst e1
    exact zes e3 fun s h => ze0 e2 h
  ·cases h
def pairOkT (ml:List MOpr) (bs:List (List Nat)) (i j:Nat):Bool :=
 match ml[i]?,ml[j]? with
 | some a,some b =>
  let o:=(befOf bs j).contains i || (befOf bs i).contains j
  (match a.d with
   | some t => (decide (i = j) || !(b.d == some t)) && (!b.tmps.contains t || o)
   | none => true) && (!(a.o.isLoad && b.wr) || o || besideOk ml bs i a b)
 | _,_ => true
def canonOkT (ml:List MOpr) (es bs:List (List Nat)):Bool :=
 decide (es.length = ml.length) && decide (bs.length = ml.length) &&
 (range ml.length).all (fun i => (es.getD i []).all fun e => decide (e < i)) &&
 (range ml.length).all (fun i => (befOf bs i).all fun j => (es.getD i []).contains j || (es.getD i []).any fun e => (befOf bs e).contains j) &&
 (range ml.length).all (fun i => (range ml.length).all fun j => pairOkT ml bs i j) && (range ml.length).all fun i => !(befOf bs i).contains i
theorem zet {ml:List MOpr} {es bs:List (List Nat)} (h:canonOkT ml es bs = true):CanonT ml es bs:=by
 simp only [canonOkT,Bool.and_eq_true,decide_eq_true_eq,all_eq_true,mem_range] at h;obtain ⟨⟨⟨⟨⟨h1,h2⟩,h6⟩,h7⟩,h8⟩,h9⟩:=h
 have hpair:∀ {i j:Nat} {a b:MOpr},ml[i]? = some a -> ml[j]? = some b -> (∀ t,a.d = some t -> (i = j \/ ¬ b.d = some t) /\ (t ∈ b.tmps -> i ∈ befOf bs j \/ j ∈ befOf bs i)) /\ (a.o.isLoad = true -> b.wr = true -> (i ∈ befOf bs j \/ j ∈ befOf bs i) \/ besideOk ml bs i a b = true):=by
  intro i j a b hi hj
  have:=h8 i (zbN hi) j (zbN hj)
  simp only [pairOkT,hi,hj,Bool.and_eq_true,Bool.or_eq_true,Bool.not_eq_true',contains_iff_mem] at this;obtain ⟨p1,p3⟩:=this;refine ⟨fun t ht => ?_,fun hl hs => ?_⟩
  ·rw [ht] at p1
   simp only [Bool.and_eq_true,Bool.or_eq_true,decide_eq_true_eq,Bool.not_eq_true',beq_eq_false_iff_ne,ne_eq,contains_iff_mem] at p1;refine ⟨p1.1,fun hm => p1.2.resolve_left fun hh => ?_⟩
   have:b.tmps.contains t = true:=contains_iff_mem.2 hm
   rw [hh] at this; cases this
  ·rcases p3 with (p3 | p3) | p3
   ·rw [hl,hs] at p3; cases p3
   ·exact .inl p3
   ·exact .inr p3
 refine ⟨h1,h2,fun i e hi he => h6 i hi e he,fun i j hi hj => ?_,fun i j a b t hi hj ha hb => ?_,fun i j a b t hi hj ha ht => ((hpair hi hj).1 t ha).2 ht,fun i j a b hi hj ha hb => ((hpair hi hj).2 ha hb).imp id fun hb => ?_,fun i hi hm => ?_⟩
 ·have:=h7 i hi j hj
  simp only [Bool.or_eq_true,contains_iff_mem,any_eq_true] at this;exact this
 ·exact ((hpair hi hj).1 t ha).1.resolve_right fun h => h hb
 ·unfold besideOk at hb
  split at hb
  ·rename_i t ht
   simp only [Bool.and_eq_true,any_eq_true,all_eq_true,mem_range] at hb;obtain ⟨⟨y,hy1,hy2⟩,hall⟩:=hb
   have hyt:y = .t t:=by
    cases y <;> simp only [X.beq,Bool.false_eq_true] at hy2
    simp only [beq_iff_eq] at hy2; rw [hy2]
   subst hyt;refine ⟨.t t,ht,hy1,fun t' ht' k mk hk hd => ?_⟩;simp only [X.tmps,mem_singleton] at ht'; subst ht'
   have:=hall k (zbN hk)
   simp only [hk,hd,beq_self_eq_true,Bool.not_true,Bool.false_or,contains_iff_mem] at this;exact this
  ·cases hb
 ·have:=h9 i hi
  rw [contains_iff_mem.2 hm] at this; cases this
end
section
def trT (P:Program) (n:Nat) (ops:Array Oper):Option RT :=
 match trOprs P n ops ops.toList with
 | some ml =>
  let es:=ops.toList.map edgesOf
  let bs:=befs es
  let ml:=besides (ml.map (toQuiet ml)) bs 0 (ml.map (toQuiet ml))
  if canonOkT ml es bs then buildT ml bs (ml.length + 1) [] else none
 | none => none
theorem zf7 {E:Env} {B:Base} {C:Cx} {s:St} {a:Act} {w:World} {id:Nat} {ops:Array Oper} {t:RT} {K:St -> Prop} {Q:Exit -> Act -> World -> Prop} (k:trT E.P B.n ops = some t) (hr:Rep E B C s a w) (hp:pt E K t s)
  (hQ:∀ C' s' a' w',Rep E B C' s' a' w' -> K s' -> Q .normal a' w'):(Code.region id ops true).wp E.P Q a w:=by
 unfold trT at k
 split at k
 ·rename_i ml hml
  obtain ⟨m1,m2⟩:=zck hml;have hsz:ops.size = ml.length:=by rw [m1,Array.length_toList]
  simp only at k
  split at k
  ·rename_i hcan
   have hC:=zet hcan;have h:=ze0 k hp;refine wp_region_any E.mixed ?_
   have hr2:Rep E B C s a { w with drawn:=w.drawn + 1 }:=by
    have hcell:∀ p:Addr,({ w with drawn:=w.drawn + 1 }:World).cell? p = w.cell? p:=fun _ => rfl
    have hF:Fix C w { w with drawn:=w.drawn + 1 }:=⟨fun _ _ _ => rfl,fun _ _ cs fz h => ⟨cs,fz,h⟩⟩;refine ⟨⟨hr.inv.nb,fun p cs hp => ?_,hr.inv.boxF,hr.inv.boxG,hr.inv.inj,hr.inv.tok,hr.inv.tinj,hr.inv.fin,hr.inv.ng,E.low w _ hr.inv.t lR (fun _ _ => rfl)⟩,hr.nt,hr.n2,⟨hr.ext.os,hr.ext.tape,hr.ext.output,hr.ext.size,hr.ext.F,hr.ext.fix,hr.ext.block,hr.ext.bx,hr.ext.newF,hr.ext.newT,hr.ext.newB,hr.ext.tk⟩,hr.size,hr.defers,fun t => (hr.tm t).frame (CxLe.refl C) hF⟩;obtain ⟨vs,e,hh,hl⟩:=hr.inv.box p cs hp;exact ⟨vs,e,hh,hl.frame (CxLe.refl C) hF⟩
   obtain ⟨ml2,hml2⟩:∃ ml2,ml2 = besides (ml.map (toQuiet ml)) (befs (ops.toList.map edgesOf)) 0 (ml.map (toQuiet ml)):=⟨_,rfl⟩;rw [<- hml2] at hC h;have hsz:ops.size = ml2.length:=by rw [hml2,zcl,length_map]; exact hsz
   have htr:∀ (i:Nat) (o:Oper) (m:MOpr),ops[i]? = some o -> ml2[i]? = some m -> TrO E.P B.n ops o m:=fun i o m ho hm => by
    rw [hml2] at hm;obtain ⟨m0,h0,g1,g2,g3⟩:=zcm hm;rw [getElem?_map] at h0
    cases hmi:ml[i]? with
    | none => rw [hmi] at h0; cases h0
    | some m1 =>
     rw [hmi] at h0; simp only [Option.map_some,sI] at h0; subst h0
     have t0:=m2 i o m1 (by simpa using ho) hmi;have t1:=zcN t0
     have t2:TrO E.P B.n ops o (toQuiet ml m1):=zd9 t1 fun k xs hk => by
      have:=t1.1
      rw [hk] at this
      rcases this with h | ⟨_,_,_,h⟩
      ·exact h
      ·cases h
     unfold TrO at t2 ⊢;rw [g1,g2,g3]; exact t2
   have hes:∀ (i:Nat) (o:Oper),ops[i]? = some o -> (ops.toList.map edgesOf).getD i [] = edgesOf o:=fun i o ho => by
    rw [getD_eq_getElem?_getD,getElem?_map,Array.getElem?_toList,ho]; rfl
   have hnoL:∀ i,¬ LL (Array.replicate ops.size false) i:=by
    intro i hi;unfold LL at hi
    rcases Nat.lt_or_ge i ops.size with h | h
    ·simp [h] at hi
    ·simp [Array.getD_eq_getD_getElem?,Array.getElem?_eq_none (show (Array.replicate ops.size false).size <= i by simpa using h)] at hi
   obtain ⟨qs,hQs,hClos,hpo⟩:=h;obtain ⟨s',G1,G2,G3,G4,G5,G6,e1,e2,e3,_⟩:=quietsT (E:=E) (tm0:=s.tm) hC (L:=LL (Array.replicate ops.size false)) qs [] s hQs (fun i hi => by cases hi) hpo (fun i hi => absurd hi (hnoL i)) (fun i _ hi => absurd hi (hnoL i)) (fun i hi => absurd hi (hnoL i)) (fun i m _ _ hi => by cases hi) (fun _ _ => rfl) (fun j hj => by cases hj);have hS:SimT E ml2 (ops.toList.map edgesOf) (befs (ops.toList.map edgesOf)) K s.tm (LL (Array.replicate ops.size false)) ([] ++ qs) s':=⟨⟨_,G1.1,G1.2⟩,hClos,G2,fun i hi => absurd hi (hnoL i),fun i _ hi => absurd hi (hnoL i),G3,G4,G5,G6⟩;refine sim_anyT (B:=B) hC hsz htr hes (Q:=Q) (K:=K) (tm0:=s.tm) hQ ops.size (Array.replicate ops.size false) C s' a _ _ hS (by simp) ?_ ?_
   ·have hmix:mix ml2 (LL (Array.replicate ops.size false)) s'.tm s.tm = s.tm:=by
     funext t
     have:¬ wr ml2 (LL (Array.replicate ops.size false)) t:=fun ⟨i,_,_,_,hi⟩ => hnoL i hi
     simp [mix,this]
    have:({ s' with tm:=mix ml2 (LL (Array.replicate ops.size false)) s'.tm s.tm }:St) = s:=by
     rw [hmix];obtain ⟨tm',bx',nt',live'⟩:=s';obtain ⟨tm,bx,nt,live⟩:=s;simp only at e1 e2 e3
     subst e1; subst e2; subst e3; rfl
    rw [this]; exact hr2
   ·refine Nat.le_trans (length_filter_le _ _) ?_
    rw [length_range,hsz]; exact lR
  ·cases k
 ·cases k
end
section
inductive M where
 | skip
 | ops (l:List MOpr)
 | tree (t:RT)
 | seq (a b:M)
 | cond (x:X) (a b:M)
 | block (id:Nat) (a:M)
 | loop (a:M)
 | exit (id:Nat)
 | ret
def trR (P:Program) (n:Nat) (ops:Array Oper) (draw:Bool):Option (List MOpr) :=
 match trOprs P n ops ops.toList with
 | some ml =>
  if draw then
   let es:=ops.toList.map edgesOf
   let bs:=befs es
   let ml:=besides (ml.map (toQuiet ml)) bs 0 (ml.map (toQuiet ml))
   let ord:=canonOrd ml es ml.length []
   if canonOk ml es bs ord then some (ord.filterMap (ml[·]?)) else none
  else some (ml.map markCall)
 | none => none
def tr (P:Program) (n:Nat):Code -> Option M
 | .skip => some .skip
 | .region _ ops draw =>
  match trR P n ops draw with
  | some l => some (.ops l)
  | none => if draw then (trT P n ops).map .tree else none
 | .seq a b =>
  match tr P n a,tr P n b with
  | some a,some b => some (.seq a b)
  | _,_ => none
 | .cond x a b =>
  match trX x,tr P n a,tr P n b with
  | some x,some a,some b => some (.cond x a b)
  | _,_,_ => none
 | .block id a => (tr P n a).map (.block id)
 | .loop a => (tr P n a).map .loop
 | .exit id => some (.exit id)
 | .ret => some .ret
 | _ => none
def lift (E:Env) (B:Base) (Q:Exit -> St -> Prop):Exit -> Act -> World -> Prop:=fun e a w => ∃ C s,Rep E B C s a w /\ match e with
 | .normal => Q .normal s
 | .exit i => Q (.exit i) s
 | .ret => Q .ret s
 | _ => False
theorem lift_mono {E:Env} {B:Base} {Q Q':Exit -> St -> Prop} (h:∀ e s,Q e s -> Q' e s):∀ e a w,lift E B Q e a w -> lift E B Q' e a w:=by
 rintro e a w ⟨C,s,hr,hq⟩;exact ⟨C,s,hr,by cases e <;> first | exact h _ _ hq | exact hq⟩
def mw (E:Env) (B:Base) (m:M) (Q:Exit -> St -> Prop) (s:St):Prop:=∀ code,tr E.P B.n code = some m -> ∀ C a w,Rep E B C s a w -> code.wp E.P (lift E B Q) a w
section
variable {E:Env} {B:Base} {s:St} {Q:Exit -> St -> Prop}
theorem zcA {P:Program} {n:Nat} {c:Code} {m:M} (h:tr P n c = some m) :
  (m = .skip /\ c = .skip) \/ (∃ id ops d l,m = .ops l /\ c = .region id ops d /\ trR P n ops d = some l) \/ (∃ a b a' b',m = .seq a' b' /\ c = .seq a b /\ tr P n a = some a' /\ tr P n b = some b') \/
  (∃ x a b x' a' b',m = .cond x' a' b' /\ c = .cond x a b /\ trX x = some x' /\ tr P n a = some a' /\ tr P n b = some b') \/ (∃ id a a',m = .block id a' /\ c = .block id a /\ tr P n a = some a') \/
  (∃ a a',m = .loop a' /\ c = .loop a /\ tr P n a = some a') \/ (∃ id,m = .exit id /\ c = .exit id) \/ (m = .ret /\ c = .ret) \/ (∃ id ops t,m = .tree t /\ c = .region id ops true /\ trT P n ops = some t):=by
 cases c with
 | skip => simp only [tr,sI] at h; subst h; exact .inl ⟨rfl,rfl⟩
 | region id ops d =>
  simp only [tr] at h
  cases hr:trR P n ops d with
  | none =>
   rw [hr] at h
   cases d with
   | false => cases h
   | true =>
    cases ht:trT P n ops with
    | none => rw [ht] at h; cases h
    | some t => rw [ht] at h; simp only [if_true,Option.map_some,sI] at h; subst h; exact .inr (.inr (.inr (.inr (.inr (.inr (.inr (.inr ⟨id,ops,t,rfl,rfl,ht⟩)))))))
  | some l => rw [hr] at h; simp only [sI] at h; subst h; exact .inr (.inl ⟨id,ops,d,l,rfl,rfl,hr⟩)
 | seq a b =>
  simp only [tr] at h
  split at h
  ·rename_i a' b' h1 h2
   simp only [sI] at h; subst h; exact .inr (.inr (.inl ⟨a,b,a',b',rfl,rfl,h1,h2⟩))
  ·cases h
 | cond x a b =>
  simp only [tr] at h
  split at h
  ·rename_i x' a' b' h0 h1 h2
   simp only [sI] at h; subst h; exact .inr (.inr (.inr (.inl ⟨x,a,b,x',a',b',rfl,rfl,h0,h1,h2⟩)))
  ·cases h
 | block id a =>
  simp only [tr] at h
  cases hr:tr P n a with
  | none => rw [hr] at h; cases h
  | some l => rw [hr] at h; simp only [Option.map_some,sI] at h; subst h; exact .inr (.inr (.inr (.inr (.inl ⟨id,a,l,rfl,rfl,hr⟩))))
 | loop a =>
  simp only [tr] at h
  cases hr:tr P n a with
  | none => rw [hr] at h; cases h
  | some l => rw [hr] at h; simp only [Option.map_some,sI] at h; subst h; exact .inr (.inr (.inr (.inr (.inr (.inl ⟨a,l,rfl,rfl,hr⟩)))))
 | exit id => simp only [tr,sI] at h; subst h; exact .inr (.inr (.inr (.inr (.inr (.inr (.inl ⟨id,rfl,rfl⟩))))))
 | ret => simp only [tr,sI] at h; subst h; exact .inr (.inr (.inr (.inr (.inr (.inr (.inr (.inl ⟨rfl,rfl⟩)))))))
 | _ => simp [tr] at h
theorem mw_mono {m:M} {Q':Exit -> St -> Prop} (h:mw E B m Q s) (hq:∀ e s,Q e s -> Q' e s):mw E B m Q' s:=fun c hc C a w hr => wp_mono (h c hc C a w hr) (lift_mono hq)
theorem zau (h:Q .normal s):mw E B .skip Q s:=by
 intro c hc C a w hr;obtain ⟨_,rfl⟩ | ⟨_,_,_,_,h',_⟩ | ⟨_,_,_,_,h',_⟩ | ⟨_,_,_,_,_,_,h',_⟩ | ⟨_,_,_,h',_⟩ | ⟨_,_,h',_⟩ | ⟨_,h',_⟩ | ⟨h',_⟩ | ⟨_,_,_,h',_⟩:=zcA hc <;> first | (cases h'; done) | exact wp_skip ⟨C,s,hr,h⟩
theorem zab (h:Q .ret s):mw E B .ret Q s:=by
 intro c hc C a w hr;obtain ⟨h',_⟩ | ⟨_,_,_,_,h',_⟩ | ⟨_,_,_,_,h',_⟩ | ⟨_,_,_,_,_,_,h',_⟩ | ⟨_,_,_,h',_⟩ | ⟨_,_,h',_⟩ | ⟨_,h',_⟩ | ⟨_,rfl⟩ | ⟨_,_,_,h',_⟩:=zcA hc <;> first | (cases h'; done) | exact wp_ret ⟨C,s,hr,h⟩
theorem zaL {id:Nat} (h:Q (.exit id) s):mw E B (.exit id) Q s:=by
 intro c hc C a w hr;obtain ⟨h',_⟩ | ⟨_,_,_,_,h',_⟩ | ⟨_,_,_,_,h',_⟩ | ⟨_,_,_,_,_,_,h',_⟩ | ⟨_,_,_,h',_⟩ | ⟨_,_,h',_⟩ | ⟨i,h',rfl⟩ | ⟨h',_⟩ | ⟨_,_,_,h',_⟩:=zcA hc <;> first | (cases h'; done) | (cases h'; exact wp_exit ⟨C,s,hr,h⟩)
def seqK (E:Env) (B:Base) (b:M) (Q:Exit -> St -> Prop):Exit -> St -> Prop
 | .normal,s => mw E B b Q s
 | e,s => Q e s
theorem zaD {a b:M} (h:mw E B a (seqK E B b Q) s):mw E B (.seq a b) Q s:=by
 intro c hc C ac w hr;obtain ⟨h',_⟩ | ⟨_,_,_,_,h',_⟩ | ⟨x,y,_,_,h',rfl,h1,h2⟩ | ⟨_,_,_,_,_,_,h',_⟩ | ⟨_,_,_,h',_⟩ | ⟨_,_,h',_⟩ | ⟨_,h',_⟩ | ⟨h',_⟩ | ⟨_,_,_,h',_⟩:=zcA hc <;> try (cases h'; done)
 simp only [M.seq.injEq] at h'; obtain ⟨rfl,rfl⟩:=h'
 refine wp_seq (wp_mono (h x h1 C ac w hr) ?_);rintro e a' w' ⟨C',s',hr',hq⟩
 cases e with
 | normal => exact hq y h2 C' a' w' hr'
 | exit i => exact ⟨C',s',hr',hq⟩
 | ret => exact ⟨C',s',hr',hq⟩
 | _ => exact hq.elim
theorem zeu {x:X} {a b:M} {t:Bool} (hx:ev s.tm x = .d (.v (.bool t))) (h1:t = true -> mw E B a Q s) (h2:t = false -> mw E B b Q s):mw E B (.cond x a b) Q s:=by
 intro c hc C ac w hr;obtain ⟨h',_⟩ | ⟨_,_,_,_,h',_⟩ | ⟨_,_,_,_,h',_⟩ | ⟨x0,a0,b0,_,_,_,h',rfl,k0,k1,k2⟩ | ⟨_,_,_,h',_⟩ | ⟨_,_,h',_⟩ | ⟨_,h',_⟩ | ⟨h',_⟩ | ⟨_,_,_,h',_⟩:=zcA hc <;> try (cases h'; done)
 simp only [M.cond.injEq] at h'; obtain ⟨rfl,rfl,rfl⟩:=h'
 have hv:=hr.ro x0 x k0;rw [hx] at hv
 have hb:ac.eval x0 = .bool t:=by
  generalize ac.eval x0 = z at hv
  cases hv with
  | d _ _ hv => cases hv with
   | v _ _ => rfl
 exact wp_cond_split hb (fun e => h1 e a0 k1 C ac w hr) (fun e => h2 e b0 k2 C ac w hr)
def blockK (id:Nat) (Q:Exit -> St -> Prop):Exit -> St -> Prop
 | .exit i,s => if i = id then Q .normal s else Q (.exit i) s
 | e,s => Q e s
theorem zai {id:Nat} {a:M} (h:mw E B a (blockK id Q) s):mw E B (.block id a) Q s:=by
 intro c hc C ac w hr;obtain ⟨h',_⟩ | ⟨_,_,_,_,h',_⟩ | ⟨_,_,_,_,h',_⟩ | ⟨_,_,_,_,_,_,h',_⟩ | ⟨i,a0,_,h',rfl,k⟩ | ⟨_,_,h',_⟩ | ⟨_,h',_⟩ | ⟨h',_⟩ | ⟨_,_,_,h',_⟩:=zcA hc <;> try (cases h'; done)
 simp only [M.block.injEq] at h'; obtain ⟨rfl,rfl⟩:=h'
 refine wp_block (wp_mono (h a0 k C ac w hr) ?_);rintro e a' w' ⟨C',s',hr',hq⟩
 cases e with
 | normal => exact ⟨C',s',hr',hq⟩
 | exit i =>
  simp only [Exit.inBlock];simp only [blockK] at hq;by_cases hi:i = id
  ·rw [if_pos hi] at hq ⊢; exact ⟨C',s',hr',hq⟩
  ·rw [if_neg hi] at hq ⊢; exact ⟨C',s',hr',hq⟩
 | ret => exact ⟨C',s',hr',hq⟩
 | _ => exact hq.elim
def loopK (I:Nat -> St -> Prop) (n:Nat) (Q:Exit -> St -> Prop):Exit -> St -> Prop
 | .normal,s => ∃ k,k < n /\ I k s
 | e,s => Q e s
theorem mw_loop {a:M} (I:Nat -> St -> Prop) (n:Nat) (h0:I n s) (h:∀ n s,I n s -> mw E B a (loopK I n Q) s):mw E B (.loop a) Q s:=by
 intro c hc C ac w hr;obtain ⟨h',_⟩ | ⟨_,_,_,_,h',_⟩ | ⟨_,_,_,_,h',_⟩ | ⟨_,_,_,_,_,_,h',_⟩ | ⟨_,_,_,h',_⟩ | ⟨a0,_,h',rfl,k⟩ | ⟨_,h',_⟩ | ⟨h',_⟩ | ⟨_,_,_,h',_⟩:=zcA hc <;> try (cases h'; done)
 simp only [M.loop.injEq] at h'; obtain rfl:=h'
 refine wp_loop_ghost (fun n a w => ∃ C s,Rep E B C s a w /\ I n s) n ⟨C,s,hr,h0⟩ ?_;rintro n a1 w1 ⟨C1,s1,hr1,hi⟩;refine wp_mono (h n s1 hi a0 k C1 a1 w1 hr1) ?_;rintro e a' w' ⟨C',s',hr',hq⟩
 cases e with
 | normal => obtain ⟨k,hk,hi'⟩:=hq; exact ⟨k,hk,C',s',hr',hi'⟩
 | exit i => exact ⟨C',s',hr',hq⟩
 | ret => exact ⟨C',s',hr',hq⟩
 | _ => exact hq.elim
theorem zaj {l:List MOpr} (h:po E l (Q .normal) s):mw E B (.ops l) Q s:=by
 intro c hc C ac w hr;obtain ⟨h',_⟩ | ⟨id,ops,d,_,h',rfl,k⟩ | ⟨_,_,_,_,h',_⟩ | ⟨_,_,_,_,_,_,h',_⟩ | ⟨_,_,_,h',_⟩ | ⟨_,_,h',_⟩ | ⟨_,h',_⟩ | ⟨h',_⟩ | ⟨_,_,_,h',_⟩:=zcA hc <;> try (cases h'; done)
 simp only [M.ops.injEq] at h'; obtain rfl:=h'
 unfold trR at k
 split at k
 ·rename_i ml hml
  obtain ⟨m1,m2⟩:=zck hml;have hsz:ops.size = ml.length:=by rw [m1,Array.length_toList]
  cases d with
  | false =>
   simp only [Bool.false_eq_true,if_false,sI] at k; subst k
   refine wp_region ?_;refine po_sound (B:=B) (range ops.size) (ml.map markCall) (by simp [hsz]) (fun k i mo h1 h2 => ?_) hr h (fun C' s' a' w' hr' hk => ⟨C',s',hr',hk⟩);rw [getElem?_map] at h2;obtain ⟨mo0,h3,rfl⟩:=Option.map_eq_some_iff.1 h2
   have htr0:∀ (o:Oper) (m:MOpr),TrO E.P B.n ops o m -> TrO E.P B.n ops o (markCall m):=by
    intro o m ht;unfold markCall; split <;> exact ht
   have hk:k < ops.size:=by
    rcases Nat.lt_or_ge k ops.size with h | h
    ·exact h
    ·rw [getElem?_eq_none (by simpa using h)] at h1; cases h1
   rw [getElem?_range hk] at h1; simp only [sI] at h1; subst h1
   exact ⟨ops[k],Array.getElem?_eq_getElem hk,htr0 _ _ (zcN (m2 k ops[k] mo0 (by simp [hk]) h3))⟩
  | true =>
   simp only [if_true] at k
   split at k
   ·rename_i hcan
    simp only [sI] at k; subst k
    have hC:=zeY hcan;refine wp_region_any E.mixed ?_
    have hr2:Rep E B C s ac { w with drawn:=w.drawn + 1 }:=by
     have hcell:∀ p:Addr,({ w with drawn:=w.drawn + 1 }:World).cell? p = w.cell? p:=fun _ => rfl
     have hF:Fix C w { w with drawn:=w.drawn + 1 }:=⟨fun _ _ _ => rfl,fun _ _ cs fz h => ⟨cs,fz,h⟩⟩;refine ⟨⟨hr.inv.nb,fun p cs hp => ?_,hr.inv.boxF,hr.inv.boxG,hr.inv.inj,hr.inv.tok,hr.inv.tinj,hr.inv.fin,hr.inv.ng,E.low w _ hr.inv.t lR (fun _ _ => rfl)⟩,hr.nt,hr.n2,⟨hr.ext.os,hr.ext.tape,hr.ext.output,hr.ext.size,hr.ext.F,hr.ext.fix,hr.ext.block,hr.ext.bx,hr.ext.newF,hr.ext.newT,hr.ext.newB,hr.ext.tk⟩,hr.size,hr.defers,fun t => (hr.tm t).frame (CxLe.refl C) hF⟩;obtain ⟨vs,e,hh,hl⟩:=hr.inv.box p cs hp;exact ⟨vs,e,hh,hl.frame (CxLe.refl C) hF⟩
    obtain ⟨ml2,hml2⟩:∃ ml2,ml2 = besides (ml.map (toQuiet ml)) (befs (ops.toList.map edgesOf)) 0 (ml.map (toQuiet ml)):=⟨_,rfl⟩;rw [<- hml2] at hC h;have hsz:ops.size = ml2.length:=by rw [hml2,zcl,length_map]; exact hsz
    have htr:∀ (i:Nat) (o:Oper) (m:MOpr),ops[i]? = some o -> ml2[i]? = some m -> TrO E.P B.n ops o m:=fun i o m ho hm => by
     rw [hml2] at hm;obtain ⟨m0,h0,g1,g2,g3⟩:=zcm hm;rw [getElem?_map] at h0
     cases hmi:ml[i]? with
     | none => rw [hmi] at h0; cases h0
     | some m1 =>
      rw [hmi] at h0; simp only [Option.map_some,sI] at h0; subst h0
      have t0:=m2 i o m1 (by simpa using ho) hmi;have t1:=zcN t0
      have t2:TrO E.P B.n ops o (toQuiet ml m1):=zd9 t1 fun k xs hk => by
       have:=t1.1
       rw [hk] at this
       rcases this with h | ⟨_,_,_,h⟩
       ·exact h
       ·cases h
      unfold TrO at t2 ⊢;rw [g1,g2,g3]; exact t2
    have hes:∀ (i:Nat) (o:Oper),ops[i]? = some o -> (ops.toList.map edgesOf).getD i [] = edgesOf o:=fun i o ho => by
     rw [getD_eq_getElem?_getD,getElem?_map,Array.getElem?_toList,ho]; rfl
    have hnoL:∀ i,¬ LL (Array.replicate ops.size false) i:=by
     intro i hi;unfold LL at hi
     rcases Nat.lt_or_ge i ops.size with h | h
     ·simp [h] at hi
     ·simp [Array.getD_eq_getD_getElem?,Array.getElem?_eq_none (show (Array.replicate ops.size false).size <= i by simpa using h)] at hi
    obtain ⟨pre',rest',s',hS,e1,e2,e3,_⟩:=quiets (E:=E) (B:=B) (K:=Q .normal) (tm0:=s.tm) hC (L:=LL (Array.replicate ops.size false)) _ [] s rfl h (fun i hi => absurd hi (hnoL i)) (fun i _ hi => absurd hi (hnoL i)) (fun i hi => absurd hi (hnoL i)) (fun i m _ _ hi => by cases hi) (fun _ _ => rfl) (fun j hj => by cases hj);refine sim_any hC hsz htr hes (Q:=lift E B Q) (K:=Q .normal) (tm0:=s.tm) (fun C' s' a' w' hr' hk => ⟨C',s',hr',hk⟩) ops.size (Array.replicate ops.size false) C s' ac _ pre' rest' hS (by simp) ?_ ?_
    ·have hmix:mix ml2 (LL (Array.replicate ops.size false)) s'.tm s.tm = s.tm:=by
      funext t
      have:¬ wr ml2 (LL (Array.replicate ops.size false)) t:=fun ⟨i,_,_,_,hi⟩ => hnoL i hi
      simp [mix,this]
     have:({ s' with tm:=mix ml2 (LL (Array.replicate ops.size false)) s'.tm s.tm }:St) = s:=by
      rw [hmix];obtain ⟨tm',bx',nt',live'⟩:=s';obtain ⟨tm,bx,nt,live⟩:=s;simp only at e1 e2 e3
      subst e1; subst e2; subst e3; rfl
     rw [this]; exact hr2
    ·refine Nat.le_trans (length_filter_le _ _) ?_
     rw [length_range,hsz]; exact lR
   ·cases k
 ·cases k
theorem zev {t:RT} (h:pt E (Q .normal) t s):mw E B (.tree t) Q s:=by
 intro c hc C ac w hr;obtain ⟨h',_⟩ | ⟨_,_,_,_,h',_⟩ | ⟨_,_,_,_,h',_⟩ | ⟨_,_,_,_,_,_,h',_⟩ | ⟨_,_,_,h',_⟩ | ⟨_,_,h',_⟩ | ⟨_,h',_⟩ | ⟨h',_⟩ | ⟨id,ops,t',h',rfl,k⟩:=zcA hc <;> try (cases h'; done)
 simp only [M.tree.injEq] at h'; obtain rfl:=h'
 exact zf7 k hr h (fun C' s' a' w' hr' hk => ⟨C',s',hr',hk⟩)
/-! ### Functions -/
inductive MRes where
 | tm (t:Nat)
 | cell (ag:Bool) (n t:Nat)
def trRes (P:Program):ResultVar -> Option MRes
 | .tmp t => some (.tm t)
 | .cell t ty =>
  match isRowT P ty,sizeT P ty with
  | some ag,some n => if ag || decide (n = 1) then some (.cell ag n t) else none
  | _,_ => none
def trRess (P:Program):List ResultVar -> Option (List MRes)
 | [] => some []
 | r :: l =>
  match trRes P r,trRess P l with
  | some x,some y => some (x :: y)
  | _,_ => none
def resM (s:St):MRes -> Option PV
 | .tm t => some (s.tm t)
 | .cell ag n t =>
  match s.tm t with
  | .ref p o =>
   match s.bx[p]? with
   | some cs => if o + n <= cs.length then ldv ag ((cs.drop o).take n) else none
   | none => none
  | _ => none
def ressM (s:St):List MRes -> Option (List PV)
 | [] => some []
 | r :: l =>
  match resM s r,ressM s l with
  | some x,some y => some (x :: y)
  | _,_ => none
def one:List PV -> PV
 | [v] => v
 | l => .tup l
def look (P:Program) (f:Nat):Option (Nat × M × List MRes) :=
 match P.funcs[f]? with
 | some fn =>
  match fn.body with
  | some c =>
   match tr P fn.ntmps c,trRess P fn.results.toList with
   | some m,some rs => some (fn.ntmps,m,rs)
   | _,_ => none
  | none => none
 | none => none
def initS (args:List PV):St:=⟨fun t => args.getD t (.tup []),[],2,[]⟩
def retK (rs:List MRes) (R:PV -> (Nat -> Prop) -> Prop):Exit -> St -> Prop:=fun e s => (e = .normal \/ e = .ret) /\ ∃ l,ressM s rs = some l /\ R (one l) (· ∈ s.live)
def resSem (tmps:Array Value):ResultVar -> Sem Value
 | .tmp t => Pure.pure (tmps.getD t undef)
 | .cell a t => asAddr (tmps.getD a undef) >>= fun b => loadVar t b
theorem results_eq (fn:Func) (tmps:Array Value):results fn tmps = (fn.results.mapM (resSem tmps) >>= fun vs => Pure.pure (if h:vs.size = 1 then vs[0] else Value.tuple vs)):=by
 unfold results
 congr 1
theorem ress_run {C:Cx} {a:Act} {w:World} (hr:Rep E B C s a w):∀ {rs:List ResultVar} {ms:List MRes} {l:List PV},trRess E.P rs = some ms -> ressM s ms = some l ->
  ∃ vs:List Value,(rs.mapM (resSem a.tmps)).run E.P w = .ok vs w /\ vs.length = l.length /\ ∀ (j:Nat) (x:PV) (y:Value),l[j]? = some x -> vs[j]? = some y -> RpV C w x y
 | [],ms,l,h1,h2 => by
  simp only [trRess,sI] at h1; subst h1
  simp only [ressM,sI] at h2; subst h2
  exact ⟨[],by simp,rfl,fun j x y h => by simp at h⟩
 | r :: rs,ms,l,h1,h2 => by
  simp only [trRess] at h1
  split at h1
  ·rename_i m ms' k1 k2
   simp only [sI] at h1; subst h1
   simp only [ressM] at h2
   split at h2
   ·rename_i x l' k3 k4
    simp only [sI] at h2; subst h2
    obtain ⟨vs,q1,q2,q3⟩:=ress_run hr k2 k4
    have hone:∃ v,(resSem a.tmps r).run E.P w = .ok v w /\ RpV C w x v:=by
     cases r with
     | tmp t =>
      simp only [trRes,sI] at k1; subst k1
      simp only [resM,sI] at k3; subst k3
      exact ⟨_,rfl,hr.tm t⟩
     | cell t ty =>
      simp only [trRes] at k1
      split at k1
      ·rename_i ag n g1 g2
       split at k1
       ·rename_i hag
        have hag':ag = true \/ n = 1:=by simpa using hag
        simp only [sI] at k1; subst k1
        simp only [resM] at k3
        split at k3
        ·rename_i p o hp
         have hv:=hr.tm t;rw [hp] at hv;generalize hz:a.tmps.getD t undef = z at hv
         cases hv
         split at k3
         ·rename_i cs hcs
          split at k3
          ·rename_i hle
           obtain ⟨us,e1,e2,e3⟩:=zeV hr.inv.bo hcs hle;obtain ⟨u,f1,f2⟩:=zbJ e2 e1 g1 g2 hag';refine ⟨u,?_,f2 _ _ e3 k3⟩;simp only [resSem,hz];simpa [Instr.loadAt,Instr.sureAddr,asAddr] using f1
          ·cases k3
         ·cases k3
        ·cases k3
       ·cases k1
      ·cases k1
    obtain ⟨v,g1,g2⟩:=hone;refine ⟨v :: vs,?_,by simp [q2],fun j x' y' hx hy => ?_⟩
    ·rw [mapM_cons,Sem.run_bind,g1]
     simp only [Result.andThen_ok];rw [Sem.run_bind,q1];rfl
    ·match j with
     | 0 => simp at hx hy; subst hx; subst hy; exact g2
     | j + 1 => exact q3 j x' y' (by simpa using hx) (by simpa using hy)
   ·cases h2
  ·cases h1
def retG (rs:List MRes) (R:PV -> List (List PC) -> Nat -> List Nat -> Prop):Exit -> St -> Prop:=fun e s => (e = .normal \/ e = .ret) /\ ∃ l,ressM s rs = some l /\ R (one l) s.bx s.nt s.live
def argS (args:List PV) (bx:List (List PC)) (nt:Nat) (live:List Nat):St:=⟨fun t => args.getD t (.tup []),bx,nt,live⟩
theorem fn_core {f n:Nat} {m:M} {rs:List MRes} (hl:look E.P f = some (n,m,rs)) {args:List PV} {bx:List (List PC)} {nt:Nat} {live:List Nat} {R:PV -> List (List PC) -> Nat -> List Nat -> Prop} (hn:args.length <= n)
  (C:Cx) (w:World) (h:mw E ⟨C,w,n⟩ m (retG rs R) (argS args bx nt live)) (vs:List Value) (hI:Inv E.NG E.T C bx (· ∈ live) w) (hnt:C.nt = nt) (hold:∀ t,t ∈ live -> C.old t) (hn2:2 <= nt) (hlen:vs.length = args.length) (hvs:∀ (j:Nat) (x:PV) (y:Value),args[j]? = some x -> vs[j]? = some y -> RpV C w x y) :
  Calls E.P f vs.toArray w fun e w' => ∃ u x bx' nt' live' C',e = .returned u /\ R x bx' nt' live' /\ Inv E.NG E.T C' bx' (· ∈ live') w' /\ C'.nt = nt' /\ Ext C w C' bx'.length (· ∈ live') w' /\ RpV C' w' x u:=by
 unfold look at hl
 split at hl
 ·rename_i fn hf
  split at hl
  ·rename_i c hc
   split at hl
   ·rename_i m' rs' h1 h2
    simp only [sI,Prod.mk.injEq] at hl;obtain ⟨rfl,rfl,rfl⟩:=hl;refine calls_of_wp hf hc ?_
    have hr:Rep E ⟨C,w,fn.ntmps⟩ C (argS args bx nt live) { tmps:=vs.toArray ++ Array.replicate (fn.ntmps - vs.toArray.size) undef,defers:=[] } w:=by
     have hnb:=hI.nb;refine ⟨hI,hnt,hn2,?_,by simp; omega,rfl,fun t => ?_⟩
     ·exact ⟨rfl,rfl,rfl,lR,fun _ _ h => h,Fix.refl C w,fun _ _ _ _ => rfl,⟨lR,fun _ _ => rfl⟩,fun _ _ h => .inl h,(fun t b ht hb => .inr ⟨t,hold t ht,hb⟩),(fun p hp hp2 => by have h1:C.nb <= p:=hp; have h2:p < bx.length:=hp2; omega),⟨lR,fun _ _ => ⟨rfl,rfl,rfl,rfl⟩⟩⟩
     ·show RpV C w (args.getD t (.tup [])) _
      rw [getD_eq_getElem?_getD,Array.getD_eq_getD_getElem?];by_cases ht:t < args.length
      ·have hx:args[t]? = some args[t]:=getElem?_eq_getElem ht
       have hy:vs[t]? = some (vs[t]'(by omega)):=getElem?_eq_getElem (by omega)
       have:=hvs t _ _ hx hy
       rw [hx,Array.getElem?_append_left (by simp; omega)];simp only [getElem?_toArray,hy,Option.getD_some];exact this
      ·rw [getElem?_eq_none (by omega),Array.getElem?_append_right (by simp; omega)]
       have:(Array.replicate (fn.ntmps - vs.toArray.size) undef)[t - vs.toArray.size]?.getD undef = .tuple (toArray []):=by
        rw [Array.getElem?_replicate]; split <;> rfl
       rw [this];exact .tup [] [] rfl (fun j x y h => by simp at h)
    have hw:=h c h1 C _ w hr;refine wp_mono hw ?_;rintro e a' w' ⟨C',s',hr',hq⟩
    have key:(∃ l,ressM s' rs' = some l /\ R (one l) s'.bx s'.nt s'.live) -> a'.defers = [] /\ ∃ v,(results fn a'.tmps).run E.P w' = .ok v w' /\ ∃ u x bx' nt' live' C',Ending.returned v = .returned u /\ R x bx' nt' live' /\ Inv E.NG E.T C' bx' (· ∈ live') w' /\ C'.nt = nt' /\ Ext C w C' bx'.length (· ∈ live') w' /\ RpV C' w' x u:=by
     rintro ⟨l,hl,hR⟩;obtain ⟨us,k1,k2,k3⟩:=ress_run hr' h2 hl
     have hres:(results fn a'.tmps).run E.P w' = .ok (if h:us.toArray.size = 1 then us.toArray[0] else .tuple us.toArray) w':=by
      rw [results_eq,Sem.run_bind,Array.mapM_eq_mapM_toList,Sem.run_map,k1];rfl
     refine ⟨hr'.defers,_,hres,_,one l,s'.bx,s'.nt,s'.live,C',rfl,hR,hr'.inv,hr'.nt,hr'.ext,?_⟩
     match l,us,k2,k3 with
     | [],[],_,_ => exact .tup [] [] rfl (fun j x y h => by simp at h)
     | [x],[u],_,k3 => exact k3 0 x u rfl rfl
     | x :: x2 :: l,u :: u2 :: us,hk,k3 => exact .tup (x :: x2 :: l) (u :: u2 :: us) (by simpa using hk) k3
    cases e with
    | normal => exact key hq.2
    | ret => exact key hq.2
    | exit i => exact absurd hq.1 (by rintro (h | h) <;> cases h)
    | _ => exact hq.elim
   ·cases hl
  ·cases hl
 ·cases hl
theorem za1 {f n:Nat} {m:M} {rs:List MRes} (hl:look E.P f = some (n,m,rs)) {args:List PV} {R:PV -> (Nat -> Prop) -> Prop} (hn:args.length <= n)
  (h:∀ B,B.n = n -> mw E B m (retK rs R) (initS args)):Fn E f args R:=by
 intro C w vs hI hnt hold hlen hvs;have hI':Inv E.NG E.T C [] (· ∈ ([]:List Nat)) w:=⟨hI.nb,hI.box,hI.boxF,hI.boxG,hI.inj,(fun t ht => by cases ht),(fun t s b ht => by cases ht),hI.fin,hI.ng,hI.t⟩;refine (fn_core (R:=fun x _ _ live => R x (· ∈ live)) hl hn C w (h ⟨C,w,n⟩ rfl) vs hI' hnt (fun t ht => by cases ht) lR hlen hvs).mono ?_;rintro e w' ⟨u,x,bx',nt',live',C',e1,e2,e3,e4,e5,e6⟩;exact ⟨u,x,bx',(· ∈ live'),C',e1,e2,e3,e5,e6⟩
theorem zaR {f n:Nat} {m:M} {rs:List MRes} (hl:look E.P f = some (n,m,rs)) {args:List PV} {bx:List (List PC)} {nt:Nat} {live:List Nat} {R:PV -> List (List PC) -> Nat -> List Nat -> Prop} (hn:args.length <= n)
  (h:∀ B,B.n = n -> mw E B m (retG rs R) (argS args bx nt live)):FnG E f args bx nt live R :=
 fun C w vs hI hnt hold hn2 hlen hvs => fn_core hl hn C w (h ⟨C,w,n⟩ rfl) vs hI hnt (fun t ht => by rw [hold]; exact ht) hn2 hlen hvs
end
end
section
def FnV (E:Env) (f:Nat) (args:List PV) (v:PV):Prop:=Fn E f args (fun x _ => x.dat = some v)
def FnO (E:Env) (f:Nat) (args:List PV) (v:PV):Prop:=Fn E f args (fun x lv => x.dat = some v /\ x.toks.Nodup /\ (∀ t ∈ x.toks,lv t) /\ match x with
 | .d c => c.owned = true
 | .ag cs => ownedL cs = true
 | _ => False)
theorem FnO.v {E:Env} {f:Nat} {args:List PV} {v:PV} (h:FnO E f args v):FnV E f args v:=h.mono fun _ _ h => h.1
def cif (b:Bool) (v:PV):PV:=match b with
 | true => v
 | false => .tup []
def up (d:Nat) (v:PV) (tm:Nat -> PV):Nat -> PV:=fun t => match Nat.beq t d with
 | true => v
 | false => tm t
theorem up_eq (d:Nat) (v:PV) (tm:Nat -> PV):(fun t => if t = d then v else tm t) = up d v tm:=by
 funext t
 unfold up;by_cases h:t = d
 ·subst h; simp
 ·rw [if_neg h]; have:Nat.beq t d = false:=by cases hb:Nat.beq t d with
   | false => rfl
   | true => exact absurd (Nat.eq_of_beq_eq_true hb) h
  rw [this]
theorem up_self {d:Nat} {v:PV} {tm:Nat -> PV} (h:tm d = v):up d v tm = tm:=by
 rw [<- up_eq]; funext t
 by_cases ht:t = d
 ·subst ht; rw [if_pos rfl,h]
 ·rw [if_neg ht]
theorem zbk {tm:Nat -> PV} {bx:LP PC} {nt:Nat} {live:List Nat} {d:Nat} {v:PV}:St.put ⟨tm,bx,nt,live⟩ (some d) v = ⟨up d v tm,bx,nt,live⟩:=by
 simp only [St.put,up_eq]
section
variable {E:Env} {d:Nat} {dd:Option Nat} {o:MO} {g:Option (Nat × Bool)} {c:List X} {r:List MOpr} {K:St -> Prop} {s:St} {tm:Nat -> PV} {bx:LP PC} {nt:Nat} {live:List Nat}
theorem zae (h:K s):po E [] K s:=h
theorem po_q {v:PV} (hg:gd g tm = some true) (hq:qf (ev tm) bx o = some v) (h:po E r K ⟨up d v tm,bx,nt,live⟩):po E (⟨some d,o,g,c⟩ :: r) K ⟨tm,bx,nt,live⟩:=by
 refine ⟨true,hg,.inl ⟨rfl,?_⟩⟩;rw [<- zbk] at h
 cases o <;> first | exact .inl ⟨v,hq,h⟩ | (simp [qf] at hq; done)
theorem po_b {e:Bool} (hg:gd g tm = some true) (hq:qf (ev tm) bx o = some (.d (.v (.bool e)))) (h:∀ b,b = e -> po E r K ⟨up d (.d (.v (.bool b))) tm,bx,nt,live⟩):po E (⟨some d,o,g,c⟩ :: r) K ⟨tm,bx,nt,live⟩:=po_q hg hq (h e rfl)
theorem zf8 (hg:gd g tm = some false) (h:po E r K ⟨up d (.tup []) tm,bx,nt,live⟩):po E (⟨some d,o,g,c⟩ :: r) K ⟨tm,bx,nt,live⟩:=by
 rw [<- zbk] at h; exact ⟨false,hg,.inr ⟨rfl,h⟩⟩
theorem zax {x:X} {cs:List PC} (hq:pcells (ev tm x) = some cs) (h:po E r K ⟨up d (.ref bx.length 0) tm,bx ++ [cs],nt,live⟩):po E (⟨some d,.box x,none,[]⟩ :: r) K ⟨tm,bx,nt,live⟩:=by
 rw [<- zbk] at h;exact ⟨true,rfl,.inl ⟨rfl,.inr ⟨.ref bx.length 0,⟨tm,bx ++ [cs],nt,live⟩,by simp only [lf,hq,Option.map_some],rfl,h⟩⟩⟩
theorem za2 {z:List Value} (h:po E r K ⟨up d (.ref bx.length 0) tm,bx ++ [z.map ofC],nt,live⟩):po E (⟨some d,.zero z,none,[]⟩ :: r) K ⟨tm,bx,nt,live⟩:=by
 rw [<- zbk] at h;exact ⟨true,rfl,.inl ⟨rfl,.inr ⟨.ref bx.length 0,⟨tm,bx ++ [z.map ofC],nt,live⟩,rfl,rfl,h⟩⟩⟩
theorem zaC {n:Nat} {xs:List X} {es:LP PC} (hq:litP (ev tm) n xs = some es) (h:po E r K ⟨up d (.d (.sl nt es)) tm,bx,nt + 1,nt :: live⟩):po E (⟨some d,.lit n xs,none,[]⟩ :: r) K ⟨tm,bx,nt,live⟩:=by
 rw [<- zbk] at h;exact ⟨true,rfl,.inl ⟨rfl,.inr ⟨_,_,by simp only [lf,hq,Option.map_some],rfl,h⟩⟩⟩
theorem za3 {n t t':Nat} {x y:X} {es ds:LP PC} (hx:ev tm x = .d (.sl t es)) (hy:ev tm y = .d (.sl t' ds)) (ht:t = 1 \/ t ∈ live) (hl:es.length + ds.length <= 4294967296) (hd:∀ e ∈ ds,e.length = n) (he:∀ e ∈ es,e.length = n)
  (h:po E r K ⟨up d (.d (.sl nt (es ++ ds))) tm,bx,nt + 1,nt :: live.filter (· != t)⟩):po E (⟨some d,.app n x y,none,c⟩ :: r) K ⟨tm,bx,nt,live⟩:=by
 rw [<- zbk] at h;exact ⟨true,rfl,.inl ⟨rfl,.inl ⟨_,_,by simp only [lf,hx,hy]; rw [if_pos ⟨ht,hl,hd,he⟩],h⟩⟩⟩
theorem po_appB {n p len cap t' k:Nat} {x y:X} {z:List PC} {ds:LP PC} (hx:ev tm x = .d (.row p len cap)) (hy:ev tm y = .d (.sl t' ds)) (hp:bx[p]? = some z) (hz:z.length = n * cap) (hd0:ds ≠ []) (hl:len + ds.length <= 4294967296) (hd:∀ e ∈ ds,e.length = n)
  (h:∀ p' cap' bx',AppB n len cap z ds p bx p' cap' bx' -> po E r K ⟨up d (.d (.row p' (len + ds.length) cap')) tm,bx',nt,live⟩):po E (⟨some d,.app n x y,none,[.f k]⟩ :: r) K ⟨tm,bx,nt,live⟩ :=
 ⟨true,rfl,.inl ⟨rfl,.inr ⟨rfl,p,len,cap,z,t',ds,.inl ⟨hx,hp,hz⟩,hy,hd0,hl,hd,fun p' cap' bx' hA => ⟨fun y hy => by rw [mem_singleton] at hy; subst hy; exact zci _ _ _ _,by rw [zbk]; exact h p' cap' bx' hA⟩⟩⟩⟩
theorem po_appN {n t t' k:Nat} {x y:X} {ds:LP PC} (hx:ev tm x = .d (.sl t [])) (hy:ev tm y = .d (.sl t' ds)) (ht:t = 1 \/ t ∈ live) (hd0:ds ≠ []) (hl:ds.length <= 4294967296) (hd:∀ e ∈ ds,e.length = n)
  (h:∀ p' cap' bx',AppB n 0 0 [] ds bx.length bx p' cap' bx' -> po E r K ⟨up d (.d (.row p' (0 + ds.length) cap')) tm,bx',nt,live⟩):po E (⟨some d,.app n x y,none,[.f k]⟩ :: r) K ⟨tm,bx,nt,live⟩ :=
 ⟨true,rfl,.inl ⟨rfl,.inr ⟨rfl,bx.length,0,0,[],t',ds,.inr ⟨t,hx,ht,rfl,rfl,rfl,rfl⟩,hy,hd0,by omega,hd,fun p' cap' bx' hA => ⟨fun y hy => by rw [mem_singleton] at hy; subst hy; exact zci _ _ _ _,by rw [zbk]; exact h p' cap' bx' hA⟩⟩⟩⟩
theorem zas {n p o':Nat} {a x:X} {cs z:List PC} (ha:ev tm a = .ref p o') (hx:pcells (ev tm x) = some cs) (hz:bx[p]? = some z) (hn:cs.length = n /\ o' + n <= z.length) (hc:c.all (apartX (ev tm) a) = true)
  (h:po E r K ⟨tm,bx.set p (spl z o' cs),nt,live⟩):po E (⟨none,.store n a x,none,c⟩ :: r) K ⟨tm,bx,nt,live⟩ :=
 ⟨true,rfl,.inl ⟨rfl,.inr ⟨_,_,by simp only [lf,ha,hx,hz]; rw [if_pos hn],hc,h⟩⟩⟩
theorem za4 {n:Nat} {x i:X} {t:Nat} {es:LP PC} {k:IntKind} {j:Int} {e:List PC} (hg:gd g tm = some true) (hx:ev tm x = .d (.sl t es)) (hi:ev tm i = .d (.v (.int k j))) (he:0 <= j /\ es[j.toNat]? = some e) (hn:e.length = n)
  (h:po E r K ⟨up d (.pt e) tm,bx,nt,live⟩):po E (⟨some d,.ix n x i,g,c⟩ :: r) K ⟨tm,bx,nt,live⟩:=by
 refine po_q hg ?_ h;simp only [qf,hx,hi,if_pos he.1,he.2,if_pos hn]
theorem zac {f:Nat} {xs:List X} {args:List PV} {v:PV} (hd:PV.dats (xs.map (ev tm)) = some args) (hF:FnV E f args v) (h:po E r K ⟨up d v tm,bx,nt,live⟩):po E (⟨some d,.call f xs,none,c⟩ :: r) K ⟨tm,bx,nt,live⟩:=by
 rw [<- zbk] at h;exact ⟨true,rfl,.inl ⟨rfl,.inl ⟨args,_,hd,hF,.inl fun x lv hx => ⟨v,hx,h⟩⟩⟩⟩
theorem zat {f:Nat} {xs:List X} {args:List PV} {v:PV} {b:Bool} (hg:gd g tm = some b) (hd:b = true -> PV.dats (xs.map (ev tm)) = some args) (hF:b = true -> FnV E f args v) (h:po E r K ⟨up d (cif b v) tm,bx,nt,live⟩):po E (⟨some d,.call f xs,g,c⟩ :: r) K ⟨tm,bx,nt,live⟩:=by
 rw [<- zbk] at h
 cases b with
 | true => exact ⟨true,hg,.inl ⟨rfl,.inl ⟨args,_,hd rfl,hF rfl,.inl fun x lv hx => ⟨v,hx,h⟩⟩⟩⟩
 | false => exact ⟨false,hg,.inr ⟨rfl,h⟩⟩
end
theorem po_g {E:Env} {d:Nat} {k:Nat} {r:List MOpr} {K:St -> Prop} {tm:Nat -> PV} {bx:LP PC} {nt:Nat} {live:List Nat} {f:Nat} {xs:List X} {args:List PV} {R:PV -> LP PC -> Nat -> List Nat -> Prop} (hd:xs.map (ev tm) = args) (hF:FnG E f args bx nt live R)
  (h:∀ x bx' nt' live',R x bx' nt' live' -> po E r K ⟨up d x tm,bx',nt',live'⟩):po E (⟨some d,.call f xs,none,[.f k]⟩ :: r) K ⟨tm,bx,nt,live⟩:=by
 subst hd;refine ⟨true,rfl,.inl ⟨rfl,.inr ⟨rfl,R,hF,fun x bx' nt' live' hR => ⟨fun y hy => by rw [mem_singleton] at hy; subst hy; exact zci _ _ _ _,?_⟩⟩⟩⟩;rw [zbk]; exact h x bx' nt' live' hR
theorem po_gk {E:Env} {d:Nat} {k:Nat} {ys:List X} {r:List MOpr} {K:St -> Prop} {tm:Nat -> PV} {bx:LP PC} {nt:Nat} {live:List Nat} {f:Nat} {xs:List X} {args:List PV} {R:PV -> LP PC -> Nat -> List Nat -> Prop} (hd:xs.map (ev tm) = args) (hF:FnG E f args bx nt live R)
  (hk:∀ x bx' nt' live',R x bx' nt' live' -> ∀ y ∈ ys,keepX (ev tm) bx bx' y)
  (h:∀ x bx' nt' live',R x bx' nt' live' -> po E r K ⟨up d x tm,bx',nt',live'⟩):po E (⟨some d,.call f xs,none,.f k :: ys⟩ :: r) K ⟨tm,bx,nt,live⟩:=by
 subst hd;refine ⟨true,rfl,.inl ⟨rfl,.inr ⟨rfl,R,hF,fun x bx' nt' live' hR => ⟨fun y hy => ?_,?_⟩⟩⟩⟩
 ·rcases mem_cons.1 hy with rfl | hy
  ·exact zci _ _ _ _
  ·exact hk x bx' nt' live' hR y hy
 ·rw [zbk]; exact h x bx' nt' live' hR
theorem po_vg {E:Env} {d:Nat} {k:Nat} {r:List MOpr} {K:St -> Prop} {tm:Nat -> PV} {bx:LP PC} {nt:Nat} {live:List Nat} {f:Nat} {x:X} {xs:List X} {cap args:List PV} {R:PV -> LP PC -> Nat -> List Nat -> Prop} (hx:ev tm x = .fn f cap) (hok:okFn E.P f = true) (hd:xs.map (ev tm) ++ cap = args) (hF:FnG E f args bx nt live R)
  (h:∀ y bx' nt' live',R y bx' nt' live' -> po E r K ⟨up d y tm,bx',nt',live'⟩):po E (⟨some d,.callv x xs,none,[.f k]⟩ :: r) K ⟨tm,bx,nt,live⟩:=by
 subst hd;refine ⟨true,rfl,.inl ⟨rfl,f,cap,hx,hok,.inr ⟨rfl,R,hF,fun y bx' nt' live' hR => ⟨fun z hz => by rw [mem_singleton] at hz; subst hz; exact zci _ _ _ _,?_⟩⟩⟩⟩;rw [zbk]; exact h y bx' nt' live' hR
theorem zaJ {E:Env} {B:Base} {a:M} {Q:Exit -> St -> Prop} {s:St} (I:Nat -> St -> Prop) (n:Nat) (h0:I n s) (h:∀ n tm bx nt live,I n ⟨tm,bx,nt,live⟩ -> mw E B a (loopK I n Q) ⟨tm,bx,nt,live⟩):mw E B (.loop a) Q s :=
 mw_loop I n h0 fun n s hi => by obtain ⟨tm,bx,nt,live⟩:=s; exact h n tm bx nt live hi
theorem zav {E:Env} {B:Base} {a b:M} {Q:Exit -> St -> Prop} {s:St} (I:St -> Prop) (h:mw E B a (fun e s => match e with | .normal => I s | e => Q e s) s) (k:∀ tm bx nt live,I ⟨tm,bx,nt,live⟩ -> mw E B b Q ⟨tm,bx,nt,live⟩):mw E B (.seq a b) Q s:=by
 refine zaD (mw_mono h ?_);rintro e ⟨tm,bx,nt,live⟩ hq
 cases e <;> first | exact k _ _ _ _ hq | exact hq
/-- an operation that always runs -/
instance instX (n:Nat):OfNat X n:=⟨.t n⟩
abbrev qo (d:Nat) (o:MO):MOpr:=⟨some d,o,none,[]⟩
abbrev ci (n:Int):X:=.c (.int .i64 n)
abbrev cB (b:Bool):X:=.c (.bool b)
abbrev qm (d a:Nat):MOpr:=⟨some d,.mv (.t a),none,[]⟩
abbrev qg (d a b:Nat) (v:Bool):MOpr:=⟨some d,.mv (.t a),some (b,v),[]⟩
abbrev qS (n a b:Nat):MOpr:=⟨none,.store n (.t a) (.t b),none,[]⟩
abbrev ql (d n a:Nat):MOpr:=⟨some d,.load false n (.t a),none,[]⟩
abbrev qL (d n a:Nat):MOpr:=⟨some d,.load true n (.t a),none,[]⟩
abbrev qF (d k a:Nat):MOpr:=⟨some d,.fld k (.t a),none,[]⟩
abbrev qe (d a k:Nat):MOpr:=⟨some d,.ext (.t a) k,none,[]⟩
abbrev qc (d f:Nat) (xs:List X) (k:Nat):MOpr:=⟨some d,.call f xs,none,[.f k]⟩
abbrev so (l:List MOpr) (m:M):M:=.seq (.ops l) m
abbrev oR (l:List MOpr):M:=.seq (.ops l) .ret
abbrev oC (l:List MOpr) (x:X) (m:M):M:=.seq (.seq (.ops l) (.cond x m .skip)) .ret
theorem mwF {E:Env} {B:Base} {Q:Exit -> St -> Prop} {s:St} {x:X} {a b:M} (h:mw E B b Q s) (hx:ev s.tm x = .d (.v (.bool false)):=by exact rfl):mw E B (.cond x a b) Q s:=zeu (t:=false) hx (fun h => absurd h (by decide)) (fun _ => h)
theorem mwT {E:Env} {B:Base} {Q:Exit -> St -> Prop} {s:St} {x:X} {a b:M} (h:mw E B a Q s) (hx:ev s.tm x = .d (.v (.bool true)):=by exact rfl):mw E B (.cond x a b) Q s:=zeu (t:=true) hx (fun _ => h) (fun h => absurd h (by decide))
theorem mZ {G A:Prop} (h:A) (f:A -> G:=by intro h; (repeat' refine zf8 rfl ?_); exact h):G:=f h
theorem mM {G A:Prop} (h:A) (f:A -> G:=by intro h; refine zaD (zaD (zaj ?_)); exact h):G:=f h
theorem mR {G:Prop} (f:G:=by exact zab ⟨.inr rfl,_,rfl,rfl⟩):G:=f
theorem mT {G A:Prop} (h:A) (f:A -> G:=by intro h; (repeat' (first | refine pm ?_ | refine pq ?_ | refine px ?_ | refine za2 ?_ | refine zae ?_)); refine mwT ?_; exact h):G:=f h
theorem mF {G A:Prop} (h:A) (f:A -> G:=by intro h; (repeat' (first | refine pm ?_ | refine pq ?_ | refine px ?_ | refine za2 ?_ | refine zae ?_)); refine mwF ?_; exact h):G:=f h
theorem mK {G A:Prop} (h:A) (f:A -> G:=by intro h; (repeat' (first | refine pm ?_ | refine pq ?_ | refine px ?_ | refine za2 ?_ | refine zae ?_)); refine mwF ?_; refine zau ?_; exact h):G:=f h
theorem mL {G A:Prop} (h:A) (f:A -> G:=by intro h; (first | refine pm ?_ | refine pq ?_); refine zae ?_; exact h):G:=f h
theorem mN {G A:Prop} (h:A) (f:A -> G:=by intro h; (repeat' (first | refine pm ?_ | refine pq ?_ | refine px ?_ | refine za2 ?_ | refine zae ?_)); exact h):G:=f h
theorem mS {G A:Prop} (h:A) (f:A -> G:=by intro h; (first | refine pm ?_ | refine pq ?_); exact h):G:=f h
theorem mO {G A:Prop} (h:A) (f:A -> G:=by intro h; refine zaD (zaj ?_); exact h):G:=f h
theorem mP {G A:Prop} (h:A) (f:A -> G:=by intro h; refine zaD (zaj ?_); (repeat' (first | refine pm ?_ | refine pq ?_ | refine px ?_ | refine za2 ?_ | refine zae ?_)); exact h):G:=f h
theorem mQ {G A:Prop} (h:A) (f:A -> G:=by intro h; refine zaD (zaj ?_); (first | refine pm ?_ | refine pq ?_); exact h):G:=f h
end
section
inductive V where
 | mk (kind n e:Int) (s:List UInt8) (kids:List V)
inductive Sh where
 | mk (kind low high:Int) (keys:List (List UInt8)) (must:Int) (kids:List Sh)
mutual
def V.d:V -> D
 | .mk k n e s kids => .agg [dI k,dI n,dI e,dS s,.sl 5 (V.ds kids)]
def V.ds:List V -> List D
 | [] => []
 | v :: vs => V.d v :: V.ds vs
end
mutual
def Sh.d:Sh -> D
 | .mk k l h ks m kids => .agg [dI k,dI l,dI h,dSs ks,dI m,.sl 6 (Sh.ds kids)]
def Sh.ds:List Sh -> List D
 | [] => []
 | v :: vs => Sh.d v :: Sh.ds vs
end
theorem V.ds_map:∀ vs:List V,V.ds vs = vs.map V.d
 | [] => rfl
 | v :: vs => by simp [V.ds,V.ds_map vs]
theorem V.width (v:V):D.width (V.d v) = 5:=by cases v; simp [V.d,D.width,D.widths,dI,dS]
theorem Sh.width (v:Sh):D.width (Sh.d v) = 6:=by cases v; simp [Sh.d,D.width,D.widths,dI,dSs]
mutual
def V.bulk:V -> Nat
 | .mk _ _ _ s kids => s.length + (kids.length + V.bulks kids)
def V.bulks:List V -> Nat
 | [] => 0
 | v :: vs => V.bulk v + V.bulks vs
end
mutual
def V.nodes:V -> Nat
 | .mk _ _ _ _ kids => 1 + V.nodess kids
def V.nodess:List V -> Nat
 | [] => 0
 | v :: vs => V.nodes v + V.nodess vs
end
mutual
def Sh.nodes:Sh -> Nat
 | .mk _ _ _ _ _ kids => 1 + Sh.nodess kids
def Sh.nodess:List Sh -> Nat
 | [] => 0
 | v :: vs => Sh.nodes v + Sh.nodess vs
end
theorem V.nodes_get:∀ (vs:List V) i (h:i < vs.length),V.nodes vs[i] <= V.nodess vs
 | v :: vs,0,_ => by simp [V.nodess]
 | v :: vs,i + 1,hi => by have:=V.nodes_get vs i (by simpa using hi); simp only [V.nodess,getElem_cons_succ]; omega
theorem V.nodes_pos:∀ v:V,1 <= V.nodes v
 | .mk .. => by simp [V.nodes]
theorem V.bulks_snoc:∀ (ls:List V) (k:Nat) (h:k < ls.length),V.bulks (ls.take (k + 1)) = V.bulks (ls.take k) + V.bulk ls[k]
 | l :: ls,0,_ => by simp [V.bulks]
 | l :: ls,k + 1,h => by simp only [take_succ_cons,V.bulks,getElem_cons_succ]; rw [V.bulks_snoc ls k (by simpa using h)]; omega
theorem V.bulks_take:∀ (ls:List V) (k:Nat),V.bulks (ls.take k) <= V.bulks ls
 | [],k => by simp [V.bulks]
 | l :: ls,0 => by simp [V.bulks]
 | l :: ls,k + 1 => by have:=V.bulks_take ls k; simp only [take_succ_cons,V.bulks]; omega
theorem zew {α:Type} (f:α -> D) (ls:List α) (k:Nat) (h:k < ls.length):(ls.take (k + 1)).map f = (ls.take k).map f ++ [f ls[k]]:=by
 rw [take_succ_eq_append_getElem h,map_append]; rfl
mutual
def V.wf:V -> Prop
 | .mk k n e s kids => i64ok k /\ i64ok n /\ i64ok e /\ strok s /\ kids.length <= 9223372036854775807 /\ V.wfs kids
def V.wfs:List V -> Prop
 | [] => True
 | v :: vs => V.wf v /\ V.wfs vs
end
theorem V.wfs_get:∀ {vs:List V},V.wfs vs -> ∀ i (h:i < vs.length),V.wf vs[i]
 | v :: vs,h,0,_ => h.1
 | v :: vs,h,i + 1,hi => by simpa using V.wfs_get h.2 i (by simpa using hi)
theorem V.lay {w:World} {v:V} {cs:List Value} (h:Rd w v.d cs):∃ k n e s kids v1,v = .mk k n e s kids /\ cs = [.int .i64 k,.int .i64 n,.int .i64 e,.string ⟨s.toArray⟩,v1] /\ Rd w (.sl 5 (V.ds kids)) [v1]:=by
 obtain ⟨k,n,e,s,kids⟩:=v;simp only [Rd,V.d,RepC,RepCs,dI,dS,D.width] at h;obtain ⟨c1,r1,rfl,_,rfl,c2,r2,rfl,_,rfl,c3,r3,rfl,_,rfl,c4,r4,rfl,_,rfl,c5,r5,rfl,_,⟨a5,n5,rfl,h5⟩,rfl⟩:=h;refine ⟨k,n,e,s,kids,_,rfl,rfl,?_⟩;simp only [Rd,RepC]; exact ⟨a5,n5,rfl,h5⟩
theorem Rd.values {w:World} {ls:List V} {v:Value} (h:Rd w (.sl 5 (V.ds ls)) [v]) :
  ∃ a c,v = .slice a ls.length c /\ (ls ≠ [] -> ls.length <= c /\ c <= maxLen /\ ∃ b o,a = some ⟨b,o,none⟩ /\ b < w.heap.size /\ ∀ i (hi:i < ls.length),∃ v0 v1 v2 v3 v4,Rd w ls[i].d [v0,v1,v2,v3,v4] /\
   w.cell? ⟨b,o + i * 5,none⟩ = some v0 /\ w.cell? ⟨b,o + i * 5 + 1,none⟩ = some v1 /\ w.cell? ⟨b,o + i * 5 + 2,none⟩ = some v2 /\ w.cell? ⟨b,o + i * 5 + 3,none⟩ = some v3 /\ w.cell? ⟨b,o + i * 5 + 4,none⟩ = some v4):=by
 rw [V.ds_map] at h;obtain ⟨a,c,hv,h⟩:=Rd.slice h;rw [length_map] at hv;refine ⟨a,c,hv,fun hne => ?_⟩;obtain ⟨_,h1,h2,b,o,ha,hb,hg⟩:=h (by simpa using hne);refine ⟨by simpa using h1,h2,b,o,ha,hb,fun i hi => ?_⟩;obtain ⟨cs,hl,hr,hc⟩:=hg i (by simpa using hi);rw [getElem_map] at hr
 match cs,hl with
 | [v0,v1,v2,v3,v4],_ =>
  rw [Nat.mul_comm 5 i] at hc;exact ⟨v0,v1,v2,v3,v4,hr,hc 0 _ rfl,hc 1 _ rfl,hc 2 _ rfl,hc 3 _ rfl,hc 4 _ rfl⟩
theorem Rd.sl_form {w:World} {n:Nat} {es:List D} {v:Value} (h:Rd w (.sl n es) [v]):∃ a c,v = .slice a es.length c:=by
 obtain ⟨a,c,h,_⟩:=Rd.slice h; exact ⟨a,c,h⟩
theorem Rd.sl_any {w:World} {n:Nat} {es:List D} {v:Value} (h:Rd w (.sl n es) [v]):∃ a l c,v = .slice a l c:=by
 obtain ⟨a,c,h,_⟩:=Rd.slice h; exact ⟨a,_,c,h⟩
theorem V.form {w:World} {v:V} {cs:List Value} (h:Rd w v.d cs):∃ k n e s a1 n1 c1,cs = [.int .i64 k,.int .i64 n,.int .i64 e,.string ⟨(s:List UInt8).toArray⟩,.slice a1 n1 c1]:=by
 obtain ⟨k,n,e,s,kids,v1,rfl,rfl,h1⟩:=V.lay h;obtain ⟨a1,c1,rfl⟩:=Rd.sl_form h1;exact ⟨k,n,e,s,a1,_,c1,rfl⟩
mutual
def Sh.same:Sh -> Sh -> Bool
 | .mk k l h ks m kids,.mk k' l' h' ks' m' kids' => decide (k = k') && (decide (l = l') && (decide (h = h') && (decide (ks = ks') && (decide (m = m') && Sh.sames kids kids'))))
def Sh.sames:List Sh -> List Sh -> Bool
 | [],[] => true
 | a :: ar,b :: bs => Sh.same a b && Sh.sames ar bs
 | _,_ => false
end
mutual
def V.same:V -> V -> Bool
 | .mk k n e s kids,.mk k' n' e' s' kids' => decide (k = k') && (decide (n = n') && (decide (e = e') && (decide (s = s') && V.sames kids kids')))
def V.sames:List V -> List V -> Bool
 | [],[] => true
 | a :: ar,b :: bs => V.same a b && V.sames ar bs
 | _,_ => false
end
mutual
theorem Sh.same_iff:∀ a b:Sh,Sh.same a b = true ↔ a = b
 | .mk k l h ks m kids,.mk k' l' h' ks' m' kids' => by simp [Sh.same,Sh.sames_iff kids kids']
theorem Sh.sames_iff:∀ a b:List Sh,Sh.sames a b = true ↔ a = b
 | [],[] => by simp [Sh.sames]
 | a :: ar,b :: bs => by simp [Sh.sames,Sh.same_iff a b,Sh.sames_iff ar bs]
 | [],b :: bs => by simp [Sh.sames]
 | a :: ar,[] => by simp [Sh.sames]
end
mutual
theorem V.same_iff:∀ a b:V,V.same a b = true ↔ a = b
 | .mk k l h ks kids,.mk k' l' h' ks' kids' => by simp [V.same,V.sames_iff kids kids']
theorem V.sames_iff:∀ a b:List V,V.sames a b = true ↔ a = b
 | [],[] => by simp [V.sames]
 | a :: ar,b :: bs => by simp [V.sames,V.same_iff a b,V.sames_iff ar bs]
 | [],b :: bs => by simp [V.sames]
 | a :: ar,[] => by simp [V.sames]
end
instance:DecidableEq Sh:=fun a b => decidable_of_iff _ (Sh.same_iff a b)
instance:DecidableEq V:=fun a b => decidable_of_iff _ (V.same_iff a b)
theorem ze1 {α:Type} {a b:List α} {k:Nat} (h:a.take k = b.take k) (ha:k < a.length) (hb:k < b.length) (e:a[k] = b[k]):a.take (k + 1) = b.take (k + 1):=by
 rw [take_succ_eq_append_getElem ha,take_succ_eq_append_getElem hb,h,e]
theorem ne_of_get {α:Type} {a b:List α} {k:Nat} (ha:k < a.length) (hb:k < b.length) (e:a[k] ≠ b[k]):a ≠ b:=by
 intro h; subst h; exact e rfl
end
section
mutual
def D.pc:D -> List PC
 | .one v => [.v v]
 | .agg fs => D.pcs fs
 | .sl _ es => [.sl 0 (D.pcE es)]
def D.pcs:List D -> List PC
 | [] => []
 | d :: ds => D.pc d ++ D.pcs ds
def D.pcE:List D -> LP PC
 | [] => []
 | d :: ds => D.pc d :: D.pcE ds
end
mutual
def D.wf:D -> Prop
 | .one v => v.oneCell' = true
 | .agg fs => D.wfs fs
 | .sl n es => (∀ e ∈ es,D.width e = n) /\ D.wfs es
def D.wfs:List D -> Prop
 | [] => True
 | d :: ds => D.wf d /\ D.wfs ds
end
mutual
theorem D.pc_len:∀ d:D,d.pc.length = d.width
 | .one v => rfl
 | .agg fs => by simp only [D.pc,D.width]; exact D.pcs_len fs
 | .sl n es => rfl
theorem D.pcs_len:∀ ds:List D,(D.pcs ds).length = D.widths ds
 | [] => rfl
 | d :: ds => by simp only [D.pcs,D.widths,length_append,D.pc_len d,D.pcs_len ds]
end
theorem D.pcE_map:∀ ds:List D,D.pcE ds = ds.map D.pc
 | [] => rfl
 | d :: ds => by simp [D.pcE,D.pcE_map ds]
mutual
theorem D.pc_er:∀ d:D,erL d.pc = d.pc
 | .one v => rfl
 | .agg fs => by simp only [D.pc]; exact D.pcs_er fs
 | .sl n es => by simp only [D.pc,erL,PC.er,D.pcE_er es]
theorem D.pcs_er:∀ ds:List D,erL (D.pcs ds) = D.pcs ds
 | [] => rfl
 | d :: ds => by
  have h1:=D.pc_er d; have h2:=D.pcs_er ds
  rw [zaW] at h1 h2 ⊢;simp only [D.pcs,map_append,h1,h2]
theorem D.pcE_er:∀ ds:List D,erLL (D.pcE ds) = D.pcE ds
 | [] => rfl
 | d :: ds => by simp only [D.pcE,erLL,D.pc_er d,D.pcE_er ds]
end
mutual
theorem RepC.rp {C:Cx} {w:World} {S:Nat -> Prop} (hF:∀ b o,S b -> C.F b o):∀ {d:D} {cs:List Value},RepC S w d cs -> d.wf -> RpL C w d.pc cs
 | .one v,cs,h,hw => by simp only [RepC] at h; subst h; simp only [D.wf] at hw; exact .one1 (.v v hw)
 | .agg fs,cs,h,hw => by simp only [RepC] at h; simp only [D.wf] at hw; exact RepCs.rp hF h hw
 | .sl n es,cs,h,hw => by
  simp only [RepC] at h; simp only [D.wf] at hw
  obtain ⟨a,c,rfl,h⟩:=h;simp only [D.pc];refine .one1 ?_;by_cases hne:es = []
  ·subst hne; exact .emp a c
  ·obtain ⟨hn,h1,h2,b,o,xs,rfl,hb,hx,hwd,hr⟩:=h hne
   have hlen:xs.length = n * es.length:=by
    rw [hr.len]
    have:∀ l:List D,(∀ e ∈ l,D.width e = n) -> D.widths l = n * l.length:=by
     intro l
     induction l with
     | nil => intro _; rfl
     | cons d l ih => intro hl; simp only [D.widths,length_cons,Nat.mul_succ,hl d (by simp),ih fun e he => hl e (by simp [he])]; omega
    exact this es hwd
   have hE:=RepCs.rpE hF hr hwd hw.2;have hel:(D.pcE es).length = es.length:=by rw [D.pcE_map]; simp
   have hget:∀ i j,i < es.length -> j < n -> n * i + j < xs.length:=by
    intro i j hi hj;rw [hlen]
    calc n * i + j < n * i + n:=by omega
     _ = n * (i + 1):=by rw [Nat.mul_succ]
     _ <= n * es.length:=Nat.mul_le_mul_left n hi
   rw [<- hel];refine .rd _ b o n c (fun i j => xs.getD (n * i + j) undef) (by rw [hel]; exact h1) h2 ⟨hn,?_,?_,fun i j _ _ => hF _ _ hb⟩ ?_
   ·intro e he
    rw [D.pcE_map] at he;obtain ⟨d,hd,rfl⟩:=mem_map.1 he;rw [D.pc_len]; exact hwd d hd
   ·intro i j hi hj
    rw [hel] at hi
    have:=hget i j hi hj
    exact hx _ _ (by rw [getD_eq_getElem?_getD,getElem?_eq_getElem this]; rfl)
   ·intro i j e y he hy
    obtain ⟨v,hv1,hv2⟩:=hE i j e y he hy;rw [getD_eq_getElem?_getD,hv1]; exact hv2
theorem RepCs.rp {C:Cx} {w:World} {S:Nat -> Prop} (hF:∀ b o,S b -> C.F b o):∀ {ds:List D} {cs:List Value},RepCs S w ds cs -> D.wfs ds -> RpL C w (D.pcs ds) cs
 | [],cs,h,hw => by simp only [RepCs] at h; subst h; exact .nil
 | d :: ds,cs,h,hw => by
  simp only [RepCs] at h; simp only [D.wfs] at hw
  obtain ⟨c1,c2,rfl,h1,h2,h3⟩:=h;exact (RepC.rp hF h2 hw.1).append (RepCs.rp hF h3 hw.2)
theorem RepCs.rpE {C:Cx} {w:World} {S:Nat -> Prop} (hF:∀ b o,S b -> C.F b o) {n:Nat}:∀ {ds:List D} {cs:List Value},RepCs S w ds cs -> (∀ e ∈ ds,D.width e = n) -> D.wfs ds ->
  ∀ (i j:Nat) (e:List PC) (y:PC),(D.pcE ds)[i]? = some e -> e[j]? = some y -> ∃ v,cs[n * i + j]? = some v /\ RpC C w y v
 | [],cs,h,_,hw,i,j,e,y,he,hy => by simp [D.pcE] at he
 | d :: ds,cs,h,hwd,hw,i,j,e,y,he,hy => by
  simp only [RepCs] at h; simp only [D.wfs] at hw
  obtain ⟨c1,c2,rfl,h1,h2,h3⟩:=h;have hd:=hwd d (by simp)
  match i with
  | 0 =>
   simp only [D.pcE,getElem?_cons_zero,sI] at he; subst he
   have hr:=RepC.rp hF h2 hw.1
   have hj:j < c1.length:=by
    rw [hr.1];by_cases hj:j < d.pc.length
    ·exact hj
    ·rw [getElem?_eq_none (Nat.not_lt.1 hj)] at hy; cases hy
   refine ⟨c1[j],?_,hr.2 j y _ hy (by simp)⟩
   rw [Nat.mul_zero,Nat.zero_add,getElem?_append_left hj]; simp
  | i + 1 =>
   simp only [D.pcE,getElem?_cons_succ] at he;obtain ⟨v,hv1,hv2⟩:=RepCs.rpE hF h3 (fun e he => hwd e (by simp [he])) hw.2 i j e y he hy;refine ⟨v,?_,hv2⟩;rw [getElem?_append_right (by rw [h1,hd,Nat.mul_succ]; omega),<- hv1]
   congr 1; rw [h1,hd,Nat.mul_succ]; omega
end
theorem RpL.split {C:Cx} {w:World} {c1 c2:List PC} {vs:List Value} (h:RpL C w (c1 ++ c2) vs):∃ v1 v2,vs = v1 ++ v2 /\ v1.length = c1.length /\ RpL C w c1 v1 /\ RpL C w c2 v2:=by
 refine ⟨vs.take c1.length,vs.drop c1.length,by simp,?_,?_,?_⟩
 ·have:=h.1; rw [length_append] at this; rw [length_take]; omega
 ·have:=h.slice 0 c1.length; simpa using this
 ·have:=h.slice c1.length c2.length
  rw [drop_left,take_of_length_le lR,take_of_length_le] at this
  ·exact this
  ·have:=h.1; rw [length_append] at this; rw [length_drop]; omega
mutual
theorem RpL.rep {C:Cx} {w:World} {S:Nat -> Prop} (hF:∀ b o,C.F b o -> S b):∀ {d:D} {cs:List Value},RpL C w d.pc cs -> d.wf -> RepC S w d cs
 | .one v,cs,h,hw => by
  simp only [D.pc] at h;obtain ⟨x,xs,rfl,h1,h2⟩:=h.inv1
  have:=h2.inv0; subst this
  cases h1; simp only [RepC]
 | .agg fs,cs,h,hw => by simp only [RepC]; simp only [D.wf] at hw; simp only [D.pc] at h; exact RpL.reps hF h hw
 | .sl n es,cs,h,hw => by
  simp only [D.wf] at hw; simp only [D.pc] at h
  obtain ⟨x,xs,rfl,h1,h2⟩:=h.inv1
  have:=h2.inv0; subst this
  have hel:(D.pcE es).length = es.length:=by rw [D.pcE_map]; simp
  simp only [RepC];generalize he:D.pcE es = es' at h1 hel
  cases h1 with
  | emp a c =>
   have:es = []:=by rw [D.pcE_map] at he; simpa using he
   subst this; exact ⟨a,c,rfl,fun h => absurd rfl h⟩
  | nilo t h2 ht hb => exact absurd h2 (by decide)
  | own t es b u h2 ht hb hlen hl hc hr h => exact absurd h2 (by decide)
  | rd _ b o n' c u hl hc hr hh =>
   rw [hel];refine ⟨_,c,rfl,fun hne => ?_⟩
   have hn:n' = n:=by
    match es,hne,he with
    | d :: es,_,he =>
     rw [<- he] at hr;have h1:=hr.wid d.pc (by simp [D.pcE]);rw [D.pc_len,hw.1 d (by simp)] at h1; omega
   subst hn
   obtain ⟨xs,hx1,hx2⟩:∃ xs:List Value,xs.length = n' * es.length /\ ∀ i j,i < es.length -> j < n' -> xs[n' * i + j]? = some (u i j):=by
    refine ⟨(range (n' * es.length)).map fun m => u (m / n') (m % n'),by simp,fun i j hi hj => ?_⟩
    have hlt:n' * i + j < n' * es.length:=by
     calc n' * i + j < n' * i + n':=by omega
      _ = n' * (i + 1):=by rw [Nat.mul_succ]
      _ <= n' * es.length:=Nat.mul_le_mul_left n' hi
    rw [getElem?_map,getElem?_range hlt];simp only [Option.map_some,sI];rw [Nat.mul_add_div hr.pos,Nat.mul_add_mod,Nat.div_eq_of_lt hj,Nat.mod_eq_of_lt hj,Nat.add_zero]
   have hpos:=hr.pos;have h00:C.F b (o + (n' * 0 + 0)):=hr.fix 0 0 (by rw [hel]; cases es with | nil => exact absurd rfl hne | cons => simp) hpos;refine ⟨hpos,by omega,hc,b,o,xs,rfl,hF _ _ h00,fun j v hj => ?_,hw.1,RpL.repE hF hw.1 hw.2 hx1 hx2 (fun i j e y h1 h2 => hh i j e y (by rw [<- he]; exact h1) h2)⟩
   have hjl:j < n' * es.length:=by
    rw [<- hx1];by_cases hj':j < xs.length
    ·exact hj'
    ·rw [getElem?_eq_none (Nat.not_lt.1 hj')] at hj; cases hj
   have h1:j / n' < es.length:=(Nat.div_lt_iff_lt_mul hpos).2 (by rw [Nat.mul_comm]; exact hjl);have h2:j % n' < n':=Nat.mod_lt _ hpos;have h3:n' * (j / n') + j % n' = j:=Nat.div_add_mod j n';have h4:=hx2 _ _ h1 h2;rw [h3,hj] at h4;have h5:=hr.cell _ _ (by rw [hel]; exact h1) h2;rw [h3,<- h4] at h5;exact h5
theorem RpL.reps {C:Cx} {w:World} {S:Nat -> Prop} (hF:∀ b o,C.F b o -> S b):∀ {ds:List D} {cs:List Value},RpL C w (D.pcs ds) cs -> D.wfs ds -> RepCs S w ds cs
 | [],cs,h,hw => by simp only [D.pcs] at h; simp only [RepCs]; exact h.inv0
 | d :: ds,cs,h,hw => by
  simp only [D.pcs] at h; simp only [D.wfs] at hw; simp only [RepCs]
  obtain ⟨v1,v2,rfl,h1,h2,h3⟩:=h.split;exact ⟨v1,v2,rfl,by rw [h1,D.pc_len],RpL.rep hF h2 hw.1,RpL.reps hF h3 hw.2⟩
theorem RpL.repE {C:Cx} {w:World} {S:Nat -> Prop} (hF:∀ b o,C.F b o -> S b) {n:Nat}:∀ {ds:List D} {xs:List Value} {u:Nat -> Nat -> Value},(∀ e ∈ ds,D.width e = n) -> D.wfs ds -> xs.length = n * ds.length -> (∀ i j,i < ds.length -> j < n -> xs[n * i + j]? = some (u i j)) ->
  (∀ (i j:Nat) (e:List PC) (y:PC),(D.pcE ds)[i]? = some e -> e[j]? = some y -> RpC C w y (u i j)) -> RepCs S w ds xs
 | [],xs,u,_,hw,hl,_,_ => by simp only [RepCs]; exact eq_nil_of_length_eq_zero (by rw [hl]; simp)
 | d :: ds,xs,u,hwd,hw,hl,hx,h => by
  simp only [D.wfs] at hw; simp only [RepCs]
  have hd:=hwd d (by simp);rw [length_cons,Nat.mul_succ] at hl;refine ⟨xs.take n,xs.drop n,by simp,by rw [length_take]; omega,RpL.rep hF ⟨by rw [length_take,D.pc_len]; omega,fun j c y hc hy => ?_⟩ hw.1,?_⟩
  ·rw [getElem?_take] at hy
   split at hy
   ·rename_i hj
    have:=hx 0 j (by simp) hj
    rw [Nat.mul_zero,Nat.zero_add,hy] at this;simp only [sI] at this;rw [this]; exact h 0 j d.pc c rfl hc
   ·cases hy
  ·refine RpL.repE hF (u:=fun i j => u (i + 1) j) (fun e he => hwd e (by simp [he])) hw.2 (by rw [length_drop]; omega) (fun i j hi hj => ?_) (fun i j e y he hy => h (i + 1) j e y he hy)
   have:=hx (i + 1) j (by simpa using hi) hj
   rw [getElem?_drop,<- this]; congr 1; rw [Nat.mul_succ]; omega
end
end
section
theorem zaF:∀ a b:List PC,toksL (a ++ b) = toksL a ++ toksL b
 | [],b => rfl
 | c :: cs,b => by simp only [cons_append,toksL,zaF cs b,append_assoc]
theorem zaS:∀ a b:List PC,ownedL (a ++ b) = (ownedL a && ownedL b)
 | [],b => by simp [ownedL]
 | c :: cs,b => by simp only [cons_append,ownedL,zaS cs b,Bool.and_assoc]
def C0 (w:World):Cx:=⟨fun b _ => b < w.heap.size,0,fun _ => 0,2,fun _ => none,fun _ => 0,fun _ => 0,fun _ => 0,fun _ => False⟩
theorem rd1 {w:World} {d:D} {v:Value} {c:PC} (h:Rd w d [v]) (hw:d.wf) (hc:d.pc = [c]):RpV (C0 w) w (.d c) v:=.d _ _ (by
 have:=h.rp (C:=C0 w) (fun _ _ hb => hb) hw
 rw [hc] at this;exact this.2 0 c v rfl rfl)
theorem Fn.use {E:Env} {f:Nat} {args:List PV} {R:PV -> (Nat -> Prop) -> Prop} (h:Fn E f args R) {w:World} (hng:E.NG <= w.heap.size) (hT:E.T w) {vs:List Value} (hl:vs.length = args.length) (hv:∀ (j:Nat) (x:PV) (y:Value),args[j]? = some x -> vs[j]? = some y -> RpV (C0 w) w x y) :
  Calls E.P f vs.toArray w fun e w' => ∃ u x bx live C',e = .returned u /\ R x live /\ Inv E.NG E.T C' bx live w' /\ RpV C' w' x u /\ Below w.heap.size w w' /\ E.T w' /\ ∀ t b,live t -> C'.tk t = some b -> w.heap.size <= b:=by
 refine (h (C0 w) w vs ⟨rfl,fun p cs hp => by simp at hp,fun p hp => by simp at hp,fun p hp => by simp at hp,fun p q hp => by simp at hp,fun t ht => ht.elim,fun t s b ht => ht.elim,fun b o h => h,hng,hT⟩ rfl (fun t h => h) hl hv).mono ?_;rintro e w' ⟨u,x,bx,live,C',e1,e2,e3,e4,e5⟩;exact ⟨u,x,bx,live,C',e1,e2,e3,e5,⟨e4.os,e4.tape,e4.output,e4.size,fun k hk => e4.block0 (fun t h => h) k hk (fun p hp => by simp [C0] at hp)⟩,e3.t,fun t b => e4.newT0 (fun t h => h) t b⟩
theorem FnV.old {E:Env} {f:Nat} {args:List PV} {v:Value} (ho:v.oneCell' = true) (h:∀ (w:World) (C:Cx) (vs:List Value),(∀ b o,C.F b o -> b < w.heap.size) -> E.NG <= w.heap.size -> E.T w -> vs.length = args.length -> (∀ (j:Nat) (x:PV) (y:Value),args[j]? = some x -> vs[j]? = some y -> RpV C w x y) ->
  Calls E.P f vs.toArray w fun e w' => e = .returned v /\ Below w.heap.size w w'):FnV E f args (.d (.v v)):=by
 intro C w vs hI hnt hold hl hv;refine (h w C vs hI.fin hI.ng hI.t hl hv).mono ?_;rintro e w' ⟨rfl,hb⟩;have hF:Fix C w w':=.of (fun b o hF => World.cell?_of_block (a:=⟨b,o,none⟩) (hb.block b (hI.fin b o hF))) hb.block
 refine ⟨v,.d (.v v),[],fun _ => False,C,rfl,rfl,⟨hI.nb,fun p cs hp => by simp at hp,fun p hp => by simp at hp,fun p hp => by simp at hp,fun p q hp => by simp at hp,fun t ht => ht.elim,fun t s b ht => ht.elim,fun b o h => Nat.lt_of_lt_of_le (hI.fin b o h) hb.size,Nat.le_trans hI.ng hb.size,E.low w w' hI.t hb.size (fun k hk => hb.block k (Nat.lt_of_lt_of_le hk hI.ng))⟩,
  ⟨hb.os,hb.tape,hb.output,hb.size,fun _ _ h => h,hF,fun k hk _ _ => hb.block k hk,⟨lR,fun _ _ => rfl⟩,fun _ _ h => .inl h,fun t b ht => ht.elim,(fun p hp hp2 => by simp at hp2),⟨lR,fun _ _ => ⟨rfl,rfl,rfl,rfl⟩⟩⟩,.d _ _ (.v v ho)⟩
theorem vRd {C:Cx} {w:World} (hF:∀ b o,C.F b o -> b < w.heap.size) {d:D} {y:Value} (hw:d.wf) (h:RpV C w (.ag d.pc) y):∃ cs:List Value,y = .agg cs.toArray /\ Rd w d cs:=by
 cases h with
 | ag _ vs h => exact ⟨vs,rfl,RpL.rep hF h hw⟩
end
section
def Fr (NG:Nat) (C:Cx) (bx:LP PC) (live fp:List Nat):Prop:=∀ b ∈ fp,NG <= b /\ (∀ o,¬ C.F b o) /\ (∀ p,p < bx.length -> C.bx p ≠ b) /\ ∀ t ∈ live,C.tk t ≠ some b
structure Nmd (NG:Nat) (T:World -> Prop) (bx:LP PC) (w:World) (C:Cx) (live fp:List Nat) (C':Cx) (new tk:List Nat):Prop where
 le:CxLe C C'
 inv:Inv NG T C' bx (· ∈ new ++ live) w
 nd:tk.Nodup
 sub:∀ t ∈ tk,t ∈ new
 rng:∀ t ∈ new,C.nt <= t /\ t < C'.nt
 F:∀ b o,C'.F b o -> C.F b o \/ b ∈ fp
 tkb:∀ t ∈ new,∃ b ∈ fp,C'.tk t = some b
section
variable {NG:Nat} {T:World -> Prop} {bx:LP PC} {w:World}
theorem Nmd.refl {C:Cx} {live:List Nat} (h:Inv NG T C bx (· ∈ live) w):Nmd NG T bx w C live [] C [] [] :=
 ⟨CxLe.refl C,h,by simp,by simp,by simp,fun _ _ h => .inl h,by simp⟩
theorem Nmd.trans {C C1 C2:Cx} {live f1 f2 n1 n2 t1 t2:List Nat} (h:Nmd NG T bx w C live f1 C1 n1 t1) (k:Nmd NG T bx w C1 (n1 ++ live) f2 C2 n2 t2):Nmd NG T bx w C live (f1 ++ f2) C2 (n2 ++ n1) (t1 ++ t2):=by
 refine ⟨h.le.trans k.le,by rw [append_assoc]; exact k.inv,?_,fun t ht => ?_,fun t ht => ?_,fun b o hF => ?_,fun t ht => ?_⟩
 ·rw [nodup_append]
  refine ⟨h.nd,k.nd,fun a ha b hb e => ?_⟩
  have:=(h.rng a (h.sub a ha)).2; have:=(k.rng b (k.sub b hb)).1; omega
 ·rcases mem_append.1 ht with ht | ht
  ·simp [h.sub t ht]
  ·simp [k.sub t ht]
 ·have:=h.le.nt; have:=k.le.nt
  rcases mem_append.1 ht with ht | ht
  ·have:=k.rng t ht; omega
  ·have:=h.rng t ht; omega
 ·rcases k.F b o hF with h1 | h1
  ·rcases h.F b o h1 with h2 | h2
   ·exact .inl h2
   ·exact .inr (by simp [h2])
  ·exact .inr (by simp [h1])
 ·rcases mem_append.1 ht with ht | ht
  ·obtain ⟨b,hb,e⟩:=k.tkb t ht; exact ⟨b,by simp [hb],e⟩
  ·obtain ⟨b,hb,e⟩:=h.tkb t ht
   exact ⟨b,by simp [hb],((k.le.tk t (h.rng t ht).2).1).trans e⟩
theorem Fr.next {C C1:Cx} {live f1 f2 n1 t1:List Nat} (hI:Inv NG T C bx (· ∈ live) w) (h:Nmd NG T bx w C live f1 C1 n1 t1) (hf:Fr NG C bx live f2) (hd:∀ b ∈ f1,b ∉ f2):Fr NG C1 bx (n1 ++ live) f2:=by
 intro b hb;obtain ⟨a1,a2,a3,a4⟩:=hf b hb;refine ⟨a1,fun o hF => ?_,fun p hp => ?_,fun t ht => ?_⟩
 ·rcases h.F b o hF with h1 | h1
  ·exact a2 o h1
  ·exact hd b h1 hb
 ·rw [h.le.bx p (by rw [hI.nb]; exact hp)]; exact a3 p hp
 ·intro e
  rcases mem_append.1 ht with ht | ht
  ·obtain ⟨b',hb',e'⟩:=h.tkb t ht
   rw [e'] at e; simp only [sI] at e; subst e; exact hd b' hb' hb
  ·rw [(h.le.tk t (hI.tok t ht).2.1).1] at e; exact a4 t ht e
theorem Inv.addTok {C:Cx} {live:List Nat} (h:Inv NG T C bx (· ∈ live) w) (h2:2 <= C.nt) {b cap len n:Nat} (hf:Fr NG C bx live [b]) {cur:Array Value} {e:TypeId} (hblk:w.heap[b]? = some (.cells cur e (0,0))) (hsz:cur.size = cap * n) (hl:len <= cap) (hm:cap <= maxLen) (hn:0 < n) (hp:0 < len) :
  Inv NG T (C.tok (some b) cap len n) bx (· ∈ C.nt :: live) w:=by
 have hle:=Cx.tok_le C (some b) cap len n;obtain ⟨n1,n2,n3,n4⟩:=Cx.tok_new C (some b) cap len n;obtain ⟨f1,f2,f3,f4⟩:=hf b (by simp);refine ⟨h.nb,fun p cs hp => ?_,?_,h.boxG,h.inj,?_,?_,?_,h.ng,h.t⟩
 ·obtain ⟨vs,e,h1,h2⟩:=h.box p cs hp
  exact ⟨vs,e,h1,h2.frame hle (Fix.refl _ _)⟩
 ·rintro p hp o (hF | ⟨hb,_⟩)
  ·exact h.boxF p hp o hF
  ·simp only [sI] at hb; exact f3 p hp hb.symm
 ·intro t ht
  rcases mem_cons.1 ht with rfl | ht
  ·refine ⟨h2,Nat.lt_succ_self _,.inr ⟨b,cur,e,n1,f1,hblk,?_,?_,?_,?_,?_,?_,fun p hp => f3 p hp⟩⟩
   ·rw [n2,n4]; exact hsz
   ·rw [n2,n3]; exact hl
   ·rw [n2]; exact hm
   ·rw [n4]; exact hn
   ·rw [n3]; omega
   ·rintro o (hF | ⟨_,ho⟩)
    ·exact absurd hF (f2 o)
    ·rw [n3,n4]; exact ho
  ·obtain ⟨a1,a2,a3⟩:=h.tok t ht
   obtain ⟨k1,k2,k3,k4⟩:=hle.tk t a2;refine ⟨a1,Nat.lt_succ_of_lt a2,?_⟩;rw [k1,k2,k3,k4]
   rcases a3 with a3 | ⟨b',cur',e',c1,c2,c3,c4,c5,c6,c7,c8,c9,c10⟩
   ·exact .inl a3
   ·refine .inr ⟨b',cur',e',c1,c2,c3,c4,c5,c6,c7,c8,?_,c10⟩
    rintro o (hF | ⟨hb,_⟩)
    ·exact c9 o hF
    ·simp only [sI] at hb; subst hb; exact absurd c1 (f4 t ht)
 ·intro t s b' ht hs e1 e2
  have key:∀ t ∈ live,(C.tok (some b) cap len n).tk t = C.tk t:=fun t ht => (hle.tk t (h.tok t ht).2.1).1
  rcases mem_cons.1 ht with rfl | ht <;> rcases mem_cons.1 hs with rfl | hs
  ·rfl
  ·rw [n1] at e1; simp only [sI] at e1; subst e1
   rw [key s hs] at e2; exact absurd e2 (f4 s hs)
  ·rw [n1] at e2; simp only [sI] at e2; subst e2
   rw [key t ht] at e1; exact absurd e1 (f4 t ht)
  ·rw [key t ht] at e1; rw [key s hs] at e2; exact h.tinj t s b' ht hs e1 e2
 ·rintro b' o (hF | ⟨hb,_⟩)
  ·exact h.fin b' o hF
  ·simp only [sI] at hb; subst hb; exact zaq hblk
mutual
theorem zex:∀ {d:D} {fp:List Nat} {vs:List Value} {C:Cx} {live:List Nat},TreeC w d fp vs -> d.wf -> fp.Nodup -> Inv NG T C bx (· ∈ live) w -> 2 <= C.nt -> Fr NG C bx live fp ->
  ∃ C' cs new,Nmd NG T bx w C live fp C' new (toksL cs) /\ RpL C' w cs vs /\ erL cs = d.pc /\ ownedL cs = true
 | .one v,fp,vs,C,live,h,hw,hn,hI,h2,hf => by
  simp only [TreeC] at h; obtain ⟨rfl,rfl⟩:=h
  simp only [D.wf] at hw
  exact ⟨C,[.v v],[],Nmd.refl hI,.one1 (.v v hw),rfl,rfl⟩
 | .agg fs,fp,vs,C,live,h,hw,hn,hI,h2,hf => by
  simp only [TreeC] at h; simp only [D.wf] at hw; simp only [D.pc]
  exact names_ofs h hw hn hI h2 hf
 | .sl n es,fp,vs,C,live,h,hw,hn,hI,h2,hf => by
  simp only [TreeC] at h; simp only [D.wf] at hw
  obtain ⟨a,c,rfl,⟨rfl,rfl⟩ | ⟨b,fr,cur,e,rfl,rfl,hb,hn0,hl,hm,hwd,ht⟩⟩:=h
  ·exact ⟨C,[.sl 0 []],[],Nmd.refl hI,.one1 (.emp a c),rfl,rfl⟩
  ·rw [nodup_cons] at hn
   obtain ⟨C1,rows,new,k1,k2,k3,k4,k5,k6⟩:=names_ofE ht hwd hw.2 hn.2 hI h2 (fun b' hb' => hf b' (by simp [hb']));by_cases hes:es = []
   ·subst hes
    have:rows = []:=by simp only [D.pcE] at k3; rw [zar] at k3; simpa using k3
    subst this
    exact ⟨C1,[.sl 0 []],new,⟨k1.le,k1.inv,k1.nd,k1.sub,k1.rng,fun b o hF => (k1.F b o hF).imp id fun h => by simp [h],fun t ht => by
     obtain ⟨b',hb',e'⟩:=k1.tkb t ht; exact ⟨b',by simp [hb'],e'⟩⟩,.one1 (.emp _ _),rfl,rfl⟩
   ·have hlen:rows.length = es.length:=by
     have:=congrArg length k3
     rw [zar,D.pcE_map] at this; simpa using this
    have hpos:0 < es.length:=by cases es with | nil => exact absurd rfl hes | cons => simp
    have h21:2 <= C1.nt:=Nat.le_trans h2 k1.le.nt;have hf1:Fr NG C1 bx (new ++ live) [b]:=Fr.next hI k1 (fun b' hb' => hf b' (by simp at hb'; simp [hb'])) (fun b' hb' he => by simp at he; subst he; exact hn.1 hb');have hI2:=k1.inv.addTok h21 (cap:=c) (len:=rows.length) (n:=n) hf1 hb hl.2 (by rw [hlen]; exact hl.1) hm hn0 (by rw [hlen]; exact hpos)
    have hown:=zdq (C:=C1) (w:=w) (w':=w) (b:=b) (cap:=c) (n:=n) (es:=rows) (fl:=cur.toList.take (n * es.length)) h21 hn0 k5 k2 (fun q y hq => by
     rw [zam hb];rw [getElem?_take] at hq
     split at hq
     ·simpa using hq
     ·cases hq) (by rw [hlen]; exact hl.1) hm (Fix.refl _ _)
    have hle:=Cx.tok_le C1 (some b) c rows.length n;have n1:=(Cx.tok_new C1 (some b) c rows.length n).1;rw [hlen] at hown;refine ⟨C1.tok (some b) c rows.length n,[.sl C1.nt rows],C1.nt :: new,⟨k1.le.trans hle,hI2,?_,?_,?_,?_,?_⟩,.one1 (by rw [hlen]; exact hown),?_,?_⟩
    ·simp only [toksL,PC.toks,if_pos h21,append_nil]
     rw [nodup_cons];exact ⟨fun hm => by have:=(k1.rng _ (k1.sub _ hm)).2; omega,k1.nd⟩
    ·intro t ht
     simp only [toksL,PC.toks,if_pos h21,append_nil,mem_cons] at ht
     rcases ht with rfl | ht
     ·simp
     ·simp [k1.sub t ht]
    ·intro t ht
     have:(C1.tok (some b) c rows.length n).nt = C1.nt + 1:=rfl
     rcases mem_cons.1 ht with rfl | ht
     ·have:=k1.le.nt; omega
     ·have:=k1.rng t ht; omega
    ·rintro b' o (hF | ⟨hb',_⟩)
     ·exact (k1.F b' o hF).imp id fun h => by simp [h]
     ·simp only [sI] at hb'; subst hb'; exact .inr (by simp)
    ·intro t ht
     rcases mem_cons.1 ht with rfl | ht
     ·exact ⟨b,by simp,n1⟩
     ·obtain ⟨b',hb',e'⟩:=k1.tkb t ht
      exact ⟨b',by simp [hb'],((hle.tk t (k1.rng t ht).2).1).trans e'⟩
    ·simp only [erL,PC.er,k3,D.pc]
    ·have:C1.nt ≠ 0:=by omega
     simp [ownedL,PC.owned,k4,this]
theorem names_ofs:∀ {ds:List D} {fp:List Nat} {vs:List Value} {C:Cx} {live:List Nat},TreeCs w ds fp vs -> D.wfs ds -> fp.Nodup -> Inv NG T C bx (· ∈ live) w -> 2 <= C.nt -> Fr NG C bx live fp ->
  ∃ C' cs new,Nmd NG T bx w C live fp C' new (toksL cs) /\ RpL C' w cs vs /\ erL cs = D.pcs ds /\ ownedL cs = true
 | [],fp,vs,C,live,h,_,hn,hI,h2,hf => by
  simp only [TreeCs] at h; obtain ⟨rfl,rfl⟩:=h
  exact ⟨C,[],[],Nmd.refl hI,.nil,rfl,rfl⟩
 | d :: ds,fp,vs,C,live,h,hw,hn,hI,h2,hf => by
  simp only [TreeCs] at h; obtain ⟨f1,f2,c1,c2,rfl,rfl,hl,h1,h3⟩:=h
  simp only [D.wfs] at hw;rw [nodup_append] at hn;obtain ⟨C1,cs1,new1,a1,a2,a3,a4⟩:=zex h1 hw.1 hn.1 hI h2 (fun b hb => hf b (by simp [hb]));obtain ⟨C2,cs2,new2,b1,b2,b3,b4⟩:=names_ofs h3 hw.2 hn.2.1 a1.inv (Nat.le_trans h2 a1.le.nt) (Fr.next hI a1 (fun b hb => hf b (by simp [hb])) (fun b hb hb2 => hn.2.2 b hb b hb2 rfl));refine ⟨C2,cs1 ++ cs2,new2 ++ new1,by rw [zaF]; exact a1.trans b1,(a2.frame b1.le (Fix.refl _ _)).append b2,?_,by rw [zaS,a4,b4]; rfl⟩;simp only [D.pcs]; rw [zaW,map_append,<- zaW,<- zaW,a3,b3]
theorem names_ofE {n:Nat}:∀ {es:List D} {fp:List Nat} {vs:List Value} {C:Cx} {live:List Nat},TreeCs w es fp vs -> (∀ e ∈ es,D.width e = n) -> D.wfs es -> fp.Nodup -> Inv NG T C bx (· ∈ live) w -> 2 <= C.nt -> Fr NG C bx live fp ->
  ∃ C' rows new,Nmd NG T bx w C live fp C' new (toksLL rows) /\ RpL C' w rows.flatten vs /\ erLL rows = D.pcE es /\ ownedLL rows = true /\ (∀ r ∈ rows,r.length = n) /\ True
 | [],fp,vs,C,live,h,_,_,hn,hI,h2,hf => by
  simp only [TreeCs] at h; obtain ⟨rfl,rfl⟩:=h
  exact ⟨C,[],[],Nmd.refl hI,.nil,rfl,rfl,by simp,trivial⟩
 | d :: ds,fp,vs,C,live,h,hwd,hw,hn,hI,h2,hf => by
  simp only [TreeCs] at h; obtain ⟨f1,f2,c1,c2,rfl,rfl,hl,h1,h3⟩:=h
  simp only [D.wfs] at hw;rw [nodup_append] at hn;obtain ⟨C1,cs1,new1,a1,a2,a3,a4⟩:=zex h1 hw.1 hn.1 hI h2 (fun b hb => hf b (by simp [hb]));obtain ⟨C2,cs2,new2,b1,b2,b3,b4,b5,_⟩:=names_ofE h3 (fun e he => hwd e (by simp [he])) hw.2 hn.2.1 a1.inv (Nat.le_trans h2 a1.le.nt) (Fr.next hI a1 (fun b hb => hf b (by simp [hb])) (fun b hb hb2 => hn.2.2 b hb b hb2 rfl));refine ⟨C2,cs1 :: cs2,new2 ++ new1,by simp only [toksLL]; exact a1.trans b1,by rw [flatten_cons]; exact (a2.frame b1.le (Fix.refl _ _)).append b2,by simp only [erLL,D.pcE,a3,b3],by simp only [ownedLL,a4,b4]; rfl,fun r hr => ?_,trivial⟩
  rcases mem_cons.1 hr with rfl | hr
  ·rw [<- hwd d (by simp),<- D.pc_len,<- a3,zaW]; simp
  ·exact b5 r hr
end
end
theorem FnO.old {E:Env} {f:Nat} {args:List PV} {d:D} (hd:d.wf) (h:∀ (w:World) (C:Cx) (vs:List Value),(∀ b o,C.F b o -> b < w.heap.size) -> E.NG <= w.heap.size -> E.T w -> vs.length = args.length -> (∀ (j:Nat) (x:PV) (y:Value),args[j]? = some x -> vs[j]? = some y -> RpV C w x y) ->
  Calls E.P f vs.toArray w fun e w' => ∃ cs,e = .returned (.agg (toArray cs)) /\ Below w.heap.size w w' /\ Own w.heap.size w' d cs):FnO E f args (.ag d.pc):=by
 intro C w vs hI hnt hold hl hv;refine (h w C vs hI.fin hI.ng hI.t hl hv).mono ?_;rintro e w' ⟨cs,rfl,hb,fp,hnd,hfp,ht⟩;have hF:Fix C w w':=.of (fun b o hF => World.cell?_of_block (a:=⟨b,o,none⟩) (hb.block b (hI.fin b o hF))) hb.block;have hI1:Inv E.NG E.T C [] (· ∈ ([]:List Nat)) w':=⟨hI.nb,fun p cs hp => by simp at hp,fun p hp => by simp at hp,fun p hp => by simp at hp,fun p q hp => by simp at hp,(fun t ht => by cases ht),(fun t s b ht => by cases ht),fun b o h => Nat.lt_of_lt_of_le (hI.fin b o h) hb.size,Nat.le_trans hI.ng hb.size,E.low w w' hI.t hb.size (fun k hk => hb.block k (Nat.lt_of_lt_of_le hk hI.ng))⟩;obtain ⟨C',pcs,new,k1,k2,k3,k4⟩:=zex ht hd hnd hI1 (by rw [hnt]; exact Nat.le_refl 2) (fun b hb' => ⟨Nat.le_trans hI.ng (hfp b hb'),fun o hFo => by have:=hI.fin b o hFo; have:=hfp b hb'; omega,fun p hp => by simp at hp,fun t ht => by cases ht⟩);refine ⟨_,.ag pcs,[],(· ∈ new ++ []),C',rfl,⟨?_,k1.nd,fun t ht => mem_append.2 (.inl (k1.sub t ht)),k4⟩,k1.inv,?_,.ag _ _ k2⟩
 ·show some (PV.ag (erL pcs)) = _; rw [k3]
 ·refine ⟨hb.os,hb.tape,hb.output,hb.size,k1.le.F,hF,fun k hk _ _ => hb.block k hk,⟨k1.le.nb,k1.le.bx⟩,?_,?_,(fun p hp hp2 => by simp at hp2),⟨k1.le.nt,k1.le.tk⟩⟩
  ·intro b o hF'
   rcases k1.F b o hF' with h | h
   ·exact .inl h
   ·exact .inr (.inl (hfp b h))
  ·intro t b ht hb2
   rw [append_nil] at ht;obtain ⟨b',hb',e'⟩:=k1.tkb t ht;rw [e'] at hb2; simp only [sI] at hb2; subst hb2; exact .inl (hfp b' hb')
end
section
structure Keep (S:Nat -> Prop) (w w':World):Prop where
 os:w'.os = w.os
 tape:w'.tape = w.tape
 output:w'.output = w.output
 size:w.heap.size <= w'.heap.size
 block:∀ k,k < w.heap.size -> ¬ S k -> w'.heap[k]? = w.heap[k]?
theorem Keep.refl (S:Nat -> Prop) (w:World):Keep S w w:=⟨rfl,rfl,rfl,lR,fun _ _ _ => rfl⟩
theorem Keep.trans {S:Nat -> Prop} {a b c:World} (h:Keep S a b) (k:Keep S b c):Keep S a c :=
 ⟨k.os.trans h.os,k.tape.trans h.tape,k.output.trans h.output,Nat.le_trans h.size k.size,fun i hi hs => (k.block i (Nat.lt_of_lt_of_le hi h.size) hs).trans (h.block i hi hs)⟩
theorem Keep.of_below {S:Nat -> Prop} {w w':World} (h:Below w.heap.size w w'):Keep S w w':=⟨h.os,h.tape,h.output,h.size,fun k hk _ => h.block k hk⟩
theorem Keep.below {S:Nat -> Prop} {w w':World} {B:Nat} (h:Keep S w w') (hB:B <= w.heap.size) (hs:∀ k,k < B -> ¬ S k):Below B w w':=⟨h.os,h.tape,h.output,h.size,fun k hk => h.block k (Nat.lt_of_lt_of_le hk hB) (hs k hk)⟩
theorem Keep.then {S:Nat -> Prop} {a b c:World} (h:Keep S a b) (k:Below b.heap.size b c):Keep S a c:=h.trans (Keep.of_below k)
theorem Keep.alloc {S:Nat -> Prop} {a w:World} (h:Keep S a w) (o:Obj):Keep S a (w.alloc o):=h.then ((Below.refl _ _).alloc lR o)
theorem Keep.setCell {S:Nat -> Prop} {a w:World} (h:Keep S a w) {p:Addr} (hp:S p.block \/ a.heap.size <= p.block) (u:Value):Keep S a (w.setCell p u) :=
 ⟨h.os,h.tape,h.output,by simpa [World.setCell] using h.size,fun k hk hs => (Below.heap_setCell w p u k (by
  rintro rfl
  rcases hp with hp | hp
  ·exact hs hp
  ·omega)).trans (h.block k hk hs)⟩
theorem Keep.cell {S:Nat -> Prop} {w w':World} (h:Keep S w w') {b o:Nat} (hb:b < w.heap.size) (hs:¬ S b):w'.cell? ⟨b,o,none⟩ = w.cell? ⟨b,o,none⟩:=World.cell?_of_block (a:=⟨b,o,none⟩) (h.block b hb hs)
def RdN (N:Nat) (w:World) (d:D) (cs:List Value):Prop:=RepC (· < N) w d cs
theorem RdN.rd {N:Nat} {w:World} {d:D} {cs:List Value} (h:RdN N w d cs):Rd w d cs:=Rd.of h
theorem Rd.rdN {w:World} {d:D} {cs:List Value} (h:Rd w d cs):RdN w.heap.size w d cs:=h
theorem RdN.below {N:Nat} {w w':World} {d:D} {cs:List Value} (h:RdN N w d cs) (hb:Below N w w'):RdN N w' d cs:=RepC.frame (fun b hlt => hb.block b hlt) h
theorem RdN.keep {N:Nat} {S:Nat -> Prop} {w w':World} {d:D} {cs:List Value} (h:RdN N w d cs) (hk:Keep S w w') (hN:N <= w.heap.size) (hs:∀ k,k < N -> ¬ S k):RdN N w' d cs:=h.below (hk.below hN hs)
theorem V.layS {S:Nat -> Prop} {w:World} {v:V} {cs:List Value} (h:RepC S w v.d cs):∃ k n e s kids v1,v = .mk k n e s kids /\ cs = [.int .i64 k,.int .i64 n,.int .i64 e,.string ⟨s.toArray⟩,v1] /\ RepC S w (.sl 5 (V.ds kids)) [v1]:=by
 obtain ⟨k,n,e,s,kids⟩:=v;simp only [V.d,RepC,RepCs,dI,dS,D.width] at h;obtain ⟨c1,r1,rfl,_,rfl,c2,r2,rfl,_,rfl,c3,r3,rfl,_,rfl,c4,r4,rfl,_,rfl,c5,r5,rfl,_,⟨a5,n5,rfl,h5⟩,rfl⟩:=h;refine ⟨k,n,e,s,kids,_,rfl,rfl,?_⟩;simp only [RepC]; exact ⟨a5,n5,rfl,h5⟩
theorem RepC.slice {S:Nat -> Prop} {w:World} {n:Nat} {es:List D} {v:Value} (h:RepC S w (.sl n es) [v]) :
  ∃ a c,v = .slice a es.length c /\ (es ≠ [] -> 0 < n /\ es.length <= c /\ c <= maxLen /\ ∃ b o,a = some ⟨b,o,none⟩ /\ S b /\
   ∀ i (hi:i < es.length),∃ cs,cs.length = n /\ RepC S w es[i] cs /\ ∀ j u,cs[j]? = some u -> w.cell? ⟨b,o + (n * i + j),none⟩ = some u):=by
 simp only [RepC] at h;obtain ⟨a,c,hv,h⟩:=h;simp only [cons.injEq,and_true] at hv;refine ⟨a,c,hv,fun hne => ?_⟩;obtain ⟨hn,h1,h2,b,o,xs,ha,hb,hx,hw,hr⟩:=h hne;refine ⟨hn,h1,h2,b,o,ha,hb,fun i hi => ?_⟩;obtain ⟨cs,hc1,hc2,hc3⟩:=hr.get hw i hi;refine ⟨cs,hc1,hc2,fun j u hj => hx _ _ ?_⟩
 have:j < cs.length:=by
  rcases Nat.lt_or_ge j cs.length with h | h
  ·exact h
  ·simp [getElem?_eq_none h] at hj
 rw [hc3 j (by omega)]; exact hj
theorem RepC.values {S:Nat -> Prop} {w:World} {ls:List V} {v:Value} (h:RepC S w (.sl 5 (V.ds ls)) [v]) :
  ∃ a c,v = .slice a ls.length c /\ (ls ≠ [] -> ls.length <= c /\ c <= maxLen /\ ∃ b o,a = some ⟨b,o,none⟩ /\ S b /\ ∀ i (hi:i < ls.length),∃ v0 v1 v2 v3 v4,RepC S w ls[i].d [v0,v1,v2,v3,v4] /\
   w.cell? ⟨b,o + i * 5,none⟩ = some v0 /\ w.cell? ⟨b,o + i * 5 + 1,none⟩ = some v1 /\ w.cell? ⟨b,o + i * 5 + 2,none⟩ = some v2 /\ w.cell? ⟨b,o + i * 5 + 3,none⟩ = some v3 /\ w.cell? ⟨b,o + i * 5 + 4,none⟩ = some v4):=by
 rw [V.ds_map] at h;obtain ⟨a,c,hv,h⟩:=RepC.slice h;rw [length_map] at hv;refine ⟨a,c,hv,fun hne => ?_⟩;obtain ⟨_,h1,h2,b,o,ha,hb,hg⟩:=h (by simpa using hne);refine ⟨by simpa using h1,h2,b,o,ha,hb,fun i hi => ?_⟩;obtain ⟨cs,hl,hr,hc⟩:=hg i (by simpa using hi);rw [getElem_map] at hr
 match cs,hl with
 | [v0,v1,v2,v3,v4],_ =>
  rw [Nat.mul_comm 5 i] at hc;exact ⟨v0,v1,v2,v3,v4,hr,hc 0 _ rfl,hc 1 _ rfl,hc 2 _ rfl,hc 3 _ rfl,hc 4 _ rfl⟩
theorem V.formS {S:Nat -> Prop} {w:World} {v:V} {cs:List Value} (h:RepC S w v.d cs):∃ k n e s a1 n1 c1,cs = [.int .i64 k,.int .i64 n,.int .i64 e,.string ⟨(s:L8).toArray⟩,.slice a1 n1 c1]:=V.form (Rd.of h)
end
section
section
variable {E:Env} {B:Base} {C:Cx} {s:St} {a:Act} {w w':World} {S:Nat -> Prop} {L:List Nat}
end
end
section
section
variable {E:Env} {B:Base} {C:Cx} {s:St} {a:Act} {w:World}
end
/-! ### A mark -/
end
section
section
variable {E:Env} {B:Base} {f:Nat} {tm:Nat -> PV} {bx:LP PC} {nt:Nat} {live:List Nat} {cs:List PC} {k r:Int} {d:Nat} {dd dd':D} {K:St -> Prop} {L:List Nat} {kt:List Nat} {kb:List Bool}
end
end
section
open Go.Lib (validD)
def keyOk (k:L8):Bool:=decide (k.length <= 100) && validD k
def keysOk (ks:List (L8)):Bool:=ks.all keyOk && decide ks.Nodup
def Sh.fields (ks:List (L8)) (m:Int) (n:Nat):Bool:=keysOk ks && (decide (n = ks.length) && (decide (0 <= m) && decide (m <= ks.length)))
def Sh.self:Sh -> Bool
 | .mk k l h ks m kids =>
  if k = 8 then decide (l = 0) && (decide (h = 0) && Sh.fields ks m kids.length)
  else if k = 3 \/ k = 5 \/ k = 6 then decide (ks = []) && (decide (m = 0) && decide (kids = []))
  else if k = 7 then decide (ks = []) && (decide (m = 0) && decide (kids.length = 1))
  else if k = 9 then decide (l = 0) && (decide (h = 0) && (decide (ks = []) && (decide (m = 0) && decide (2 <= kids.length))))
  else if k = 0 \/ k = 1 \/ k = 2 \/ k = 4 then decide (l = 0) && (decide (h = 0) && (decide (ks = []) && (decide (m = 0) && decide (kids = []))))
  else false
mutual
def Sh.right:Int -> Sh -> Bool
 | d,.mk k l h ks m kids => Sh.rights (d - 1) kids && (decide (0 <= d) && Sh.self (.mk k l h ks m kids))
def Sh.rights:Int -> List Sh -> Bool
 | _,[] => true
 | d,v :: vs => Sh.right d v && Sh.rights d vs
end
def Sh.ok (v:Sh):Bool:=Sh.right 8 v && decide (v.nodes <= 100)
end
section
def inR (n a b:Int):Bool:=decide (a <= n) && decide (n <= b)
theorem zaG {n a b:Int} (h:a <= n /\ n <= b):inR n a b = true:=by simp [inR,h]
theorem za6 {n a b:Int} (h:¬ (a <= n /\ n <= b)):inR n a b = false:=by simp only [inR,Bool.and_eq_false_iff,decide_eq_false_iff_not]; omega
theorem zb1 (n a b:Int) (w:World) :
  Calls Tryz.prog 81 #[.int .i64 n,.int .i64 a,.int .i64 b] w fun e w' => e = .returned (.bool (inR n a b)) /\ w = w':=by
 by_cases h1:a <= n
 ·go_enter Tryz.func81,Tryz.ntmps81
  go_wp2;go_ret;exact ⟨by simp [inR,h1],rfl⟩
 ·have H:=Lib.hid (za6 (n:=n) (a:=a) (b:=b) (by omega))
  go_enter Tryz.func81,Tryz.ntmps81
  go_wp2;go_ret;exact ⟨by rw [H.out]; rfl,rfl⟩
theorem zaH (n a b:Int) (w:World) :
  Calls Tryz.prog 74 #[.int .i64 n,.int .i64 a,.int .i64 b] w fun e w' => e = .returned (.bool (inR n a b)) /\ w = w':=by
 by_cases h1:a <= n
 ·go_enter Tryz.func74,Tryz.ntmps74
  go_wp2;go_ret;exact ⟨by simp [inR,h1],rfl⟩
 ·have H:=Lib.hid (za6 (n:=n) (a:=a) (b:=b) (by omega))
  go_enter Tryz.func74,Tryz.ntmps74
  go_wp2;go_ret;exact ⟨by rw [H.out]; rfl,rfl⟩
end
section
open Go.Lib (validD)
def fitsN:Nat -> Int -> Bool
 | 0,_ => true
 | k + 1,n => inR (n * 10) (-9223372036854775808) 9223372036854775807 && fitsN k (n * 10)
def decOk (n e:Int):Bool:=(inR e (-20) 20 && (decide (e ≠ 0) && (inR n (-999999999999999999) 999999999999999999 && decide (Int.tmod n 10 ≠ 0)))) && !(decide (0 < e) && fitsN e.toNat n)
def V.kind:V -> Int | .mk k _ _ _ _ => k
def V.num:V -> Int | .mk _ n _ _ _ => n
def V.exp:V -> Int | .mk _ _ e _ _ => e
def V.text:V -> L8 | .mk _ _ _ s _ => s
def V.kids:V -> List V | .mk _ _ _ _ ks => ks
def isKeyK (k:Int):Bool:=decide (k = 5) || decide (k = 3)
def odds {α:Type}:List α -> List α
 | [] => []
 | [x] => [x]
 | x :: _ :: r => x :: odds r
theorem zaX {α:Type}:∀ l:List α,(odds l).length = (l.length + 1) / 2
 | [] => by simp [odds]
 | [x] => by simp [odds]
 | x :: y :: r => by simp only [odds,length_cons,zaX r]; omega
theorem ze2 {α:Type}:∀ (l:List α) (j:Nat),(odds l)[j]? = l[2 * j]?
 | [],j => by simp [odds]
 | [x],0 => rfl
 | [x],j + 1 => by simp [odds]
 | x :: y :: r,0 => rfl
 | x :: y :: r,j + 1 => by simp only [odds,getElem?_cons_succ,ze2 r j]; rw [show 2 * (j + 1) = 2 * j + 1 + 1 by omega]; simp
theorem zdb {α:Type} (l:List α) (j:Nat) (h:2 * j < l.length):(odds l)[j]'(by rw [zaX]; omega) = l[2 * j]:=by
 have:=ze2 l j
 rw [getElem?_eq_getElem h,getElem?_eq_getElem (by rw [zaX]; omega)] at this;exact Option.some.inj this
def uniq {α:Type} [DecidableEq α] (f:V -> α) (ks:List V):Bool:=ks.all (fun x => isKeyK x.kind) && decide ((ks.map f).Nodup)
theorem zdA {α:Type} [DecidableEq α] (f:V -> α) (ks:List V) (x:V):uniq f (ks ++ [x]) = (uniq f ks && (isKeyK x.kind && decide (f x ∉ ks.map f))):=by
 unfold uniq;rw [all_append,Bool.eq_iff_iff];simp only [Bool.and_eq_true,decide_eq_true_eq,map_append,map_cons,map_nil,nodup_append,all_cons,all_nil,Bool.and_true]
 constructor
 ·rintro ⟨⟨h1,h2⟩,h3,_,h4⟩; exact ⟨⟨h1,h3⟩,h2,fun h => h4 _ h _ (by simp) rfl⟩
 ·rintro ⟨⟨h1,h3⟩,h2,h4⟩; exact ⟨⟨h1,h2⟩,h3,by simp,fun a ha b hb => by simp at hb; subst hb; intro e; subst e; exact h4 ha⟩
theorem ze3 {α:Type} [DecidableEq α] {f:V -> α} {ks:List V} (k:Nat) (h:uniq f (ks.take k) = false):uniq f ks = false:=by
 cases hk:uniq f ks with
 | false => rfl
 | true =>
  rw [<- take_append_drop k ks] at hk;unfold uniq at hk h;simp only [all_append,Bool.and_eq_true,decide_eq_true_eq,map_append,nodup_append] at hk;rw [hk.1.1,decide_eq_true hk.2.1] at h; simp at h
def V.mark (x:V):Int × Int × L8:=(x.kind,x.num,x.text)
def pairsOk (xs:List V):Bool:=uniq V.mark (odds xs) && (decide (xs.length % 2 = 0) && decide (xs.length <= 300))
def pairsOkI (xs:List V):Bool:=uniq id (odds xs) && decide (xs.length % 2 = 0)
def V.selfBy (q:List V -> Bool):V -> Bool
 | .mk k n e s kids =>
  if k = 0 \/ k = 1 \/ k = 2 then decide (n = 0) && (decide (e = 0) && (decide (s = []) && decide (kids = [])))
  else if k = 3 then decide (e = 0) && (decide (s = []) && decide (kids = []))
  else if k = 4 then decOk n e && (decide (s = []) && decide (kids = []))
  else if k = 5 then decide (n = 0) && (decide (e = 0) && (validD s && (decide (s.length <= 2000) && decide (kids = []))))
  else if k = 6 then decide (n = 0) && (decide (e = 0) && (decide (s.length <= 2000) && decide (kids = [])))
  else if k = 7 then decide (n = 0) && (decide (e = 0) && decide (s = []))
  else if k = 8 then decide (n = 0) && (decide (e = 0) && (decide (s = []) && q kids))
  else if k = 9 then inR n 0 1000000 && (decide (e = 0) && (decide (s = []) && decide (kids.length = 1)))
  else false
def V.self:V -> Bool:=V.selfBy pairsOk
def V.selfI:V -> Bool:=V.selfBy pairsOkI
mutual
def V.rightBy (q:List V -> Bool):Int -> V -> Bool
 | d,.mk k n e s kids => V.rightsBy q (d - 1) kids && (decide (0 <= d) && V.selfBy q (.mk k n e s kids))
def V.rightsBy (q:List V -> Bool):Int -> List V -> Bool
 | _,[] => true
 | d,v :: vs => V.rightBy q d v && V.rightsBy q d vs
end
theorem V.rightsBy_all (q:List V -> Bool):∀ (d:Int) (vs:List V),V.rightsBy q d vs = vs.all (V.rightBy q d)
 | _,[] => rfl
 | d,v :: vs => by simp [V.rightsBy,V.rightsBy_all q d vs]
def V.ok (v:V):Bool:=V.rightBy pairsOk 12 v && decide (v.nodes <= 300)
theorem odds_mem {α:Type}:∀ (l:List α) (x:α),x ∈ odds l -> x ∈ l
 | [],x,h => by simp [odds] at h
 | [y],x,h => by simpa [odds] using h
 | a :: b :: r,x,h => by
  simp only [odds,mem_cons] at h ⊢
  rcases h with h | h
  ·exact .inl h
  ·exact .inr (.inr (odds_mem r x h))
theorem V.key_plain {q:List V -> Bool} {d:Int} {x:V} (h:V.rightBy q d x = true) (hk:isKeyK x.kind = true):x = .mk x.kind x.num 0 x.text []:=by
 obtain ⟨k,n,e,s,kids⟩:=x;simp only [V.rightBy,Bool.and_eq_true,V.selfBy] at h;simp only [V.kind,isKeyK,Bool.or_eq_true] at hk;simp only [V.kind,V.num,V.text]
 rcases hk with hk | hk <;> obtain rfl:=of_decide_eq_true hk
 ·have:=h.2.2; simp at this; simp [this]
 ·have:=h.2.2; simp at this; simp [this]
theorem pairs_same {q:List V -> Bool} {d:Int} {xs:List V} (h:V.rightsBy q d xs = true) (hl:xs.length <= 300):pairsOkI xs = pairsOk xs:=by
 rw [V.rightsBy_all,all_eq_true] at h;unfold pairsOkI pairsOk;rw [decide_eq_true hl,Bool.and_true]
 congr 1
 have hm:∀ x ∈ odds xs,V.rightBy q d x = true:=fun x hx => h x (odds_mem _ _ hx)
 generalize odds xs = ks at hm;unfold uniq;rw [map_id]
 cases hk:ks.all (fun x => isKeyK x.kind) with
 | false => rfl
 | true =>
  rw [all_eq_true] at hk;simp only [Bool.true_and]
  apply decide_eq_decide.2
  rw [Nodup,Nodup,pairwise_map]
  constructor
  ·intro hp
   refine Pairwise.imp_of_mem (fun ha hb hne e => hne ?_) hp;rw [V.key_plain (hm _ ha) (hk _ ha),V.key_plain (hm _ hb) (hk _ hb)];simp only [V.mark,Prod.mk.injEq] at e;rw [e.1,e.2.1,e.2.2]
  ·intro hp
   refine Pairwise.imp_of_mem (fun ha hb hne e => hne ?_) hp;rw [e]
theorem V.kids_nodes (vs:List V):vs.length <= V.nodess vs:=by
 induction vs with
 | nil => simp
 | cons x xs ih => have:=x.nodes_pos; simp only [V.nodess,length_cons]; omega
mutual
theorem V.right_same:∀ (d:Int) (v:V),v.nodes <= 300 -> V.rightBy pairsOkI d v = V.rightBy pairsOk d v
 | d,.mk k n e s kids,h => by
  have hn:V.nodess kids <= 300:=by simp only [V.nodes] at h; omega
  have hl:kids.length <= 300:=Nat.le_trans (V.kids_nodes kids) hn;have h1:=V.rights_same (d - 1) kids hn;simp only [V.rightBy];rw [h1]
  cases hr:V.rightsBy pairsOk (d - 1) kids with
  | false => rfl
  | true =>
   have:=pairs_same hr hl
   simp only [V.selfBy,this]
theorem V.rights_same:∀ (d:Int) (vs:List V),V.nodess vs <= 300 -> V.rightsBy pairsOkI d vs = V.rightsBy pairsOk d vs
 | _,[],_ => rfl
 | d,v :: vs,h => by
  simp only [V.nodess] at h;simp only [V.rightsBy,V.right_same d v (by omega),V.rights_same d vs (by omega)]
end
theorem V.ok_impl (v:V):(V.rightBy pairsOkI 12 v && decide (v.nodes <= 300)) = v.ok:=by
 unfold V.ok;by_cases h:v.nodes <= 300
 ·rw [V.right_same 12 v h]
 ·rw [decide_eq_false h,Bool.and_false,Bool.and_false]
end
section
theorem zcP {w:World} {b o:Nat} {v:Value} (h:w.cell? ⟨b,o,none⟩ = some v):b < w.heap.size:=by
 apply Classical.byContradiction; intro hn
 simp [World.cell?,Array.getElem?_eq_none (Nat.le_of_not_lt hn)] at h
def StrRow (w:World) (v:Value) (ls:List (L8)):Prop :=
 ∃ a c,v = .slice a ls.length c /\ (ls ≠ [] -> ∃ b o,a = some ⟨b,o,none⟩ /\ ∀ k (h:k < ls.length),w.cell? ⟨b,o + k,none⟩ = some (.string ⟨ls[k].toArray⟩))
theorem StrRow.below {w w':World} {ls:List (L8)} {v:Value} (h:StrRow w v ls) (hb:Below w.heap.size w w'):StrRow w' v ls:=by
 obtain ⟨a,c,rfl,hg⟩:=h
 exact ⟨a,c,rfl,fun hne => by
  obtain ⟨b,o,ha,hc⟩:=hg hne;exact ⟨b,o,ha,fun k hk => by rw [hb.cell (p:=⟨b,o + k,none⟩) (zcP (hc k hk))]; exact hc k hk⟩⟩
theorem StrRow.alloc {w:World} {ls:List (L8)} {v:Value} (h:StrRow w v ls) (o:Obj):StrRow (w.alloc o) v ls:=h.below ((Below.refl _ _).alloc lR o)
end
section
end
section
def pI (n:Int):PC:=.v (.int .i64 n)
def pB (b:Bool):PC:=.v (.bool b)
def pS (l:L8):PC:=.v (.string ⟨l.toArray⟩)
def pSr (ks:List (L8)):LP PC:=ks.map fun k => [pS k]
def pSs (ks:List (L8)):PC:=.sl 0 (pSr ks)
theorem zbG (ks:List (L8)):erLL (pSr ks) = pSr ks:=by
 simp [pSr,zar,zaW,PC.er,pS,Function.comp_def]
theorem zcc:∀ a b:LP PC,ownedLL (a ++ b) = (ownedLL a && ownedLL b)
 | [],b => by simp [ownedLL]
 | c :: cs,b => by simp only [cons_append,ownedLL,zcc cs b,Bool.and_assoc]
theorem zcB:∀ a b:LP PC,toksLL (a ++ b) = toksLL a ++ toksLL b
 | [],b => rfl
 | c :: cs,b => by simp only [cons_append,toksLL,zcB cs b,append_assoc]
theorem zcC {t:Nat} (h:2 <= t) (es:LP PC):PC.toks (.sl t es) = t :: toksLL es:=by rw [PC.toks,if_pos h]
theorem zdB {t:Nat} (h:2 <= t) (es:LP PC):PC.owned (.sl t es) = ownedLL es:=by
 rw [PC.owned,decide_eq_true (show t ≠ 0 by omega)]; simp
mutual
theorem PC.toks_ge:∀ (c:PC) (t:Nat),t ∈ c.toks -> 2 <= t
 | .v x,t,h => by simp [PC.toks] at h
 | .bld _ _ _ _,t,h => by simp [PC.toks] at h
 | .anyp,t,h => by simp [PC.toks] at h
 | .row _ _ _,t,h => by simp [PC.toks] at h
 | .sl s es,t,h => by
  by_cases h2:2 <= s
  ·rw [PC.toks,if_pos h2] at h
   rcases mem_cons.1 h with rfl | h
   ·exact h2
   ·exact toksLL_ge es t h
  ·rw [PC.toks,if_neg h2] at h; exact toksLL_ge es t h
theorem zbB:∀ (l:List PC) (t:Nat),t ∈ toksL l -> 2 <= t
 | [],t,h => by simp [toksL] at h
 | c :: cs,t,h => by
  rw [toksL,mem_append] at h;exact h.elim (PC.toks_ge c t) (zbB cs t)
theorem toksLL_ge:∀ (l:LP PC) (t:Nat),t ∈ toksLL l -> 2 <= t
 | [],t,h => by simp [toksLL] at h
 | c :: cs,t,h => by
  rw [toksLL,mem_append] at h;exact h.elim (zbB c t) (toksLL_ge cs t)
end
end
section
def has (tm:Nat -> PV):List (Nat × PV) -> Prop
 | [] => True
 | (d,v) :: r => tm d = v /\ has tm r
def ups:List (Nat × PV) -> (Nat -> PV) -> Nat -> PV
 | [],tm => tm
 | (d,v) :: r,tm => up d v (ups r tm)
theorem zah:∀ {l:List (Nat × PV)} {tm:Nat -> PV},has tm l -> ∃ tm0,tm = ups l tm0:=by
 intro l tm h;refine ⟨tm,?_⟩
 induction l with
 | nil => rfl
 | cons p l ih =>
  obtain ⟨d,v⟩:=p;simp only [ups];rw [<- ih h.2,up_self h.1]
theorem zbp (ks:List (L8)):∀ e ∈ pSr ks,e.length = 1:=by
 intro e he; obtain ⟨x,_,rfl⟩:=mem_map.1 he; rfl
theorem zaM (ks:List (L8)):(pSr ks).length = ks.length:=by simp [pSr]
theorem zey {ks:List (L8)} {j:Nat} (h:j < ks.length):(pSr ks)[j]? = some [pS ks[j]]:=by
 rw [pSr,getElem?_map,getElem?_eq_getElem h]; rfl
end
section
section
variable {E:Env} {K:St -> Prop} {tm:Nat -> PV} {bx:LP PC} {nt d:Nat} {live:List Nat} {r:List MOpr}
theorem zaa {n p:Nat} {x:X} {g:Option (Nat × Bool)} {c:List X} {cs:List PC} (hg:gd g tm = some true) (hx:ev tm x = .ref p 0) (hb:bx[p]? = some cs) (hn:cs.length = n) (h:po E r K ⟨up d (.ag cs) tm,bx,nt,live⟩):po E (⟨some d,.load true n x,g,c⟩ :: r) K ⟨tm,bx,nt,live⟩:=by
 refine po_q hg ?_ h;simp only [qf,hx,hb,Nat.zero_add,drop_zero,ldv,hn,Nat.le_refl,if_true];rw [<- hn,take_length]
theorem zag {n p:Nat} {a x:X} {c:List X} {cs z:List PC} (ha:ev tm a = .ref p 0) (hx:ev tm x = .ag cs) (hb:bx[p]? = some z) (hn:cs.length = n) (hz:z.length = n) (hc:c.all (apartX (ev tm) a) = true) (h:po E r K ⟨tm,bx.set p cs,nt,live⟩):po E (⟨none,.store n a x,none,c⟩ :: r) K ⟨tm,bx,nt,live⟩:=by
 have hs:spl z 0 cs = cs:=by
  unfold spl;rw [take_zero,nil_append,Nat.zero_add,hn,<- hz,drop_length,append_nil]
 have hx':pcells (ev tm x) = some cs:=by rw [hx]; rfl
 refine zas ha hx' hb ⟨hn,by omega⟩ hc ?_;rw [hs]; exact h
end
theorem dats2 {a b v w:List PC} (h:erL a = v) (k:erL b = w):PV.dats [.ag a,.ag b] = some [.ag v,.ag w]:=by rw [<- h,<- k]; rfl
end
section
def vK (kids:List V):LP PC:=kids.map fun x => x.d.pc
def vC (v:V):List PC:=[pI v.kind,pI v.num,pI v.exp,pS v.text,.sl 0 (vK v.kids)]
theorem V.pc_eq (x:V):x.d.pc = vC x:=by
 obtain ⟨k,n,e,s,kids⟩:=x;simp only [V.d,D.pc,D.pcs,D.pcE_map,V.ds_map,map_map,append_nil];rfl
theorem vK_eq (kids:List V):vK kids = kids.map vC:=by unfold vK; exact map_congr_left fun x _ => x.pc_eq
theorem zap (x:V):erL (vC x) = vC x:=by rw [<- V.pc_eq]; exact D.pc_er _
theorem zc9 (kids:List V):erLL (vK kids) = vK kids:=by
 have:vK kids = D.pcE (kids.map V.d):=by rw [D.pcE_map,map_map]; rfl
 rw [this]; exact D.pcE_er _
mutual
theorem V.wfd:∀ x:V,x.d.wf
 | .mk k n e s kids => by
  simp only [V.d,D.wf,D.wfs];exact ⟨rfl,rfl,rfl,rfl,⟨fun e he => by rw [V.ds_map] at he; obtain ⟨y,_,rfl⟩:=mem_map.1 he; exact V.width y,V.wfds kids⟩,trivial⟩
theorem V.wfds:∀ xs:List V,D.wfs (V.ds xs)
 | [] => trivial
 | x :: xs => ⟨V.wfd x,V.wfds xs⟩
end
theorem za7 (kids:List V):∀ e ∈ vK kids,e.length = 5:=by
 intro e he; rw [vK_eq] at he; obtain ⟨x,_,rfl⟩:=mem_map.1 he; rfl
theorem zbe {kids:List V} {j:Nat} (h:j < kids.length):(vK kids)[j]? = some (vC kids[j]):=by
 rw [vK_eq,getElem?_map,getElem?_eq_getElem h]; rfl
theorem zao (kids:List V):(vK kids).length = kids.length:=by simp [vK]
theorem zaI (x:V):PV.dats [.ag (vC x)] = some [.ag (vC x)]:=congrArg (fun l => some [PV.ag l]) (zap x)
end
section
section
variable {E:Env} {K:St -> Prop} {tm:Nat -> PV} {bx:LP PC} {nt d:Nat} {live:List Nat} {r:List MOpr} {g:Option (Nat × Bool)} {c:List X} {x y:X} {a b n:Int}
theorem zay (hg:gd g tm = some true) (hx:ev tm x = .d (pI a)) (hy:ev tm y = .d (pI b)) (hn:a + b = n) (h1:-9223372036854775808 <= n /\ n <= 9223372036854775807) (h:po E r K ⟨up d (.d (pI n)) tm,bx,nt,live⟩):po E (⟨some d,.bin .add false x y,g,c⟩ :: r) K ⟨tm,bx,nt,live⟩:=by
 refine po_q hg ?_ h;simp only [qf,hx,hy,pI];show some (PV.d (.v (.int .i64 (IntKind.wrap .i64 (a + b))))) = some (PV.d (.v (.int .i64 n)));have e:IntKind.wrap .i64 (a + b) = n:=by rw [hn,IntKind.wrap_i64]; omega
 rw [e]
theorem zbu (hg:gd g tm = some true) (hx:ev tm x = .d (pI a)) (hy:ev tm y = .d (pI b)) (hn:a - b = n) (h1:-9223372036854775808 <= n /\ n <= 9223372036854775807) (h:po E r K ⟨up d (.d (pI n)) tm,bx,nt,live⟩):po E (⟨some d,.bin .sub false x y,g,c⟩ :: r) K ⟨tm,bx,nt,live⟩:=by
 refine po_q hg ?_ h;simp only [qf,hx,hy,pI];show some (PV.d (.v (.int .i64 (IntKind.wrap .i64 (a - b))))) = some (PV.d (.v (.int .i64 n)));have e:IntKind.wrap .i64 (a - b) = n:=by rw [hn,IntKind.wrap_i64]; omega
 rw [e]
theorem po_mul (hg:gd g tm = some true) (hx:ev tm x = .d (pI a)) (hy:ev tm y = .d (pI b)) (hn:a * b = n) (h1:-9223372036854775808 <= n /\ n <= 9223372036854775807) (h:po E r K ⟨up d (.d (pI n)) tm,bx,nt,live⟩):po E (⟨some d,.bin .mul false x y,g,c⟩ :: r) K ⟨tm,bx,nt,live⟩:=by
 refine po_q hg ?_ h;simp only [qf,hx,hy,pI];show some (PV.d (.v (.int .i64 (IntKind.wrap .i64 (a * b))))) = some (PV.d (.v (.int .i64 n)));have e:IntKind.wrap .i64 (a * b) = n:=by rw [hn,IntKind.wrap_i64]; omega
 rw [e]
end
theorem po_cat {E:Env} {K:St -> Prop} {tm:Nat -> PV} {bx:LP PC} {nt d:Nat} {live:List Nat} {r:List MOpr} {g:Option (Nat × Bool)} {c:List X} {x y:X} {la lb:L8} (hg:gd g tm = some true) (hx:ev tm x = .d (pS la)) (hy:ev tm y = .d (pS lb)) (hl:la.length + lb.length <= 9223372036854775807) (h:po E r K ⟨up d (.d (pS (la ++ lb))) tm,bx,nt,live⟩):po E (⟨some d,.bin .add false x y,g,c⟩ :: r) K ⟨tm,bx,nt,live⟩:=by
 refine po_q hg ?_ h;simp only [qf,hx,hy,pS];have e1:(⟨la.toArray⟩:ByteArray).size = la.length:=by simp [ByteArray.size]
 have e2:(⟨lb.toArray⟩:ByteArray).size = lb.length:=by simp [ByteArray.size]
 show Option.map _ (if (⟨la.toArray⟩:ByteArray).size + (⟨lb.toArray⟩:ByteArray).size <= 9223372036854775807 then some (Value.string ((⟨la.toArray⟩:ByteArray) ++ ⟨lb.toArray⟩)) else none) = _;rw [if_pos (by rw [e1,e2]; exact hl),zc0];rfl
theorem zcD {tm:Nat -> PV} {bx:LP PC} {nt:Nat} {live:List Nat} {n t p:Nat} {cs:List PC} (ht:tm t = .ref p 0) (hb:bx[p]? = some cs) (hn:cs.length = n):ressM ⟨tm,bx,nt,live⟩ [.cell true n t] = some [.ag cs]:=by
 simp only [ressM,resM,ht,hb,Nat.zero_add,drop_zero,ldv,hn,Nat.le_refl,if_true];rw [<- hn,take_length]
end
section
mutual
def PC.lw (n:Nat):PC -> Prop
 | .v _ => True
 | .bld p _ _ _ => p < n
 | .anyp => True
 | .row p _ _ => p < n
 | .sl _ es => lwLL n es
def lwL (n:Nat):List PC -> Prop
 | [] => True
 | c :: cs => PC.lw n c /\ lwL n cs
def lwLL (n:Nat):LP PC -> Prop
 | [] => True
 | l :: ls => lwL n l /\ lwLL n ls
end
mutual
def PV.lw (n:Nat):PV -> Prop
 | .d c => c.lw n
 | .ag cs => lwL n cs
 | .tup vs => lwVs n vs
 | .raw _ => True
 | .ref _ _ => False
 | .pt _ => False
 | .fn _ vs => lwVs n vs
def lwVs (n:Nat):List PV -> Prop
 | [] => True
 | v :: vs => PV.lw n v /\ lwVs n vs
end
theorem zcn {n:Nat}:∀ {cs:List PC} (j:Nat) (c:PC),lwL n cs -> cs[j]? = some c -> c.lw n
 | c :: cs,0,_,h,e => by simp at e; subst e; exact h.1
 | c :: cs,j + 1,_,h,e => zcn j _ h.2 (by simpa using e)
theorem zcE {n:Nat}:∀ {cs:LP PC} (j:Nat) (c:List PC),lwLL n cs -> cs[j]? = some c -> lwL n c
 | c :: cs,0,_,h,e => by simp at e; subst e; exact h.1
 | c :: cs,j + 1,_,h,e => zcE j _ h.2 (by simpa using e)
theorem zb2 {n:Nat}:∀ {cs:List PV} (j:Nat) (c:PV),lwVs n cs -> cs[j]? = some c -> c.lw n
 | c :: cs,0,_,h,e => by simp at e; subst e; exact h.1
 | c :: cs,j + 1,_,h,e => zb2 j _ h.2 (by simpa using e)
mutual
theorem owned_lw {n:Nat}:∀ {c:PC},c.owned = true -> c.lw n
 | .v _,_ => by simp only [PC.lw]
 | .bld _ _ _ _,ho => by simp [PC.owned] at ho
 | .anyp,_ => by simp only [PC.lw]
 | .row _ _ _,ho => by simp [PC.owned] at ho
 | .sl t es,ho => by
  simp only [PC.owned,Bool.and_eq_true,Bool.or_eq_true,decide_eq_true_eq] at ho;simp only [PC.lw]
  rcases ho.1 with h0 | h0
  ·exact ownedLL_lw ho.2
  ·rw [isEmpty_iff.1 h0]; simp only [lwLL]
theorem zdC {n:Nat}:∀ {c:List PC},ownedL c = true -> lwL n c
 | [],_ => by simp only [lwL]
 | c :: cs,ho => by
  simp only [ownedL,Bool.and_eq_true] at ho;simp only [lwL];exact ⟨owned_lw ho.1,zdC ho.2⟩
theorem ownedLL_lw {n:Nat}:∀ {c:LP PC},ownedLL c = true -> lwLL n c
 | [],_ => by simp only [lwLL]
 | c :: cs,ho => by
  simp only [ownedLL,Bool.and_eq_true] at ho;simp only [lwLL];exact ⟨zdC ho.1,ownedLL_lw ho.2⟩
end
def Cx.cutB (C:Cx) (n:Nat):Cx:={ C with nb:=n }
theorem RpC.trim {C:Cx} {w:World} {n:Nat} {c:PC} {v:Value} (h:RpC C w c v):c.lw n -> RpC (C.cutB n) w c v:=by
 induction h with
 | v x h => intro _; exact .v x h
 | bld p T t U v h cs fz ht hv hU => intro hl; exact .bld (C:=C.cutB n) p T t U v hl cs fz ht hv hU
 | anyp a h => intro _; exact .anyp a h
 | row p l c h hl hc => intro hlw; exact .row (C:=C.cutB n) p l c hlw hl hc
 | emp a c => intro _; exact .emp a c
 | nil => intro _; exact .nil
 | nilo t h2 ht hb => intro _; exact .nilo (C:=C.cutB n) t h2 ht hb
 | rd es b o k c u hl hc hr h ih =>
  intro hf;simp only [PC.lw] at hf
  exact .rd (C:=C.cutB n) es b o k c u hl hc ⟨hr.pos,hr.wid,hr.cell,hr.fix⟩ fun i j e y he hy => ih i j e y he hy (zcn j y (zcE i e hf he) hy)
 | own t es b u h2 ht hb hlen hl hc hr h ih =>
  intro hf;simp only [PC.lw] at hf;exact .own (C:=C.cutB n) t es b u h2 ht hb hlen hl hc ⟨hr.pos,hr.wid,hr.cell,hr.fix⟩ fun i j e y he hy => ih i j e y he hy (zcn j y (zcE i e hf he) hy)
theorem RpL.trim {C:Cx} {w:World} {n:Nat} {cs:List PC} {vs:List Value} (h:RpL C w cs vs) (hl:lwL n cs):RpL (C.cutB n) w cs vs:=⟨h.1,fun j c y h1 h2 => (h.2 j c y h1 h2).trim (zcn j c hl h1)⟩
def Cx.reb (C:Cx) (n:Nat) (f:Nat -> Nat):Cx:={ C with nb:=n,bx:=f }
theorem RpC.reb {C:Cx} {w:World} {n:Nat} {f:Nat -> Nat} {c:PC} {v:Value} (h:RpC C w c v):c.lw 0 -> RpC (C.reb n f) w c v:=by
 induction h with
 | v x h => intro _; exact .v x h
 | bld p T t U v h cs fz ht hv hU => intro hl; exact absurd hl (Nat.not_lt_zero p)
 | anyp a h => intro _; exact .anyp a h
 | row p l c h hl hc => intro hlw; exact absurd hlw (Nat.not_lt_zero p)
 | emp a c => intro _; exact .emp a c
 | nil => intro _; exact .nil
 | nilo t h2 ht hb => intro _; exact .nilo (C:=C.reb n f) t h2 ht hb
 | rd es b o k c u hl hc hr h ih =>
  intro hf;simp only [PC.lw] at hf
  exact .rd (C:=C.reb n f) es b o k c u hl hc ⟨hr.pos,hr.wid,hr.cell,hr.fix⟩ fun i j e y he hy => ih i j e y he hy (zcn j y (zcE i e hf he) hy)
 | own t es b u h2 ht hb hlen hl hc hr h ih =>
  intro hf;simp only [PC.lw] at hf;exact .own (C:=C.reb n f) t es b u h2 ht hb hlen hl hc ⟨hr.pos,hr.wid,hr.cell,hr.fix⟩ fun i j e y he hy => ih i j e y he hy (zcn j y (zcE i e hf he) hy)
theorem RpL.reb {C:Cx} {w:World} {n:Nat} {f:Nat -> Nat} {cs:List PC} {vs:List Value} (h:RpL C w cs vs) (hl:lwL 0 cs):RpL (C.reb n f) w cs vs:=⟨h.1,fun j c y h1 h2 => (h.2 j c y h1 h2).reb (zcn j c hl h1)⟩
theorem RpV.reb {C:Cx} {w:World} {n:Nat} {f:Nat -> Nat} {x:PV} {v:Value} (h:RpV C w x v):x.lw 0 -> RpV (C.reb n f) w x v:=by
 induction h with
 | d x v h => intro hl; exact .d x v (h.reb (by simpa only [PV.lw] using hl))
 | ag cs vs h => intro hl; exact .ag cs vs (h.reb (by simpa only [PV.lw] using hl))
 | tup xs vs hl _ ih => intro hf; simp only [PV.lw] at hf; exact .tup xs vs hl fun j x y h1 h2 => ih j x y h1 h2 (zb2 j x hf h1)
 | ref p o h => intro hl; simp only [PV.lw] at hl
 | pt cs b o u hc hF h => intro hl; simp only [PV.lw] at hl
 | fn f xs vs hl h ih => intro hf; simp only [PV.lw] at hf; exact .fn f xs vs hl fun j x y h1 h2 => ih j x y h1 h2 (zb2 j x hf h1)
 | raw v => intro _; exact .raw v
theorem FnG.lift1 {E:Env} {f:Nat} {args:List PV} {c:List PC} {nt:Nat} {live:List Nat} {R:PV -> List PC -> Nat -> List Nat -> Prop}
  (h:FnG E f (.ref 0 0 :: args) [c] nt live (fun x b n l => ∃ c' rest,b = c' :: rest /\ x.lw 0 /\ lwL 0 c' /\ R x c' n l)) (ha:lwVs 0 args) (hc:lwL 0 c) {bx:LP PC} {p:Nat} (hp:bx[p]? = some c) :
  FnG E f (.ref p 0 :: args) bx nt live (fun x b n l => ∃ c',b = bx.set p c' /\ R x c' n l):=by
 intro C w vs hI hnt hold hn2 hlen hv
 have hplt:p < bx.length:=by
  rcases Nat.lt_or_ge p bx.length with h' | h'
  ·exact h'
  ·rw [getElem?_eq_none h'] at hp; cases hp
 have hnb:=hI.nb
 have hI1:Inv E.NG E.T (C.reb 1 fun _ => C.bx p) [c] (· ∈ live) w:=by
  refine ⟨rfl,fun q cs hq => ?_,fun q _ => hI.boxF p hplt,fun q _ => hI.boxG p hplt,fun q r hq hr _ => ?_,fun t ht => ?_,hI.tinj,hI.fin,hI.ng,hI.t⟩
  ·match q with
   | 0 =>
    simp only [getElem?_cons_zero,sI] at hq; subst hq
    obtain ⟨vs,e,h1,h2⟩:=hI.box p _ hp
    exact ⟨vs,e,h1,h2.reb hc⟩
   | q + 1 => simp at hq
  ·simp only [length_singleton] at hq hr; omega
  ·obtain ⟨a1,a2,a3⟩:=hI.tok t ht
   refine ⟨a1,a2,a3.imp id ?_⟩;rintro ⟨b,cur,e,c1,c2,c3,c4,c5,c6,c7,c8,c9,c10⟩;exact ⟨b,cur,e,c1,c2,c3,c4,c5,c6,c7,c8,c9,fun q _ => c10 p hplt⟩
 have hv1:∀ (j:Nat) (x:PV) (y:Value),(PV.ref 0 0 :: args)[j]? = some x -> vs[j]? = some y -> RpV (C.reb 1 fun _ => C.bx p) w x y:=by
  intro j x y hx hy
  match j with
  | 0 =>
   simp only [getElem?_cons_zero,sI] at hx; subst hx
   have:=hv 0 _ y rfl hy
   cases this
   exact RpV.ref (C:=C.reb 1 fun _ => C.bx p) 0 0 (by show 0 < 1; omega)
  | j + 1 =>
   rw [getElem?_cons_succ] at hx;exact (hv (j + 1) x y (by rw [getElem?_cons_succ]; exact hx) hy).reb (zb2 j x ha hx)
 refine (h (C.reb 1 fun _ => C.bx p) w vs hI1 hnt hold hn2 (by simpa using hlen) hv1).mono ?_;rintro e w' ⟨u,x,b,n,l,C1,rfl,⟨c',rest,rfl,k1,k2,k3⟩,I1,hn,E1,hx⟩;have hb0:C1.bx 0 = C.bx p:=E1.bx.2 0 (by show 0 < 1; omega);have hle:CxLe C (C1.reb C.nb C.bx):=⟨E1.F,lR,fun _ _ => rfl,E1.tk.1,E1.tk.2⟩;have hF:Fix C w w':=E1.fix
 have hnotok:∀ q,q < bx.length -> ∀ t,t ∈ live -> C.tk t ≠ some (C.bx q):=by
  intro q hq t ht he;obtain ⟨_,_,⟨z,_⟩ | ⟨b,cur,e,c1,c2,c3,c4,c5,c6,c7,c8,c9,c10⟩⟩:=hI.tok t ht
  ·rw [he] at z; cases z
  ·rw [he] at c1; simp only [sI] at c1; subst c1; exact c10 q hq rfl
 have hold2:∀ t,(C.reb 1 fun _ => C.bx p).old t -> t ∈ live:=fun t ht => by
  have:C.old t:=ht
  rw [hold] at this; exact this
 refine ⟨u,x,bx.set p c',n,l,C1.reb C.nb C.bx,rfl,⟨c',rfl,k3⟩,?_,hn,?_,hx.reb k1⟩
 ·refine ⟨by rw [length_set]; exact hnb,fun q cs hq => ?_,fun q hq o hFo => ?_,by rw [length_set]; exact hI.boxG,by rw [length_set]; exact hI.inj,fun t ht => ?_,I1.tinj,I1.fin,I1.ng,I1.t⟩
  ·by_cases hqp:q = p
   ·subst hqp
    rw [getElem?_set_self hplt] at hq;simp only [sI] at hq; subst hq
    obtain ⟨vs,e,h1,h2⟩:=I1.box 0 c' rfl;rw [hb0] at h1;exact ⟨vs,e,h1,h2.reb k2⟩
   ·rw [getElem?_set_ne (fun h => hqp h.symm)] at hq
    have hqlt:q < bx.length:=by
     rcases Nat.lt_or_ge q bx.length with h' | h'
     ·exact h'
     ·rw [getElem?_eq_none h'] at hq; cases hq
    obtain ⟨vs,e,h1,h2⟩:=hI.box q cs hq;refine ⟨vs,e,(E1.block (C.bx q) (zaq h1) (fun r _ he => hqp (hI.inj q p hqlt hplt he.symm)) (fun t ht he => hnotok q hqlt t (hold2 t ht) he)).trans h1,h2.frame hle hF⟩
  ·rw [length_set] at hq
   rcases E1.newF (C.bx q) o hFo with h1 | h1 | ⟨s,h1,h2⟩
   ·exact hI.boxF q hq o h1
   ·have:=hI.lt hq; omega
   ·exact hnotok q hq s (hold2 s h1) h2
  ·obtain ⟨a1,a2,a3⟩:=I1.tok t ht
   refine ⟨a1,a2,a3.imp id ?_⟩;rintro ⟨b,cur,e,c1,c2,c3,c4,c5,c6,c7,c8,c9,c10⟩;refine ⟨b,cur,e,c1,c2,c3,c4,c5,c6,c7,c8,c9,fun q hq he => ?_⟩;rw [length_set] at hq;have he:C.bx q = b:=he
   rcases E1.newT t b ht c1 with h1 | ⟨s,h1,h2⟩
   ·have:=hI.lt hq; omega
   ·exact hnotok q hq s (hold2 s h1) (by rw [he]; exact h2)
 ·exact ⟨E1.os,E1.tape,E1.output,E1.size,E1.F,E1.fix,fun k hk hne ho => E1.block k hk (fun r _ => hne p (by omega)) ho,⟨lR,fun _ _ => rfl⟩,E1.newF,E1.newT,fun q hq hq2 => by rw [length_set] at hq2; omega,E1.tk⟩
/-! ### trees -/
theorem zbH {E:Env} {K:St -> Prop} {m:MOpr} {a n:RT} {s:St} (h1:po E [m] (pt E K a) s) (h2:pt E K n s):pt E K (.alt m a n) s:=⟨h1,h2⟩
theorem zbf {E:Env} {K:St -> Prop} {qs:List MOpr} {a:RT} {s:St} (h:po E qs (fun s => (a.isLeaf = true -> K s) /\ pt E K a s) s):pt E K (.node qs a) s:=h
theorem zbq {E:Env} {K:St -> Prop} {s:St}:pt E K .leaf s:=trivial
theorem zcQ {E:Env} {K:St -> Prop} {s:St} (h:K s):(RT.leaf.isLeaf = true -> K s) /\ pt E K .leaf s:=⟨fun _ => h,trivial⟩
theorem zbr {E:Env} {K:St -> Prop} {m:MOpr} {a n:RT} {s:St} (h:pt E K (.alt m a n) s):((RT.alt m a n).isLeaf = true -> K s) /\ pt E K (.alt m a n) s:=⟨fun h => (Bool.noConfusion h:K s),h⟩
/-! ### steps -/
def MO.plain:MO -> Bool
 | .mv _ | .load .. | .fld .. | .field .. | .ext .. | .nilc _ | .not _ | .build .. | .lens _ | .b2s _ | .litq .. | .mkfn .. | .pick .. => true
 | _ => false
section
variable {E:Env} {K:St -> Prop} {tm:Nat -> PV} {bx:LP PC} {nt d:Nat} {live:List Nat} {r:List MOpr} {g:Option (Nat × Bool)} {c:List X} {o:MO} {x y:X}
theorem po_s {v:PV} (_ho:o.plain = true) (hg:gd g tm = some true) (hq:qf (ev tm) bx o = some v) (h:po E r K ⟨up d v tm,bx,nt,live⟩):po E (⟨some d,o,g,c⟩ :: r) K ⟨tm,bx,nt,live⟩:=po_q hg hq h
theorem zal {e:Bool} (hg:gd g tm = some true) (hq:qf (ev tm) bx o = some (.d (.v (.bool e)))) (he:e = false) (h:po E r K ⟨up d (.d (.v (.bool false))) tm,bx,nt,live⟩):po E (⟨some d,o,g,c⟩ :: r) K ⟨tm,bx,nt,live⟩:=by subst he; exact po_q hg hq h
theorem zaf {e:Bool} (hg:gd g tm = some true) (hq:qf (ev tm) bx o = some (.d (.v (.bool e)))) (he:e = true) (h:po E r K ⟨up d (.d (.v (.bool true))) tm,bx,nt,live⟩):po E (⟨some d,o,g,c⟩ :: r) K ⟨tm,bx,nt,live⟩:=by subst he; exact po_q hg hq h
theorem zaA {t n:Nat} {es:LP PC} (hg:gd g tm = some true) (hx:ev tm x = .d (.sl t es)) (hn:es.length = n) (h:po E r K ⟨up d (.d (pI n)) tm,bx,nt,live⟩):po E (⟨some d,.len x,g,c⟩ :: r) K ⟨tm,bx,nt,live⟩:=by
 refine po_q hg ?_ h;simp only [qf,hx,hn]; rfl
theorem zf9 {k kk:IntKind} {a n:Int} (hg:gd g tm = some true) (hx:ev tm x = .d (.v (.int kk a))) (hn:k.wrap a = n) (h:po E r K ⟨up d (.d (.v (.int k n))) tm,bx,nt,live⟩):po E (⟨some d,.conv k x,g,c⟩ :: r) K ⟨tm,bx,nt,live⟩:=by
 refine po_q hg ?_ h;simp only [qf,hx,hn]
theorem po_mv {v:PV} (hg:gd g tm = some true) (hx:ev tm x = v) (h:po E r K ⟨up d v tm,bx,nt,live⟩):po E (⟨some d,.mv x,g,c⟩ :: r) K ⟨tm,bx,nt,live⟩:=by
 subst hx; exact po_q hg rfl h
theorem pm {v:PV} (h:po E r K ⟨up d v tm,bx,nt,live⟩) (hg:gd g tm = some true:=by exact rfl) (hx:ev tm x = v:=by conv => lhs; whnf):po E (⟨some d,.mv x,g,c⟩ :: r) K ⟨tm,bx,nt,live⟩:=po_mv hg hx h
theorem pq {v:PV} (h:po E r K ⟨up d v tm,bx,nt,live⟩) (ho:o.plain = true:=by exact rfl) (hg:gd g tm = some true:=by exact rfl) (hq:qf (ev tm) bx o = some v:=by exact rfl):po E (⟨some d,o,g,c⟩ :: r) K ⟨tm,bx,nt,live⟩:=po_s ho hg hq h
theorem px {cs:List PC} (h:po E r K ⟨up d (.ref bx.length 0) tm,bx ++ [cs],nt,live⟩) (hq:pcells (ev tm x) = some cs:=by exact rfl):po E (⟨some d,.box x,none,[]⟩ :: r) K ⟨tm,bx,nt,live⟩:=zax hq h
theorem ze4 {l:L8} {j:Int} {k:Nat} {b:UInt8} {kk:IntKind} (hg:gd g tm = some true) (hx:ev tm x = .d (pS l)) (hi:ev tm y = .d (.v (.int kk j))) (hj:j = k) (hb:l[k]? = some b) (h:po E r K ⟨up d (.d (.v (.int .u8 b.toNat))) tm,bx,nt,live⟩):po E (⟨some d,.ixs x y,g,c⟩ :: r) K ⟨tm,bx,nt,live⟩:=by
 refine po_q hg ?_ h;subst hj;simp only [qf,hx,hi,pS];rw [if_pos (by omega)];simp [hb]
theorem po_slcs {l rs:L8} {lo hi:Option X} {a b:Nat} (hg:gd g tm = some true) (hx:ev tm x = .d (pS l)) (hlo:bound (ev tm) 0 lo = some a) (hhi:bound (ev tm) l.length hi = some b) (hle:a <= b /\ b <= l.length) (hr:(l.drop a).take (b - a) = rs) (h:po E r K ⟨up d (.d (pS rs)) tm,bx,nt,live⟩):po E (⟨some d,.slcs x lo hi,g,c⟩ :: r) K ⟨tm,bx,nt,live⟩:=by
 refine po_q hg ?_ h;subst hr;simp only [qf,hx,pS];rw [hlo,hhi];simp only;rw [if_pos hle]
theorem za9 {e:X -> PV} {dft k:Nat} {x:X} {kk:IntKind} {i:Int} (h:e x = .d (.v (.int kk i))) (hi:i = k):bound e dft (some x) = some k:=by
 subst hi;simp only [bound,h]; rw [if_pos (by omega)]; simp
end
theorem zb9 {E:Env} {B:Base} {Q:Exit -> St -> Prop} {s:St} {x:X} {a b:M} {t:Bool} {p:Prop} [Decidable p] (ht:t = decide p) (hx:ev s.tm x = .d (.v (.bool t))) (h1:p -> t = true -> mw E B a Q s) (h2:¬ p -> t = false -> mw E B b Q s):mw E B (.cond x a b) Q s :=
 zeu hx (fun h => h1 (of_decide_eq_true (ht.symm.trans h)) h) (fun h => h2 (of_decide_eq_false (ht.symm.trans h)) h)
theorem ze5 {E:Env} {B:Base} {Q:Exit -> St -> Prop} {s:St} {x:X} {a b:M} {p:Prop} [Decidable p] (hx:ev s.tm x = .d (.v (.bool (decide p)))) (h1:p -> mw E B a Q s) (h2:¬ p -> mw E B b Q s):mw E B (.cond x a b) Q s :=
 zeu hx (fun h => h1 (of_decide_eq_true h)) (fun h => h2 (of_decide_eq_false h))
end
section
section
variable {E:Env} {K:St -> Prop} {tm:Nat -> PV} {bx:LP PC} {nt d:Nat} {live:List Nat} {r:List MOpr} {g:Option (Nat × Bool)} {c:List X} {x y:X}
theorem po_neS {la lb:L8} {f:Bool} {e:Bool} (hg:gd g tm = some true) (hx:ev tm x = .d (pS la)) (hy:ev tm y = .d (pS lb)) (he:decide (la ≠ lb) = e) (h:po E r K ⟨up d (.d (pB e)) tm,bx,nt,live⟩):po E (⟨some d,.bin .neq f x y,g,c⟩ :: r) K ⟨tm,bx,nt,live⟩:=by
 refine po_q hg ?_ h;subst he;simp only [qf,hx,hy,pS];show some (PV.d (.v (.bool (!((ByteArray.mk la.toArray).toList == (ByteArray.mk lb.toArray).toList))))) = _;rw [ByteArray.toList_eq,ByteArray.toList_eq];show some (PV.d (.v (.bool (!(la == lb))))) = some (PV.d (.v (.bool (decide (la ≠ lb)))));have e:(!(la == lb)) = decide (la ≠ lb):=by by_cases h:la = lb <;> simp [h]
 rw [e]
end
section
variable {E:Env} {K:St -> Prop} {tm:Nat -> PV} {bx:LP PC} {nt d:Nat} {live:List Nat} {r:List MOpr} {g:Option (Nat × Bool)} {c:List X} {x y:X}
end
theorem zec {E:Env} {K:St -> Prop} {tm:Nat -> PV} {bx:LP PC} {nt d:Nat} {live:List Nat} {r:List MOpr} {g:Option (Nat × Bool)} {c:List X} {x y:X} {la lb:L8} {f:Bool} (hg:gd g tm = some true) (hx:ev tm x = .d (pS la)) (hy:ev tm y = .d (pS lb)) (h:po E r K ⟨up d (.d (pB (decide (la = lb)))) tm,bx,nt,live⟩):po E (⟨some d,.bin .eql f x y,g,c⟩ :: r) K ⟨tm,bx,nt,live⟩:=by
 refine po_q hg ?_ h;simp only [qf,hx,hy,pS];show some (PV.d (.v (.bool ((ByteArray.mk la.toArray).toList == (ByteArray.mk lb.toArray).toList)))) = _;rw [ByteArray.toList_eq,ByteArray.toList_eq];show some (PV.d (.v (.bool (la == lb)))) = _;by_cases h:la = lb
 ·subst h; simp [pB]
 ·simp [h,pB]
theorem rw_one {z cells:List PC} {m i:Nat} (hc:cells = z.take m) (hi:i < cells.length):(z.drop i).take 1 = [cells[i]]:=by
 subst hc;rw [length_take] at hi;rw [getElem_take,drop_eq_getElem_cons (by omega)]; rfl
end
section
theorem FnG.lift0 {E:Env} {f:Nat} {args:List PV} {nt:Nat} {live:List Nat} {R:PV -> Nat -> List Nat -> Prop}
  (h:FnG E f args [] nt live (fun x _ n l => x.lw 0 /\ R x n l)) (ha:lwVs 0 args) {bx:LP PC} :
  FnG E f args bx nt live (fun x b n l => b = bx /\ R x n l):=by
 intro C w vs hI hnt hold hn2 hlen hv;have hnb:=hI.nb
 have hI1:Inv E.NG E.T (C.reb 0 fun _ => 0) [] (· ∈ live) w:=by
  refine ⟨rfl,fun q cs hq => by simp at hq,fun q hq => by simp at hq,fun q hq => by simp at hq,fun q r hq => by simp at hq,fun t ht => ?_,hI.tinj,hI.fin,hI.ng,hI.t⟩;obtain ⟨a1,a2,a3⟩:=hI.tok t ht;refine ⟨a1,a2,a3.imp id ?_⟩;rintro ⟨b,cur,e,c1,c2,c3,c4,c5,c6,c7,c8,c9,c10⟩;exact ⟨b,cur,e,c1,c2,c3,c4,c5,c6,c7,c8,c9,fun q hq => by simp at hq⟩
 have hv1:∀ (j:Nat) (x:PV) (y:Value),args[j]? = some x -> vs[j]? = some y -> RpV (C.reb 0 fun _ => 0) w x y:=fun j x y hx hy => (hv j x y hx hy).reb (zb2 j x ha hx)
 refine (h (C.reb 0 fun _ => 0) w vs hI1 hnt hold hn2 hlen hv1).mono ?_;rintro e w' ⟨u,x,b,n,l,C1,rfl,⟨k1,k3⟩,I1,hn,E1,hx⟩;have hle:CxLe C (C1.reb C.nb C.bx):=⟨E1.F,lR,fun _ _ => rfl,E1.tk.1,E1.tk.2⟩;have hF:Fix C w w':=E1.fix
 have hnotok:∀ q,q < bx.length -> ∀ t,t ∈ live -> C.tk t ≠ some (C.bx q):=by
  intro q hq t ht he;obtain ⟨_,_,⟨z,_⟩ | ⟨b,cur,e,c1,c2,c3,c4,c5,c6,c7,c8,c9,c10⟩⟩:=hI.tok t ht
  ·rw [he] at z; cases z
  ·rw [he] at c1; simp only [sI] at c1; subst c1; exact c10 q hq rfl
 have hold2:∀ t,(C.reb 0 fun _ => 0).old t -> t ∈ live:=fun t ht => by
  have:C.old t:=ht
  rw [hold] at this; exact this
 refine ⟨u,x,bx,n,l,C1.reb C.nb C.bx,rfl,⟨rfl,k3⟩,?_,hn,?_,hx.reb k1⟩
 ·refine ⟨hnb,fun q cs hq => ?_,fun q hq o hFo => ?_,hI.boxG,hI.inj,fun t ht => ?_,I1.tinj,I1.fin,I1.ng,I1.t⟩
  ·have hqlt:q < bx.length:=by
    rcases Nat.lt_or_ge q bx.length with h' | h'
    ·exact h'
    ·rw [getElem?_eq_none h'] at hq; cases hq
   obtain ⟨vs,e,h1,h2⟩:=hI.box q cs hq;exact ⟨vs,e,(E1.block (C.bx q) (zaq h1) (fun r hr => by simp [Cx.reb] at hr) (fun t ht he => hnotok q hqlt t (hold2 t ht) he)).trans h1,h2.frame hle hF⟩
  ·rcases E1.newF (C.bx q) o hFo with h1 | h1 | ⟨s,h1,h2⟩
   ·exact hI.boxF q hq o h1
   ·have:=hI.lt hq; omega
   ·exact hnotok q hq s (hold2 s h1) h2
  ·obtain ⟨a1,a2,a3⟩:=I1.tok t ht
   refine ⟨a1,a2,a3.imp id ?_⟩;rintro ⟨b,cur,e,c1,c2,c3,c4,c5,c6,c7,c8,c9,c10⟩;refine ⟨b,cur,e,c1,c2,c3,c4,c5,c6,c7,c8,c9,fun q hq he => ?_⟩;have he:C.bx q = b:=he
   rcases E1.newT t b ht c1 with h1 | ⟨s,h1,h2⟩
   ·have:=hI.lt hq; omega
   ·exact hnotok q hq s (hold2 s h1) (by rw [he]; exact h2)
 ·exact ⟨E1.os,E1.tape,E1.output,E1.size,E1.F,E1.fix,fun k hk hne ho => E1.block k hk (fun r hr => by simp [Cx.reb] at hr) ho,⟨lR,fun _ _ => rfl⟩,E1.newF,E1.newT,fun q hq hq2 => by omega,E1.tk⟩
section
variable {E:Env} {d:Nat} {r:List MOpr} {K:St -> Prop} {tm:Nat -> PV} {bx:LP PC} {nt:Nat} {live:List Nat}
theorem za0 {α:Type} (l:List α) (x:α):(l ++ [x])[l.length]? = some x:=by rw [getElem?_append_right lR,Nat.sub_self]; rfl
theorem zbb {n:Nat} {z:List Value} {x:X} {cs:List PC} {c:List X} (hx:pcells (ev (up d (.ref bx.length 0) tm) x) = some cs) (hn:cs.length = n) (hz:z.length = n) (hc:c.all (apartX (ev (up d (.ref bx.length 0) tm)) (.t d)) = true)
  (h:po E r K ⟨up d (.ref bx.length 0) tm,bx ++ [cs],nt,live⟩):po E (⟨some d,.zero z,none,[]⟩ :: ⟨none,.store n (.t d) x,none,c⟩ :: r) K ⟨tm,bx,nt,live⟩:=by
 refine za2 ?_;have hz0:(bx ++ [z.map ofC])[bx.length]? = some (z.map ofC):=za0 _ _
 have ha:ev (up d (.ref bx.length 0) tm) (.t d) = .ref bx.length 0:=by
  show up d (.ref bx.length 0) tm d = _;rw [<- up_eq]; exact if_pos rfl
 refine zas ha hx hz0 ⟨hn,by rw [length_map]; omega⟩ hc ?_
 have e1:spl (z.map ofC) 0 cs = cs:=by
  unfold spl;rw [take_zero,nil_append,drop_of_length_le (by rw [length_map]; omega),append_nil]
 have e2:(bx ++ [z.map ofC]).set bx.length cs = bx ++ [cs]:=by
  rw [set_append_right _ _ lR,Nat.sub_self]; rfl
 rw [e1,e2]; exact h
theorem zaZ {ag:Bool} {n p o:Nat} {x:X} {c:List X} {g:Option (Nat × Bool)} {cs:List PC} {v:PV} (hg:gd g tm = some true) (hx:ev tm x = .ref p o) (hb:bx[p]? = some cs) (hn:o + n <= cs.length) (hv:ldv ag ((cs.drop o).take n) = some v)
  (h:po E r K ⟨up d v tm,bx,nt,live⟩):po E (⟨some d,.load ag n x,g,c⟩ :: r) K ⟨tm,bx,nt,live⟩:=by
 refine po_q hg ?_ h;simp only [qf,hx,hb,if_pos hn,hv]
theorem zcR {n t p t2:Nat} {cs:List PC} {v:PV} (ht:tm t = .ref p 0) (hb:bx[p]? = some cs) (hn:cs.length = n) (h2:tm t2 = v):ressM ⟨tm,bx,nt,live⟩ [.cell true n t,.tm t2] = some [.ag cs,v]:=by
 simp only [ressM,resM,ht,hb,Nat.zero_add,drop_zero,ldv,hn,Nat.le_refl,if_true,h2];rw [<- hn,take_length]
end
end
section
def okB:PC -> Prop
 | .row _ _ _ => True
 | c => c.lw 0
theorem okB_of {c:PC} (h:c.lw 0):okB c:=by
 cases c with
 | row p l c => trivial
 | _ => exact h
open Classical in
noncomputable def PC.shB (k:Nat) (c:PC):PC:=if okB c then (match c with | .row p l c => .row (p + k) l c | c => c) else .anyp
theorem shB_row (k p l c:Nat):PC.shB k (.row p l c) = .row (p + k) l c:=if_pos trivial
theorem zdD {k:Nat} {c:PC} (h:c.lw 0):c.shB k = c:=by
 unfold PC.shB;rw [if_pos (okB_of h)]
 cases c with
 | row p l c => exact absurd h (Nat.not_lt_zero p)
 | _ => rfl
theorem zga {k:Nat}:∀ {cs:List PC},lwL 0 cs -> cs.map (PC.shB k) = cs
 | [],_ => rfl
 | c :: cs,h => by rw [map_cons,zdD h.1,zga h.2]
mutual
noncomputable def PV.shB (k:Nat):PV -> PV
 | .d c => .d (c.shB k)
 | .ag cs => .ag (cs.map (PC.shB k))
 | .tup vs => .tup (shBs k vs)
 | .ref p o => .ref (p + k) o
 | .pt cs => .pt (cs.map (PC.shB k))
 | .fn f vs => .fn f (shBs k vs)
 | .raw v => .raw v
noncomputable def shBs (k:Nat):List PV -> List PV
 | [] => []
 | v :: vs => PV.shB k v :: shBs k vs
end
theorem zdc (k:Nat):∀ vs:List PV,shBs k vs = vs.map (PV.shB k)
 | [] => rfl
 | v :: vs => by simp only [shBs,map_cons,zdc k vs]
section
variable {C:Cx} {w:World} {k n:Nat} {f:Nat -> Nat}
theorem rp_shB {c:PC} {v:Value} (h:RpC C w c v) (hf:∀ p,p < C.nb -> p + k < n /\ f (p + k) = C.bx p):RpC (C.reb n f) w (c.shB k) v:=by
 unfold PC.shB;by_cases ho:okB c
 ·rw [if_pos ho]
  cases c with
  | row p l c => cases h with
   | row _ _ _ h1 h2 h3 =>
    obtain ⟨a1,a2⟩:=hf p h1
    have:=RpC.row (C:=C.reb n f) (w:=w) (p + k) l c a1 h2 h3
    rw [show (C.reb n f).bx (p + k) = C.bx p from a2] at this; exact this
  | v x => exact RpC.reb (c:=.v x) h ho
  | sl t es => exact RpC.reb (c:=.sl t es) h ho
  | anyp => exact RpC.reb (c:=.anyp) h ho
  | bld p T t U => exact absurd ho (Nat.not_lt_zero p)
 ·rw [if_neg ho]; exact .anyp v h.one
theorem rpL_shB {cs:List PC} {vs:List Value} (h:RpL C w cs vs) (hf:∀ p,p < C.nb -> p + k < n /\ f (p + k) = C.bx p):RpL (C.reb n f) w (cs.map (PC.shB k)) vs:=by
 refine ⟨by rw [length_map]; exact h.1,fun j c y h1 h2 => ?_⟩;rw [getElem?_map] at h1
 cases hj:cs[j]? with
 | none => rw [hj] at h1; cases h1
 | some c0 =>
  rw [hj] at h1; simp only [Option.map_some,sI] at h1; subst h1
  exact rp_shB (h.2 j c0 y hj h2) hf
theorem rpV_shB {x:PV} {v:Value} (h:RpV C w x v) (hf:∀ p,p < C.nb -> p + k < n /\ f (p + k) = C.bx p):RpV (C.reb n f) w (x.shB k) v:=by
 have conv:∀ (xs:List PV) (vs:List Value),(∀ (j:Nat) (x:PV) (y:Value),xs[j]? = some x -> vs[j]? = some y -> RpV (C.reb n f) w (x.shB k) y) -> ∀ (j:Nat) (x:PV) (y:Value),(shBs k xs)[j]? = some x -> vs[j]? = some y -> RpV (C.reb n f) w x y:=by
  intro xs vs ih j x y h1 h2;rw [zdc,getElem?_map] at h1
  cases hj:xs[j]? with
  | none => rw [hj] at h1; cases h1
  | some c0 =>
   rw [hj] at h1; simp only [Option.map_some,sI] at h1; subst h1
   exact ih j c0 y hj h2
 induction h with
 | d x v h => exact .d _ v (rp_shB h hf)
 | ag cs vs h => exact .ag _ vs (rpL_shB h hf)
 | tup xs vs hl _ ih => exact .tup _ vs (by rw [zdc,length_map]; exact hl) (conv xs vs ih)
 | raw v => exact .raw v
 | ref p o h =>
  obtain ⟨a1,a2⟩:=hf p h
  have:=RpV.ref (C:=C.reb n f) (w:=w) (p + k) o a1
  rw [show (C.reb n f).bx (p + k) = C.bx p from a2] at this; exact this
 | pt cs b o u hc hF h =>
  refine .pt _ b o u (fun j hj => hc j (by simpa using hj)) (fun j hj => hF j (by simpa using hj)) fun j c hj => ?_
  rw [getElem?_map] at hj
  cases hh:cs[j]? with
  | none => rw [hh] at hj; cases hj
  | some c0 =>
   rw [hh] at hj; simp only [Option.map_some,sI] at hj; subst hj
   exact rp_shB (h j c0 hh) hf
 | fn f xs vs hl h ih => exact .fn f _ vs (by rw [zdc,length_map]; exact hl) (conv xs vs ih)
end
theorem FnG.liftR {E:Env} {f:Nat} {args:List PV} {nt:Nat} {live:List Nat} {R:PV -> LP PC -> Nat -> List Nat -> Prop}
  (h:FnG E f args [] nt live R) (ha:lwVs 0 args) {bx:LP PC} :
  FnG E f args bx nt live (fun x b n l => ∃ x0 b0,x = x0.shB bx.length /\ b = bx ++ b0.map (·.map (PC.shB bx.length)) /\ R x0 b0 n l):=by
 intro C w vs hI hnt hold hn2 hlen hv;have hnb:=hI.nb
 have hI1:Inv E.NG E.T (C.reb 0 fun _ => 0) [] (· ∈ live) w:=by
  refine ⟨rfl,fun q cs hq => by simp at hq,fun q hq => by simp at hq,fun q hq => by simp at hq,fun q r hq => by simp at hq,fun t ht => ?_,hI.tinj,hI.fin,hI.ng,hI.t⟩;obtain ⟨a1,a2,a3⟩:=hI.tok t ht;refine ⟨a1,a2,a3.imp id ?_⟩;rintro ⟨b,cur,e,c1,c2,c3,c4,c5,c6,c7,c8,c9,c10⟩;exact ⟨b,cur,e,c1,c2,c3,c4,c5,c6,c7,c8,c9,fun q hq => by simp at hq⟩
 have hv1:∀ (j:Nat) (x:PV) (y:Value),args[j]? = some x -> vs[j]? = some y -> RpV (C.reb 0 fun _ => 0) w x y:=fun j x y hx hy => (hv j x y hx hy).reb (zb2 j x ha hx)
 refine (h (C.reb 0 fun _ => 0) w vs hI1 hnt hold hn2 hlen hv1).mono ?_;rintro e w' ⟨u,x,b,n,l,C1,rfl,k3,I1,hn,E1,hx⟩;have hn1:=I1.nb;obtain ⟨g,hg⟩:∃ g:Nat -> Nat,g = fun p => if p < bx.length then C.bx p else C1.bx (p - bx.length):=⟨_,rfl⟩
 have g0:∀ p,p < bx.length -> g p = C.bx p:=fun p hp => by rw [hg]; exact if_pos hp
 have g1:∀ p,g (p + bx.length) = C1.bx p:=fun p => by rw [hg]; show (if p + bx.length < bx.length then _ else _) = _; rw [if_neg (by omega),Nat.add_sub_cancel]
 have hle:CxLe C (C1.reb (bx.length + b.length) g):=⟨E1.F,by show C.nb <= bx.length + b.length; omega,fun p hp => g0 p (by omega),E1.tk.1,E1.tk.2⟩;have hF:Fix C w w':=E1.fix;have hsh:∀ p,p < C1.nb -> p + bx.length < bx.length + b.length /\ g (p + bx.length) = C1.bx p:=fun p hp => ⟨by omega,g1 p⟩
 have hnotok:∀ q,q < bx.length -> ∀ t,t ∈ live -> C.tk t ≠ some (C.bx q):=by
  intro q hq t ht he;obtain ⟨_,_,⟨z,_⟩ | ⟨b,cur,e,c1,c2,c3,c4,c5,c6,c7,c8,c9,c10⟩⟩:=hI.tok t ht
  ·rw [he] at z; cases z
  ·rw [he] at c1; simp only [sI] at c1; subst c1; exact c10 q hq rfl
 have hold2:∀ t,(C.reb 0 fun _ => 0).old t -> t ∈ live:=fun t ht => by
  have:C.old t:=ht
  rw [hold] at this; exact this
 have hnewB:∀ p,p < b.length -> w.heap.size <= C1.bx p:=fun p hp => E1.newB p (Nat.zero_le _) hp
 have split:∀ q,q < (bx ++ b.map (·.map (PC.shB bx.length))).length -> q < bx.length \/ ∃ p,p < b.length /\ q = p + bx.length:=fun q hq => by
  rw [length_append,length_map] at hq
  rcases Nat.lt_or_ge q bx.length with h' | h'
  ·exact .inl h'
  ·exact .inr ⟨q - bx.length,by omega,by omega⟩
 refine ⟨u,x.shB bx.length,bx ++ b.map (·.map (PC.shB bx.length)),n,l,C1.reb (bx.length + b.length) g,rfl,⟨x,b,rfl,rfl,k3⟩,?_,hn,?_,rpV_shB hx hsh⟩
 ·refine ⟨by rw [length_append,length_map]; rfl,fun q cs hq => ?_,fun q hq o hFo => ?_,fun q hq => ?_,fun p q hp hq he => ?_,fun t ht => ?_,I1.tinj,I1.fin,I1.ng,I1.t⟩
  ·have hlt:q < (bx ++ b.map (·.map (PC.shB bx.length))).length:=by
    rcases Nat.lt_or_ge q (bx ++ b.map (·.map (PC.shB bx.length))).length with h' | h'
    ·exact h'
    ·rw [getElem?_eq_none h'] at hq; cases hq
   rcases split q hlt with hql | ⟨p,hp,rfl⟩
   ·rw [getElem?_append_left hql] at hq
    obtain ⟨vs,e,h1,h2⟩:=hI.box q cs hq;refine ⟨vs,e,?_,h2.frame hle hF⟩;show w'.heap[g q]? = _;rw [g0 q hql];exact (E1.block (C.bx q) (zaq h1) (fun r hr => by simp [Cx.reb] at hr) (fun t ht he => hnotok q hql t (hold2 t ht) he)).trans h1
   ·rw [getElem?_append_right (by omega),Nat.add_sub_cancel,getElem?_map] at hq
    cases hb:b[p]? with
    | none => rw [hb] at hq; cases hq
    | some c0 =>
     rw [hb] at hq; simp only [Option.map_some,sI] at hq; subst hq
     obtain ⟨vs,e,h1,h2⟩:=I1.box p c0 hb;refine ⟨vs,e,?_,rpL_shB h2 hsh⟩;show w'.heap[g (p + bx.length)]? = _;rw [g1]; exact h1
  ·have hFo:C1.F (g q) o:=hFo
   rcases split q hq with hql | ⟨p,hp,rfl⟩
   ·rw [g0 q hql] at hFo
    rcases E1.newF (C.bx q) o hFo with h1 | h1 | ⟨s,h1,h2⟩
    ·exact hI.boxF q hql o h1
    ·have:=hI.lt hql; omega
    ·exact hnotok q hql s (hold2 s h1) h2
   ·rw [g1] at hFo; exact I1.boxF p hp o hFo
  ·show E.NG <= g q
   rcases split q hq with hql | ⟨p,hp,rfl⟩
   ·rw [g0 q hql]; exact hI.boxG q hql
   ·rw [g1]; exact I1.boxG p hp
  ·have he:g p = g q:=he
   rcases split p hp with hpl | ⟨p',hp',rfl⟩ <;> rcases split q hq with hql | ⟨q',hq',rfl⟩
   ·rw [g0 p hpl,g0 q hql] at he; exact hI.inj p q hpl hql he
   ·rw [g0 p hpl,g1] at he; have:=hI.lt hpl; have:=hnewB q' hq'; omega
   ·rw [g0 q hql,g1] at he; have:=hI.lt hql; have:=hnewB p' hp'; omega
   ·rw [g1,g1] at he; rw [I1.inj p' q' hp' hq' he]
  ·obtain ⟨a1,a2,a3⟩:=I1.tok t ht
   refine ⟨a1,a2,a3.imp id ?_⟩;rintro ⟨b',cur,e,c1,c2,c3,c4,c5,c6,c7,c8,c9,c10⟩;refine ⟨b',cur,e,c1,c2,c3,c4,c5,c6,c7,c8,c9,fun q hq he => ?_⟩;have he:g q = b':=he
   rcases split q hq with hql | ⟨p,hp,rfl⟩
   ·rw [g0 q hql] at he
    rcases E1.newT t b' ht c1 with h1 | ⟨s,h1,h2⟩
    ·have:=hI.lt hql; omega
    ·exact hnotok q hql s (hold2 s h1) (by rw [he]; exact h2)
   ·rw [g1] at he; exact c10 p hp he
 ·refine ⟨E1.os,E1.tape,E1.output,E1.size,E1.F,E1.fix,fun k hk hne ho => E1.block k hk (fun r hr => by simp [Cx.reb] at hr) ho,⟨hle.nb,hle.bx⟩,E1.newF,E1.newT,fun q hq hq2 => ?_,E1.tk⟩
  rcases split q hq2 with hql | ⟨p,hp,rfl⟩
  ·omega
  ·show w.heap.size <= g (p + bx.length)
   rw [g1]; exact hnewB p hp
def RwAt (n lo:Nat) (live:List Nat) (c:PC) (bx:LP PC) (cells:List PC):Prop :=
 lo <= bx.length /\ ((∃ t,c = .sl t [] /\ (t = 1 \/ t ∈ live) /\ cells = []) \/ ∃ p len cap z,c = .row p len cap /\ lo <= p /\ bx[p]? = some z /\ z.length = n * cap /\ len <= cap /\ cells = z.take (n * len))
theorem RwAt.row {n lo:Nat} {live:List Nat} {c:PC} {bx:LP PC} {cells:List PC} (h:RwAt n lo live c bx cells) (hne:cells ≠ []):∃ p len cap z,c = .row p len cap /\ lo <= p /\ bx[p]? = some z /\ z.length = n * cap /\ len <= cap /\ cells = z.take (n * len) /\ cells.length = n * len:=by
 rcases h.2 with ⟨t,_,_,h⟩ | ⟨p,len,cap,z,h1,h2,h3,h4,h5,h6⟩
 ·exact absurd h hne
 ·exact ⟨p,len,cap,z,h1,h2,h3,h4,h5,h6,by rw [h6,length_take,h4]; exact Nat.min_eq_left (Nat.mul_le_mul_left _ h5)⟩
theorem RwAt.mono {n lo:Nat} {live live':List Nat} {c:PC} {bx:LP PC} {cells:List PC} (h:RwAt n lo live c bx cells) (hl:∀ t ∈ live,t ∈ live'):RwAt n lo live' c bx cells :=
 ⟨h.1,h.2.imp (fun ⟨t,a,b,c⟩ => ⟨t,a,b.imp id (hl t),c⟩) id⟩
theorem RwAt.cong {n lo:Nat} {live:List Nat} {c:PC} {bx bx':LP PC} {cells:List PC} (h:RwAt n lo live c bx cells) (h1:bx.length <= bx'.length) (hb:∀ q,lo <= q -> q < bx.length -> bx'[q]? = bx[q]?):RwAt n lo live c bx' cells :=
 ⟨Nat.le_trans h.1 h1,h.2.imp id fun ⟨p,len,cap,z,a1,a2,a3,a4⟩ => ⟨p,len,cap,z,a1,a2,by
  rw [hb p a2 (by
   rcases Nat.lt_or_ge p bx.length with h' | h'
   ·exact h'
   ·rw [getElem?_eq_none h'] at a3; cases a3)]; exact a3,a4⟩⟩
theorem RwAt.shB {n lo k:Nat} {live:List Nat} {c:PC} {b bx:LP PC} {cells:List PC} (h:RwAt n lo live c b cells) (hl:lwL 0 cells) (hk:bx.length = k):RwAt n (lo + k) live (c.shB k) (bx ++ b.map (·.map (PC.shB k))) cells:=by
 refine ⟨by rw [length_append,length_map]; have:=h.1; omega,?_⟩
 rcases h.2 with ⟨t,rfl,h1,h2⟩ | ⟨p,len,cap,z,rfl,h2,h3,h4,h5,h6⟩
 ·exact .inl ⟨t,zdD (by show lwLL 0 []; trivial),h1,h2⟩
 ·refine .inr ⟨p + k,len,cap,z.map (PC.shB k),shB_row _ _ _ _,by omega,?_,by rw [length_map]; exact h4,h5,?_⟩
  ·rw [getElem?_append_right (by omega),hk,Nat.add_sub_cancel,getElem?_map,h3]; rfl
  ·rw [<- map_take,<- h6,zga hl]
theorem RwAt.app {n lo len cap p p' cap':Nat} {live:List Nat} {z:List PC} {bx bx':LP PC} {ds:LP PC} (hp:lo <= p) (hlo:lo <= bx.length) (hz:bx[p]? = some z /\ z.length = n * cap /\ len <= cap \/ p = bx.length /\ z = [] /\ len = 0 /\ cap = 0) (hds:∀ e ∈ ds,e.length = n) (hd0:ds ≠ [])
  (h:AppB n len cap z ds p bx p' cap' bx'):RwAt n lo live (.row p' (len + ds.length) cap') bx' (z.take (n * len) ++ ds.flatten) /\ ∀ q,q < lo -> bx'[q]? = bx[q]?:=by
 have hfl:ds.flatten.length = n * ds.length:=zaK hds
 have hpos:0 < ds.length:=by
  rcases Nat.eq_zero_or_pos ds.length with h | h
  ·exact absurd (eq_nil_of_length_eq_zero h) hd0
  ·exact h
 have htk:(z.take (n * len)).length = n * len:=by
  rw [length_take]
  rcases hz with ⟨_,h1,h2⟩ | ⟨_,rfl,rfl,_⟩
  ·rw [h1]; exact Nat.min_eq_left (Nat.mul_le_mul_left _ h2)
  ·simp
 have hlen:(z.take (n * len) ++ ds.flatten).length = n * (len + ds.length):=by rw [length_append,htk,hfl,Nat.mul_add]
 rcases h with ⟨rfl,rfl,h3,rfl⟩ | ⟨rfl,h3,r,hr,rfl⟩
 ·rcases hz with ⟨h1,h2,h4⟩ | ⟨_,_,h5,h6⟩
  ·have hplt:p' < bx.length:=by
    rcases Nat.lt_or_ge p' bx.length with h' | h'
    ·exact h'
    ·rw [getElem?_eq_none h'] at h1; cases h1
   have hfit:n * len + n * ds.length <= z.length:=by rw [h2,<- Nat.mul_add]; exact Nat.mul_le_mul_left _ h3
   have hspl:spl z (n * len) ds.flatten = z.take (n * len) ++ ds.flatten ++ z.drop (n * len + ds.flatten.length):=rfl;refine ⟨⟨by rw [length_set]; exact hlo,.inr ⟨p',_,cap',spl z (n * len) ds.flatten,rfl,hp,getElem?_set_self hplt,by rw [zf3 (by rw [hfl]; exact hfit)]; exact h2,h3,?_⟩⟩,fun q hq => getElem?_set_ne (by omega)⟩;rw [hspl]; exact (take_left' hlen).symm
  ·omega
 ·refine ⟨⟨by rw [length_append]; omega,.inr ⟨bx.length,_,cap',_,rfl,hlo,za0 _ _,?_,h3,?_⟩⟩,fun q hq => getElem?_append_left (by omega)⟩
  ·rw [length_append,hlen,hr,<- Nat.mul_add]; congr 1; omega
  ·exact (take_left' hlen).symm
section
variable {E:Env} {K:St -> Prop} {tm:Nat -> PV} {bx:LP PC} {nt d:Nat} {live:List Nat} {r:List MOpr} {g:Option (Nat × Bool)} {cc:List X} {x y:X} {n lo:Nat} {c:PC} {cells:List PC} {lv:List Nat}
theorem zco {k:Nat} (hR:RwAt n lo lv c bx cells) (hn:cells.length = n * k) (hpos:0 < n) (hg:gd g tm = some true) (hx:ev tm x = .d c) (h:po E r K ⟨up d (.d (pI k)) tm,bx,nt,live⟩):po E (⟨some d,.len x,g,cc⟩ :: r) K ⟨tm,bx,nt,live⟩:=by
 refine po_q hg ?_ h
 rcases hR.2 with ⟨t,rfl,_,rfl⟩ | ⟨p,len,cap,z,rfl,h2,h3,h4,h5,h6⟩
 ·have:k = 0:=by
   rcases Nat.eq_zero_or_pos k with h | h
   ·exact h
   ·have:=Nat.mul_pos hpos h; simp at hn; omega
  subst this;simp only [qf,hx]; rfl
 ·have:n * len = n * k:=by rw [<- hn,h6,length_take,h4]; exact (Nat.min_eq_left (Nat.mul_le_mul_left _ h5)).symm
  have:len = k:=Nat.eq_of_mul_eq_mul_left hpos this
  subst this;simp only [qf,hx]; rfl
theorem zdE {kk:IntKind} {j:Int} {i:Nat} (hR:RwAt n lo lv c bx cells) (_hpos:0 < n) (hj:j = i) (hi:n * i < cells.length) (hg:gd g tm = some true) (hx:ev tm x = .d c) (hy:ev tm y = .d (.v (.int kk j)))
  (h:∀ p len cap z,c = .row p len cap -> lo <= p -> bx[p]? = some z -> z.length = n * cap -> len <= cap -> cells = z.take (n * len) -> i < len -> n * i + n <= z.length -> po E r K ⟨up d (.ref p (n * i)) tm,bx,nt,live⟩):po E (⟨some d,.ix n x y,g,cc⟩ :: r) K ⟨tm,bx,nt,live⟩:=by
 subst hj;obtain ⟨p,len,cap,z,e1,h2,h3,h4,h5,h6,h7⟩:=hR.row (fun h => by rw [h] at hi; simp at hi);have hil:i < len:=by rw [h7] at hi; exact Nat.lt_of_mul_lt_mul_left hi
 refine po_q hg ?_ (h p len cap z e1 h2 h3 h4 h5 h6 hil (by rw [h4,<- Nat.mul_succ]; exact Nat.mul_le_mul_left _ (by omega)));simp only [qf,hx,e1,hy];rw [if_pos ⟨by omega,by rw [Int.toNat_natCast]; exact hil⟩,Int.toNat_natCast]
theorem zdF {k t' m:Nat} {ds:LP PC} (hR:RwAt n lo live c bx cells) (hd0:ds ≠ []) (hn:cells.length = n * m) (hpos:0 < n) (hl:m + ds.length <= 4294967296) (hd:∀ e ∈ ds,e.length = n) (hx:ev tm x = .d c) (hy:ev tm y = .d (.sl t' ds))
  (h:∀ c' bx',RwAt n lo live c' bx' (cells ++ ds.flatten) -> (∀ q,q < lo -> bx'[q]? = bx[q]?) -> po E r K ⟨up d (.d c') tm,bx',nt,live⟩):po E (⟨some d,.app n x y,none,[.f k]⟩ :: r) K ⟨tm,bx,nt,live⟩:=by
 rcases hR.2 with ⟨t,rfl,h1,rfl⟩ | ⟨p,len,cap,z,rfl,h2,h3,h4,h5,h6⟩
 ·refine po_appN hx hy h1 hd0 (by omega) hd fun p' cap' bx' hA => ?_
  obtain ⟨a1,a2⟩:=RwAt.app (live:=live) hR.1 hR.1 (.inr ⟨rfl,rfl,rfl,rfl⟩) hd hd0 hA;rw [Nat.mul_zero,take_zero] at a1;exact h _ _ a1 a2
 ·have:n * len = n * m:=by rw [<- hn,h6,length_take,h4]; exact (Nat.min_eq_left (Nat.mul_le_mul_left _ h5)).symm
  have:len = m:=Nat.eq_of_mul_eq_mul_left hpos this
  refine po_appB hx hy h3 h4 hd0 (by omega) hd fun p' cap' bx' hA => ?_
  obtain ⟨a1,a2⟩:=RwAt.app (live:=live) h2 hR.1 (.inl ⟨h3,h4,h5⟩) hd hd0 hA;rw [<- h6] at a1;exact h _ _ a1 a2
end
theorem RwAt.set {n lo p len cap o:Nat} {live:List Nat} {z:List PC} {bx:LP PC} {v:PC} (hlo:lo <= bx.length) (hp:lo <= p) (hz:bx[p]? = some z) (hl:z.length = n * cap) (hlc:len <= cap) (ho:o < n * len) :
  RwAt n lo live (.row p len cap) (bx.set p (spl z o [v])) ((z.take (n * len)).set o v):=by
 have hplt:p < bx.length:=by
  rcases Nat.lt_or_ge p bx.length with h' | h'
  ·exact h'
  ·rw [getElem?_eq_none h'] at hz; cases hz
 have hle:n * len <= n * cap:=Nat.mul_le_mul_left _ hlc;refine ⟨by rw [length_set]; exact hlo,.inr ⟨p,len,cap,_,rfl,hp,getElem?_set_self hplt,by rw [zf3 (by rw [length_singleton]; omega)]; exact hl,hlc,?_⟩⟩
 have:spl z o [v] = z.set o v:=by
  unfold spl;rw [length_singleton,set_eq_take_append_cons_drop,if_pos (by omega)]; simp
 rw [this,take_set]
end
section
def lgA:Nat:=6364136223846793005
def lgC:Nat:=1442695040888963407
def lgN (x:Nat):Nat:=lgA * x + lgC
def lgI:Nat -> Nat -> Nat
 | 0,x => x
 | n + 1,x => lgI n (lgN x)
theorem zgb:∀ (a b x:Nat),lgI (a + b) x = lgI b (lgI a x)
 | 0,b,x => by rw [Nat.zero_add]; rfl
 | a + 1,b,x => by rw [Nat.add_right_comm]; show lgI (a + b) (lgN x) = lgI b (lgI a (lgN x)); exact zgb a b _
theorem lg_pow:∀ k:Nat,∃ m c:Nat,∀ z,lgI (2 ^ k) z = z + 2 ^ k * (4 * (m * z) + (2 * c + 1))
 | 0 => ⟨1591034055961698251,721347520444481703,fun z => by show lgA * z + lgC = _; unfold lgA lgC; omega⟩
 | k + 1 => by
  obtain ⟨m,c,h⟩:=lg_pow k;refine ⟨m + 2 * (2 ^ k * (m * m)),c + 2 ^ k * m * (2 * c + 1),fun z => ?_⟩;rw [show (2:Nat) ^ (k + 1) = 2 ^ k + 2 ^ k by rw [Nat.pow_succ]; omega,zgb,h,h];generalize 2 ^ k = q
  grind
theorem lg_flip (k z:Nat):lgI (2 ^ k) z % 2 ^ (k + 1) = (z + 2 ^ k) % 2 ^ (k + 1):=by
 obtain ⟨m,c,h⟩:=lg_pow k;rw [h,Nat.pow_succ]
 have:z + 2 ^ k * (4 * (m * z) + (2 * c + 1)) = z + 2 ^ k + 2 ^ k * 2 * (2 * (m * z) + c):=by generalize 2 ^ k = q; grind
 rw [this,Nat.add_mul_mod_self_left]
theorem lg_reach (x y:Nat):∀ k:Nat,∃ j,j < 2 ^ k /\ lgI j x % 2 ^ k = y % 2 ^ k
 | 0 => ⟨0,by decide,by rw [Nat.pow_zero,Nat.mod_one,Nat.mod_one]⟩
 | k + 1 => by
  obtain ⟨j,hj,h⟩:=lg_reach x y k;have e:(2:Nat) ^ (k + 1) = 2 ^ k + 2 ^ k:=by rw [Nat.pow_succ]; omega
  by_cases hh:lgI j x % 2 ^ (k + 1) = y % 2 ^ (k + 1)
  ·exact ⟨j,by omega,hh⟩
  ·refine ⟨j + 2 ^ k,by omega,?_⟩
   rw [zgb,lg_flip];have hp:0 < 2 ^ k:=Nat.two_pow_pos k;have h1:=Nat.mod_pow_succ (x:=lgI j x) (b:=2) (k:=k);have h2:=Nat.mod_pow_succ (x:=y) (b:=2) (k:=k);have b1:lgI j x / 2 ^ k % 2 < 2:=Nat.mod_lt _ (by decide);have b2:y / 2 ^ k % 2 < 2:=Nat.mod_lt _ (by decide);rw [h] at h1;rw [h1,h2] at hh;rw [Nat.add_mod,h1,Nat.mod_eq_of_lt (a:=2 ^ k) (by omega),h2];have hlt:y % 2 ^ k < 2 ^ k:=Nat.mod_lt _ hp;generalize y % 2 ^ k = r at *;generalize lgI j x / 2 ^ k % 2 = u at *;generalize y / 2 ^ k % 2 = v at *;generalize 2 ^ k = q at *;rw [e];have hu:u = 0 \/ u = 1:=by omega
   have hv:v = 0 \/ v = 1:=by omega
   rcases hu with rfl | rfl <;> rcases hv with rfl | rfl <;> simp only [Nat.mul_one,Nat.mul_zero,Nat.add_zero] at hh ⊢
   ·exact absurd trivial hh
   ·rw [Nat.mod_eq_of_lt (by omega)]
   ·rw [show r + q + q = r + (q + q) by omega,Nat.add_mod_right,Nat.mod_eq_of_lt (by omega)]
   ·exact absurd trivial hh
end
section
structure NR (nt:Nat) (live:List Nat) (n:Nat) (l:List Nat) (cs:List PC):Prop where
 own:ownedL cs = true
 nd:(toksL cs).Nodup
 mem:∀ t ∈ toksL cs,nt <= t /\ t < n /\ t ∈ l
 keep:∀ t ∈ live,2 <= t -> t < nt -> t ∈ l
 le:nt <= n
theorem NR.refl (nt:Nat) (live:List Nat):NR nt live nt live []:=⟨rfl,nodup_nil,fun t h => (by cases h),fun t h _ _ => h,lR⟩
theorem NR.trans {nt n1 n2:Nat} {live l1 l2:List Nat} {a b:List PC} (h:NR nt live n1 l1 a) (k:NR n1 l1 n2 l2 b):NR nt live n2 l2 (a ++ b):=by
 refine ⟨by rw [zaS,h.own,k.own]; rfl,?_,fun t ht => ?_,fun t ht h2 hlt => k.keep t (h.keep t ht h2 hlt) h2 (by have:=h.le; omega),Nat.le_trans h.le k.le⟩
 ·rw [zaF]
  refine nodup_append.2 ⟨h.nd,k.nd,fun x hx y hy e => ?_⟩;subst e
  have:=h.mem x hx; have:=k.mem x hy; omega
 ·rw [zaF] at ht
  rcases mem_append.1 ht with ht | ht
  ·obtain ⟨a1,a2,a3⟩:=h.mem t ht
   exact ⟨a1,by have:=k.le; omega,k.keep t a3 (zbB _ t ht) a2⟩
  ·obtain ⟨a1,a2,a3⟩:=k.mem t ht
   exact ⟨by have:=h.le; omega,a2,a3⟩
theorem NR.plain {nt n:Nat} {live l:List Nat} {cs ds:List PC} (h:NR nt live n l cs) (ho:ownedL ds = true) (ht:toksL ds = toksL cs):NR nt live n l ds:=⟨ho,by rw [ht]; exact h.nd,fun t h' => h.mem t (by rw [ht] at h'; exact h'),h.keep,h.le⟩
theorem NR.mono {nt n n':Nat} {live l l':List Nat} {cs:List PC} (h:NR nt live n l cs) (hn:n <= n') (hl:∀ t ∈ l,2 <= t -> t < n -> t ∈ l'):NR nt live n' l' cs :=
 ⟨h.own,h.nd,fun t ht => by obtain ⟨a,b,c⟩:=h.mem t ht; exact ⟨a,by omega,hl t c (zbB _ t ht) b⟩,fun t ht h2 hlt => hl t (h.keep t ht h2 hlt) h2 (by have:=h.le; omega),Nat.le_trans h.le hn⟩
theorem NR.forget {nt n:Nat} {live l:List Nat} {cs:List PC} (h:NR nt live n l cs):NR nt live n l []:=⟨rfl,nodup_nil,fun t h => (by cases h),h.keep,h.le⟩
theorem zbC:∀ es:LP PC,toksLL es = toksL es.flatten
 | [] => rfl
 | e :: es => by rw [toksLL,flatten_cons,zaF,zbC es]
theorem zbO:∀ es:LP PC,ownedLL es = ownedL es.flatten
 | [] => rfl
 | e :: es => by rw [ownedLL,flatten_cons,zaS,zbO es]
theorem NR.lit {nt n:Nat} {live l:List Nat} {es:LP PC} (h2:2 <= nt) (h:NR nt live n l es.flatten):NR nt live (n + 1) (n :: l) [.sl n es]:=by
 have hn:=h.le;refine ⟨?_,?_,fun t ht => ?_,fun t ht a b => mem_cons_of_mem _ (h.keep t ht a b),by omega⟩
 ·rw [ownedL,zdB (by omega),zbO,h.own]; rfl
 ·rw [toksL,zcC (by omega),zbC]
  simp only [toksL,append_nil];exact nodup_cons.2 ⟨fun hm => by have:=h.mem n hm; omega,h.nd⟩
 ·rw [toksL,zcC (by omega),zbC] at ht
  simp only [toksL,append_nil] at ht
  rcases mem_cons.1 ht with rfl | ht
  ·exact ⟨hn,by omega,mem_cons_self ..⟩
  ·obtain ⟨a,b,c⟩:=h.mem t ht
   exact ⟨a,by omega,mem_cons_of_mem _ c⟩
theorem NR.app {nt n t:Nat} {live l:List Nat} {a b:List PC} {rows ds:LP PC} (h2:2 <= nt) (ht:t = 1 /\ rows = [] \/ 2 <= t) (h:NR nt live n l (a ++ .sl t rows :: b ++ ds.flatten)) :
  NR nt live (n + 1) (n :: l.filter (· != t)) (a ++ .sl n (rows ++ ds) :: b):=by
 have hn:=h.le;obtain ⟨o1,o2,o3,o4,_⟩:=h
 have hO:ownedL a = true /\ ownedLL rows = true /\ ownedL b = true /\ ownedL ds.flatten = true:=by
  rw [zaS,zaS,ownedL] at o1;simp only [Bool.and_eq_true] at o1;refine ⟨o1.1.1,?_,o1.1.2.2,o1.2⟩
  rcases ht with ⟨_,rfl⟩ | ht
  ·rfl
  ·rw [zdB ht] at o1; exact o1.1.2.1
 have hT:∃ L,toksL (a ++ .sl t rows :: b ++ ds.flatten) = toksL a ++ ((L ++ toksLL rows) ++ toksL b) ++ toksL ds.flatten /\ (2 <= t -> t ∈ L):=by
  rcases ht with ⟨rfl,rfl⟩ | ht
  ·exact ⟨[],by rw [zaF,zaF,toksL]; rfl,fun h => by omega⟩
  ·exact ⟨[t],by rw [zaF,zaF,toksL,zcC ht]; rfl,fun _ => by simp⟩
 obtain ⟨L,hT,hL⟩:=hT;rw [hT] at o2 o3
 have hne:∀ x,x ∈ toksL a \/ x ∈ toksLL rows \/ x ∈ toksL b \/ x ∈ toksL ds.flatten -> x ≠ t:=fun x hx e => by
  subst e
  have h2x:2 <= x:=by
   rcases hx with hx | hx | hx | hx
   ·exact zbB _ x hx
   ·exact toksLL_ge _ x hx
   ·exact zbB _ x hx
   ·exact zbB _ x hx
  have:=hL h2x
  simp only [nodup_append,mem_append] at o2
  rcases hx with hx | hx | hx | hx
  ·exact o2.1.2.2 x hx x (.inl (.inl this)) rfl
  ·exact o2.1.2.1.1.2.2 x this x hx rfl
  ·exact o2.1.2.1.2.2 x (.inl this) x hx rfl
  ·exact o2.2.2 x (.inr (.inl (.inl this))) x hx rfl
 have hmem:∀ x,x ∈ toksL a \/ x ∈ toksLL rows \/ x ∈ toksL b \/ x ∈ toksL ds.flatten -> nt <= x /\ x < n /\ x ∈ l:=fun x hx => o3 x (by
  simp only [mem_append]
  rcases hx with hx | hx | hx | hx
  ·exact .inl (.inl hx)
  ·exact .inl (.inr (.inl (.inr hx)))
  ·exact .inl (.inr (.inr hx))
  ·exact .inr hx)
 have eT:toksL (a ++ .sl n (rows ++ ds) :: b) = toksL a ++ (n :: (toksLL rows ++ toksL ds.flatten) ++ toksL b):=by
  rw [zaF,toksL,zcC (by omega),zcB,zbC ds]
 refine ⟨?_,?_,fun x hx => ?_,fun x hx hx2 hlt => ?_,by omega⟩
 ·rw [zaS,ownedL,zdB (by omega),zcc,zbO ds,hO.1,hO.2.1,hO.2.2.1,hO.2.2.2]; rfl
 ·rw [eT]
  simp only [nodup_append,mem_append,nodup_cons,mem_cons,cons_append] at o2 ⊢;refine ⟨o2.1.1,⟨fun hx => ?_,⟨o2.1.2.1.1.2.1,o2.2.1,fun x hx y hy e => o2.2.2 x (.inr (.inl (.inr hx))) y hy e⟩,o2.1.2.1.2.1,fun x hx y hy e => ?_⟩,fun x hx y hy e => ?_⟩
  ·have:=hmem n (by rcases hx with (hx | hx) | hx <;> simp [hx]); omega
  ·rcases hx with hx | hx
   ·exact o2.1.2.1.2.2 x (.inr hx) y hy e
   ·exact o2.2.2 y (.inr (.inr hy)) x hx e.symm
  ·rcases hy with rfl | (hy | hy) | hy
   ·have:=hmem x (.inl hx); omega
   ·exact o2.1.2.2 x hx y (.inl (.inr hy)) e
   ·exact o2.2.2 x (.inl hx) y hy e
   ·exact o2.1.2.2 x hx y (.inr hy) e
 ·rw [eT] at hx
  simp only [mem_append,mem_cons,cons_append] at hx
  have old:x ∈ toksL a \/ x ∈ toksLL rows \/ x ∈ toksL b \/ x ∈ toksL ds.flatten -> nt <= x /\ x < n + 1 /\ x ∈ n :: l.filter (· != t):=fun h => by
   obtain ⟨a1,a2,a3⟩:=hmem x h;exact ⟨a1,by omega,mem_cons_of_mem _ (mem_filter.2 ⟨a3,by simpa using hne x h⟩)⟩
  rcases hx with hx | rfl | (hx | hx) | hx
  ·exact old (.inl hx)
  ·exact ⟨hn,by omega,mem_cons_self ..⟩
  ·exact old (.inr (.inl hx))
  ·exact old (.inr (.inr (.inr hx)))
  ·exact old (.inr (.inr (.inl hx)))
 ·refine mem_cons_of_mem _ (mem_filter.2 ⟨o4 x hx hx2 hlt,?_⟩)
  simp only [bne_iff_ne,ne_eq];rintro rfl
  have:=o3 x (by have:=hL hx2; simp [this]); omega
theorem NR.lw {nt n k:Nat} {live l:List Nat} {cs:List PC} (h:NR nt live n l cs):lwL k cs:=zdC h.own
theorem po_gt {E:Env} {d:Nat} {k:Nat} {r:List MOpr} {K:St -> Prop} {tm:Nat -> PV} {bx:LP PC} {nt:Nat} {live:List Nat} {f:Nat} {xs:List X} {args:List PV} {g:Option (Nat × Bool)} {R:PV -> LP PC -> Nat -> List Nat -> Prop} (hg:gd g tm = some true) (hd:xs.map (ev tm) = args) (hF:FnG E f args bx nt live R)
  (h:∀ x bx' nt' live',R x bx' nt' live' -> po E r K ⟨up d x tm,bx',nt',live'⟩):po E (⟨some d,.call f xs,g,[.f k]⟩ :: r) K ⟨tm,bx,nt,live⟩:=by
 subst hd;refine ⟨true,hg,.inl ⟨rfl,.inr ⟨rfl,R,hF,fun x bx' nt' live' hR => ⟨fun y hy => by rw [mem_singleton] at hy; subst hy; exact zci _ _ _ _,?_⟩⟩⟩⟩;rw [zbk]; exact h x bx' nt' live' hR
/-! ### the cursor -/
def cuC (b:L8) (i h:Int):List PC:=[.sl 0 (pcB b),pI i,pI h]
def Cu (b:L8) (c:List PC):Prop:=∃ (i:Nat) (h:Int),i <= b.length /\ i64ok h /\ c = cuC b i h
theorem zgc {b:L8} {k:Nat} {x:UInt8} (h:b[k]? = some x):(pcB b)[k]? = some [.v (.int .u8 x.toNat)]:=by simp [pcB,h]
theorem pcB_lw (n:Nat):∀ b:L8,lwLL n (pcB b)
 | [] => by simp only [pcB,map_nil,lwLL]
 | x :: b => by
  have:=pcB_lw n b
  simp only [pcB,map_cons,lwLL,lwL,PC.lw] at this ⊢;exact ⟨⟨trivial,trivial⟩,this⟩
theorem cuC_lw (b:L8) (i h:Int) (n:Nat):lwL n (cuC b i h):=by
 simp only [cuC,lwL,PC.lw,pI,and_true]; exact pcB_lw n b
theorem Cu.lw {b:L8} {c:List PC} (h:Cu b c):lwL 0 c:=by obtain ⟨i,q,_,_,rfl⟩:=h; exact cuC_lw ..
def Drw (E:Env) (b:L8) (f:Nat) (args:List PV) (Q:Nat -> List Nat -> PV -> Nat -> List Nat -> Prop):Prop :=
 ∀ (c:List PC) (nt:Nat) (live:List Nat),Cu b c -> 2 <= nt -> FnG E f (.ref 0 0 :: args) [c] nt live (fun x bx n l => ∃ c' rest,bx = c' :: rest /\ x.lw 0 /\ lwL 0 c' /\ Cu b c' /\ Q nt live x n l)
theorem Drw.use {E:Env} {b:L8} {f:Nat} {args:List PV} {Q:Nat -> List Nat -> PV -> Nat -> List Nat -> Prop} (h:Drw E b f args Q) (ha:lwVs 0 args) {c:List PC} {bx:LP PC} {p nt:Nat} {live:List Nat} (hc:Cu b c) (hn:2 <= nt) (hp:bx[p]? = some c) :
  FnG E f (.ref p 0 :: args) bx nt live (fun x b' n l => ∃ c',b' = bx.set p c' /\ Cu b c' /\ Q nt live x n l) :=
 FnG.lift1 (R:=fun x c' n l => Cu b c' /\ Q nt live x n l) (h c nt live hc hn) ha hc.lw hp
theorem NR.pass {nt n1 n2:Nat} {live l1 l2:List Nat} {cs:List PC} (h:NR nt live n1 l1 cs) (k:NR n1 l1 n2 l2 []):NR nt live n2 l2 cs:=by
 have:=h.trans k
 rwa [append_nil] at this
def QN (lo hi:Int):Nat -> List Nat -> PV -> Nat -> List Nat -> Prop:=fun nt live x n l => ∃ r:Int,x = .d (pI r) /\ lo <= r /\ r <= hi /\ NR nt live n l []
def QT (P:L8 -> Prop):Nat -> List Nat -> PV -> Nat -> List Nat -> Prop:=fun nt live x n l => ∃ s,x = .d (pS s) /\ P s /\ NR nt live n l []
def QB:Nat -> List Nat -> PV -> Nat -> List Nat -> Prop:=fun nt live x n l => ∃ r:Bool,x = .d (pB r) /\ NR nt live n l []
/-! ### values that are drawn -/
mutual
def V.few:V -> Prop
 | .mk k _ _ _ kids => (k = 8 -> kids.length <= 8) /\ V.fews kids
def V.fews:List V -> Prop
 | [] => True
 | v :: vs => v.few /\ V.fews vs
end
theorem V.fews_all:∀ {vs:List V},V.fews vs ↔ ∀ v ∈ vs,v.few
 | [] => by simp [V.fews]
 | v :: vs => by simp only [V.fews,mem_cons,forall_eq_or_imp,V.fews_all (vs:=vs)]
theorem V.wfs_all:∀ {vs:List V},V.wfs vs ↔ ∀ v ∈ vs,v.wf
 | [] => by simp [V.wfs]
 | v :: vs => by simp only [V.wfs,mem_cons,forall_eq_or_imp,V.wfs_all (vs:=vs)]
structure Gd (B:Nat) (v:V):Prop where
 wf:v.wf
 few:v.few
 bulk:v.bulk <= B
theorem Gd.mono {B B':Nat} {v:V} (h:Gd B v) (k:B <= B'):Gd B' v:=⟨h.wf,h.few,Nat.le_trans h.bulk k⟩
def RowT (cs:List PC):Prop:=∃ (a b c d:PC) (t:Nat) (rows:LP PC),cs = [a,b,c,d,.sl t rows] /\ (t = 1 /\ rows = [] \/ 2 <= t)
def QV (K B:Nat):Nat -> List Nat -> PV -> Nat -> List Nat -> Prop:=fun nt live x n l => ∃ cs v,x = .ag cs /\ NR nt live n l cs /\ erL cs = vC v /\ Gd B v /\ RowT cs /\ v.kids.length <= K
end
section
noncomputable def ngl:Nat:=Tryz.prog.globals.size
noncomputable def env (T:World -> Prop) (hT:Low ngl T):Env:=⟨Tryz.prog,ngl,T,hT,by kernel_rfl⟩
theorem zad {T:World -> Prop} {hT:Low ngl T} {f:Nat} {r:Nat × M × List MRes} (h:look Tryz.prog f = some r):look (env T hT).P f = some r:=h
end
section
def m_s_l01New:M:=so [qo 2 (.mv (.c (.pointer none)))] (so [qm 5 0,qo 6 (.len 5),qo 7 (.bin .add false (ci 421421) 6),qm 3 7] (.seq (so [qo 4 (.mv (ci 0))] (.block 0 (.loop (.seq (so [qm 8 4,qm 9 0,qo 10 (.len 9),qo 11 (.bin .lss false 8 10),qm 12 11,qg 13 4 12 true,⟨some 14,.bin .lss false 13 (ci 4000),some (12,true),[]⟩,qo 15 (.pick 12 14 (cB false))] (.cond 15 .skip (.exit 0))) (.seq (.block 1 (.ops [qm 18 3,qo 19 (.bin .mul false 18 (ci 131)),qm 20 0,qm 21 4,qo 22 (.ix 1 20 21),ql 23 1 22,qo 24 (.conv .i64 23),qo 25 (.bin .add false 19 24),qo 26 (.bin .add false 25 (ci 7)),qo 27 (.bin .and false 26 (ci 1073741823)),qm 3 27])) (.ops [qm 16 4,qo 17 (.bin .add false 16 (ci 1)),qm 4 17])))))) (so [qm 28 0,qm 29 3,qo 30 (.build [.slice none 0 0,.int .i64 0,.int .i64 0] [(0,1,28),(2,1,29)]),qo 31 (.box 30),qm 2 31] .ret)))
theorem zgd:look Tryz.prog 19 = some (32,m_s_l01New,[.tm 2]):=by kernel_rfl
def m_s_l02Any:M:=so [⟨some 2,.zero [.int .i64 0,.int .i64 0,.int .i64 0,.string ⟨[].toArray⟩,.slice none 0 0],none,[]⟩] (so [qm 8 0,qm 9 0,qc 10 38 [9,ci 3] 1,qc 11 39 [8,ci 3,10] 1,⟨some 3,.zero [.int .i64 0,.int .i64 0,.int .i64 0,.string ⟨[].toArray⟩,.slice none 0 0],none,[]⟩,qS 5 3 11] (.seq (so [qm 12 0,qc 13 43 [12,ci 24] 1] (.block 0 (so [qo 15 (.bin .eql false 13 (ci 0)),qm 14 15] (.cond 14 (.ops [qm 16 0,qc 17 43 [16,ci 12] 1,qo 18 (.bin .sub false 17 (ci 1)),qF 19 0 3,qS 1 19 18]) (so [qo 21 (.bin .eql false 13 (ci 1)),qm 20 21] (.cond 20 (.ops [qm 22 0,qo 23 (.lit 1 [ci 1,ci 10,ci (-1),ci 1000001]),qc 24 44 [22,23] 1,qF 25 1 3,qS 1 25 24]) (so [qo 27 (.bin .eql false 13 (ci 2)),qm 26 27] (.cond 26 (.ops [qF 28 4 3,ql 29 1 28,qm 30 0,⟨some 31,.call 45 [30,cB false],none,[.f 0,28]⟩,qo 32 (.litq 5 [31]),⟨some 33,.app 5 29 32,none,[.f 0]⟩,qF 34 4 3,qS 1 34 33]) (so [qo 36 (.bin .eql false 13 (ci 3)),qm 35 36] (.cond 35 (so [⟨some 37,.call 46 [.c (.string ⟨[97].toArray⟩)],none,[.f 1]⟩,qc 38 47 [ci 1] 1,⟨some 39,.call 46 [.c (.string ⟨[97].toArray⟩)],none,[.f 1]⟩,qc 40 47 [ci 2] 1,qo 41 (.lit 5 [37,38,39,40]),⟨some 42,.build [.int .i64 0,.int .i64 0,.int .i64 0,.string ⟨[].toArray⟩,.slice none 0 0] [(0,1,ci 8),(4,1,41)],none,[]⟩,qS 5 2 42] .ret) (so [qo 44 (.bin .eql false 13 (ci 4)),qm 43 44] (.cond 43 (so [qm 45 0,qc 46 43 [45,ci 3] 1,qo 47 (.bin .add false (ci 11) 46),qm 4 47] (so [qo 5 (.mv (ci 0))] (.block 1 (.loop (.seq (so [qm 48 5,qm 49 4,qo 50 (.bin .lss false 48 49)] (.cond 50 .skip (.exit 1))) (.seq (.block 2 (.ops [qL 53 5 3,qo 54 (.lit 5 [53]),⟨some 55,.build [.int .i64 0,.int .i64 0,.int .i64 0,.string ⟨[].toArray⟩,.slice none 0 0] [(0,1,ci 7),(4,1,54)],none,[]⟩,qS 5 3 55])) (.ops [qm 51 5,qo 52 (.bin .add false 51 (ci 1)),qm 5 52]))))))) (so [qo 57 (.bin .eql false 13 (ci 5)),qm 56 57] (.cond 56 (so [qm 58 0,qc 59 43 [58,ci 3] 1,qo 60 (.bin .add false (ci 298) 59),qm 6 60] (so [⟨some 61,.build [.int .i64 0,.int .i64 0,.int .i64 0,.string ⟨[].toArray⟩,.slice none 0 0] [(0,1,ci 7)],none,[]⟩,qS 5 3 61] (so [qo 7 (.mv (ci 0))] (.block 3 (.loop (.seq (so [qm 62 7,qm 63 6,qo 64 (.bin .lss false 62 63)] (.cond 64 .skip (.exit 3))) (.seq (.block 4 (.ops [qF 67 4 3,ql 68 1 67,⟨some 69,.build [.int .i64 0,.int .i64 0,.int .i64 0,.string ⟨[].toArray⟩,.slice none 0 0] [],none,[]⟩,qo 70 (.lit 5 [69]),⟨some 71,.app 5 68 70,none,[.f 1]⟩,qF 72 4 3,qS 1 72 71])) (.ops [qm 65 7,qo 66 (.bin .add false 65 (ci 1)),qm 7 66])))))))) .skip)))))))))))))) (so [qL 73 5 3,qS 5 2 73] .ret)))
theorem zge:look Tryz.prog 22 = some (74,m_s_l02Any,[.cell true 5 2]):=by kernel_rfl
def m_s_l01Once:M:=so [qo 4 (.mv (cB false))] (so [qm 5 0,qm 6 1,qc 7 43 [5,6] 1,qo 8 (.bin .eql false 7 (ci 0)),qm 4 8] .ret)
theorem ze6:look Tryz.prog 38 = some (9,m_s_l01Once,[.tm 4]):=by kernel_rfl
def m_s_l02Make:M:=so [⟨some 6,.zero [.int .i64 0,.int .i64 0,.int .i64 0,.string ⟨[].toArray⟩,.slice none 0 0],none,[]⟩] (.seq (so [qm 12 1,qo 13 (.bin .leq false 12 (ci 0)),qm 14 13,qg 15 0 14 false,⟨some 16,.call 38 [15,ci 3],some (14,false),[.f 1]⟩,qo 17 (.pick 14 (cB true) 16)] (.cond 17 (so [qm 18 0,qm 19 2,qc 20 45 [18,19] 1,qS 5 6 20] .ret) .skip)) (so [⟨some 21,.build [.int .i64 0,.int .i64 0,.int .i64 0,.string ⟨[].toArray⟩,.slice none 0 0] [(0,1,ci 7)],none,[]⟩,⟨some 7,.zero [.int .i64 0,.int .i64 0,.int .i64 0,.string ⟨[].toArray⟩,.slice none 0 0],none,[]⟩,qS 5 7 21] (so [qm 22 0,qc 23 43 [22,ci 4] 1,qm 8 23] (.seq (so [qm 24 0,qc 25 43 [24,ci 5] 1] (.block 0 (so [qo 27 (.bin .eql false 25 (ci 0)),qm 26 27] (.cond 26 (so [qm 28 2,qo 29 (.not 28)] (.cond 29 (so [qm 30 0,qo 31 (.lit 1 [ci 0,ci 1,ci 24,ci 1000,ci 1000000]),qc 32 44 [30,31] 1,qm 33 0,qm 34 1,qo 35 (.bin .sub false 34 (ci 1)),qm 36 2,qc 37 39 [33,35,36] 1,qo 38 (.lit 5 [37]),⟨some 39,.build [.int .i64 0,.int .i64 0,.int .i64 0,.string ⟨[].toArray⟩,.slice none 0 0] [(0,1,ci 9),(1,1,32),(4,1,38)],none,[]⟩,qS 5 6 39] .ret) .skip)) (.seq (so [qo 41 (.bin .eql false 25 (ci 1)),qm 40 41] (.cond 40 .skip (.ops [qo 42 (.bin .eql false 25 (ci 2)),qm 40 42]))) (.cond 40 (so [qF 43 0 7,⟨none,.store 1 43 (ci 8),none,[]⟩] (.seq (so [qo 9 (.mv (ci 0))] (.block 1 (.loop (.seq (so [qm 44 9,qm 45 8,qo 46 (.bin .lss false 44 45)] (.cond 46 .skip (.exit 1))) (.seq (.block 2 (so [⟨some 49,.lit 1 [.c (.string ⟨[110,97,109,101].toArray⟩),.c (.string ⟨[105,100].toArray⟩),.c (.string ⟨[108,105,115,116].toArray⟩),.c (.string ⟨[99,111,109,109,111,110,32,107,101,121].toArray⟩)],none,[]⟩,qm 50 9,qo 51 (.ix 1 49 50),ql 52 1 51,qc 53 46 [52] 1,⟨some 10,.zero [.int .i64 0,.int .i64 0,.int .i64 0,.string ⟨[].toArray⟩,.slice none 0 0],none,[]⟩,qS 5 10 53] (.seq (so [qm 54 0,qc 55 38 [54,ci 8] 1,qm 56 55,qg 57 2 56 true,⟨some 58,.not 57,some (56,true),[]⟩,qo 59 (.pick 56 58 (cB false))] (.cond 59 (.ops [qm 60 9,qc 61 47 [60] 1,qS 5 10 61]) .skip)) (.ops [qF 62 4 7,ql 63 1 62,qL 64 5 10,qm 65 0,qm 66 1,qo 67 (.bin .sub false 66 (ci 1)),qm 68 2,⟨some 69,.call 39 [65,67,68],none,[.f 0,62,10]⟩,qo 70 (.litq 5 [64,69]),⟨some 71,.app 5 63 70,none,[.f 0]⟩,qF 72 4 7,qS 1 72 71])))) (.ops [qm 47 9,qo 48 (.bin .add false 47 (ci 1)),qm 9 48])))))) (so [qL 73 5 7,qS 5 6 73] .ret))) .skip)))))) (.seq (so [qo 11 (.mv (ci 0))] (.block 3 (.loop (.seq (so [qm 74 11,qm 75 8,qo 76 (.bin .lss false 74 75)] (.cond 76 .skip (.exit 3))) (.seq (.block 4 (.ops [qF 79 4 7,ql 80 1 79,qm 81 0,qm 82 1,qo 83 (.bin .sub false 82 (ci 1)),qm 84 2,⟨some 85,.call 39 [81,83,84],none,[.f 0,79]⟩,qo 86 (.litq 5 [85]),⟨some 87,.app 5 80 86,none,[.f 0]⟩,qF 88 4 7,qS 1 88 87])) (.ops [qm 77 11,qo 78 (.bin .add false 77 (ci 1)),qm 11 78])))))) (so [qL 89 5 7,qS 5 6 89] .ret))))))
theorem zc5:look Tryz.prog 39 = some (90,m_s_l02Make,[.cell true 5 6]):=by kernel_rfl
def m_s_l01Pick:M:=so [⟨some 4,.mv (.c (.string ⟨[].toArray⟩)),none,[]⟩] (so [qm 5 1,qm 6 0,qm 7 1,qo 8 (.len 7),qc 9 43 [6,8] 1,qo 10 (.ix 1 5 9),ql 11 1 10,qm 4 11] .ret)
theorem ze7:look Tryz.prog 41 = some (12,m_s_l01Pick,[.tm 4]):=by kernel_rfl
def m_s_l01Below:M:=so [qo 4 (.mv (ci 0))] (.seq (so [qm 9 1,qo 10 (.bin .leq false 9 (ci 0))] (.cond 10 (so [qo 4 (.mv (ci 0))] .ret) .skip)) (.seq (so [qm 11 1,qo 12 (.bin .leq false 11 (ci 256))] (.cond 12 (so [qm 13 0,qc 14 69 [13] 1,qm 15 1,qo 16 (.bin .rem false 14 15),qm 4 16] .ret) .skip)) (so [qm 17 0,qc 18 69 [17] 1,qm 5 18] (so [qm 19 0,qc 20 69 [19] 1,qm 6 20] (so [qm 21 0,qc 22 69 [21] 1,qm 7 22] (so [qm 23 0,qc 24 69 [23] 1,qm 8 24] (so [qm 25 5,qo 26 (.bin .mul false 25 (ci 16777216)),qm 27 6,qo 28 (.bin .mul false 27 (ci 65536)),qo 29 (.bin .add false 26 28),qm 30 7,qo 31 (.bin .mul false 30 (ci 256)),qo 32 (.bin .add false 29 31),qm 33 8,qo 34 (.bin .add false 32 33),qm 35 1,qo 36 (.bin .rem false 34 35),qm 4 36] .ret)))))))
theorem zcF:look Tryz.prog 43 = some (37,m_s_l01Below,[.tm 4]):=by kernel_rfl
def m_s_l01PickInt:M:=so [qo 4 (.mv (ci 0))] (so [qm 5 1,qm 6 0,qm 7 1,qo 8 (.len 7),qc 9 43 [6,8] 1,qo 10 (.ix 1 5 9),ql 11 1 10,qm 4 11] .ret)
theorem zdG:look Tryz.prog 44 = some (12,m_s_l01PickInt,[.tm 4]):=by kernel_rfl
def m_s_l02Leaf:M:=so [⟨some 4,.zero [.int .i64 0,.int .i64 0,.int .i64 0,.string ⟨[].toArray⟩,.slice none 0 0],none,[]⟩] (.seq (so [qm 5 0,qc 6 43 [5,ci 9] 1] (.block 0 (so [qo 8 (.bin .eql false 6 (ci 0)),qm 7 8] (.cond 7 (so [qm 9 0,qc 10 43 [9,ci 3] 1,⟨some 11,.build [.int .i64 0,.int .i64 0,.int .i64 0,.string ⟨[].toArray⟩,.slice none 0 0] [(0,1,10)],none,[]⟩,qS 5 4 11] .ret) (so [qo 13 (.bin .eql false 6 (ci 1)),qm 12 13] (.cond 12 (so [qm 14 0,qo 15 (.lit 1 [ci 15,ci (-3),ci 1,ci 9007199254740993,ci (-999999999999999999)]),qc 16 44 [14,15] 1,qm 17 0,qo 18 (.lit 1 [ci (-1),ci (-2),ci 19,ci 20,ci (-20)]),qc 19 44 [17,18] 1,⟨some 20,.build [.int .i64 0,.int .i64 0,.int .i64 0,.string ⟨[].toArray⟩,.slice none 0 0] [(0,1,ci 4),(1,1,16),(2,1,19)],none,[]⟩,qS 5 4 20] .ret) (so [qo 22 (.bin .eql false 6 (ci 2)),qm 21 22] (.cond 21 (so [qm 23 1,qo 24 (.not 23)] (.cond 24 (so [qm 25 0,qm 26 0,qc 27 43 [26,ci 8] 1,qc 28 70 [25,27] 1,⟨some 29,.build [.int .i64 0,.int .i64 0,.int .i64 0,.string ⟨[].toArray⟩,.slice none 0 0] [(0,1,ci 6),(3,1,28)],none,[]⟩,qS 5 4 29] .ret) .skip)) (.seq (so [qo 31 (.bin .eql false 6 (ci 3)),qm 30 31] (.cond 30 .skip (.ops [qo 32 (.bin .eql false 6 (ci 4)),qm 30 32]))) (.cond 30 (so [qm 33 0,⟨some 34,.lit 1 [.c (.string ⟨[99,111,109,109,111,110,32,118,97,108,117,101].toArray⟩),.c (.string ⟨[99,111,109,109,111,110,32,118,97,108].toArray⟩),.c (.string ⟨[97,110,111,116,104,101,114,32,99,111,109,109,111,110,32,118,97,108,117,101].toArray⟩),.c (.string ⟨[120].toArray⟩),.c (.string ⟨[].toArray⟩)],none,[]⟩,qc 35 41 [33,34] 1,qc 36 46 [35] 1,qS 5 4 36] .ret) (so [qo 38 (.bin .eql false 6 (ci 5)),qm 37 38] (.cond 37 (so [qm 39 0,qc 40 71 [39] 1,qc 41 46 [40] 1,qS 5 4 41] .ret) .skip)))))))))))) (so [qm 42 0,qm 43 0,qc 44 43 [43,ci 1000] 1,qo 45 (.lit 1 [ci 0,ci 1,ci 23,ci 24,ci 255,ci 256,ci 65535,ci 65536,ci 4294967295,ci 4294967296,ci (-1),ci (-24),ci (-25),ci (-256),ci (-257),ci 9223372036854775807,ci (-9223372036854775808),44]),qc 46 44 [42,45] 1,qc 47 47 [46] 1,qS 5 4 47] .ret))
theorem ze8:look Tryz.prog 45 = some (48,m_s_l02Leaf,[.cell true 5 4]):=by kernel_rfl
def m_s_l02Str:M:=so [⟨some 2,.zero [.int .i64 0,.int .i64 0,.int .i64 0,.string ⟨[].toArray⟩,.slice none 0 0],none,[]⟩] (so [qm 3 0,⟨some 4,.build [.int .i64 0,.int .i64 0,.int .i64 0,.string ⟨[].toArray⟩,.slice none 0 0] [(0,1,ci 5),(3,1,3)],none,[]⟩,qS 5 2 4] .ret)
theorem zdH:look Tryz.prog 46 = some (5,m_s_l02Str,[.cell true 5 2]):=by kernel_rfl
def m_s_l01Byte:M:=so [qo 2 (.mv (ci 0))] (so [qm 4 0,qm 5 0,qo 6 (.nilc 5),qF 7 2 6,ql 8 1 7,qo 9 (.bin .mul false 8 (ci 6364136223846793005)),qo 10 (.bin .add false 9 (ci 1442695040888963407)),qo 11 (.nilc 4),qF 12 2 11,qS 1 12 10] (so [qm 13 0,qo 14 (.nilc 13),qF 15 2 14,ql 16 1 15,qo 17 (.bin .shr false 16 (.c (.int .u64 33))),qm 18 0,qo 19 (.nilc 18),qF 20 2 19,ql 21 1 20,qo 22 (.bin .shr false 21 (.c (.int .u64 45))),qo 23 (.bin .xor false 17 22),qo 24 (.bin .and false 23 (ci 255)),qm 3 24] (.seq (so [qm 25 0,qo 26 (.nilc 25),qF 27 1 26,ql 28 1 27,qm 29 0,qo 30 (.nilc 29),qF 31 0 30,ql 32 1 31,qo 33 (.len 32),qo 34 (.bin .lss false 28 33)] (.cond 34 (so [qm 35 3,qm 36 0,qo 37 (.nilc 36),qF 38 0 37,ql 39 1 38,qm 40 0,qo 41 (.nilc 40),qF 42 1 41,ql 43 1 42,qo 44 (.ix 1 39 43),ql 45 1 44,qo 46 (.conv .i64 45),qo 47 (.bin .add false 35 46),qo 48 (.bin .and false 47 (ci 255)),qm 3 48] (.ops [qm 49 0,qm 50 0,qo 51 (.nilc 50),qF 52 1 51,ql 53 1 52,qo 54 (.bin .add false 53 (ci 1)),qo 55 (.nilc 49),qF 56 1 55,qS 1 56 54])) .skip)) (so [qm 57 3,qm 2 57] .ret))))
theorem ze9:look Tryz.prog 69 = some (58,m_s_l01Byte,[.tm 2]):=by kernel_rfl
def m_s_l01Text:M:=so [⟨some 4,.mv (.c (.string ⟨[].toArray⟩)),none,[]⟩] (so [qo 12 (.lit 1 []),qm 5 12] (.seq (.block 0 (.loop (.seq (so [qm 13 5,qo 14 (.len 13),qm 15 1,qo 16 (.bin .lss false 14 15)] (.cond 16 .skip (.exit 0))) (.block 1 (so [qm 17 0,qc 18 43 [17,ci 5] 1] (.block 2 (so [qo 27 (.bin .eql false 18 (ci 0)),qm 26 27] (.cond 26 (.ops [qm 28 5,qm 29 0,qc 30 69 [29] 1,qo 31 (.conv .u8 30),qo 32 (.lit 1 [31]),⟨some 33,.app 1 28 32,none,[.f 1]⟩,qm 5 33]) (so [qo 35 (.bin .eql false 18 (ci 1)),qm 34 35] (.cond 34 (so [qm 36 0,qc 37 43 [36,ci 9] 1,qm 6 37] (so [qm 38 0,qc 39 43 [38,ci 4] 1,qo 40 (.bin .add false (ci 97) 39),qo 41 (.conv .u8 40),qm 7 41] (so [qo 8 (.mv (ci 0))] (.block 3 (.loop (.seq (so [qm 42 8,qm 43 6,qo 44 (.bin .lss false 42 43)] (.cond 44 .skip (.exit 3))) (.seq (.block 4 (.ops [qm 47 5,qm 48 7,qo 49 (.lit 1 [48]),⟨some 50,.app 1 47 49,none,[.f 1]⟩,qm 5 50])) (.ops [qm 45 8,qo 46 (.bin .add false 45 (ci 1)),qm 8 46])))))))) (so [qo 52 (.bin .eql false 18 (ci 2)),qm 51 52] (.cond 51 (so [qm 53 5,qo 54 (.len 53),qo 55 (.bin .gtr false 54 (ci 0))] (.cond 55 (so [qm 56 0,qm 57 5,qo 58 (.len 57),qc 59 43 [56,58] 1,qm 9 59] (so [qm 60 0,qc 61 43 [60,ci 20] 1,qm 10 61] (so [qo 11 (.mv (ci 0))] (.block 5 (.loop (.seq (so [qm 62 11,qm 63 10,qo 64 (.bin .lss false 62 63),qm 65 64,qg 66 9 65 true,qg 67 11 65 true,⟨some 68,.bin .add false 66 67,some (65,true),[]⟩,qg 69 5 65 true,⟨some 70,.len 69,some (65,true),[]⟩,⟨some 71,.bin .lss false 68 70,some (65,true),[]⟩,qo 72 (.pick 65 71 (cB false))] (.cond 72 .skip (.exit 5))) (.seq (.block 6 (.ops [qm 75 5,qm 76 5,qm 77 9,qm 78 11,qo 79 (.bin .add false 77 78),qo 80 (.ix 1 76 79),ql 81 1 80,qo 82 (.lit 1 [81]),⟨some 83,.app 1 75 82,none,[.f 1]⟩,qm 5 83])) (.ops [qm 73 11,qo 74 (.bin .add false 73 (ci 1)),qm 11 74])))))))) .skip)) (.ops [qm 19 5,qm 20 0,qc 21 43 [20,ci 26] 1,qo 22 (.bin .add false (ci 97) 21),qo 23 (.conv .u8 22),qo 24 (.lit 1 [23]),⟨some 25,.app 1 19 24,none,[.f 1]⟩,qm 5 25]))))))))))))) (so [qm 84 5,qm 85 1,qo 86 (.slc 1 84 none (some 85)),qo 87 (.b2s 86),qm 4 87] .ret)))
theorem zfa:look Tryz.prog 70 = some (88,m_s_l01Text,[.tm 4]):=by kernel_rfl
def m_s_l01Some:M:=so [⟨some 2,.mv (.c (.string ⟨[].toArray⟩)),none,[]⟩] (so [⟨some 3,.mv (.c (.string ⟨[].toArray⟩)),none,[]⟩] (so [qm 6 0,qc 7 43 [6,ci 5] 1,qm 4 7] (.seq (so [qo 5 (.mv (ci 0))] (.block 0 (.loop (.seq (so [qm 8 5,qm 9 4,qo 10 (.bin .lss false 8 9)] (.cond 10 .skip (.exit 0))) (.seq (.block 1 (.ops [qm 13 3,qm 14 0,⟨some 15,.lit 1 [.c (.string ⟨[97].toArray⟩),.c (.string ⟨[98].toArray⟩),.c (.string ⟨[110,97,109,101].toArray⟩),.c (.string ⟨[34].toArray⟩),.c (.string ⟨[92].toArray⟩),.c (.string ⟨[10].toArray⟩),.c (.string ⟨[1].toArray⟩),.c (.string ⟨[195,169].toArray⟩),.c (.string ⟨[226,130,172].toArray⟩),.c (.string ⟨[240,159,152,128].toArray⟩),.c (.string ⟨[47].toArray⟩),.c (.string ⟨[48].toArray⟩),.c (.string ⟨[32].toArray⟩)],none,[]⟩,qc 16 41 [14,15] 1,qo 17 (.bin .add false 13 16),qm 3 17])) (.ops [qm 11 5,qo 12 (.bin .add false 11 (ci 1)),qm 5 12])))))) (so [qm 18 3,qm 2 18] .ret))))
theorem zfb:look Tryz.prog 71 = some (19,m_s_l01Some,[.tm 2]):=by kernel_rfl
end
section
def m_s_l02Int:M:=so [⟨some 2,.zero [.int .i64 0,.int .i64 0,.int .i64 0,.string ⟨[].toArray⟩,.slice none 0 0],none,[]⟩] (so [qm 3 0,⟨some 4,.build [.int .i64 0,.int .i64 0,.int .i64 0,.string ⟨[].toArray⟩,.slice none 0 0] [(0,1,ci 3),(1,1,3)],none,[]⟩,qS 5 2 4] .ret)
theorem zdI:look Tryz.prog 47 = some (5,m_s_l02Int,[.cell true 5 2]):=by kernel_rfl
end
section
variable {T:World -> Prop} {hT:Low ngl T}
attribute [local irreducible] po mw pt
def andR (a b:Int):Int:=IntKind.i64.wrap (BitVec.ofInt 64 a &&& BitVec.ofInt 64 b).toNat
def xorR (a b:Int):Int:=IntKind.i64.wrap (BitVec.ofInt 64 a ^^^ BitVec.ofInt 64 b).toNat
theorem wrap_okD (x:Int):i64ok (IntKind.i64.wrap x):=by
 rw [IntKind.wrap_i64]; unfold i64ok; omega
theorem zcS {m:Nat} (a:Int) (hm:m <= 1073741823):0 <= andR a m /\ andR a m <= m:=by
 unfold andR;rw [BitVec.toNat_and]
 have h1:(BitVec.ofInt 64 (m:Int)).toNat = m:=by
  rw [BitVec.toNat_ofInt]; omega
 have h2:=Nat.and_le_right (n:=(BitVec.ofInt 64 a).toNat) (m:=(BitVec.ofInt 64 (m:Int)).toNat);rw [h1] at h2;rw [h1,IntKind.wrap_i64];omega
def lcM (h:Int):Int:=IntKind.i64.wrap (IntKind.i64.wrap (h * 6364136223846793005) + 1442695040888963407)
def lcX (h:Int):Int:=andR (xorR (h.fdiv (2 ^ 33)) (h.fdiv (2 ^ 45))) 255
theorem zdJ (h:Int):i64ok (lcM h):=wrap_okD _
theorem lcX_bd (h:Int):0 <= lcX h /\ lcX h <= 255:=zcS (m:=255) _ (by decide)
def ByR (b:L8) (i:Nat) (h:Int) (nt:Nat) (live:List Nat) (x:PV) (bx:LP PC) (n:Nat) (l:List Nat):Prop :=
 ∃ (r:Int) (i':Nat),bx = [cuC b i' (lcM h)] /\ x = .d (pI r) /\ 0 <= r /\ r <= 255 /\ i' <= b.length /\ (i < b.length -> i' = i + 1) /\ (i = b.length -> i' = i /\ r = lcX (lcM h)) /\ n = nt /\ l = live
theorem byte_g {b:L8} (hb:b.length <= 2147483647) {i:Nat} (hi:i <= b.length) (h:Int) (nt:Nat) (live:List Nat) :
  FnG (env T hT) 69 [.ref 0 0] [cuC b i h] nt live (ByR b i h nt live):=by
 refine zaR (zad ze9) (by show 1 <= 58; decide) fun B hB => ?_
 unfold m_s_l01Byte;refine mP ?_;refine mO ?_;(iterate 4 refine mS ?_);refine zaZ (cs:=cuC b i h) (v:=.d (pI h)) rfl rfl rfl (Nat.le_refl 3) rfl ?_;refine po_q rfl rfl ?_;refine po_q rfl rfl ?_;(iterate 2 refine mS ?_);refine zas (p:=0) (o':=2) (cs:=[pI (lcM h)]) (z:=cuC b i h) rfl rfl rfl ⟨rfl,Nat.le_refl 3⟩ rfl ?_;refine zae ?_;refine mO ?_;(iterate 3 refine mS ?_);refine zaZ (cs:=cuC b i (lcM h)) (v:=.d (pI (lcM h))) rfl rfl rfl (Nat.le_refl 3) rfl ?_;refine po_q rfl rfl ?_;(iterate 3 refine mS ?_);refine zaZ (cs:=cuC b i (lcM h)) (v:=.d (pI (lcM h))) rfl rfl rfl (Nat.le_refl 3) rfl ?_;refine po_q rfl rfl ?_;refine po_q rfl rfl ?_;refine po_q (v:=.d (pI (lcX (lcM h)))) rfl rfl ?_;refine mN ?_;obtain ⟨hx0,hx1⟩:=lcX_bd (lcM h);generalize hz:lcX (lcM h) = z at hx0 hx1;refine mM ?_;(iterate 3 refine mS ?_);refine zaZ (cs:=cuC b i (lcM h)) (v:=.d (pI i)) rfl rfl rfl (by show 1 + 1 <= 3; decide) rfl ?_
 (iterate 3 refine mS ?_);refine zaZ (cs:=cuC b i (lcM h)) (v:=.d (.sl 0 (pcB b))) rfl rfl rfl (by show 0 + 1 <= 3; decide) rfl ?_;refine zaA (n:=b.length) rfl rfl (zbd b) ?_;by_cases hlt:i < b.length
 ·refine zaf rfl rfl (decide_eq_true (by omega)) ?_
  refine zae ?_;have hg:b[i]? = some b[i]:=getElem?_eq_getElem hlt;have hbt:=(b[i]).toNat_lt;refine mwT ?_;refine mO ?_;(iterate 4 refine mS ?_);refine zaZ (cs:=cuC b i (lcM h)) (v:=.d (.sl 0 (pcB b))) rfl rfl rfl (by show 0 + 1 <= 3; decide) rfl ?_;(iterate 3 refine mS ?_);refine zaZ (cs:=cuC b i (lcM h)) (v:=.d (pI i)) rfl rfl rfl (by show 1 + 1 <= 3; decide) rfl ?_;refine za4 (es:=pcB b) (e:=[.v (.int .u8 (b[i]).toNat)]) rfl rfl rfl ⟨by omega,by rw [Int.toNat_natCast]; exact zgc hg⟩ rfl ?_;refine mS ?_;refine zf9 (n:=((b[i]).toNat:Int)) rfl rfl (by rw [IntKind.wrap_i64]; omega) ?_;refine zay (n:=z + ((b[i]).toNat:Int)) rfl rfl rfl rfl (by omega) ?_;refine po_q (v:=.d (pI (andR (z + ((b[i]).toNat:Int)) 255))) rfl rfl ?_;refine mN ?_;obtain ⟨hw0,hw1⟩:=zcS (m:=255) (z + ((b[i]).toNat:Int)) (by decide);refine zaj ?_;(iterate 4 refine mS ?_);refine zaZ (cs:=cuC b i (lcM h)) (v:=.d (pI i)) rfl rfl rfl (by show 1 + 1 <= 3; decide) rfl ?_
  refine zay (n:=((i + 1:Nat):Int)) rfl rfl rfl (by omega) (by omega) ?_;(iterate 2 refine mS ?_);refine zas (p:=0) (o':=1) (cs:=[pI ((i + 1:Nat):Int)]) (z:=cuC b i (lcM h)) rfl rfl rfl ⟨rfl,by show 1 + 1 <= 3; decide⟩ rfl ?_;refine zae ?_;refine mP ?_;exact zab ⟨.inr rfl,[.d (pI (andR (z + ((b[i]).toNat:Int)) 255))],rfl,_,i + 1,rfl,rfl,hw0,hw1,hlt,fun _ => rfl,fun he => absurd he (by omega),rfl,rfl⟩
 ·refine zal rfl rfl (decide_eq_false (by omega)) ?_
  refine zae ?_;refine mwF ?_;refine zau ?_;refine mP ?_;exact zab ⟨.inr rfl,[.d (pI z)],rfl,z,i,rfl,rfl,hx0,hx1,hi,fun h => absurd h hlt,fun _ => ⟨rfl,hz.symm⟩,rfl,rfl⟩
theorem byte_drw {b:L8} (hb:b.length <= 2147483647):Drw (env T hT) b 69 [] (QN 0 255):=by
 rintro c nt live ⟨i,h,hi,hh,rfl⟩ hn;refine (byte_g hb hi h nt live).mono ?_;rintro x bx n l ⟨r,i',rfl,rfl,h0,h1,hi',_,_,rfl,rfl⟩;exact ⟨_,[],rfl,trivial,cuC_lw ..,⟨i',_,hi',zdJ h,rfl⟩,r,rfl,h0,h1,NR.refl _ _⟩
section
variable {E:Env} {K:St -> Prop} {tm:Nat -> PV} {bx:LP PC} {nt d:Nat} {live:List Nat} {r:List MOpr} {g:Option (Nat × Bool)} {c:List X} {x y:X}
theorem po_rem {a b n:Int} (hg:gd g tm = some true) (hx:ev tm x = .d (pI a)) (hy:ev tm y = .d (pI b)) (hb:b ≠ 0) (hn:a.tmod b = n) (h:po E r K ⟨up d (.d (pI n)) tm,bx,nt,live⟩):po E (⟨some d,.bin .rem false x y,g,c⟩ :: r) K ⟨tm,bx,nt,live⟩:=by
 refine po_q hg ?_ h;subst hn
 have e:binV .rem false (.int .i64 a) (.int .i64 b) = some (.int .i64 (a.tmod b)):=by
  show (if IntKind.i64 = IntKind.i64 then (if b = 0 then none else some (Value.int .i64 (a.tmod b))) else none) = _;rw [if_pos rfl,if_neg hb]
 simp only [qf,hx,hy,pI,e,Option.map_some]
theorem zgf {a b:Int} (hg:gd g tm = some true) (hx:ev tm x = .d (pI a)) (hy:ev tm y = .d (pI b)) (ha:0 <= a) (hb:0 < b) (h:∀ n,n = a.tmod b -> 0 <= n -> n < b -> po E r K ⟨up d (.d (pI n)) tm,bx,nt,live⟩):po E (⟨some d,.bin .rem false x y,g,c⟩ :: r) K ⟨tm,bx,nt,live⟩ :=
 po_rem hg hx hy (by omega) rfl (h _ rfl (Int.tmod_nonneg b ha) (Int.tmod_lt_of_pos a hb))
end
def BlR (b:L8) (i:Nat) (h m:Int) (nt:Nat) (live:List Nat) (x:PV) (bx:LP PC) (n:Nat) (l:List Nat):Prop :=
 ∃ (r:Int) (i':Nat),bx = [cuC b i' (lcM h)] /\ x = .d (pI r) /\ 0 <= r /\ r < m /\ i' <= b.length /\ (i < b.length -> i' = i + 1) /\ (i = b.length -> i' = i /\ r = (lcX (lcM h)).tmod m) /\ n = nt /\ l = live
theorem below_g {b:L8} (hb:b.length <= 2147483647) {i:Nat} (hi:i <= b.length) (h:Int) {m:Int} (hm:1 <= m /\ m <= 256) (nt:Nat) (live:List Nat) :
  FnG (env T hT) 43 [.ref 0 0,.d (pI m)] [cuC b i h] nt live (BlR b i h m nt live):=by
 refine zaR (zad zcF) (by show 2 <= 37; decide) fun B hB => ?_
 unfold m_s_l01Below;refine mP ?_;refine mM ?_;refine mS ?_;refine zal rfl rfl (decide_eq_false (by omega)) ?_;refine zae ?_;refine mwF ?_;refine zau ?_;refine mM ?_;refine mS ?_;refine zaf rfl rfl (decide_eq_true (by omega)) ?_;refine zae ?_;refine mwT ?_;refine mQ ?_;refine po_g rfl (byte_g (T:=T) (hT:=hT) hb hi h nt live) ?_;rintro x bx n l ⟨r,i',rfl,rfl,h0,h1,hi',e1,e2,rfl,rfl⟩;refine mS ?_;refine zgf rfl rfl rfl h0 (by omega) fun q hq q0 q1 => ?_
 refine mN ?_;exact zab ⟨.inr rfl,[.d (pI q)],rfl,q,i',rfl,rfl,q0,q1,hi',e1,fun he => ⟨(e2 he).1,by rw [hq,(e2 he).2]⟩,rfl,rfl⟩
theorem zba {b:L8} (hb:b.length <= 2147483647) (m:Int):Drw (env T hT) b 43 [.d (pI m)] (QN 0 (max (m - 1) 0)):=by
 rintro c nt live hc hn;have hB:=byte_drw (T:=T) (hT:=hT) hb;refine zaR (R:=fun x bx n l => ∃ c' rest,bx = c' :: rest /\ x.lw 0 /\ lwL 0 c' /\ Cu b c' /\ QN 0 (max (m - 1) 0) nt live x n l) (zad zcF) (by show 2 <= 37; decide) fun B hB' => ?_
 unfold m_s_l01Below;refine mP ?_;refine mM ?_;refine mS ?_;by_cases hm0:m <= 0
 ·refine zaf rfl rfl (decide_eq_true (by omega)) ?_
  refine zae ?_;refine mwT ?_;refine mP ?_;exact zab ⟨.inr rfl,[.d (pI 0)],rfl,c,[],rfl,trivial,hc.lw,hc,0,rfl,by omega,by omega,NR.refl _ _⟩
 refine zal rfl rfl (decide_eq_false (by omega)) ?_;refine zae ?_;refine mwF ?_;refine zau ?_;refine mM ?_;refine mS ?_;by_cases hm1:m <= 256
 ·refine zaf rfl rfl (decide_eq_true (by omega)) ?_
  refine zae ?_;refine mwT ?_;refine mQ ?_;refine po_g rfl (hB.use trivial hc hn (p:=0) rfl) ?_;rintro x bx n l ⟨c',rfl,hc',r,rfl,h0,h1,hN⟩;refine mS ?_;refine zgf rfl rfl rfl h0 (by omega) fun q hq q0 q1 => ?_
  refine mN ?_;exact zab ⟨.inr rfl,[.d (pI q)],rfl,c',[],rfl,trivial,hc'.lw,hc',q,rfl,q0,by omega,hN⟩
 refine zal rfl rfl (decide_eq_false (by omega)) ?_;refine zae ?_;refine mwF ?_;refine zau ?_;refine mQ ?_;refine po_g rfl (hB.use trivial hc hn (p:=0) rfl) ?_;rintro x bx n1 l1 ⟨c1,rfl,hc1,r1,rfl,h10,h11,hN1⟩;refine mN ?_;refine mQ ?_;refine po_g rfl (hB.use trivial hc1 (by have:=hN1.le; omega) (p:=0) rfl) ?_;rintro x bx n2 l2 ⟨c2,rfl,hc2,r2,rfl,h20,h21,hN2⟩;refine mN ?_;refine mQ ?_;refine po_g rfl (hB.use trivial hc2 (by have:=hN1.le; have:=hN2.le; omega) (p:=0) rfl) ?_;rintro x bx n3 l3 ⟨c3,rfl,hc3,r3,rfl,h30,h31,hN3⟩;refine mN ?_;refine mQ ?_;refine po_g rfl (hB.use trivial hc3 (by have:=hN1.le; have:=hN2.le; have:=hN3.le; omega) (p:=0) rfl) ?_;rintro x bx n4 l4 ⟨c4,rfl,hc4,r4,rfl,h40,h41,hN4⟩;refine mN ?_;refine mQ ?_;refine po_mul (n:=r1 * 16777216) rfl rfl rfl rfl (by omega) ?_;refine mS ?_;refine po_mul (n:=r2 * 65536) rfl rfl rfl rfl (by omega) ?_;refine zay (n:=r1 * 16777216 + r2 * 65536) rfl rfl rfl rfl (by omega) ?_
 refine mS ?_;refine po_mul (n:=r3 * 256) rfl rfl rfl rfl (by omega) ?_;refine zay (n:=r1 * 16777216 + r2 * 65536 + r3 * 256) rfl rfl rfl rfl (by omega) ?_;refine mS ?_;refine zay (n:=r1 * 16777216 + r2 * 65536 + r3 * 256 + r4) rfl rfl rfl rfl (by omega) ?_;refine mS ?_;refine zgf rfl rfl rfl (by omega) (by omega) fun q hq q0 q1 => ?_
 refine mN ?_;exact zab ⟨.inr rfl,[.d (pI q)],rfl,c4,[],rfl,trivial,hc4.lw,hc4,q,rfl,q0,by omega,((hN1.pass hN2).pass hN3).pass hN4⟩
theorem zcG {b:L8} (hb:b.length <= 2147483647) (m:Int):Drw (env T hT) b 38 [.d (pI m)] QB:=by
 rintro c nt live hc hn;refine zaR (R:=fun x bx n l => ∃ c' rest,bx = c' :: rest /\ x.lw 0 /\ lwL 0 c' /\ Cu b c' /\ QB nt live x n l) (zad ze6) (by show 2 <= 9; decide) fun B hB' => ?_
 unfold m_s_l01Once;refine mP ?_;refine mO ?_;(iterate 2 refine mS ?_);refine po_g rfl ((zba (T:=T) (hT:=hT) hb m).use ⟨trivial,trivial⟩ hc hn (p:=0) rfl) ?_;rintro x bx n l ⟨c',rfl,hc',r,rfl,h0,h1,hN⟩;refine po_b rfl rfl (fun q hq => ?_);refine mN ?_;exact zab ⟨.inr rfl,[.d (pB q)],rfl,c',[],rfl,trivial,hc'.lw,hc',q,rfl,hN⟩
def allS (p:L8 -> Bool):LP PC -> Bool
 | [] => true
 | [.v (.string s)] :: r => p s.data.toList && allS p r
 | _ :: _ => false
def allI (p:Int -> Bool):LP PC -> Bool
 | [] => true
 | [.v (.int .i64 s)] :: r => p s && allI p r
 | _ :: _ => false
theorem zgg {p:L8 -> Bool}:∀ {es:LP PC} {k:Nat},allS p es = true -> (hk:k < es.length) -> ∃ s,es[k] = [pS s] /\ p s = true
 | [.v (.string s)] :: r,0,h,_ => by
  simp only [allS,Bool.and_eq_true] at h
  exact ⟨s.data.toList,by simp [pS],h.1⟩
 | [.v (.string s)] :: r,k + 1,h,hk => by
  simp only [allS,Bool.and_eq_true] at h;exact zgg (es:=r) (k:=k) h.2 (by simpa using hk)
theorem allI_at {p:Int -> Bool}:∀ {es:LP PC} {k:Nat},allI p es = true -> (hk:k < es.length) -> ∃ s,es[k] = [pI s] /\ p s = true
 | [.v (.int .i64 s)] :: r,0,h,_ => by
  simp only [allI,Bool.and_eq_true] at h
  exact ⟨s,rfl,h.1⟩
 | [.v (.int .i64 s)] :: r,k + 1,h,hk => by
  simp only [allI,Bool.and_eq_true] at h;exact allI_at (es:=r) (k:=k) h.2 (by simpa using hk)
theorem zcp {p:L8 -> Bool}:∀ {es:LP PC},allS p es = true -> lwLL 0 es
 | [],_ => by simp only [lwLL]
 | [.v (.string s)] :: r,h => by
  simp only [allS,Bool.and_eq_true] at h;simp only [lwLL,lwL,PC.lw,and_true,true_and]; exact zcp h.2
theorem zcT {p:Int -> Bool}:∀ {es:LP PC},allI p es = true -> lwLL 0 es
 | [],_ => by simp only [lwLL]
 | [.v (.int .i64 s)] :: r,h => by
  simp only [allI,Bool.and_eq_true] at h;simp only [lwLL,lwL,PC.lw,and_true,true_and]; exact zcT h.2
theorem zb3 {b:L8} (hb:b.length <= 2147483647) (p:L8 -> Bool) {t:Nat} {es:LP PC} (hp:allS p es = true) (h0:0 < es.length):Drw (env T hT) b 41 [.d (.sl t es)] (QT fun s => p s = true):=by
 rintro c nt live hc hn;refine zaR (R:=fun x bx n l => ∃ c' rest,bx = c' :: rest /\ x.lw 0 /\ lwL 0 c' /\ Cu b c' /\ QT (fun s => p s = true) nt live x n l) (zad ze7) (by show 2 <= 12; decide) fun B hB' => ?_
 unfold m_s_l01Pick;refine mP ?_;refine mO ?_;(iterate 3 refine mS ?_);refine zaA (n:=es.length) rfl rfl rfl ?_;refine po_g rfl ((zba (T:=T) (hT:=hT) hb (es.length:Int)).use ⟨trivial,trivial⟩ hc hn (p:=0) rfl) ?_;rintro x bx n l ⟨c',rfl,hc',r,rfl,r0,r1,hN⟩;obtain ⟨k,rfl⟩:∃ k:Nat,r = k:=⟨r.toNat,by omega⟩;have hk:k < es.length:=by omega
 obtain ⟨s,hs,hps⟩:=zgg hp hk;refine za4 (es:=es) (e:=[pS s]) rfl rfl rfl ⟨r0,by rw [Int.toNat_natCast,getElem?_eq_getElem hk,hs]⟩ rfl ?_;refine mN ?_;exact zab ⟨.inr rfl,[.d (pS s)],rfl,c',[],rfl,trivial,hc'.lw,hc',s,rfl,hps,hN⟩
def QM (p:Int -> Bool):Nat -> List Nat -> PV -> Nat -> List Nat -> Prop:=fun nt live x n l => ∃ r:Int,x = .d (pI r) /\ p r = true /\ NR nt live n l []
theorem zbP {b:L8} (hb:b.length <= 2147483647) (p:Int -> Bool) {t:Nat} {es:LP PC} (hp:allI p es = true) (h0:0 < es.length):Drw (env T hT) b 44 [.d (.sl t es)] (QM p):=by
 rintro c nt live hc hn;refine zaR (R:=fun x bx n l => ∃ c' rest,bx = c' :: rest /\ x.lw 0 /\ lwL 0 c' /\ Cu b c' /\ QM p nt live x n l) (zad zdG) (by show 2 <= 12; decide) fun B hB' => ?_
 unfold m_s_l01PickInt;refine mP ?_;refine mO ?_;(iterate 3 refine mS ?_);refine zaA (n:=es.length) rfl rfl rfl ?_;refine po_g rfl ((zba (T:=T) (hT:=hT) hb (es.length:Int)).use ⟨trivial,trivial⟩ hc hn (p:=0) rfl) ?_;rintro x bx n l ⟨c',rfl,hc',r,rfl,r0,r1,hN⟩;obtain ⟨k,rfl⟩:∃ k:Nat,r = k:=⟨r.toNat,by omega⟩;have hk:k < es.length:=by omega
 obtain ⟨s,hs,hps⟩:=allI_at hp hk;refine za4 (es:=es) (e:=[pI s]) rfl rfl rfl ⟨r0,by rw [Int.toNat_natCast,getElem?_eq_getElem hk,hs]⟩ rfl ?_;refine mN ?_;exact zab ⟨.inr rfl,[.d (pI s)],rfl,c',[],rfl,trivial,hc'.lw,hc',s,rfl,hps,hN⟩
def NewI (b:L8) (m:Nat) (st:St):Prop:=∃ (i:Nat) (h:Int),i <= b.length /\ m = b.length - i /\ i64ok h /\ has st.tm [(0,.d (.sl 0 (pcB b))),(3,.d (pI h)),(4,.d (pI i))] /\ st.bx = []
theorem new_g {b:L8} (hb:b.length <= 2147483647) (nt:Nat) (live:List Nat):FnG (env T hT) 19 [.d (.sl 0 (pcB b))] [] nt live (fun x bx n l => ∃ c,x = .ref 0 0 /\ bx = [c] /\ Cu b c /\ n = nt /\ l = live):=by
 refine zaR (zad zgd) (by show 1 <= 32; decide) fun B hB => ?_
 unfold m_s_l01New;refine mP ?_;refine mQ ?_;refine zaA (n:=b.length) rfl rfl (zbd b) ?_;refine zay (n:=421421 + (b.length:Int)) rfl rfl rfl rfl (by omega) ?_;refine mN ?_;refine zav (fun st => ∃ h,i64ok h /\ has st.tm [(0,.d (.sl 0 (pcB b))),(3,.d (pI h))] /\ st.bx = [] /\ st.nt = nt /\ st.live = live) ?_ ?_
 ·refine mP ?_
  refine zai ?_;refine zaJ (fun m st => NewI b m st /\ st.nt = nt /\ st.live = live) b.length ⟨⟨0,421421 + (b.length:Int),Nat.zero_le _,rfl,by unfold i64ok; omega,⟨rfl,rfl,rfl,trivial⟩,rfl⟩,rfl,rfl⟩ ?_;rintro m tm bx n l ⟨⟨i,h,hi,rfl,hh,ht,hbx⟩,hn,hl⟩;obtain ⟨tm0,rfl⟩:=zah ht;simp only at hbx hn hl; subst hbx; subst hn; subst hl
  clear ht;refine zaD (zav (fun st => has st.tm [(0,.d (.sl 0 (pcB b))),(3,.d (pI h)),(4,.d (pI i)),(15,.d (pB (decide (i < b.length /\ i < 4000))))] /\ st.bx = [] /\ st.nt = n /\ st.live = l) ?_ ?_)
  ·refine zaj ?_
   (iterate 2 refine mS ?_);refine zaA (n:=b.length) rfl rfl (zbd b) ?_;by_cases c1:i < b.length
   ·refine zaf rfl rfl (decide_eq_true (by omega)) ?_
    (iterate 2 refine mS ?_);by_cases c2:i < 4000
    ·refine zaf rfl rfl (decide_eq_true (by omega)) ?_
     refine mN ?_;exact ⟨⟨rfl,rfl,rfl,by rw [decide_eq_true ⟨c1,c2⟩]; rfl,trivial⟩,rfl,rfl,rfl⟩
    ·refine zal rfl rfl (decide_eq_false (by omega)) ?_
     refine mN ?_;exact ⟨⟨rfl,rfl,rfl,by rw [decide_eq_false (by omega)]; rfl,trivial⟩,rfl,rfl,rfl⟩
   ·refine zal rfl rfl (decide_eq_false (by omega)) ?_
    refine mS ?_;refine mZ ?_;refine mN ?_;exact ⟨⟨rfl,rfl,rfl,by rw [decide_eq_false (by omega)]; rfl,trivial⟩,rfl,rfl,rfl⟩
  rintro tm bx n1 l1 ⟨ht,hbx,hn,hl⟩;obtain ⟨tm1,rfl⟩:=zah ht;simp only at hbx hn hl; subst hbx; subst hn; subst hl
  clear ht tm0;refine ze5 (p:=i < b.length /\ i < 4000) rfl (fun hc => ?_) (fun hc => ?_)
  ·have hg:b[i]? = some b[i]:=getElem?_eq_getElem hc.1
   have hbt:=(b[i]).toNat_lt;refine zau ?_;refine zaD (zai (zaj ?_));refine mS ?_;refine po_q rfl rfl ?_;(iterate 2 refine mS ?_);refine za4 (es:=pcB b) (e:=[.v (.int .u8 (b[i]).toNat)]) rfl rfl rfl ⟨by omega,by rw [Int.toNat_natCast]; exact zgc hg⟩ rfl ?_;refine mS ?_;refine zf9 (n:=((b[i]).toNat:Int)) rfl rfl (by rw [IntKind.wrap_i64]; omega) ?_;refine po_q rfl rfl ?_;refine po_q rfl rfl ?_;refine po_q (v:=.d (pI (andR (IntKind.i64.wrap (IntKind.i64.wrap (IntKind.i64.wrap (h * 131) + ((b[i]).toNat:Int)) + 7)) 1073741823))) rfl rfl ?_;obtain ⟨hw0,hw1⟩:=zcS (m:=1073741823) (IntKind.i64.wrap (IntKind.i64.wrap (IntKind.i64.wrap (h * 131) + ((b[i]).toNat:Int)) + 7)) (by decide);generalize andR (IntKind.i64.wrap (IntKind.i64.wrap (IntKind.i64.wrap (h * 131) + ((b[i]).toNat:Int)) + 7)) 1073741823 = h2 at hw0 hw1;refine mN ?_;refine zaj ?_;refine mS ?_;refine zay (n:=((i + 1:Nat):Int)) rfl rfl rfl (by omega) (by omega) ?_
   refine mN ?_;exact ⟨_,by show b.length - (i + 1) < b.length - i; omega,⟨i + 1,h2,by omega,rfl,by unfold i64ok; omega,⟨rfl,rfl,rfl,trivial⟩,rfl⟩,rfl,rfl⟩
  ·refine zaL ?_
   exact ⟨h,hh,⟨rfl,rfl,trivial⟩,rfl,rfl,rfl⟩
 rintro tm bx n l ⟨h,hh,ht,hbx,hn,hl⟩;obtain ⟨tm0,rfl⟩:=zah ht;simp only at hbx hn hl; subst hbx; subst hn; subst hl
 clear ht;refine mO ?_;(iterate 2 refine mS ?_);refine po_s (v:=.ag (cuC b 0 h)) rfl rfl rfl ?_;refine zax (cs:=cuC b 0 h) rfl ?_;refine mN ?_;exact zab ⟨.inr rfl,[.ref 0 0],rfl,cuC b 0 h,rfl,rfl,⟨0,h,Nat.zero_le _,hh,rfl⟩,rfl,rfl⟩
theorem NR.up {nt n:Nat} {live l cs:_} (h:NR nt live n l cs):NR nt live (n + 1) (n :: l) cs:=h.mono (Nat.le_succ _) fun _t ht _ _ => mem_cons_of_mem _ ht
theorem NR.n2 {nt n:Nat} {live l cs:_} (h:NR nt live n l cs) (h2:2 <= nt):2 <= n:=Nat.le_trans h2 h.le
def SmI (b:L8) (nt:Nat) (live:List Nat) (m k:Nat) (st:St):Prop:=∃ (i:Nat) (s:L8) (c:List PC),i <= m /\ k = m - i /\ s.length <= 4 * i /\ Cu b c /\ has st.tm [(0,.ref 0 0),(3,.d (pS s)),(4,.d (pI m)),(5,.d (pI i))] /\ st.bx = [c] /\ NR nt live st.nt st.live []
theorem some_drw {b:L8} (hb:b.length <= 2147483647):Drw (env T hT) b 71 [] (QT fun s => s.length <= 16):=by
 rintro c nt live hc hn;refine zaR (R:=fun x bx n l => ∃ c' rest,bx = c' :: rest /\ x.lw 0 /\ lwL 0 c' /\ Cu b c' /\ QT (fun s => s.length <= 16) nt live x n l) (zad zfb) (by show 1 <= 19; decide) fun B hB' => ?_
 unfold m_s_l01Some;refine mP ?_;refine mP ?_;refine mQ ?_;refine po_g rfl ((zba (T:=T) (hT:=hT) hb 5).use ⟨trivial,trivial⟩ hc hn (p:=0) rfl) ?_;rintro x bx n1 l1 ⟨c1,rfl,hc1,r,rfl,r0,r1,hN⟩;obtain ⟨m,rfl⟩:∃ m:Nat,r = m:=⟨r.toNat,by omega⟩;have hm:m <= 4:=by omega
 refine mN ?_;refine zav (fun st => ∃ (s:L8) (c:List PC),s.length <= 16 /\ Cu b c /\ has st.tm [(3,.d (pS s))] /\ st.bx = [c] /\ NR nt live st.nt st.live []) ?_ ?_
 ·refine mP ?_
  refine zai ?_;refine zaJ (SmI b nt live m) m ⟨0,[],c1,Nat.zero_le _,rfl,lR,hc1,⟨rfl,rfl,rfl,rfl,trivial⟩,rfl,hN⟩ ?_;rintro k tm bx n l ⟨i,s,c2,hi,rfl,hs,hc2,ht,hbx,hN2⟩;obtain ⟨tm0,rfl⟩:=zah ht;simp only at hbx hN2; subst hbx
  clear ht;refine mM ?_;(iterate 2 refine mS ?_);refine po_b rfl rfl (fun q hq => ?_);refine zae ?_;refine zb9 (p:=(i:Int) < m) hq rfl (fun h _ => ?_) (fun h _ => ?_)
  ·refine zau ?_
   refine zaD (zai (zaj ?_));(iterate 2 refine mS ?_);refine zaC rfl ?_;refine po_g rfl ((zb3 (T:=T) (hT:=hT) hb (fun s => decide (s.length <= 4)) rfl (by show 0 < 13; decide)).use ⟨by simp only [PV.lw,PC.lw]; exact zcp (p:=fun s => decide (s.length <= 4)) rfl,trivial⟩ hc2 (by have:=hN2.n2 hn; omega) (p:=0) rfl) ?_;rintro x bx n3 l3 ⟨c3,rfl,hc3,q2,rfl,hq2,hN3⟩;have hq2:q2.length <= 4:=of_decide_eq_true hq2;refine po_cat rfl rfl rfl (by omega) ?_;refine mN ?_;refine zaj ?_;refine mS ?_;refine zay (n:=((i + 1:Nat):Int)) rfl rfl rfl (by omega) (by omega) ?_;refine mN ?_;exact ⟨_,by show m - (i + 1) < m - i; omega,i + 1,s ++ q2,c3,by omega,rfl,by rw [length_append]; omega,hc3,⟨rfl,rfl,rfl,rfl,trivial⟩,rfl,hN2.up.pass hN3⟩
  ·refine zaL ?_
   exact ⟨s,c2,by omega,hc2,⟨rfl,trivial⟩,rfl,hN2⟩
 rintro tm bx n l ⟨s,c2,hs,hc2,ht,hbx,hN2⟩;obtain ⟨tm0,rfl⟩:=zah ht;simp only at hbx hN2; subst hbx
 clear ht;refine mP ?_;exact zab ⟨.inr rfl,[.d (pS s)],rfl,c2,[],rfl,trivial,hc2.lw,hc2,s,rfl,hs,hN2⟩
end
section
def lcI:Nat -> Int -> Int
 | 0,h => h
 | n + 1,h => lcI n (lcM h)
def lcU (h:Int):Nat:=(h % 18446744073709551616).toNat
theorem wrap_mod (z:Int):IntKind.i64.wrap z % 18446744073709551616 = z % 18446744073709551616:=by
 rw [IntKind.wrap_i64]; omega
theorem lcM_mod (h:Int):lcM h % 18446744073709551616 = (h * 6364136223846793005 + 1442695040888963407) % 18446744073709551616:=by
 unfold lcM;rw [wrap_mod,Int.add_emod,wrap_mod,<- Int.add_emod]
theorem lcU_M (h:Int):lcU (lcM h) = lgN (lcU h) % 18446744073709551616:=by
 unfold lcU;rw [lcM_mod,Int.add_emod,Int.mul_emod,<- Int.add_emod];have h0:0 <= h % 18446744073709551616:=Int.emod_nonneg _ (by decide);obtain ⟨u,hu⟩:∃ u:Nat,h % 18446744073709551616 = u:=⟨(h % 18446744073709551616).toNat,by omega⟩;rw [hu,Int.toNat_natCast];unfold lgN lgA lgC
 have e:(((u:Int) * (6364136223846793005 % 18446744073709551616) + 1442695040888963407) % 18446744073709551616) = ((6364136223846793005 * u + 1442695040888963407:Nat):Int) % 18446744073709551616:=by
  rw [show (6364136223846793005:Int) % 18446744073709551616 = 6364136223846793005 from rfl]
  congr 1
  omega
 rw [e];generalize 6364136223846793005 * u + 1442695040888963407 = z;omega
theorem zez (M:Nat):∀ (j x:Nat),lgI j (x % M) % M = lgI j x % M
 | 0,x => Nat.mod_mod x M
 | j + 1,x => by
  have e:lgN (x % M) % M = lgN x % M:=by
   unfold lgN;rw [Nat.add_mod,Nat.mul_mod,Nat.mod_mod,<- Nat.mul_mod,<- Nat.add_mod]
  have h1:=zez M j (lgN (x % M));have h2:=zez M j (lgN x);rw [e] at h1;exact h1.symm.trans h2
theorem lgI_mod (j x:Nat):lgI j (x % 18446744073709551616) % 18446744073709551616 = lgI j x % 18446744073709551616:=zez _ j x
theorem lcU_I:∀ (j:Nat) (h:Int),lcU (lcI j h) = lgI j (lcU h) % 18446744073709551616
 | 0,h => by simp only [lcI,lgI]; unfold lcU; omega
 | j + 1,h => by
  have h1:=lcU_I j (lcM h);rw [lcU_M,lgI_mod] at h1;exact h1
theorem lcI_ok:∀ (j:Nat) {h:Int},i64ok h -> i64ok (lcI j h)
 | 0,_,h => h
 | j + 1,_,_ => lcI_ok j (zdJ _)
theorem lc_reach {h:Int} (hh:i64ok h):∃ j,j <= 18446744073709551616 /\ lcI j h = 9:=by
 obtain ⟨j,hj,he⟩:=lg_reach (lcU h) 9 64;refine ⟨j,Nat.le_of_lt hj,?_⟩;have h1:=lcU_I j h;have h2:=lcI_ok j hh;have he:lgI j (lcU h) % 18446744073709551616 = 9:=he;rw [he] at h1;unfold lcU at h1;unfold i64ok at h2;omega
def Dfl (h:Int):Prop:=3 <= (lcX (lcM h)).tmod 5
def Prg:Nat -> Int -> Prop
 | 0,h => Dfl h
 | n + 1,h => Dfl h \/ (Prg n (lcM h) /\ Prg n (lcM (lcM h)) /\ Prg n (lcM (lcM (lcM h))))
theorem Prg.mono:∀ {n:Nat} {h:Int},Prg n h -> Prg (n + 1) h
 | 0,_,h => .inl h
 | n + 1,_,h => by
  rcases h with h | ⟨a,b,c⟩
  ·exact .inl h
  ·exact .inr ⟨Prg.mono a,Prg.mono b,Prg.mono c⟩
theorem Prg.dfl:∀ {n:Nat} {h:Int},Dfl h -> Prg n h
 | 0,_,h => h
 | _ + 1,_,h => .inl h
theorem dfl9:Dfl 9 /\ Dfl (lcM 9) /\ Dfl (lcM (lcM 9)):=by
 unfold Dfl; decide
theorem zcd:∀ (j:Nat) (h:Int),(lcI j h = 9 \/ h = 9 \/ h = lcM 9 \/ h = lcM (lcM 9)) -> Prg j h
 | j,h,.inr (.inl e) => by subst e; exact Prg.dfl dfl9.1
 | j,h,.inr (.inr (.inl e)) => by subst e; exact Prg.dfl dfl9.2.1
 | j,h,.inr (.inr (.inr e)) => by subst e; exact Prg.dfl dfl9.2.2
 | 0,h,.inl e => by have e:h = 9:=e; subst e; exact dfl9.1
 | 1,h,.inl e => by
  have e:lcM h = 9:=e
  exact .inr ⟨zcd 0 _ (.inr (.inl e)),zcd 0 _ (.inr (.inr (.inl (by rw [e])))),zcd 0 _ (.inr (.inr (.inr (by rw [e]))))⟩
 | 2,h,.inl e => by
  have e:lcM (lcM h) = 9:=e
  exact .inr ⟨zcd 1 _ (.inl e),zcd 1 _ (.inr (.inl e)),zcd 1 _ (.inr (.inr (.inl (by rw [e]))))⟩
 | j + 3,h,.inl e => by
  have e:lcI j (lcM (lcM (lcM h))) = 9:=e;exact .inr ⟨zcd (j + 2) _ (.inl e),(zcd (j + 1) _ (.inl e)).mono,(zcd j _ (.inl e)).mono.mono⟩
theorem prg_all {h:Int} (hh:i64ok h):∃ n,n <= 18446744073709551616 /\ Prg n h:=by
 obtain ⟨j,hj,e⟩:=lc_reach hh;exact ⟨j,hj,zcd j h (.inl e)⟩
end
end Go.Proofs.YtdnjinhlhohfiaaGreatDoor
