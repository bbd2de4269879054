/- Part 2 of a proof: PvT, PvU, PvV, PvK, PvW0, PvY, PvZ, PvW, PvX, Data, PvB, PvB2, PvO, Keep, PvN, PvN2, PvN3, PvBl, BelW, ShapeDef, Range, ValueDef, Find, WrongDef, PvD, PvJ0, PvLw, PvEnv, PvTop, Anew, StrSz, StrTo, StrEq, FnO1, CopyN, Shelf, VOwn0, OwnSl -/
import Derived.Test.YtaofmfkcfmcmpaaGreatDoorAb1
import Derived.Test.YtaofmfkcfmcmpaaGreatDoorRows
import Derived.StillTailTactics
import Derived.Shelf.Unicode.ValidAny
import Derived.Shelf.Strconv.Itoa3
import Derived.Shelf.Strconv.ErrVar
import Derived.Shelf.Strconv.ErrVarAll
import Derived.Deep.AppendLies
namespace Go.Proofs.YtaofmfkcfmcmpaaGreatDoor
open Go.RowKit
set_option maxHeartbeats 4000000
set_option maxRecDepth 100000
open List
section
theorem zdm {p q:Nat -> Bool} {i:Nat}:∀ {l:List Nat},(∀ j,q j = true -> p j = true) -> i ∈ l -> p i = true -> q i = false -> (l.filter q).length < (l.filter p).length
 | [],_,hi,_,_ => by simp at hi
 | x :: l,hpq,hi,hp,hq => by
  have hle:∀ l:List Nat,(l.filter q).length <= (l.filter p).length:=by
   intro l
   induction l with
   | nil => simp
   | cons y l ih =>
    by_cases hy:q y = true
    ·rw [filter_cons_of_pos hy,filter_cons_of_pos (hpq y hy)]; simp; exact ih
    ·rw [filter_cons_of_neg hy]
     by_cases hy2:p y = true
     ·rw [filter_cons_of_pos hy2]; simp; omega
     ·rw [filter_cons_of_neg hy2]; exact ih
  rcases mem_cons.1 hi with rfl | hi
  ·rw [filter_cons_of_neg (by rw [hq]; decide),filter_cons_of_pos hp]
   have:=hle l; simp; omega
  ·have ih:=zdm hpq hi hp hq
   by_cases hy:q x = true
   ·rw [filter_cons_of_pos hy,filter_cons_of_pos (hpq x hy)]; simp; exact ih
   ·rw [filter_cons_of_neg hy]
    by_cases hy2:p x = true
    ·rw [filter_cons_of_pos hy2]; simp; omega
    ·rw [filter_cons_of_neg hy2]; exact ih
section
variable {E:Env} {B:Base} {ml:List MOpr} {es bs:List (List Nat)} {ord:List Nat} {K:St -> Prop} {tm0:Nat -> PV} {ops:Array Oper} {Q:Exit -> Act -> World -> Prop}
def LL (listed:Array Bool) (i:Nat):Prop:=listed.getD i false = true
theorem LL_set {listed:Array Bool} {i:Nat} (hi:i < listed.size) (j:Nat):LL (listed.setIfInBounds i true) j ↔ j = i \/ LL listed j:=by
 unfold LL;by_cases h:j = i
 ·subst h; simp [hi]
 ·simp only [Array.getD_eq_getD_getElem?,Array.getElem?_setIfInBounds_ne (show i ≠ j by omega)]; simp [h]
theorem zb3 {tm:Nat -> PV} {bx:LP PC} {nt:Nat} {live:List Nat} {d:Option Nat} {v:PV}:St.put ⟨tm,bx,nt,live⟩ d v = ⟨fun t => if d = some t then v else tm t,bx,nt,live⟩:=by
 cases d with
 | none => simp [St.put]
 | some d =>
  simp only [St.put,sI,St.mk.injEq,and_true]
  funext t
  by_cases h:t = d
  ·subst h; simp
  ·rw [if_neg h,if_neg (fun e => h e.symm)]
theorem sim_any (hc:Canon ml es bs ord) (hsz:ops.size = ml.length) (htr:∀ (i:Nat) (o:Oper) (m:MOpr),ops[i]? = some o -> ml[i]? = some m -> TrO E.P B.n ops o m) (hes:∀ (i:Nat) (o:Oper),ops[i]? = some o -> es.getD i [] = edgesOf o)
  (hK:∀ C' s' a' w',Rep E B C' s' a' w' -> K s' -> Q .normal a' w') :
  ∀ (fuel:Nat) (listed:Array Bool) (C:Cx) (s:St) (a:Act) (w:World) (pre rest:List Nat),Sim E B ml es bs ord K tm0 (LL listed) pre rest s -> listed.size = ops.size -> Rep E B C { s with tm:=mix ml (LL listed) s.tm tm0 } a w ->
   ((range ml.length).filter (fun i => !(listed.getD i false))).length <= fuel -> wpAny E.P .any ops Q fuel listed a w:=by
 -- all is listed
 have hdone:∀ (listed:Array Bool) (C:Cx) (s:St) (a:Act) (w:World) (pre rest:List Nat),Sim E B ml es bs ord K tm0 (LL listed) pre rest s -> Rep E B C { s with tm:=mix ml (LL listed) s.tm tm0 } a w -> (∀ i,i < ml.length -> LL listed i) -> Q .normal a w:=by
  intro listed C s a w pre rest hS hr hall
  have hrest:rest = []:=by
   cases hrr:rest with
   | nil => rfl
   | cons i r =>
    exfalso;have hio:i ∈ ord:=by rw [hS.split,hrr]; simp
    have hip:=hS.sub i (hall i ((hc.mem i).1 hio));have hnd:=hc.nodup;rw [hS.split,hrr] at hnd;exact (nodup_append.1 hnd).2.2 i hip i (by simp) rfl
  have hrun:=hS.run;rw [hrest] at hrun;refine hK C s a w ?_ hrun
  have htm:mix ml (LL listed) s.tm tm0 = s.tm:=by
   funext t
   by_cases hw:wr ml (LL listed) t
   ·simp [mix,hw]
   ·simp only [mix,hw,if_false]
    refine (hS.fresh t ?_).symm;rintro ⟨i,m,a1,a2,a3⟩;refine hw ⟨i,m,a1,a2,hall i ?_⟩
    rcases Nat.lt_or_ge i ml.length with h | h
    ·exact h
    ·simp [getElem?_eq_none h] at a1
  rw [htm] at hr; exact hr
 -- nothing is ready: all is listed
 have hready:∀ (listed:Array Bool),listed.size = ops.size -> Region.ready .any ops listed = [] -> ∀ i,i < ml.length -> LL listed i:=by
  intro listed hls hr i
  induction i using Nat.strongRecOn with
  | _ i ih =>
   intro hi
   apply Classical.byContradiction
   intro hn;have hio:i < ops.size:=by omega
   have:i ∈ Region.ready .any ops listed:=by
    rw [mem_ready];refine ⟨?_,ops[i],Array.getElem?_eq_getElem hio,fun e he hb => ?_⟩
    ·unfold LL at hn
     have hil:i < listed.size:=by omega
     simp only [Array.getD_eq_getD_getElem?,Array.getElem?_eq_getElem hil,Option.getD_some] at hn ⊢;simpa using hn
    ·have hm:e.on ∈ es.getD i []:=by
      rw [hes i ops[i] (Array.getElem?_eq_getElem hio)];unfold edgesOf;exact mem_map.2 ⟨e,mem_filter.2 ⟨by simpa using he,hb⟩,rfl⟩
     have:=hc.acyc i e.on hi hm
     exact ih e.on this (by omega)
   rw [hr] at this; cases this
 intro fuel
 induction fuel with
 | zero =>
  intro listed C s a w pre rest hS hls hr hcount
  have hall:∀ i,i < ml.length -> LL listed i:=by
   intro i hi
   apply Classical.byContradiction
   intro hn
   have:i ∈ (range ml.length).filter (fun i => !(listed.getD i false)):=mem_filter.2 ⟨mem_range.2 hi,by unfold LL at hn; simpa using hn⟩
   have h0:(range ml.length).filter (fun i => !(listed.getD i false)) = []:=eq_nil_of_length_eq_zero (by omega);rw [h0] at this; cases this
  refine ⟨?_,hdone listed C s a w pre rest hS hr hall⟩
  cases hrd:Region.ready .any ops listed with
  | nil => rfl
  | cons i r =>
   exfalso;have hm:i ∈ Region.ready .any ops listed:=by rw [hrd]; simp
   obtain ⟨h1,o,ho,_⟩:=mem_ready.1 hm;have hi:i < ops.size:=(Array.getElem?_eq_some_iff.1 ho).1
   have:=hall i (by omega)
   unfold LL at this;have hil:i < listed.size:=by omega
   simp only [Array.getD_eq_getD_getElem?,Array.getElem?_eq_getElem hil,Option.getD_some] at this h1
   rw [this] at h1; cases h1
 | succ fuel ih =>
  intro listed C s a w pre rest hS hls hr hcount;refine ⟨fun h => hdone listed C s a w pre rest hS hr (hready listed hls h),fun i hi => ?_⟩;obtain ⟨h1,o,ho,hall⟩:=mem_ready.1 hi;have hio:i < ops.size:=(Array.getElem?_eq_some_iff.1 ho).1;have hil:i < ml.length:=by omega
  have hils:i < listed.size:=by omega
  have hmi:ml[i]? = some ml[i]:=getElem?_eq_getElem hil;have htro:=htr i o ml[i] ho hmi;obtain ⟨t1,t2,t3,t4,t5⟩:=id htro;have htro0:TrO E.P B.n ops o { ml[i] with c:=ml[i].keep }:=htro
  have hnL:¬ LL listed i:=by
   unfold LL;simp only [Array.getD_eq_getD_getElem?,Array.getElem?_eq_getElem hils,Option.getD_some] at h1 ⊢;rw [h1]; decide
  have hrdy:∀ e ∈ es.getD i [],LL listed e:=by
   intro e he;rw [hes i o ho] at he;unfold edgesOf at he;obtain ⟨ed,hed,rfl⟩:=mem_map.1 he;obtain ⟨g1,g2⟩:=mem_filter.1 hed;exact hall ed (by simpa using g1) g2
  have hcl:∀ j ∈ befOf bs i,LL listed j:=hc.closed (LL listed) hS.closed i hil hrdy;have hset:=fun j => LL_set (listed:=listed) hils j
  have hcount':((range ml.length).filter (fun j => !((listed.setIfInBounds i true).getD j false))).length <= fuel:=by
   have hlt:=zdm (p:=fun j => !(listed.getD j false)) (q:=fun j => !((listed.setIfInBounds i true).getD j false)) (i:=i) (l:=range ml.length)
    (fun j hj => by
     simp only [Bool.not_eq_true'] at hj ⊢
     cases h0:listed.getD j false with
     | false => rfl
     | true => have:=(hset j).2 (.inr h0); unfold LL at this; rw [this] at hj; cases hj)
    (mem_range.2 hil) (by simp only [Bool.not_eq_true']; unfold LL at hnL; simpa using hnL) (by
     have:=(hset i).2 (.inl rfl); unfold LL at this; simp only [this]; rfl)
   omega
  have hls':(listed.setIfInBounds i true).size = ops.size:=by rw [Array.size_setIfInBounds]; exact hls
  have hdst:∀ (k:Nat) (mk:MOpr) (t:Nat),ml[k]? = some mk -> mk.d = some t -> ml[i].d = some t -> k = i:=fun k mk t a1 a2 a3 => hc.dst k i mk ml[i] t a1 hmi a2 a3
  have hwset:∀ t,wr ml (LL (listed.setIfInBounds i true)) t ↔ (ml[i].d = some t \/ wr ml (LL listed) t):=by
   intro t
   constructor
   ·rintro ⟨k,mk,a1,a2,a3⟩
    rcases (hset k).1 a3 with rfl | a3
    ·rw [hmi] at a1; simp only [sI] at a1; subst a1; exact .inl a2
    ·exact .inr ⟨k,mk,a1,a2,a3⟩
   ·rintro (h | ⟨k,mk,a1,a2,a3⟩)
    ·exact ⟨i,ml[i],hmi,h,(hset i).2 (.inl rfl)⟩
    ·exact ⟨k,mk,a1,a2,(hset k).2 (.inr a3)⟩
  have hgdm:∀ (f g:Nat -> PV),(∀ t ∈ ml[i].tmps,f t = g t) -> gd ml[i].g f = gd ml[i].g g:=fun f g h => zc1 fun t ht => h t (by unfold MOpr.tmps; exact mem_append.2 (.inr (by simpa using ht)))
  have hopm:∀ (f g:Nat -> PV),(∀ t ∈ ml[i].tmps,f t = g t) -> ∀ t ∈ ml[i].o.tmps,f t = g t:=fun f g h t ht => h t (by unfold MOpr.tmps; exact mem_append.2 (.inl ht))
  -- the machine's step,for either kind
  have machine:∀ (b:Bool) (K':St -> Prop),gd ml[i].g (mix ml (LL listed) s.tm tm0) = some b -> (b = true -> pstep E { ml[i] with c:=ml[i].keep } K' { s with tm:=mix ml (LL listed) s.tm tm0 }) -> (b = false -> K' (St.put { s with tm:=mix ml (LL listed) s.tm tm0 } ml[i].d (.tup []))) ->
    (∀ C' s' a' w',Rep E B C' s' a' w' -> K' s' -> wpAny E.P .any ops Q fuel (listed.setIfInBounds i true) a' w') -> wpOp E.P ops Q i (wpAny E.P .any ops Q fuel (listed.setIfInBounds i true)) a w:=by
   intro b K' hg hp1 hp2 hk;have hw:=zbr hr t2 hg;unfold wpOp;simp only [ho,hw]
   cases b with
   | true => rw [if_pos rfl]; exact .inl (zby htro0 hr (hp1 rfl) hk Q)
   | false =>
    rw [if_neg (by decide)];refine hk C _ _ w (hr.put t5 (.tup [] [] rfl (fun j x y h => by simp at h))) ?_;rw [<- t3]; exact hp2 rfl
  by_cases hloud:ml[i].o.loud = true
  ·-- a loud one: the canonical order's next
   have hipre:i ∉ pre:=fun h => hnL (hS.loud i ml[i] hmi hloud h)
   have hior:i ∈ ord:=(hc.mem i).2 hil;have hnd:=hc.nodup
   obtain ⟨r,hrest⟩:∃ r,rest = i :: r:=by
    rw [hS.split] at hior hnd;have hirest:i ∈ rest:=(mem_append.1 hior).resolve_left hipre
    cases hrr:rest with
    | nil => rw [hrr] at hirest; cases hirest
    | cons l r =>
     by_cases hli:l = i
     ·exact ⟨r,by rw [hli]⟩
     ·exfalso
      have hlo:l ∈ ord:=by rw [hS.split,hrr]; simp
      have hll:l < ml.length:=(hc.mem l).1 hlo;have hml:ml[l]? = some ml[l]:=getElem?_eq_getElem hll;have hld:=hS.head l r ml[l] hrr hml;rw [hrr] at hnd
      rcases hc.loud l i ml[l] ml[i] hml hmi hld hloud hli with h | h
      ·exact (nodup_append.1 hnd).2.2 l (hS.sub l (hcl l h)) l (by simp) rfl
      ·exact hipre (hc.ord' pre l r (by rw [hS.split,hrr]) i h)
   have hsplit:ord = pre ++ i :: r:=by rw [hS.split,hrest]
   have hment:∀ t ∈ ml[i].tmps,s.tm t = mix ml (LL listed) s.tm tm0 t:=by
    intro t ht;by_cases hw:wr ml (LL listed) t
    ·simp [mix,hw]
    ·simp only [mix,hw,if_false]
     refine hS.fresh t ?_;rintro ⟨k,mk,a1,a2,a3⟩
     rcases hc.touch k i mk ml[i] t a1 hmi a2 ht with h | h
     ·exact hw ⟨k,mk,a1,a2,hcl k h⟩
     ·obtain ⟨p1,p2,hp⟩:=append_of_mem a3
      have:=hc.ord' p1 k (p2 ++ i :: r) (by rw [hsplit,hp]; simp) i h
      exact hipre (by rw [hp]; simp [this])
   have hrun:=hS.run;rw [hrest] at hrun;simp only [filterMap_cons,hmi] at hrun;obtain ⟨g,hg,hrun⟩:=hrun;have hg':gd ml[i].g (mix ml (LL listed) s.tm tm0) = some g:=by rw [<- hgdm _ _ hment]; exact hg
   -- behind it
   have after:∀ (v:PV) (bx':LP PC) (nt':Nat) (live':List Nat),po E (r.filterMap (ml[·]?)) K (St.put ⟨s.tm,bx',nt',live'⟩ ml[i].d v) -> (ml[i].wr = false -> bx' = s.bx \/ ∃ c,bx' = s.bx ++ [c]) -> (ml[i].wr = true -> Wrote (ev s.tm) ml[i] s.bx bx' \/ bx' = s.bx) ->
     ∀ C' a' w',Rep E B C' (St.put ⟨mix ml (LL listed) s.tm tm0,bx',nt',live'⟩ ml[i].d v) a' w' -> wpAny E.P .any ops Q fuel (listed.setIfInBounds i true) a' w':=by
    intro v bx' nt' live' hpo hbx hst C' a' w' hr';have hs1:∀ t,¬ ml[i].d = some t -> (St.put ⟨s.tm,bx',nt',live'⟩ ml[i].d v).tm t = s.tm t:=fun t ht => by rw [zb3]; simp [ht]
    have hb1:(St.put ⟨s.tm,bx',nt',live'⟩ ml[i].d v).bx = bx':=by rw [zb3]
    obtain ⟨pre',rest',s2,hS2,e1,e2,e3,e4⟩:=quiets (E:=E) (B:=B) (K:=K) (tm0:=tm0) hc (L:=LL (listed.setIfInBounds i true)) r (pre ++ [i]) (St.put ⟨s.tm,bx',nt',live'⟩ ml[i].d v) (by rw [hsplit]; simp) hpo
     (fun k hk => by rcases (hset k).1 hk with rfl | hk; exact hil; exact hS.lt k hk)
     (fun k hk hL e he => by
      rcases (hset k).1 hL with rfl | hL
      ·exact (hset e).2 (.inr (hrdy e he))
      ·exact (hset e).2 (.inr (hS.closed k hk hL e he)))
     (fun k hk => by rcases (hset k).1 hk with rfl | hk; simp; simp [hS.sub k hk])
     (fun k mk hk hl hkp => by
      rcases mem_append.1 hkp with h | h
      ·exact (hset k).2 (.inr (hS.loud k mk hk hl h))
      ·rw [mem_singleton] at h; exact (hset k).2 (.inl h))
     (fun t ht => by
      rw [hs1 t (fun h => ht ⟨i,ml[i],hmi,h,by simp⟩)];exact hS.fresh t fun ⟨k,mk,a1,a2,a3⟩ => ht ⟨k,mk,a1,a2,by simp [a3]⟩)
     (fun j hj hjL => by
      have hji:j ≠ i:=fun h => hjL ((hset j).2 (.inl h))
      have hjp:j ∈ pre:=(mem_append.1 hj).resolve_right (by simpa using hji);have hjL':¬ LL listed j:=fun h => hjL ((hset j).2 (.inr h))
      obtain ⟨p1,p2,hp⟩:=append_of_mem hjp
      have hbj:∀ k ∈ befOf bs j,k ∈ pre:=fun k hk => by
       have:=hc.ord' p1 j (p2 ++ i :: r) (by rw [hsplit,hp]; simp) k hk
       rw [hp]; simp [this]
      have hmm:mix ml (· ∈ befOf bs j) (St.put ⟨s.tm,bx',nt',live'⟩ ml[i].d v).tm tm0 = mix ml (· ∈ befOf bs j) s.tm tm0:=by
       funext t
       by_cases hw:wr ml (· ∈ befOf bs j) t
       ·simp only [mix,hw,if_true]
        refine hs1 t fun hd => ?_
        obtain ⟨k,mk,a1,a2,a3⟩:=hw
        have:=hdst k mk t a1 a2 hd
        subst this; exact hipre (hbj k a3)
       ·simp only [mix,hw,if_false]
      intro m hm hl;obtain ⟨u,hu1,hu2⟩:=hS.done j hjp hjL' m hm hl;refine ⟨u,fun t ht => ?_,?_⟩
      ·rw [hs1 t fun hd => hji (hdst j m t hm ht hd)]; exact hu1 t ht
      ·rw [hmm,hb1]
       refine hu2.imp (fun ⟨q1,q2⟩ => ⟨q1,?_⟩) id
       cases his:ml[i].wr with
       | false => exact qf_ext q2 (hbx his)
       | true =>
        rcases hst his with hwr | hsame
        ·cases hld:m.o.isLoad with
         | false => rw [qf_nobx hld (bx':=s.bx)]; exact q2
         | true =>
          rcases hc.store j i m ml[i] hm hmi hld his with (h | h) | ⟨x,x1,x2,x3⟩
          ·exact absurd (hcl j h) hjL'
          ·exact absurd (hbj i h) hipre
          ·refine qf_apart x1 (zaB fun t ht => ?_) hwr (fun k => ⟨k,rfl⟩) x2 q2
           by_cases hw:wr ml (· ∈ befOf bs j) t
           ·simp [mix,hw]
           ·simp only [mix,hw,if_false]
            refine (hS.fresh t ?_).symm;rintro ⟨k,mk,a1,a2,_⟩;exact hw ⟨k,mk,a1,a2,x3 t ht k mk a1 a2⟩
        ·rw [hsame]; exact q2)
    refine ih _ C' s2 a' w' pre' rest' hS2 hls' ?_ hcount'
    have heq:({ s2 with tm:=mix ml (LL (listed.setIfInBounds i true)) s2.tm tm0 }:St) = St.put ⟨mix ml (LL listed) s.tm tm0,bx',nt',live'⟩ ml[i].d v:=by
     rw [zb3] at e1 e2 e3 ⊢;simp only [St.mk.injEq];refine ⟨?_,e1,e2,e3⟩
     funext t
     have hsub:wr ml (LL (listed.setIfInBounds i true)) t -> wr ml (· ∈ pre ++ [i]) t:=fun ⟨k,mk,a1,a2,a3⟩ => ⟨k,mk,a1,a2,by
      rcases (hset k).1 a3 with rfl | a3
      ·simp
      ·simp [hS.sub k a3]⟩
     by_cases hd:ml[i].d = some t
     ·have hw:wr ml (LL (listed.setIfInBounds i true)) t:=(hwset t).2 (.inl hd)
      simp only [mix,hw,if_true,hd];rw [e4 t (hsub hw),zb3]; simp [hd]
     ·by_cases hw0:wr ml (LL listed) t
      ·have hw:wr ml (LL (listed.setIfInBounds i true)) t:=(hwset t).2 (.inr hw0)
       simp only [mix,hw,hw0,if_true,hd,if_false];rw [e4 t (hsub hw),hs1 t hd]
      ·have hw:¬ wr ml (LL (listed.setIfInBounds i true)) t:=fun h => by rcases (hwset t).1 h with h | h; exact hd h; exact hw0 h
       simp only [mix,hw,hw0,if_false,hd]
    rw [heq]; exact hr'
   rcases hrun with ⟨rfl,hrun⟩ | ⟨rfl,hrun⟩
   ·refine machine true _ hg' (fun _ => zdl (tm':=mix ml (LL listed) s.tm tm0) (hopm _ _ hment) hrun) (fun h => by cases h) ?_
    rintro C' s' a' w' hr' ⟨v,bx',nt',live',rfl,hk,hkind⟩
    rcases hkind with ⟨h,_⟩ | ⟨_,h,h'⟩
    ·rw [hloud] at h; cases h
    ·exact after v bx' nt' live' hk h (fun hs => .inl (h' hs)) C' a' w' hr'
   ·refine machine false (fun s' => s' = St.put { s with tm:=mix ml (LL listed) s.tm tm0 } ml[i].d (.tup [])) hg' (fun h => by cases h) (fun _ => rfl) ?_
    rintro C' s' a' w' hr' rfl;exact after (.tup []) s.bx s.nt s.live hrun (fun _ => .inl rfl) (fun _ => .inr rfl) C' a' w' hr'
  ·-- a quiet one: the canonical order has carried it out
   have hq:ml[i].o.loud = false:=by simpa using hloud
   have hior:i ∈ ord:=(hc.mem i).2 hil;have hnd:=hc.nodup
   have hipre:i ∈ pre:=by
    rw [hS.split] at hior hnd
    rcases mem_append.1 hior with h | h
    ·exact h
    ·exfalso
     cases hrr:rest with
     | nil => rw [hrr] at h; cases h
     | cons l r =>
      rw [hrr] at h hnd;have hlo:l ∈ ord:=by rw [hS.split,hrr]; simp
      have hll:l < ml.length:=(hc.mem l).1 hlo;have hml:ml[l]? = some ml[l]:=getElem?_eq_getElem hll;have hld:=hS.head l r ml[l] hrr hml;have hne:i ≠ l:=fun h => by subst h; rw [hmi] at hml; rw [hq] at hld; cases hld
      have hir:i ∈ r:=(mem_cons.1 h).resolve_left hne;obtain ⟨p1,p2,hp⟩:=append_of_mem hir
      have:=hc.asap (pre ++ l :: p1) i p2 ml[i] (by rw [hS.split,hrr,hp]; simp) hmi hq l ml[l] (by simp) hml hld
      exact (nodup_append.1 hnd).2.2 l (hS.sub l (hcl l this)) l (by simp) rfl
   obtain ⟨v,hv1,hv2⟩:=hS.done i hipre hnL ml[i] hmi hq;have hmix:=mix_eq hc (L:=LL listed) hS.lt hS.closed hmi hnL hrdy s.tm tm0;have hgc:=hgdm _ _ hmix;have hqc:=zco (bx:=s.bx) (hopm _ _ hmix);rw [hgc,hqc] at hv2
   have hfin:∀ C' a' w',Rep E B C' (St.put { s with tm:=mix ml (LL listed) s.tm tm0 } ml[i].d v) a' w' -> wpAny E.P .any ops Q fuel (listed.setIfInBounds i true) a' w':=by
    intro C' a' w' hr';refine ih _ C' s a' w' pre rest ⟨hS.split,hS.head,hS.run,fun k hk => by rcases (hset k).1 hk with rfl | hk; exact hil; exact hS.lt k hk,fun k hk hL e he => ?_,fun k hk => by rcases (hset k).1 hk with rfl | hk; exact hipre; exact hS.sub k hk,fun k mk hk hl hkp => (hset k).2 (.inr (hS.loud k mk hk hl hkp)),hS.fresh,fun j hj hjL => hS.done j hj fun h => hjL ((hset j).2 (.inr h))⟩ hls' ?_ hcount'
    ·rcases (hset k).1 hL with rfl | hL
     ·exact (hset e).2 (.inr (hrdy e he))
     ·exact (hset e).2 (.inr (hS.closed k hk hL e he))
    ·have heq:({ s with tm:=mix ml (LL (listed.setIfInBounds i true)) s.tm tm0 }:St) = St.put { s with tm:=mix ml (LL listed) s.tm tm0 } ml[i].d v:=by
      rw [zb3];simp only [St.mk.injEq,and_true]
      funext t
      by_cases hd:ml[i].d = some t
      ·have hw:wr ml (LL (listed.setIfInBounds i true)) t:=(hwset t).2 (.inl hd)
       simp only [mix,hw,if_true,hd]; exact hv1 t hd
      ·by_cases hw0:wr ml (LL listed) t
       ·have hw:wr ml (LL (listed.setIfInBounds i true)) t:=(hwset t).2 (.inr hw0)
        simp only [mix,hw,hw0,if_true,hd,if_false]
       ·have hw:¬ wr ml (LL (listed.setIfInBounds i true)) t:=fun h => by rcases (hwset t).1 h with h | h; exact hd h; exact hw0 h
        simp only [mix,hw,hw0,if_false,hd]
     rw [heq]; exact hr'
   rcases hv2 with ⟨hg,hv⟩ | ⟨hg,rfl⟩
   ·refine machine true (fun s' => s' = St.put { s with tm:=mix ml (LL listed) s.tm tm0 } ml[i].d v) hg (fun _ => ?_) (fun h => by cases h) (fun C' s' a' w' hr' he => by subst he; exact hfin C' a' w' hr')
    unfold pstep;split
    ·rename_i e; simp only at e; rw [e] at hq; cases hq
    ·rename_i e; simp only at e; rw [e] at hq; cases hq
    ·rename_i e; simp only at e; rw [e] at hq; cases hq
    ·exact .inl ⟨v,hv,rfl⟩
   ·exact machine false (fun s' => s' = St.put { s with tm:=mix ml (LL listed) s.tm tm0 } ml[i].d (.tup [])) hg (fun h => by cases h) (fun _ => rfl) (fun C' s' a' w' hr' he => by subst he; exact hfin C' a' w' hr')
end
end
section
structure CanonT (ml:List MOpr) (es bs:List (List Nat)):Prop where
 len:es.length = ml.length
 blen:bs.length = ml.length
 acyc:∀ i e,i < ml.length -> e ∈ es.getD i [] -> e < i
 bef:∀ i j,i < ml.length -> j ∈ befOf bs i -> j ∈ es.getD i [] \/ ∃ e ∈ es.getD i [],j ∈ befOf bs e
 dst:∀ (i j:Nat) (a b:MOpr) (t:Nat),ml[i]? = some a -> ml[j]? = some b -> a.d = some t -> b.d = some t -> i = j
 touch:∀ (i j:Nat) (a b:MOpr) (t:Nat),ml[i]? = some a -> ml[j]? = some b -> a.d = some t -> t ∈ b.tmps -> i ∈ befOf bs j \/ j ∈ befOf bs i
 store:∀ (i j:Nat) (a b:MOpr),ml[i]? = some a -> ml[j]? = some b -> a.o.isLoad = true -> b.wr = true -> (i ∈ befOf bs j \/ j ∈ befOf bs i) \/ ∃ x,adrL a.o = some x /\ x ∈ b.c /\ ∀ t ∈ x.tmps,∀ (k:Nat) (mk:MOpr),ml[k]? = some mk -> mk.d = some t -> k ∈ befOf bs i
 self:∀ i,i < ml.length -> i ∉ befOf bs i
def Rdy (bs:List (List Nat)) (pre:List Nat) (i:Nat):Prop:=∀ j ∈ befOf bs i,j ∈ pre
def Clos (ml:List MOpr) (bs:List (List Nat)) (pre:List Nat):Prop:=∀ (i:Nat) (m:MOpr),ml[i]? = some m -> m.o.loud = false -> Rdy bs pre i -> i ∈ pre
def Qs (ml:List MOpr) (bs:List (List Nat)):List Nat -> List Nat -> Prop
 | _,[] => True
 | pre,i :: r => (∃ m,ml[i]? = some m /\ m.o.loud = false) /\ i ∉ pre /\ Rdy bs pre i /\ Qs ml bs (pre ++ [i]) r
def runT (E:Env) (ml:List MOpr) (bs:List (List Nat)) (K:St -> Prop):Nat -> List Nat -> St -> Prop
 | 0,_,_ => False
 | f + 1,pre,s => ∃ qs,Qs ml bs pre qs /\ Clos ml bs (pre ++ qs) /\ po E (qs.filterMap (ml[·]?)) (fun s => ((∀ i,i < ml.length -> i ∈ pre ++ qs) -> K s) /\
   ∀ (i:Nat) (m:MOpr),ml[i]? = some m -> m.o.loud = true -> i ∉ pre ++ qs -> Rdy bs (pre ++ qs) i -> po E [m] (runT E ml bs K f (pre ++ qs ++ [i])) s) s
structure SimT (E:Env) (ml:List MOpr) (es bs:List (List Nat)) (K:St -> Prop) (tm0:Nat -> PV) (L:Nat -> Prop) (pre:List Nat) (s:St):Prop where
 run:∃ f,((∀ i,i < ml.length -> i ∈ pre) -> K s) /\ ∀ (i:Nat) (m:MOpr),ml[i]? = some m -> m.o.loud = true -> i ∉ pre -> Rdy bs pre i -> po E [m] (runT E ml bs K f (pre ++ [i])) s
 clos:Clos ml bs pre
 down:∀ i ∈ pre,Rdy bs pre i
 lt:∀ i,L i -> i < ml.length
 closed:∀ i,i < ml.length -> L i -> ∀ e ∈ es.getD i [],L e
 sub:∀ i,L i -> i ∈ pre
 loud:∀ (i:Nat) (m:MOpr),ml[i]? = some m -> m.o.loud = true -> i ∈ pre -> L i
 fresh:∀ t,¬ wr ml (· ∈ pre) t -> s.tm t = tm0 t
 done:∀ j ∈ pre,¬ L j -> Done ml bs tm0 s.tm s.bx j
section
variable {E:Env} {B:Base} {ml:List MOpr} {es bs:List (List Nat)} {K:St -> Prop} {tm0:Nat -> PV}
theorem quietsT (hc:CanonT ml es bs) {L:Nat -> Prop} {K2:St -> Prop}:∀ (rest pre:List Nat) (s:St),Qs ml bs pre rest -> (∀ i ∈ pre,Rdy bs pre i) -> po E (rest.filterMap (ml[·]?)) K2 s -> (∀ i,L i -> i < ml.length) -> (∀ i,i < ml.length -> L i -> ∀ e ∈ es.getD i [],L e) -> (∀ i,L i -> i ∈ pre) ->
  (∀ (i:Nat) (m:MOpr),ml[i]? = some m -> m.o.loud = true -> i ∈ pre -> L i) -> (∀ t,¬ wr ml (· ∈ pre) t -> s.tm t = tm0 t) -> (∀ j ∈ pre,¬ L j -> Done ml bs tm0 s.tm s.bx j) ->
  ∃ s',K2 s' /\ (∀ i ∈ pre ++ rest,Rdy bs (pre ++ rest) i) /\ (∀ i,L i -> i ∈ pre ++ rest) /\ (∀ (i:Nat) (m:MOpr),ml[i]? = some m -> m.o.loud = true -> i ∈ pre ++ rest -> L i) /\ (∀ t,¬ wr ml (· ∈ pre ++ rest) t -> s'.tm t = tm0 t) /\ (∀ j ∈ pre ++ rest,¬ L j -> Done ml bs tm0 s'.tm s'.bx j) /\ s'.bx = s.bx /\ s'.nt = s.nt /\ s'.live = s.live /\ (∀ t,wr ml (· ∈ pre) t -> s'.tm t = s.tm t):=by
 intro rest
 induction rest with
 | nil =>
  intro pre s h1 hdn h2 h3 h4 h5 h6 h7 h8
  exact ⟨s,h2,by simpa using hdn,by simpa using h5,by simpa using h6,by simpa using h7,by simpa using h8,rfl,rfl,rfl,fun _ _ => rfl⟩
 | cons i rest ih =>
  intro pre s h1 hdn h2 h3 h4 h5 h6 h7 h8;obtain ⟨⟨mi,hmi0,hq0⟩,hipre,hbi,hQr⟩:=h1
  have hil:i < ml.length:=by
   rcases Nat.lt_or_ge i ml.length with h | h
   ·exact h
   ·simp [getElem?_eq_none h] at hmi0
  have hmi:ml[i]? = some ml[i]:=getElem?_eq_getElem hil;have hq:ml[i].o.loud = false:=by rw [hmi] at hmi0; simp only [sI] at hmi0; rw [hmi0]; exact hq0
  ·have hnd:=hq
   have hiL:¬ L i:=fun h => hipre (h5 i h)
   simp only [filterMap_cons,hmi] at h2;obtain ⟨g,hg,hrun⟩:=h2
   -- what i mentions is as the canonical order has it
   have hmix:∀ t ∈ ml[i].tmps,s.tm t = mix ml (· ∈ befOf bs i) s.tm tm0 t:=by
    intro t ht;by_cases hw:wr ml (· ∈ befOf bs i) t
    ·simp [mix,hw]
    ·simp only [mix,hw,if_false]
     refine h7 t ?_;rintro ⟨k,mk,a1,a2,a3⟩
     rcases hc.touch k i mk ml[i] t a1 hmi a2 ht with h | h
     ·exact hw ⟨k,mk,a1,a2,h⟩
     ·exact hipre (hdn k a3 i h)
   have hdi:∀ t,ml[i].d = some t -> ¬ wr ml (· ∈ pre) t:=by
    rintro t ht ⟨k,mk,a1,a2,a3⟩
    have:=hc.dst k i mk ml[i] t a1 hmi a2 ht
    subst this; exact hipre a3
   -- the step
   have step:∃ v,po E (rest.filterMap (ml[·]?)) K2 (s.put ml[i].d v) /\ ((gd ml[i].g s.tm = some true /\ qf (ev s.tm) s.bx ml[i].o = some v) \/ (gd ml[i].g s.tm = some false /\ v = .tup [])):=by
    rcases hrun with ⟨rfl,hrun⟩ | ⟨rfl,hrun⟩
    ·generalize hm:ml[i] = m at *
     have hno:∀ x,lf (ev s.tm) s m.o ≠ some x:=by
      intro x hx
      rcases zbI hx with ⟨x,e⟩ | ⟨z,e⟩ | ⟨n,xs,e⟩ | ⟨n,a,x,e⟩ | ⟨n,a,x,e⟩ | ⟨bT,bU,e⟩ <;> rw [e] at hq <;> cases hq
     have:∃ v,qf (ev s.tm) s.bx m.o = some v /\ po E (rest.filterMap (ml[·]?)) K2 (s.put m.d v):=by
      unfold pstep at hrun
      split at hrun
      ·rename_i e; rw [e] at hq; cases hq
      ·rename_i e; rw [e] at hq; cases hq
      ·rename_i e; rw [e] at hq; cases hq
      ·rcases hrun with h | ⟨v,s',hv,_,_⟩
       ·exact h
       ·exact absurd hv (hno _)
     obtain ⟨v,hv,hk⟩:=this;exact ⟨v,hk,.inl ⟨hg,hv⟩⟩
    ·exact ⟨.tup [],hrun,.inr ⟨hg,rfl⟩⟩
   obtain ⟨v,hk,hv⟩:=step
   have hput:∀ t,wr ml (· ∈ pre) t -> (s.put ml[i].d v).tm t = s.tm t:=by
    intro t ht
    cases hd:ml[i].d with
    | none => rfl
    | some d =>
     simp only [St.put];rw [if_neg (fun h => by subst h; exact hdi _ hd ht)]
   have hbx:(s.put ml[i].d v).bx = s.bx /\ (s.put ml[i].d v).nt = s.nt /\ (s.put ml[i].d v).live = s.live:=by cases ml[i].d <;> exact ⟨rfl,rfl,rfl⟩
   have hmono:∀ j,(∀ k ∈ befOf bs j,k ∈ pre) -> ∀ t,mix ml (· ∈ befOf bs j) (s.put ml[i].d v).tm tm0 t = mix ml (· ∈ befOf bs j) s.tm tm0 t:=by
    intro j hj t;by_cases hw:wr ml (· ∈ befOf bs j) t
    ·simp only [mix,hw,if_true]
     refine hput t ?_;obtain ⟨k,mk,a1,a2,a3⟩:=hw;exact ⟨k,mk,a1,a2,hj k a3⟩
    ·simp only [mix,hw,if_false]
   obtain ⟨s',g1,g2,g3,g4,g5,g6,e1,e2,e3,e4⟩:=ih (pre ++ [i]) (s.put ml[i].d v) hQr (fun k hk j hj => by
     rcases mem_append.1 hk with hk | hk
     ·exact mem_append.2 (.inl (hdn k hk j hj))
     ·rw [mem_singleton] at hk; subst hk; exact mem_append.2 (.inl (hbi j hj))) hk h3 h4 (fun k hk => by simp [h5 k hk]) (fun k m hm hl hk => by
     rcases mem_append.1 hk with hk | hk
     ·exact h6 k m hm hl hk
     ·rw [mem_singleton] at hk; subst hk; rw [hmi] at hm; simp only [sI] at hm; subst hm; rw [hq] at hl; cases hl)
    (fun t ht => by
     have hnp:¬ wr ml (· ∈ pre) t:=fun ⟨k,mk,a1,a2,a3⟩ => ht ⟨k,mk,a1,a2,by simp [a3]⟩
     cases hd:ml[i].d with
     | none => exact h7 t hnp
     | some d =>
      simp only [St.put];rw [if_neg (fun h => ht ⟨i,ml[i],hmi,by rw [hd,h],by simp⟩)];exact h7 t hnp)
    (fun j hj hjL => by
     rcases mem_append.1 hj with hj | hj
     ·-- an earlier one
      have hbj:∀ k ∈ befOf bs j,k ∈ pre:=hdn j hj;intro m hm hl;obtain ⟨u,hu1,hu2⟩:=h8 j hj hjL m hm hl;have hmm:=funext (hmono j hbj);refine ⟨u,fun t ht => ?_,?_⟩
      ·rw [hput t ⟨j,m,hm,ht,hj⟩]; exact hu1 t ht
      ·rw [hmm,hbx.1]; exact hu2
     ·rw [mem_singleton] at hj; subst hj
      intro m hm hl;rw [hmi] at hm; simp only [sI] at hm; subst hm
      have hmm:=funext (hmono j hbi);refine ⟨v,fun t ht => ?_,?_⟩
      ·rw [ht]; simp [St.put]
      ·rw [hmm,hbx.1]
       have hgc:gd ml[j].g s.tm = gd ml[j].g (mix ml (· ∈ befOf bs j) s.tm tm0):=zc1 fun t ht => hmix t (by
        unfold MOpr.tmps; exact mem_append.2 (.inr (by simpa using ht)))
       have hqc:qf (ev s.tm) s.bx ml[j].o = qf (ev (mix ml (· ∈ befOf bs j) s.tm tm0)) s.bx ml[j].o:=zco fun t ht => hmix t (by unfold MOpr.tmps; exact mem_append.2 (.inl ht))
       rw [<- hgc,<- hqc]; exact hv)
   have hass:pre ++ [i] ++ rest = pre ++ i :: rest:=by simp
   rw [hass] at g2 g3 g4 g5 g6
   exact ⟨s',g1,g2,g3,g4,g5,g6,e1.trans hbx.1,e2.trans hbx.2.1,e3.trans hbx.2.2,fun t ht => by
    rw [e4 t (by obtain ⟨k,mk,a1,a2,a3⟩:=ht; exact ⟨k,mk,a1,a2,by simp [a3]⟩)]; exact hput t ht⟩
end
end
section
section
variable {ml:List MOpr} {es bs:List (List Nat)} (hc:CanonT ml es bs)
include hc
theorem CanonT.closed (L:Nat -> Prop) (hL:∀ i,i < ml.length -> L i -> ∀ e ∈ es.getD i [],L e):∀ (i:Nat),i < ml.length -> (∀ e ∈ es.getD i [],L e) -> ∀ j ∈ befOf bs i,L j:=by
 intro i
 induction i using Nat.strongRecOn with
 | _ i ih =>
  intro hi he j hj
  rcases hc.bef i j hi hj with h | ⟨e,he',h⟩
  ·exact he j h
  ·have hlt:=hc.acyc i e hi he'
   exact ih e hlt (by omega) (hL e (by omega) (he e he')) j h
end
section
variable {E:Env} {B:Base} {ml:List MOpr} {es bs:List (List Nat)} {K:St -> Prop} {tm0:Nat -> PV} {ops:Array Oper} {Q:Exit -> Act -> World -> Prop}
theorem mix_eqT (hc:CanonT ml es bs) {L:Nat -> Prop} (hLlt:∀ i,L i -> i < ml.length) (hLcl:∀ i,i < ml.length -> L i -> ∀ e ∈ es.getD i [],L e) {j:Nat} {m:MOpr} (hj:ml[j]? = some m) (hnot:¬ L j) (hready:∀ e ∈ es.getD j [],L e) (f g:Nat -> PV) :
  ∀ t ∈ m.tmps,mix ml (· ∈ befOf bs j) f g t = mix ml L f g t:=by
 intro t ht
 have hjl:j < ml.length:=by
  rcases Nat.lt_or_ge j ml.length with h | h
  ·exact h
  ·simp [getElem?_eq_none h] at hj
 have hcl:=hc.closed L hLcl;by_cases h1:wr ml (· ∈ befOf bs j) t
 ·have h2:wr ml L t:=by
   obtain ⟨i,mi,a1,a2,a3⟩:=h1;exact ⟨i,mi,a1,a2,hcl j hjl hready i a3⟩
  simp [mix,h1,h2]
 ·have h2:¬ wr ml L t:=by
   rintro ⟨i,mi,a1,a2,a3⟩
   rcases hc.touch i j mi m t a1 hj a2 ht with h | h
   ·exact h1 ⟨i,mi,a1,a2,h⟩
   ·exact hnot (hcl i (hLlt i a3) (hLcl i (hLlt i a3) a3) j h)
  simp [mix,h1,h2]
theorem sim_anyT (hc:CanonT ml es bs) (hsz:ops.size = ml.length) (htr:∀ (i:Nat) (o:Oper) (m:MOpr),ops[i]? = some o -> ml[i]? = some m -> TrO E.P B.n ops o m) (hes:∀ (i:Nat) (o:Oper),ops[i]? = some o -> es.getD i [] = edgesOf o)
  (hK:∀ C' s' a' w',Rep E B C' s' a' w' -> K s' -> Q .normal a' w') :
  ∀ (fuel:Nat) (listed:Array Bool) (C:Cx) (s:St) (a:Act) (w:World) (pre:List Nat),SimT E ml es bs K tm0 (LL listed) pre s -> listed.size = ops.size -> Rep E B C { s with tm:=mix ml (LL listed) s.tm tm0 } a w ->
   ((range ml.length).filter (fun i => !(listed.getD i false))).length <= fuel -> wpAny E.P .any ops Q fuel listed a w:=by
 -- all is listed
 have hdone:∀ (listed:Array Bool) (C:Cx) (s:St) (a:Act) (w:World) (pre:List Nat),SimT E ml es bs K tm0 (LL listed) pre s -> Rep E B C { s with tm:=mix ml (LL listed) s.tm tm0 } a w -> (∀ i,i < ml.length -> LL listed i) -> Q .normal a w:=by
  intro listed C s a w pre hS hr hall;obtain ⟨f0,hK0,_⟩:=hS.run;have hrun:=hK0 (fun i hi => hS.sub i (hall i hi));refine hK C s a w ?_ hrun
  have htm:mix ml (LL listed) s.tm tm0 = s.tm:=by
   funext t
   by_cases hw:wr ml (LL listed) t
   ·simp [mix,hw]
   ·simp only [mix,hw,if_false]
    refine (hS.fresh t ?_).symm;rintro ⟨i,m,a1,a2,a3⟩;refine hw ⟨i,m,a1,a2,hall i ?_⟩
    rcases Nat.lt_or_ge i ml.length with h | h
    ·exact h
    ·simp [getElem?_eq_none h] at a1
  rw [htm] at hr; exact hr
 -- nothing is ready: all is listed
 have hready:∀ (listed:Array Bool),listed.size = ops.size -> Region.ready .any ops listed = [] -> ∀ i,i < ml.length -> LL listed i:=by
  intro listed hls hr i
  induction i using Nat.strongRecOn with
  | _ i ih =>
   intro hi
   apply Classical.byContradiction
   intro hn;have hio:i < ops.size:=by omega
   have:i ∈ Region.ready .any ops listed:=by
    rw [mem_ready];refine ⟨?_,ops[i],Array.getElem?_eq_getElem hio,fun e he hb => ?_⟩
    ·unfold LL at hn
     have hil:i < listed.size:=by omega
     simp only [Array.getD_eq_getD_getElem?,Array.getElem?_eq_getElem hil,Option.getD_some] at hn ⊢;simpa using hn
    ·have hm:e.on ∈ es.getD i []:=by
      rw [hes i ops[i] (Array.getElem?_eq_getElem hio)];unfold edgesOf;exact mem_map.2 ⟨e,mem_filter.2 ⟨by simpa using he,hb⟩,rfl⟩
     have:=hc.acyc i e.on hi hm
     exact ih e.on this (by omega)
   rw [hr] at this; cases this
 intro fuel
 induction fuel with
 | zero =>
  intro listed C s a w pre hS hls hr hcount
  have hall:∀ i,i < ml.length -> LL listed i:=by
   intro i hi
   apply Classical.byContradiction
   intro hn
   have:i ∈ (range ml.length).filter (fun i => !(listed.getD i false)):=mem_filter.2 ⟨mem_range.2 hi,by unfold LL at hn; simpa using hn⟩
   have h0:(range ml.length).filter (fun i => !(listed.getD i false)) = []:=eq_nil_of_length_eq_zero (by omega);rw [h0] at this; cases this
  refine ⟨?_,hdone listed C s a w pre hS hr hall⟩
  cases hrd:Region.ready .any ops listed with
  | nil => rfl
  | cons i r =>
   exfalso;have hm:i ∈ Region.ready .any ops listed:=by rw [hrd]; simp
   obtain ⟨h1,o,ho,_⟩:=mem_ready.1 hm;have hi:i < ops.size:=(Array.getElem?_eq_some_iff.1 ho).1
   have:=hall i (by omega)
   unfold LL at this;have hil:i < listed.size:=by omega
   simp only [Array.getD_eq_getD_getElem?,Array.getElem?_eq_getElem hil,Option.getD_some] at this h1
   rw [this] at h1; cases h1
 | succ fuel ih =>
  intro listed C s a w pre hS hls hr hcount;refine ⟨fun h => hdone listed C s a w pre hS hr (hready listed hls h),fun i hi => ?_⟩;obtain ⟨h1,o,ho,hall⟩:=mem_ready.1 hi;have hio:i < ops.size:=(Array.getElem?_eq_some_iff.1 ho).1;have hil:i < ml.length:=by omega
  have hils:i < listed.size:=by omega
  have hmi:ml[i]? = some ml[i]:=getElem?_eq_getElem hil;have htro:=htr i o ml[i] ho hmi;obtain ⟨t1,t2,t3,t4,t5⟩:=id htro;have htro0:TrO E.P B.n ops o { ml[i] with c:=ml[i].keep }:=htro
  have hnL:¬ LL listed i:=by
   unfold LL;simp only [Array.getD_eq_getD_getElem?,Array.getElem?_eq_getElem hils,Option.getD_some] at h1 ⊢;rw [h1]; decide
  have hrdy:∀ e ∈ es.getD i [],LL listed e:=by
   intro e he;rw [hes i o ho] at he;unfold edgesOf at he;obtain ⟨ed,hed,rfl⟩:=mem_map.1 he;obtain ⟨g1,g2⟩:=mem_filter.1 hed;exact hall ed (by simpa using g1) g2
  have hcl:∀ j ∈ befOf bs i,LL listed j:=hc.closed (LL listed) hS.closed i hil hrdy;have hset:=fun j => LL_set (listed:=listed) hils j
  have hcount':((range ml.length).filter (fun j => !((listed.setIfInBounds i true).getD j false))).length <= fuel:=by
   have hlt:=zdm (p:=fun j => !(listed.getD j false)) (q:=fun j => !((listed.setIfInBounds i true).getD j false)) (i:=i) (l:=range ml.length)
    (fun j hj => by
     simp only [Bool.not_eq_true'] at hj ⊢
     cases h0:listed.getD j false with
     | false => rfl
     | true => have:=(hset j).2 (.inr h0); unfold LL at this; rw [this] at hj; cases hj)
    (mem_range.2 hil) (by simp only [Bool.not_eq_true']; unfold LL at hnL; simpa using hnL) (by
     have:=(hset i).2 (.inl rfl); unfold LL at this; simp only [this]; rfl)
   omega
  have hls':(listed.setIfInBounds i true).size = ops.size:=by rw [Array.size_setIfInBounds]; exact hls
  have hdst:∀ (k:Nat) (mk:MOpr) (t:Nat),ml[k]? = some mk -> mk.d = some t -> ml[i].d = some t -> k = i:=fun k mk t a1 a2 a3 => hc.dst k i mk ml[i] t a1 hmi a2 a3
  have hwset:∀ t,wr ml (LL (listed.setIfInBounds i true)) t ↔ (ml[i].d = some t \/ wr ml (LL listed) t):=by
   intro t
   constructor
   ·rintro ⟨k,mk,a1,a2,a3⟩
    rcases (hset k).1 a3 with rfl | a3
    ·rw [hmi] at a1; simp only [sI] at a1; subst a1; exact .inl a2
    ·exact .inr ⟨k,mk,a1,a2,a3⟩
   ·rintro (h | ⟨k,mk,a1,a2,a3⟩)
    ·exact ⟨i,ml[i],hmi,h,(hset i).2 (.inl rfl)⟩
    ·exact ⟨k,mk,a1,a2,(hset k).2 (.inr a3)⟩
  have hgdm:∀ (f g:Nat -> PV),(∀ t ∈ ml[i].tmps,f t = g t) -> gd ml[i].g f = gd ml[i].g g:=fun f g h => zc1 fun t ht => h t (by unfold MOpr.tmps; exact mem_append.2 (.inr (by simpa using ht)))
  have hopm:∀ (f g:Nat -> PV),(∀ t ∈ ml[i].tmps,f t = g t) -> ∀ t ∈ ml[i].o.tmps,f t = g t:=fun f g h t ht => h t (by unfold MOpr.tmps; exact mem_append.2 (.inl ht))
  -- the machine's step,for either kind
  have machine:∀ (b:Bool) (K':St -> Prop),gd ml[i].g (mix ml (LL listed) s.tm tm0) = some b -> (b = true -> pstep E { ml[i] with c:=ml[i].keep } K' { s with tm:=mix ml (LL listed) s.tm tm0 }) -> (b = false -> K' (St.put { s with tm:=mix ml (LL listed) s.tm tm0 } ml[i].d (.tup []))) ->
    (∀ C' s' a' w',Rep E B C' s' a' w' -> K' s' -> wpAny E.P .any ops Q fuel (listed.setIfInBounds i true) a' w') -> wpOp E.P ops Q i (wpAny E.P .any ops Q fuel (listed.setIfInBounds i true)) a w:=by
   intro b K' hg hp1 hp2 hk;have hw:=zbr hr t2 hg;unfold wpOp;simp only [ho,hw]
   cases b with
   | true => rw [if_pos rfl]; exact .inl (zby htro0 hr (hp1 rfl) hk Q)
   | false =>
    rw [if_neg (by decide)];refine hk C _ _ w (hr.put t5 (.tup [] [] rfl (fun j x y h => by simp at h))) ?_;rw [<- t3]; exact hp2 rfl
  by_cases hloud:ml[i].o.loud = true
  ·-- a loud one: the canonical order's next
   have hipre:i ∉ pre:=fun h => hnL (hS.loud i ml[i] hmi hloud h)
   have hment:∀ t ∈ ml[i].tmps,s.tm t = mix ml (LL listed) s.tm tm0 t:=by
    intro t ht;by_cases hw:wr ml (LL listed) t
    ·simp [mix,hw]
    ·simp only [mix,hw,if_false]
     refine hS.fresh t ?_;rintro ⟨k,mk,a1,a2,a3⟩
     rcases hc.touch k i mk ml[i] t a1 hmi a2 ht with h | h
     ·exact hw ⟨k,mk,a1,a2,hcl k h⟩
     ·exact hipre (hS.down k a3 i h)
   obtain ⟨f0,_,hnext⟩:=hS.run;have hri:Rdy bs pre i:=fun j hj => hS.sub j (hcl j hj)
   obtain ⟨g,hg,hrun⟩:=hnext i ml[i] hmi hloud hipre hri;have hg':gd ml[i].g (mix ml (LL listed) s.tm tm0) = some g:=by rw [<- hgdm _ _ hment]; exact hg
   -- behind it
   have after:∀ (v:PV) (bx':LP PC) (nt':Nat) (live':List Nat),runT E ml bs K f0 (pre ++ [i]) (St.put ⟨s.tm,bx',nt',live'⟩ ml[i].d v) -> (ml[i].wr = false -> bx' = s.bx \/ ∃ c,bx' = s.bx ++ [c]) -> (ml[i].wr = true -> Wrote (ev s.tm) ml[i] s.bx bx' \/ bx' = s.bx) ->
     ∀ C' a' w',Rep E B C' (St.put ⟨mix ml (LL listed) s.tm tm0,bx',nt',live'⟩ ml[i].d v) a' w' -> wpAny E.P .any ops Q fuel (listed.setIfInBounds i true) a' w':=by
    intro v bx' nt' live' hpo hbx hst C' a' w' hr';have hs1:∀ t,¬ ml[i].d = some t -> (St.put ⟨s.tm,bx',nt',live'⟩ ml[i].d v).tm t = s.tm t:=fun t ht => by rw [zb3]; simp [ht]
    have hb1:(St.put ⟨s.tm,bx',nt',live'⟩ ml[i].d v).bx = bx':=by rw [zb3]
    obtain ⟨f1,rfl⟩:∃ f1,f0 = f1 + 1:=by
     cases f0 with
     | zero => exact hpo.elim
     | succ f1 => exact ⟨f1,rfl⟩
    obtain ⟨qs,hQs,hClos,hpo⟩:=hpo
    have hlt2:∀ k,LL (listed.setIfInBounds i true) k -> k < ml.length:=fun k hk => by
     rcases (hset k).1 hk with rfl | hk
     ·exact hil
     ·exact hS.lt k hk
    have hcl2:∀ k,k < ml.length -> LL (listed.setIfInBounds i true) k -> ∀ e ∈ es.getD k [],LL (listed.setIfInBounds i true) e:=fun k hk hL e he => by
     rcases (hset k).1 hL with rfl | hL
     ·exact (hset e).2 (.inr (hrdy e he))
     ·exact (hset e).2 (.inr (hS.closed k hk hL e he))
    obtain ⟨s2,G1,G2,G3,G4,G5,G6,e1,e2,e3,e4⟩:=quietsT (E:=E) (tm0:=tm0) hc (L:=LL (listed.setIfInBounds i true)) qs (pre ++ [i]) (St.put ⟨s.tm,bx',nt',live'⟩ ml[i].d v) hQs (fun k hk j hj => by
      rcases mem_append.1 hk with hk | hk
      ·exact mem_append.2 (.inl (hS.down k hk j hj))
      ·rw [mem_singleton] at hk; subst hk; exact mem_append.2 (.inl (hri j hj))) hpo
     (fun k hk => by rcases (hset k).1 hk with rfl | hk; exact hil; exact hS.lt k hk)
     (fun k hk hL e he => by
      rcases (hset k).1 hL with rfl | hL
      ·exact (hset e).2 (.inr (hrdy e he))
      ·exact (hset e).2 (.inr (hS.closed k hk hL e he)))
     (fun k hk => by rcases (hset k).1 hk with rfl | hk; simp; simp [hS.sub k hk])
     (fun k mk hk hl hkp => by
      rcases mem_append.1 hkp with h | h
      ·exact (hset k).2 (.inr (hS.loud k mk hk hl h))
      ·rw [mem_singleton] at h; exact (hset k).2 (.inl h))
     (fun t ht => by
      rw [hs1 t (fun h => ht ⟨i,ml[i],hmi,h,by simp⟩)];exact hS.fresh t fun ⟨k,mk,a1,a2,a3⟩ => ht ⟨k,mk,a1,a2,by simp [a3]⟩)
     (fun j hj hjL => by
      have hji:j ≠ i:=fun h => hjL ((hset j).2 (.inl h))
      have hjp:j ∈ pre:=(mem_append.1 hj).resolve_right (by simpa using hji);have hjL':¬ LL listed j:=fun h => hjL ((hset j).2 (.inr h))
      have hbj:∀ k ∈ befOf bs j,k ∈ pre:=hS.down j hjp
      have hmm:mix ml (· ∈ befOf bs j) (St.put ⟨s.tm,bx',nt',live'⟩ ml[i].d v).tm tm0 = mix ml (· ∈ befOf bs j) s.tm tm0:=by
       funext t
       by_cases hw:wr ml (· ∈ befOf bs j) t
       ·simp only [mix,hw,if_true]
        refine hs1 t fun hd => ?_
        obtain ⟨k,mk,a1,a2,a3⟩:=hw
        have:=hdst k mk t a1 a2 hd
        subst this; exact hipre (hbj k a3)
       ·simp only [mix,hw,if_false]
      intro m hm hl;obtain ⟨u,hu1,hu2⟩:=hS.done j hjp hjL' m hm hl;refine ⟨u,fun t ht => ?_,?_⟩
      ·rw [hs1 t fun hd => hji (hdst j m t hm ht hd)]; exact hu1 t ht
      ·rw [hmm,hb1]
       refine hu2.imp (fun ⟨q1,q2⟩ => ⟨q1,?_⟩) id
       cases his:ml[i].wr with
       | false => exact qf_ext q2 (hbx his)
       | true =>
        rcases hst his with hwr | hsame
        ·cases hld:m.o.isLoad with
         | false => rw [qf_nobx hld (bx':=s.bx)]; exact q2
         | true =>
          rcases hc.store j i m ml[i] hm hmi hld his with (h | h) | ⟨x,x1,x2,x3⟩
          ·exact absurd (hcl j h) hjL'
          ·exact absurd (hbj i h) hipre
          ·refine qf_apart x1 (zaB fun t ht => ?_) hwr (fun k => ⟨k,rfl⟩) x2 q2
           by_cases hw:wr ml (· ∈ befOf bs j) t
           ·simp [mix,hw]
           ·simp only [mix,hw,if_false]
            refine (hS.fresh t ?_).symm;rintro ⟨k,mk,a1,a2,_⟩;exact hw ⟨k,mk,a1,a2,x3 t ht k mk a1 a2⟩
        ·rw [hsame]; exact q2)
    refine ih _ C' s2 a' w' _ (SimT.mk ⟨f1,G1.1,G1.2⟩ hClos G2 hlt2 hcl2 G3 G4 G5 G6) hls' ?_ hcount'
    have heq:({ s2 with tm:=mix ml (LL (listed.setIfInBounds i true)) s2.tm tm0 }:St) = St.put ⟨mix ml (LL listed) s.tm tm0,bx',nt',live'⟩ ml[i].d v:=by
     rw [zb3] at e1 e2 e3 ⊢;simp only [St.mk.injEq];refine ⟨?_,e1,e2,e3⟩
     funext t
     have hsub:wr ml (LL (listed.setIfInBounds i true)) t -> wr ml (· ∈ pre ++ [i]) t:=fun ⟨k,mk,a1,a2,a3⟩ => ⟨k,mk,a1,a2,by
      rcases (hset k).1 a3 with rfl | a3
      ·simp
      ·simp [hS.sub k a3]⟩
     by_cases hd:ml[i].d = some t
     ·have hw:wr ml (LL (listed.setIfInBounds i true)) t:=(hwset t).2 (.inl hd)
      simp only [mix,hw,if_true,hd];rw [e4 t (hsub hw),zb3]; simp [hd]
     ·by_cases hw0:wr ml (LL listed) t
      ·have hw:wr ml (LL (listed.setIfInBounds i true)) t:=(hwset t).2 (.inr hw0)
       simp only [mix,hw,hw0,if_true,hd,if_false];rw [e4 t (hsub hw),hs1 t hd]
      ·have hw:¬ wr ml (LL (listed.setIfInBounds i true)) t:=fun h => by rcases (hwset t).1 h with h | h; exact hd h; exact hw0 h
       simp only [mix,hw,hw0,if_false,hd]
    rw [heq]; exact hr'
   rcases hrun with ⟨rfl,hrun⟩ | ⟨rfl,hrun⟩
   ·refine machine true _ hg' (fun _ => zdl (tm':=mix ml (LL listed) s.tm tm0) (hopm _ _ hment) hrun) (fun h => by cases h) ?_
    rintro C' s' a' w' hr' ⟨v,bx',nt',live',rfl,hk,hkind⟩
    rcases hkind with ⟨h,_⟩ | ⟨_,h,h'⟩
    ·rw [hloud] at h; cases h
    ·exact after v bx' nt' live' hk h (fun hs => .inl (h' hs)) C' a' w' hr'
   ·refine machine false (fun s' => s' = St.put { s with tm:=mix ml (LL listed) s.tm tm0 } ml[i].d (.tup [])) hg' (fun h => by cases h) (fun _ => rfl) ?_
    rintro C' s' a' w' hr' rfl;exact after (.tup []) s.bx s.nt s.live hrun (fun _ => .inl rfl) (fun _ => .inr rfl) C' a' w' hr'
  ·-- a quiet one: the canonical order has carried it out
   have hq:ml[i].o.loud = false:=by simpa using hloud
   have hipre:i ∈ pre:=hS.clos i ml[i] hmi hq fun j hj => hS.sub j (hcl j hj)
   obtain ⟨v,hv1,hv2⟩:=hS.done i hipre hnL ml[i] hmi hq;have hmix:=mix_eqT hc (L:=LL listed) hS.lt hS.closed hmi hnL hrdy s.tm tm0;have hgc:=hgdm _ _ hmix;have hqc:=zco (bx:=s.bx) (hopm _ _ hmix);rw [hgc,hqc] at hv2
   have hfin:∀ C' a' w',Rep E B C' (St.put { s with tm:=mix ml (LL listed) s.tm tm0 } ml[i].d v) a' w' -> wpAny E.P .any ops Q fuel (listed.setIfInBounds i true) a' w':=by
    intro C' a' w' hr';refine ih _ C' s a' w' pre ⟨hS.run,hS.clos,hS.down,fun k hk => by rcases (hset k).1 hk with rfl | hk; exact hil; exact hS.lt k hk,fun k hk hL e he => ?_,fun k hk => by rcases (hset k).1 hk with rfl | hk; exact hipre; exact hS.sub k hk,fun k mk hk hl hkp => (hset k).2 (.inr (hS.loud k mk hk hl hkp)),hS.fresh,fun j hj hjL => hS.done j hj fun h => hjL ((hset j).2 (.inr h))⟩ hls' ?_ hcount'
    ·rcases (hset k).1 hL with rfl | hL
     ·exact (hset e).2 (.inr (hrdy e he))
     ·exact (hset e).2 (.inr (hS.closed k hk hL e he))
    ·have heq:({ s with tm:=mix ml (LL (listed.setIfInBounds i true)) s.tm tm0 }:St) = St.put { s with tm:=mix ml (LL listed) s.tm tm0 } ml[i].d v:=by
      rw [zb3];simp only [St.mk.injEq,and_true]
      funext t
      by_cases hd:ml[i].d = some t
      ·have hw:wr ml (LL (listed.setIfInBounds i true)) t:=(hwset t).2 (.inl hd)
       simp only [mix,hw,if_true,hd]; exact hv1 t hd
      ·by_cases hw0:wr ml (LL listed) t
       ·have hw:wr ml (LL (listed.setIfInBounds i true)) t:=(hwset t).2 (.inr hw0)
        simp only [mix,hw,hw0,if_true,hd,if_false]
       ·have hw:¬ wr ml (LL (listed.setIfInBounds i true)) t:=fun h => by rcases (hwset t).1 h with h | h; exact hd h; exact hw0 h
        simp only [mix,hw,hw0,if_false,hd]
     rw [heq]; exact hr'
   rcases hv2 with ⟨hg,hv⟩ | ⟨hg,rfl⟩
   ·refine machine true (fun s' => s' = St.put { s with tm:=mix ml (LL listed) s.tm tm0 } ml[i].d v) hg (fun _ => ?_) (fun h => by cases h) (fun C' s' a' w' hr' he => by subst he; exact hfin C' a' w' hr')
    unfold pstep;split
    ·rename_i e; simp only at e; rw [e] at hq; cases hq
    ·rename_i e; simp only at e; rw [e] at hq; cases hq
    ·rename_i e; simp only at e; rw [e] at hq; cases hq
    ·exact .inl ⟨v,hv,rfl⟩
   ·exact machine false (fun s' => s' = St.put { s with tm:=mix ml (LL listed) s.tm tm0 } ml[i].d (.tup [])) hg (fun h => by cases h) (fun _ => rfl) (fun C' s' a' w' hr' he => by subst he; exact hfin C' a' w' hr')
end
end
section
def isLoudAt (ml:List MOpr) (i:Nat):Bool :=
 match ml[i]? with
 | some m => m.o.loud
 | none => false
def pickNext (ml:List MOpr) (es:List (List Nat)) (done:List Nat):Option Nat :=
 let rs:=(range ml.length).filter fun i => !done.contains i && (es.getD i []).all done.contains
 match rs.find? fun i => !isLoudAt ml i with
 | some i => some i
 | none => rs.head?
def canonOrd (ml:List MOpr) (es:List (List Nat)):Nat -> List Nat -> List Nat
 | 0,done => done
 | k + 1,done =>
  match pickNext ml es done with
  | some i => canonOrd ml es k (done ++ [i])
  | none => done
def ordOk (ml:List MOpr) (bs:List (List Nat)):List Nat -> List Nat -> Bool
 | _,[] => true
 | pre,i :: r => (befOf bs i).all pre.contains && (isLoudAt ml i || pre.all fun j => !isLoudAt ml j || (befOf bs i).contains j) && ordOk ml bs (pre ++ [i]) r
def X.beq:X -> X -> Bool
 | .t a,.t b => a == b
 | _,_ => false
def besideOk (ml:List MOpr) (bs:List (List Nat)) (i:Nat) (a b:MOpr):Bool :=
 match adrL a.o with
 | some (.t t) => (b.c.any fun y => X.beq y (.t t)) && (range ml.length).all fun k => match ml[k]? with
  | some mk => !(mk.d == some t) || (befOf bs i).contains k
  | none => true
 | _ => false
def pairOk (ml:List MOpr) (bs:List (List Nat)) (i j:Nat):Bool :=
 match ml[i]?,ml[j]? with
 | some a,some b =>
  let o:=(befOf bs j).contains i || (befOf bs i).contains j
  (match a.d with
   | some t => (decide (i = j) || !(b.d == some t)) && (!b.tmps.contains t || o)
   | none => true) &&
  (decide (i = j) || !(a.o.loud && b.o.loud) || o) && (!(a.o.isLoad && b.wr) || o || besideOk ml bs i a b)
 | _,_ => true
def canonOk (ml:List MOpr) (es bs:List (List Nat)) (ord:List Nat):Bool :=
 decide (es.length = ml.length) && decide (bs.length = ml.length) && decide ord.Nodup && ord.all (fun i => decide (i < ml.length)) && (range ml.length).all ord.contains &&
 (range ml.length).all (fun i => (es.getD i []).all fun e => decide (e < i)) &&
 (range ml.length).all (fun i => (befOf bs i).all fun j => (es.getD i []).contains j || (es.getD i []).any fun e => (befOf bs e).contains j) &&
 (range ml.length).all (fun i => (range ml.length).all fun j => pairOk ml bs i j) && ordOk ml bs [] ord
theorem zbX {ml:List MOpr} {bs:List (List Nat)}:∀ {ord pre0:List Nat},ordOk ml bs pre0 ord = true -> ∀ pre i post,ord = pre ++ i :: post -> (∀ j ∈ befOf bs i,j ∈ pre0 ++ pre) /\ (isLoudAt ml i = false -> ∀ j ∈ pre0 ++ pre,isLoudAt ml j = true -> j ∈ befOf bs i)
 | [],pre0,_,pre,i,post,h => by simp at h
 | x :: ord,pre0,hk,pre,i,post,h => by
  simp only [ordOk,Bool.and_eq_true,Bool.or_eq_true,all_eq_true,Bool.not_eq_true',contains_iff_mem] at hk;obtain ⟨⟨h1,h2⟩,h3⟩:=hk
  cases pre with
  | nil =>
   simp only [nil_append,cons.injEq] at h;obtain ⟨rfl,rfl⟩:=h;simp only [append_nil];refine ⟨h1,fun hq j hj hl => ?_⟩
   rcases h2 with h2 | h2
   ·rw [hq] at h2; cases h2
   ·rcases h2 j hj with h | h
    ·rw [hl] at h; cases h
    ·exact h
  | cons y pre =>
   simp only [cons_append,cons.injEq] at h;obtain ⟨rfl,h⟩:=h
   have:=zbX h3 pre i post h
   simpa only [append_assoc,singleton_append] using this
theorem zeT {ml:List MOpr} {es bs:List (List Nat)} {ord:List Nat} (h:canonOk ml es bs ord = true):Canon ml es bs ord:=by
 simp only [canonOk,Bool.and_eq_true,decide_eq_true_eq,all_eq_true,mem_range,contains_iff_mem] at h;obtain ⟨⟨⟨⟨⟨⟨⟨⟨h1,h2⟩,h3⟩,h4⟩,h5⟩,h6⟩,h7⟩,h8⟩,h9⟩:=h
 have hlt:∀ {i:Nat} {m:MOpr},ml[i]? = some m -> i < ml.length:=fun {i m} hi => by
  rcases Nat.lt_or_ge i ml.length with h | h
  ·exact h
  ·simp [getElem?_eq_none h] at hi
 have hpair:∀ {i j:Nat} {a b:MOpr},ml[i]? = some a -> ml[j]? = some b -> (∀ t,a.d = some t -> (i = j \/ ¬ b.d = some t) /\ (t ∈ b.tmps -> i ∈ befOf bs j \/ j ∈ befOf bs i)) /\ (a.o.loud = true -> b.o.loud = true -> i ≠ j -> i ∈ befOf bs j \/ j ∈ befOf bs i) /\ (a.o.isLoad = true -> b.wr = true -> (i ∈ befOf bs j \/ j ∈ befOf bs i) \/ besideOk ml bs i a b = true):=by
  intro i j a b hi hj
  have:=h8 i (hlt hi) j (hlt hj)
  simp only [pairOk,hi,hj,Bool.and_eq_true,Bool.or_eq_true,decide_eq_true_eq,Bool.not_eq_true',contains_iff_mem] at this;obtain ⟨⟨p1,p2⟩,p3⟩:=this;refine ⟨fun t ht => ?_,fun hl hl2 hne => ?_,fun hl hs => ?_⟩
  ·rw [ht] at p1
   simp only [Bool.and_eq_true,Bool.or_eq_true,decide_eq_true_eq,Bool.not_eq_true',beq_eq_false_iff_ne,ne_eq,contains_iff_mem] at p1;refine ⟨p1.1,fun hm => p1.2.resolve_left fun hh => ?_⟩
   have:b.tmps.contains t = true:=contains_iff_mem.2 hm
   rw [hh] at this; cases this
  ·rcases p2 with (p2 | p2) | p2
   ·exact absurd p2 hne
   ·rw [hl,hl2] at p2; cases p2
   ·exact p2
  ·rcases p3 with (p3 | p3) | p3
   ·rw [hl,hs] at p3; cases p3
   ·exact .inl p3
   ·exact .inr p3
 refine ⟨h1,h2,h3,fun i => ⟨fun hi => h4 i hi,fun hi => h5 i hi⟩,fun i e hi he => h6 i hi e he,fun i j hi hj => ?_,fun i j a b t hi hj ha hb => ?_,fun i j a b t hi hj ha ht => ((hpair hi hj).1 t ha).2 ht,fun pre i post ho j hj => ?_,fun i j a b hi hj ha hb hne => (hpair hi hj).2.1 ha hb hne,
  fun pre i post a ho hi hq j b hj hb hl => ?_,fun i j a b hi hj ha hb => ((hpair hi hj).2.2 ha hb).imp id fun hb => ?_,fun i hi hm => ?_⟩
 ·have:=h7 i hi j hj
  simp only [Bool.or_eq_true,contains_iff_mem,any_eq_true] at this;exact this
 ·exact ((hpair hi hj).1 t ha).1.resolve_right fun h => h hb
 ·have:=(zbX h9 pre i post ho).1 j hj; simpa using this
 ·have:=(zbX h9 pre i post ho).2 (by simp [isLoudAt,hi,hq]) j (by simpa using hj) (by simp [isLoudAt,hb,hl])
  exact this
 ·unfold besideOk at hb
  split at hb
  ·rename_i t ht
   simp only [Bool.and_eq_true,any_eq_true,all_eq_true,mem_range] at hb;obtain ⟨⟨y,hy1,hy2⟩,hall⟩:=hb
   have hyt:y = .t t:=by
    cases y <;> simp only [X.beq,Bool.false_eq_true] at hy2
    simp only [beq_iff_eq] at hy2; rw [hy2]
   subst hyt;refine ⟨.t t,ht,hy1,fun t' ht' k mk hk hd => ?_⟩;simp only [X.tmps,mem_singleton] at ht'; subst ht'
   have:=hall k (hlt hk)
   simp only [hk,hd,beq_self_eq_true,Bool.not_true,Bool.false_or,contains_iff_mem] at this;exact this
  ·cases hb
 ·-- nothing comes before itself
  have hio:i ∈ ord:=h5 i hi;obtain ⟨p1,p2,hp⟩:=append_of_mem hio
  have:=(zbX h9 p1 i p2 hp).1 i hm
  rw [hp] at h3;exact (nodup_append.1 h3).2.2 i (by simpa using this) i (by simp) rfl
end
section
def trOprs (P:Program) (n:Nat) (ops:Array Oper):List Oper -> Option (List MOpr)
 | [] => some []
 | o :: r =>
  match trOpr P n ops o,trOprs P n ops r with
  | some m,some l => some (m :: l)
  | _,_ => none
def onlySrc (ml:List MOpr) (t:Nat):Bool:=ml.all fun m => match m.o with
 | .app _ s _x => !s.tmps.contains t && (match m.g with | some (u,_) => !(u == t) | none => true) || !m.tmps.contains t
 | _ => !m.tmps.contains t
def toQuiet (ml:List MOpr) (m:MOpr):MOpr :=
 match m.o,m.d with
 | .lit n xs,some d => if onlySrc ml d then { m with o:=.litq n xs } else m
 | _,_ => m
def beside (ml:List MOpr) (bs:List (List Nat)) (j:Nat) (m:MOpr):MOpr :=
 if m.o.isStore then
  { m with c:=(range ml.length).filterMap fun i => match ml[i]? with | some a => if a.o.isLoad && !((befOf bs j).contains i || (befOf bs i).contains j) then adrL a.o else none | none => none }
 else if m.o.isCall then
  { m with c:=.f 0 :: (range ml.length).filterMap fun i => match ml[i]? with | some a => if a.o.isLoad && !((befOf bs j).contains i || (befOf bs i).contains j) then adrL a.o else none | none => none }
 else if m.o.isApp && (range ml.length).all (fun i => match ml[i]? with
   | some a => !a.o.isLoad || (befOf bs j).contains i || (befOf bs i).contains j
   | none => true) then { m with c:=[.f 0] }
 else m
def markCall (m:MOpr):MOpr:=if m.o.isCall || m.o.isApp then { m with c:=[.f 1] } else m
def besides (ml:List MOpr) (bs:List (List Nat)):Nat -> List MOpr -> List MOpr
 | _,[] => []
 | j,m :: r => beside ml bs j m :: besides ml bs (j + 1) r
theorem zbf {P:Program} {n:Nat} {ops:Array Oper}:∀ {l:List Oper} {ml:List MOpr},trOprs P n ops l = some ml -> ml.length = l.length /\ ∀ (i:Nat) (o:Oper) (m:MOpr),l[i]? = some o -> ml[i]? = some m -> trOpr P n ops o = some m
 | [],ml,h => by simp only [trOprs,sI] at h; subst h; simp
 | o :: l,ml,h => by
  simp only [trOprs] at h
  split at h
  ·rename_i m r h1 h2
   simp only [sI] at h; subst h
   obtain ⟨k1,k2⟩:=zbf h2;refine ⟨by simp [k1],fun i o' m' ho hm => ?_⟩
   match i with
   | 0 => simp at ho hm; subst ho; subst hm; exact h1
   | i + 1 => exact k2 i o' m' (by simpa using ho) (by simpa using hm)
  ·cases h
theorem zb9 {ml:List MOpr} {bs:List (List Nat)}:∀ {l:List MOpr} {j:Nat},(besides ml bs j l).length = l.length
 | [],_ => rfl
 | m :: r,j => by simp [besides,zb9 (l:=r)]
theorem zca {ml:List MOpr} {bs:List (List Nat)}:∀ {l:List MOpr} {j i:Nat} {m:MOpr},(besides ml bs j l)[i]? = some m -> ∃ m0,l[i]? = some m0 /\ m.d = m0.d /\ m.o = m0.o /\ m.g = m0.g
 | [],_,i,m,h => by simp [besides] at h
 | x :: r,j,i,m,h => by
  simp only [besides] at h
  match i with
  | 0 =>
   simp only [getElem?_cons_zero,sI] at h; subst h
   refine ⟨x,rfl,?_⟩;unfold beside; split
   ·exact ⟨rfl,rfl,rfl⟩
   ·split
    ·exact ⟨rfl,rfl,rfl⟩
    ·split <;> exact ⟨rfl,rfl,rfl⟩
  | i + 1 =>
   simp only [getElem?_cons_succ] at h ⊢;exact zca h
theorem zd1 {P:Program} {n:Nat} {ops:Array Oper} {o:Oper} {ml:List MOpr} {m:MOpr} (h:TrO P n ops o m) (hq:∀ k xs,m.o = .lit k xs -> trOp P o.op = some (.lit k xs)):TrO P n ops o (toQuiet ml m):=by
 unfold toQuiet;split
 ·rename_i k xs d h1 h2
  split
  ·obtain ⟨a1,a2,a3,a4,a5⟩:=h
   exact ⟨.inr ⟨k,xs,hq k xs h1,rfl⟩,a2,a3,rfl,a5⟩
  ·exact h
 ·exact h
end
section
inductive RT where
 | leaf
 | node (qs:List MOpr) (alts:RT)
 | alt (m:MOpr) (t next:RT)
def RT.isLeaf:RT -> Bool
 | .leaf => true
 | _ => false
def pt (E:Env) (K:St -> Prop):RT -> St -> Prop
 | .leaf,_ => True
 | .node qs a,s => po E qs (fun s => (a.isLeaf = true -> K s) /\ pt E K a s) s
 | .alt m t n,s => po E [m] (pt E K t) s /\ pt E K n s
def asapQ (ml:List MOpr) (bs:List (List Nat)):Nat -> List Nat -> List Nat
 | 0,_ => []
 | f + 1,pre =>
  match (range ml.length).find? (fun i => !isLoudAt ml i && !pre.contains i && (befOf bs i).all pre.contains) with
  | some i => i :: asapQ ml bs f (pre ++ [i])
  | none => []
def qsOk (ml:List MOpr) (bs:List (List Nat)):List Nat -> List Nat -> Bool
 | _,[] => true
 | pre,i :: r => decide (i < ml.length) && !isLoudAt ml i && !pre.contains i && (befOf bs i).all pre.contains && qsOk ml bs (pre ++ [i]) r
def closOk (ml:List MOpr) (bs:List (List Nat)) (pre:List Nat):Bool:=(range ml.length).all fun i => isLoudAt ml i || !(befOf bs i).all pre.contains || pre.contains i
def nextOf (ml:List MOpr) (bs:List (List Nat)) (pre:List Nat):List Nat:=(range ml.length).filter fun i => isLoudAt ml i && !pre.contains i && (befOf bs i).all pre.contains
def altsOf (ml:List MOpr) (rec:Nat -> Option RT):List Nat -> Option RT
 | [] => some .leaf
 | i :: r =>
  match ml[i]?,rec i,altsOf ml rec r with
  | some m,some t,some n => some (.alt m t n)
  | _,_,_ => none
def buildT (ml:List MOpr) (bs:List (List Nat)):Nat -> List Nat -> Option RT
 | 0,_ => none
 | f + 1,pre =>
  let qs:=asapQ ml bs ml.length pre
  if qsOk ml bs pre qs && closOk ml bs (pre ++ qs) then
   (altsOf ml (fun i => buildT ml bs f (pre ++ qs ++ [i])) (nextOf ml bs (pre ++ qs))).map (.node (qs.filterMap (ml[·]?)))
  else none
theorem zd2 {E:Env} {f:Nat} {xs:List PV} {d:Option Nat} {K K':St -> Prop} {s:St} (h:pcall E f xs d K s) (hk:∀ s,K s -> K' s):pcall E f xs d K' s:=by
 obtain ⟨args,R,h1,h2,h3⟩:=h;refine ⟨args,R,h1,h2,h3.imp (fun h x lv hR => ?_) fun h x lv k hR a b => ?_⟩
 ·obtain ⟨y,e1,e2⟩:=h x lv hR; exact ⟨y,e1,hk _ e2⟩
 ·obtain ⟨y,e1,e2,e3⟩:=h x lv k hR a b; exact ⟨y,e1,e2,hk _ e3⟩
theorem zdn {E:Env} {f:Nat} {xs:List PV} {d:Option Nat} {c:List X} {K K':St -> Prop} {s:St} (h:pcallG E f xs d c K s) (hk:∀ s,K s -> K' s):pcallG E f xs d c K' s:=by
 obtain ⟨R,h1,h2⟩:=h;exact ⟨R,h1,fun x b n l hR => ⟨(h2 x b n l hR).1,hk _ (h2 x b n l hR).2⟩⟩
theorem pstep_mono {E:Env} {o:MOpr} {K K':St -> Prop} {s:St} (h:pstep E o K s) (hk:∀ s,K s -> K' s):pstep E o K' s:=by
 obtain ⟨d,m,g,c⟩:=o
 cases m <;> simp only [pstep] at h ⊢ <;>
  first
   | (exact h.imp (fun h => zd2 h hk) fun h => ⟨h.1,zdn h.2 hk⟩)
   | (obtain ⟨f,cap,h1,h2,h3⟩:=h; exact ⟨f,cap,h1,h2,h3.imp (fun h => zd2 h hk) fun h => ⟨h.1,zdn h.2 hk⟩⟩)
   | (
     rcases h with ⟨v,s',h1,h2⟩ | ⟨h1,p,len,cap,z,tk2,ds,a1,a2,a3,a4,a5,a6⟩
     ·exact .inl ⟨v,s',h1,hk _ h2⟩
     ·exact .inr ⟨h1,p,len,cap,z,tk2,ds,a1,a2,a3,a4,a5,fun p' c' b' hA => ⟨(a6 p' c' b' hA).1,hk _ (a6 p' c' b' hA).2⟩⟩)
   | (
     rcases h with ⟨v,h1,h2⟩ | ⟨v,s',h1,h2,h3⟩
     ·exact .inl ⟨v,h1,hk _ h2⟩
     ·exact .inr ⟨v,s',h1,h2,hk _ h3⟩)
theorem zei {E:Env}:∀ {l:List MOpr} {K K':St -> Prop} {s:St},po E l K s -> (∀ s,K s -> K' s) -> po E l K' s
 | [],_,_,_,h,hk => hk _ h
 | o :: r,K,K',s,h,hk => by
  obtain ⟨g,hg,h⟩:=h;exact ⟨g,hg,h.imp (fun h => ⟨h.1,pstep_mono h.2 fun s h => zei h hk⟩) fun h => ⟨h.1,zei h.2 hk⟩⟩
theorem loudAt {ml:List MOpr} {i:Nat} {m:MOpr} (h:ml[i]? = some m):isLoudAt ml i = m.o.loud:=by unfold isLoudAt; rw [h]
theorem zbL {ml:List MOpr} {i:Nat} {m:MOpr} (h:ml[i]? = some m):i < ml.length:=by
 rcases Nat.lt_or_ge i ml.length with h' | h'
 ·exact h'
 ·simp [getElem?_eq_none h'] at h
theorem rdy_of {bs:List (List Nat)} {pre:List Nat} {i:Nat}:(befOf bs i).all pre.contains = true ↔ Rdy bs pre i:=by
 simp only [all_eq_true,contains_iff_mem]; exact Iff.rfl
theorem zeU {ml:List MOpr} {bs:List (List Nat)}:∀ {qs pre:List Nat},qsOk ml bs pre qs = true -> Qs ml bs pre qs
 | [],_,_ => trivial
 | i :: r,pre,h => by
  simp only [qsOk,Bool.and_eq_true,decide_eq_true_eq,Bool.not_eq_true'] at h;obtain ⟨⟨⟨⟨h1,h2⟩,h3⟩,h4⟩,h5⟩:=h;have hm:ml[i]? = some ml[i]:=getElem?_eq_getElem h1;refine ⟨⟨ml[i],hm,by rw [<- loudAt hm]; exact h2⟩,fun hi => ?_,rdy_of.1 h4,zeU h5⟩;rw [<- contains_iff_mem] at hi; rw [hi] at h3; cases h3
theorem zfN {ml:List MOpr} {bs:List (List Nat)} {pre:List Nat} (h:closOk ml bs pre = true):Clos ml bs pre:=by
 intro i m hm hq hr;unfold closOk at h;rw [all_eq_true] at h
 have:=h i (mem_range.2 (zbL hm))
 rw [loudAt hm,hq,rdy_of.2 hr] at this;simpa using this
theorem zd3 {E:Env} {ml:List MOpr} {K:St -> Prop} {rec:Nat -> Option RT}:∀ {l:List Nat} {t:RT} {s:St},altsOf ml rec l = some t -> pt E K t s -> ∀ i ∈ l,∃ m u,ml[i]? = some m /\ rec i = some u /\ po E [m] (pt E K u) s
 | [],_,_,_,_,i,hi => by cases hi
 | x :: r,t,s,h,hp,i,hi => by
  simp only [altsOf] at h
  split at h
  ·rename_i m u n h1 h2 h3
   simp only [sI] at h; subst h
   rcases mem_cons.1 hi with rfl | hi
   ·exact ⟨m,u,h1,h2,hp.1⟩
   ·exact zd3 h3 hp.2 i hi
  ·cases h
theorem zfO {ml:List MOpr} {rec:Nat -> Option RT} {l:List Nat} {t:RT} (h:altsOf ml rec l = some t) (hl:l = []):t.isLeaf = true:=by
 subst hl; simp only [altsOf,sI] at h; subst h; rfl
theorem zeV {E:Env} {ml:List MOpr} {bs:List (List Nat)} {K:St -> Prop}:∀ {f:Nat} {pre:List Nat} {t:RT} {s:St},buildT ml bs f pre = some t -> pt E K t s -> runT E ml bs K f pre s
 | 0,_,_,_,h,_ => by simp [buildT] at h
 | f + 1,pre,t,s,h,hp => by
  simp only [buildT] at h
  split at h
  ·rename_i hok
   rw [Bool.and_eq_true] at hok;obtain ⟨a,ha,rfl⟩:=Option.map_eq_some_iff.1 h;refine ⟨_,zeU hok.1,zfN hok.2,zei hp fun s hk => ⟨fun hall => ?_,fun i m hm hl hi hr => ?_⟩⟩
   ·refine hk.1 (zfO ha ?_)
    rw [nextOf,filter_eq_nil_iff];intro i hi
    have:=hall i (mem_range.1 hi)
    rw [<- contains_iff_mem] at this;show ¬ ((isLoudAt ml i && !(pre ++ asapQ ml bs ml.length pre).contains i && (befOf bs i).all (pre ++ asapQ ml bs ml.length pre).contains) = true);rw [this]; simp
   ·have hin:i ∈ nextOf ml bs (pre ++ asapQ ml bs ml.length pre):=by
     rw [nextOf,mem_filter];refine ⟨mem_range.2 (zbL hm),?_⟩;rw [loudAt hm,hl,rdy_of.2 hr]
     have:(pre ++ asapQ ml bs ml.length pre).contains i = false:=by
      cases hc:(pre ++ asapQ ml bs ml.length pre).contains i with
      | false => rfl
      | true => exact absurd (contains_iff_mem.1 hc) hi
     rw [this]; rfl
    obtain ⟨m',u,e1,e2,e3⟩:=zd3 ha hk.2 i hin;rw [hm] at e1; simp only [sI] at e1; subst e1
    exact zei e3 fun s h => zeV e2 h
  ·cases h
def pairOkT (ml:List MOpr) (bs:List (List Nat)) (i j:Nat):Bool :=
 match ml[i]?,ml[j]? with
 | some a,some b =>
  let o:=(befOf bs j).contains i || (befOf bs i).contains j
  (match a.d with
   | some t => (decide (i = j) || !(b.d == some t)) && (!b.tmps.contains t || o)
   | none => true) && (!(a.o.isLoad && b.wr) || o || besideOk ml bs i a b)
 | _,_ => true
def canonOkT (ml:List MOpr) (es bs:List (List Nat)):Bool :=
 decide (es.length = ml.length) && decide (bs.length = ml.length) &&
 (range ml.length).all (fun i => (es.getD i []).all fun e => decide (e < i)) &&
 (range ml.length).all (fun i => (befOf bs i).all fun j => (es.getD i []).contains j || (es.getD i []).any fun e => (befOf bs e).contains j) &&
 (range ml.length).all (fun i => (range ml.length).all fun j => pairOkT ml bs i j) && (range ml.length).all fun i => !(befOf bs i).contains i
theorem zej {ml:List MOpr} {es bs:List (List Nat)} (h:canonOkT ml es bs = true):CanonT ml es bs:=by
 simp only [canonOkT,Bool.and_eq_true,decide_eq_true_eq,all_eq_true,mem_range] at h;obtain ⟨⟨⟨⟨⟨h1,h2⟩,h6⟩,h7⟩,h8⟩,h9⟩:=h
 have hpair:∀ {i j:Nat} {a b:MOpr},ml[i]? = some a -> ml[j]? = some b -> (∀ t,a.d = some t -> (i = j \/ ¬ b.d = some t) /\ (t ∈ b.tmps -> i ∈ befOf bs j \/ j ∈ befOf bs i)) /\ (a.o.isLoad = true -> b.wr = true -> (i ∈ befOf bs j \/ j ∈ befOf bs i) \/ besideOk ml bs i a b = true):=by
  intro i j a b hi hj
  have:=h8 i (zbL hi) j (zbL hj)
  simp only [pairOkT,hi,hj,Bool.and_eq_true,Bool.or_eq_true,Bool.not_eq_true',contains_iff_mem] at this;obtain ⟨p1,p3⟩:=this;refine ⟨fun t ht => ?_,fun hl hs => ?_⟩
  ·rw [ht] at p1
   simp only [Bool.and_eq_true,Bool.or_eq_true,decide_eq_true_eq,Bool.not_eq_true',beq_eq_false_iff_ne,ne_eq,contains_iff_mem] at p1;refine ⟨p1.1,fun hm => p1.2.resolve_left fun hh => ?_⟩
   have:b.tmps.contains t = true:=contains_iff_mem.2 hm
   rw [hh] at this; cases this
  ·rcases p3 with (p3 | p3) | p3
   ·rw [hl,hs] at p3; cases p3
   ·exact .inl p3
   ·exact .inr p3
 refine ⟨h1,h2,fun i e hi he => h6 i hi e he,fun i j hi hj => ?_,fun i j a b t hi hj ha hb => ?_,fun i j a b t hi hj ha ht => ((hpair hi hj).1 t ha).2 ht,fun i j a b hi hj ha hb => ((hpair hi hj).2 ha hb).imp id fun hb => ?_,fun i hi hm => ?_⟩
 ·have:=h7 i hi j hj
  simp only [Bool.or_eq_true,contains_iff_mem,any_eq_true] at this;exact this
 ·exact ((hpair hi hj).1 t ha).1.resolve_right fun h => h hb
 ·unfold besideOk at hb
  split at hb
  ·rename_i t ht
   simp only [Bool.and_eq_true,any_eq_true,all_eq_true,mem_range] at hb;obtain ⟨⟨y,hy1,hy2⟩,hall⟩:=hb
   have hyt:y = .t t:=by
    cases y <;> simp only [X.beq,Bool.false_eq_true] at hy2
    simp only [beq_iff_eq] at hy2; rw [hy2]
   subst hyt;refine ⟨.t t,ht,hy1,fun t' ht' k mk hk hd => ?_⟩;simp only [X.tmps,mem_singleton] at ht'; subst ht'
   have:=hall k (zbL hk)
   simp only [hk,hd,beq_self_eq_true,Bool.not_true,Bool.false_or,contains_iff_mem] at this;exact this
  ·cases hb
 ·have:=h9 i hi
  rw [contains_iff_mem.2 hm] at this; cases this
end
section
def trT (P:Program) (n:Nat) (ops:Array Oper):Option RT :=
 match trOprs P n ops ops.toList with
 | some ml =>
  let es:=ops.toList.map edgesOf
  let bs:=befs es
  let ml:=besides (ml.map (toQuiet ml)) bs 0 (ml.map (toQuiet ml))
  if canonOkT ml es bs then buildT ml bs (ml.length + 1) [] else none
 | none => none
theorem zfP {E:Env} {B:Base} {C:Cx} {s:St} {a:Act} {w:World} {id:Nat} {ops:Array Oper} {t:RT} {K:St -> Prop} {Q:Exit -> Act -> World -> Prop} (k:trT E.P B.n ops = some t) (hr:Rep E B C s a w) (hp:pt E K t s)
  (hQ:∀ C' s' a' w',Rep E B C' s' a' w' -> K s' -> Q .normal a' w'):(Code.region id ops true).wp E.P Q a w:=by
 unfold trT at k
 split at k
 ·rename_i ml hml
  obtain ⟨m1,m2⟩:=zbf hml;have hsz:ops.size = ml.length:=by rw [m1,Array.length_toList]
  simp only at k
  split at k
  ·rename_i hcan
   have hC:=zej hcan;have h:=zeV k hp;refine wp_region_any E.mixed ?_
   have hr2:Rep E B C s a { w with drawn:=w.drawn + 1 }:=by
    have hcell:∀ p:Addr,({ w with drawn:=w.drawn + 1 }:World).cell? p = w.cell? p:=fun _ => rfl
    have hF:Fix C w { w with drawn:=w.drawn + 1 }:=⟨fun _ _ _ => rfl,fun _ _ cs fz h => ⟨cs,fz,h⟩⟩;refine ⟨⟨hr.inv.nb,fun p cs hp => ?_,hr.inv.boxF,hr.inv.boxG,hr.inv.inj,hr.inv.tok,hr.inv.tinj,hr.inv.fin,hr.inv.ng,E.low w _ hr.inv.t lR (fun _ _ => rfl)⟩,hr.nt,hr.n2,⟨hr.ext.os,hr.ext.tape,hr.ext.output,hr.ext.size,hr.ext.F,hr.ext.fix,hr.ext.block,hr.ext.bx,hr.ext.newF,hr.ext.newT,hr.ext.newB,hr.ext.tk⟩,hr.size,hr.defers,fun t => (hr.tm t).frame (CxLe.refl C) hF⟩;obtain ⟨vs,e,hh,hl⟩:=hr.inv.box p cs hp;exact ⟨vs,e,hh,hl.frame (CxLe.refl C) hF⟩
   obtain ⟨ml2,hml2⟩:∃ ml2,ml2 = besides (ml.map (toQuiet ml)) (befs (ops.toList.map edgesOf)) 0 (ml.map (toQuiet ml)):=⟨_,rfl⟩;rw [<- hml2] at hC h;have hsz:ops.size = ml2.length:=by rw [hml2,zb9,length_map]; exact hsz
   have htr:∀ (i:Nat) (o:Oper) (m:MOpr),ops[i]? = some o -> ml2[i]? = some m -> TrO E.P B.n ops o m:=fun i o m ho hm => by
    rw [hml2] at hm;obtain ⟨m0,h0,g1,g2,g3⟩:=zca hm;rw [getElem?_map] at h0
    cases hmi:ml[i]? with
    | none => rw [hmi] at h0; cases h0
    | some m1 =>
     rw [hmi] at h0; simp only [Option.map_some,sI] at h0; subst h0
     have t0:=m2 i o m1 (by simpa using ho) hmi;have t1:=zbq t0
     have t2:TrO E.P B.n ops o (toQuiet ml m1):=zd1 t1 fun k xs hk => by
      have:=t1.1
      rw [hk] at this
      rcases this with h | ⟨_,_,_,h⟩
      ·exact h
      ·cases h
     unfold TrO at t2 ⊢;rw [g1,g2,g3]; exact t2
   have hes:∀ (i:Nat) (o:Oper),ops[i]? = some o -> (ops.toList.map edgesOf).getD i [] = edgesOf o:=fun i o ho => by
    rw [getD_eq_getElem?_getD,getElem?_map,Array.getElem?_toList,ho]; rfl
   have hnoL:∀ i,¬ LL (Array.replicate ops.size false) i:=by
    intro i hi;unfold LL at hi
    rcases Nat.lt_or_ge i ops.size with h | h
    ·simp [h] at hi
    ·simp [Array.getD_eq_getD_getElem?,Array.getElem?_eq_none (show (Array.replicate ops.size false).size <= i by simpa using h)] at hi
   obtain ⟨qs,hQs,hClos,hpo⟩:=h;obtain ⟨s',G1,G2,G3,G4,G5,G6,e1,e2,e3,_⟩:=quietsT (E:=E) (tm0:=s.tm) hC (L:=LL (Array.replicate ops.size false)) qs [] s hQs (fun i hi => by cases hi) hpo (fun i hi => absurd hi (hnoL i)) (fun i _ hi => absurd hi (hnoL i)) (fun i hi => absurd hi (hnoL i)) (fun i m _ _ hi => by cases hi) (fun _ _ => rfl) (fun j hj => by cases hj);have hS:SimT E ml2 (ops.toList.map edgesOf) (befs (ops.toList.map edgesOf)) K s.tm (LL (Array.replicate ops.size false)) ([] ++ qs) s':=⟨⟨_,G1.1,G1.2⟩,hClos,G2,fun i hi => absurd hi (hnoL i),fun i _ hi => absurd hi (hnoL i),G3,G4,G5,G6⟩;refine sim_anyT (B:=B) hC hsz htr hes (Q:=Q) (K:=K) (tm0:=s.tm) hQ ops.size (Array.replicate ops.size false) C s' a _ _ hS (by simp) ?_ ?_
   ·have hmix:mix ml2 (LL (Array.replicate ops.size false)) s'.tm s.tm = s.tm:=by
     funext t
     have:¬ wr ml2 (LL (Array.replicate ops.size false)) t:=fun ⟨i,_,_,_,hi⟩ => hnoL i hi
     simp [mix,this]
    have:({ s' with tm:=mix ml2 (LL (Array.replicate ops.size false)) s'.tm s.tm }:St) = s:=by
     rw [hmix];obtain ⟨tm',bx',nt',live'⟩:=s';obtain ⟨tm,bx,nt,live⟩:=s;simp only at e1 e2 e3
     subst e1; subst e2; subst e3; rfl
    rw [this]; exact hr2
   ·refine Nat.le_trans (length_filter_le _ _) ?_
    rw [length_range,hsz]; exact lR
  ·cases k
 ·cases k
end
section
inductive M where
 | skip
 | ops (l:List MOpr)
 | tree (t:RT)
 | seq (a b:M)
 | cond (x:X) (a b:M)
 | block (id:Nat) (a:M)
 | loop (a:M)
 | exit (id:Nat)
 | ret
def trR (P:Program) (n:Nat) (ops:Array Oper) (draw:Bool):Option (List MOpr) :=
 match trOprs P n ops ops.toList with
 | some ml =>
  if draw then
   let es:=ops.toList.map edgesOf
   let bs:=befs es
   let ml:=besides (ml.map (toQuiet ml)) bs 0 (ml.map (toQuiet ml))
   let ord:=canonOrd ml es ml.length []
   if canonOk ml es bs ord then some (ord.filterMap (ml[·]?)) else none
  else some (ml.map markCall)
 | none => none
def tr (P:Program) (n:Nat):Code -> Option M
 | .skip => some .skip
 | .region _ ops draw =>
  match trR P n ops draw with
  | some l => some (.ops l)
  | none => if draw then (trT P n ops).map .tree else none
 | .seq a b =>
  match tr P n a,tr P n b with
  | some a,some b => some (.seq a b)
  | _,_ => none
 | .cond x a b =>
  match trX x,tr P n a,tr P n b with
  | some x,some a,some b => some (.cond x a b)
  | _,_,_ => none
 | .block id a => (tr P n a).map (.block id)
 | .loop a => (tr P n a).map .loop
 | .exit id => some (.exit id)
 | .ret => some .ret
 | _ => none
def lift (E:Env) (B:Base) (Q:Exit -> St -> Prop):Exit -> Act -> World -> Prop:=fun e a w => ∃ C s,Rep E B C s a w /\ match e with
 | .normal => Q .normal s
 | .exit i => Q (.exit i) s
 | .ret => Q .ret s
 | _ => False
theorem lift_mono {E:Env} {B:Base} {Q Q':Exit -> St -> Prop} (h:∀ e s,Q e s -> Q' e s):∀ e a w,lift E B Q e a w -> lift E B Q' e a w:=by
 rintro e a w ⟨C,s,hr,hq⟩;exact ⟨C,s,hr,by cases e <;> first | exact h _ _ hq | exact hq⟩
def mw (E:Env) (B:Base) (m:M) (Q:Exit -> St -> Prop) (s:St):Prop:=∀ code,tr E.P B.n code = some m -> ∀ C a w,Rep E B C s a w -> code.wp E.P (lift E B Q) a w
section
variable {E:Env} {B:Base} {s:St} {Q:Exit -> St -> Prop}
theorem zbM {P:Program} {n:Nat} {c:Code} {m:M} (h:tr P n c = some m) :
  (m = .skip /\ c = .skip) \/ (∃ id ops d l,m = .ops l /\ c = .region id ops d /\ trR P n ops d = some l) \/ (∃ a b a' b',m = .seq a' b' /\ c = .seq a b /\ tr P n a = some a' /\ tr P n b = some b') \/
  (∃ x a b x' a' b',m = .cond x' a' b' /\ c = .cond x a b /\ trX x = some x' /\ tr P n a = some a' /\ tr P n b = some b') \/ (∃ id a a',m = .block id a' /\ c = .block id a /\ tr P n a = some a') \/
  (∃ a a',m = .loop a' /\ c = .loop a /\ tr P n a = some a') \/ (∃ id,m = .exit id /\ c = .exit id) \/ (m = .ret /\ c = .ret) \/ (∃ id ops t,m = .tree t /\ c = .region id ops true /\ trT P n ops = some t):=by
 cases c with
 | skip => simp only [tr,sI] at h; subst h; exact .inl ⟨rfl,rfl⟩
 | region id ops d =>
  simp only [tr] at h
  cases hr:trR P n ops d with
  | none =>
   rw [hr] at h
   cases d with
   | false => cases h
   | true =>
    cases ht:trT P n ops with
    | none => rw [ht] at h; cases h
    | some t => rw [ht] at h; simp only [if_true,Option.map_some,sI] at h; subst h; exact .inr (.inr (.inr (.inr (.inr (.inr (.inr (.inr ⟨id,ops,t,rfl,rfl,ht⟩)))))))
  | some l => rw [hr] at h; simp only [sI] at h; subst h; exact .inr (.inl ⟨id,ops,d,l,rfl,rfl,hr⟩)
 | seq a b =>
  simp only [tr] at h
  split at h
  ·rename_i a' b' h1 h2
   simp only [sI] at h; subst h; exact .inr (.inr (.inl ⟨a,b,a',b',rfl,rfl,h1,h2⟩))
  ·cases h
 | cond x a b =>
  simp only [tr] at h
  split at h
  ·rename_i x' a' b' h0 h1 h2
   simp only [sI] at h; subst h; exact .inr (.inr (.inr (.inl ⟨x,a,b,x',a',b',rfl,rfl,h0,h1,h2⟩)))
  ·cases h
 | block id a =>
  simp only [tr] at h
  cases hr:tr P n a with
  | none => rw [hr] at h; cases h
  | some l => rw [hr] at h; simp only [Option.map_some,sI] at h; subst h; exact .inr (.inr (.inr (.inr (.inl ⟨id,a,l,rfl,rfl,hr⟩))))
 | loop a =>
  simp only [tr] at h
  cases hr:tr P n a with
  | none => rw [hr] at h; cases h
  | some l => rw [hr] at h; simp only [Option.map_some,sI] at h; subst h; exact .inr (.inr (.inr (.inr (.inr (.inl ⟨a,l,rfl,rfl,hr⟩)))))
 | exit id => simp only [tr,sI] at h; subst h; exact .inr (.inr (.inr (.inr (.inr (.inr (.inl ⟨id,rfl,rfl⟩))))))
 | ret => simp only [tr,sI] at h; subst h; exact .inr (.inr (.inr (.inr (.inr (.inr (.inr (.inl ⟨rfl,rfl⟩)))))))
 | _ => simp [tr] at h
theorem mw_mono {m:M} {Q':Exit -> St -> Prop} (h:mw E B m Q s) (hq:∀ e s,Q e s -> Q' e s):mw E B m Q' s:=fun c hc C a w hr => wp_mono (h c hc C a w hr) (lift_mono hq)
theorem za0 (h:Q .normal s):mw E B .skip Q s:=by
 intro c hc C a w hr;obtain ⟨_,rfl⟩ | ⟨_,_,_,_,h',_⟩ | ⟨_,_,_,_,h',_⟩ | ⟨_,_,_,_,_,_,h',_⟩ | ⟨_,_,_,h',_⟩ | ⟨_,_,h',_⟩ | ⟨_,h',_⟩ | ⟨h',_⟩ | ⟨_,_,_,h',_⟩:=zbM hc <;> first | (cases h'; done) | exact wp_skip ⟨C,s,hr,h⟩
theorem zab (h:Q .ret s):mw E B .ret Q s:=by
 intro c hc C a w hr;obtain ⟨h',_⟩ | ⟨_,_,_,_,h',_⟩ | ⟨_,_,_,_,h',_⟩ | ⟨_,_,_,_,_,_,h',_⟩ | ⟨_,_,_,h',_⟩ | ⟨_,_,h',_⟩ | ⟨_,h',_⟩ | ⟨_,rfl⟩ | ⟨_,_,_,h',_⟩:=zbM hc <;> first | (cases h'; done) | exact wp_ret ⟨C,s,hr,h⟩
theorem za4 {id:Nat} (h:Q (.exit id) s):mw E B (.exit id) Q s:=by
 intro c hc C a w hr;obtain ⟨h',_⟩ | ⟨_,_,_,_,h',_⟩ | ⟨_,_,_,_,h',_⟩ | ⟨_,_,_,_,_,_,h',_⟩ | ⟨_,_,_,h',_⟩ | ⟨_,_,h',_⟩ | ⟨i,h',rfl⟩ | ⟨h',_⟩ | ⟨_,_,_,h',_⟩:=zbM hc <;> first | (cases h'; done) | (cases h'; exact wp_exit ⟨C,s,hr,h⟩)
def seqK (E:Env) (B:Base) (b:M) (Q:Exit -> St -> Prop):Exit -> St -> Prop
 | .normal,s => mw E B b Q s
 | e,s => Q e s
theorem zau {a b:M} (h:mw E B a (seqK E B b Q) s):mw E B (.seq a b) Q s:=by
 intro c hc C ac w hr;obtain ⟨h',_⟩ | ⟨_,_,_,_,h',_⟩ | ⟨x,y,_,_,h',rfl,h1,h2⟩ | ⟨_,_,_,_,_,_,h',_⟩ | ⟨_,_,_,h',_⟩ | ⟨_,_,h',_⟩ | ⟨_,h',_⟩ | ⟨h',_⟩ | ⟨_,_,_,h',_⟩:=zbM hc <;> try (cases h'; done)
 simp only [M.seq.injEq] at h'; obtain ⟨rfl,rfl⟩:=h'
 refine wp_seq (wp_mono (h x h1 C ac w hr) ?_);rintro e a' w' ⟨C',s',hr',hq⟩
 cases e with
 | normal => exact hq y h2 C' a' w' hr'
 | exit i => exact ⟨C',s',hr',hq⟩
 | ret => exact ⟨C',s',hr',hq⟩
 | _ => exact hq.elim
theorem zfQ {x:X} {a b:M} {t:Bool} (hx:ev s.tm x = .d (.v (.bool t))) (h1:t = true -> mw E B a Q s) (h2:t = false -> mw E B b Q s):mw E B (.cond x a b) Q s:=by
 intro c hc C ac w hr;obtain ⟨h',_⟩ | ⟨_,_,_,_,h',_⟩ | ⟨_,_,_,_,h',_⟩ | ⟨x0,a0,b0,_,_,_,h',rfl,k0,k1,k2⟩ | ⟨_,_,_,h',_⟩ | ⟨_,_,h',_⟩ | ⟨_,h',_⟩ | ⟨h',_⟩ | ⟨_,_,_,h',_⟩:=zbM hc <;> try (cases h'; done)
 simp only [M.cond.injEq] at h'; obtain ⟨rfl,rfl,rfl⟩:=h'
 have hv:=hr.ro x0 x k0;rw [hx] at hv
 have hb:ac.eval x0 = .bool t:=by
  generalize ac.eval x0 = z at hv
  cases hv with
  | d _ _ hv => cases hv with
   | v _ _ => rfl
 exact wp_cond_split hb (fun e => h1 e a0 k1 C ac w hr) (fun e => h2 e b0 k2 C ac w hr)
def blockK (id:Nat) (Q:Exit -> St -> Prop):Exit -> St -> Prop
 | .exit i,s => if i = id then Q .normal s else Q (.exit i) s
 | e,s => Q e s
theorem zak {id:Nat} {a:M} (h:mw E B a (blockK id Q) s):mw E B (.block id a) Q s:=by
 intro c hc C ac w hr;obtain ⟨h',_⟩ | ⟨_,_,_,_,h',_⟩ | ⟨_,_,_,_,h',_⟩ | ⟨_,_,_,_,_,_,h',_⟩ | ⟨i,a0,_,h',rfl,k⟩ | ⟨_,_,h',_⟩ | ⟨_,h',_⟩ | ⟨h',_⟩ | ⟨_,_,_,h',_⟩:=zbM hc <;> try (cases h'; done)
 simp only [M.block.injEq] at h'; obtain ⟨rfl,rfl⟩:=h'
 refine wp_block (wp_mono (h a0 k C ac w hr) ?_);rintro e a' w' ⟨C',s',hr',hq⟩
 cases e with
 | normal => exact ⟨C',s',hr',hq⟩
 | exit i =>
  simp only [Exit.inBlock];simp only [blockK] at hq;by_cases hi:i = id
  ·rw [if_pos hi] at hq ⊢; exact ⟨C',s',hr',hq⟩
  ·rw [if_neg hi] at hq ⊢; exact ⟨C',s',hr',hq⟩
 | ret => exact ⟨C',s',hr',hq⟩
 | _ => exact hq.elim
def loopK (I:Nat -> St -> Prop) (n:Nat) (Q:Exit -> St -> Prop):Exit -> St -> Prop
 | .normal,s => ∃ k,k < n /\ I k s
 | e,s => Q e s
theorem mw_loop {a:M} (I:Nat -> St -> Prop) (n:Nat) (h0:I n s) (h:∀ n s,I n s -> mw E B a (loopK I n Q) s):mw E B (.loop a) Q s:=by
 intro c hc C ac w hr;obtain ⟨h',_⟩ | ⟨_,_,_,_,h',_⟩ | ⟨_,_,_,_,h',_⟩ | ⟨_,_,_,_,_,_,h',_⟩ | ⟨_,_,_,h',_⟩ | ⟨a0,_,h',rfl,k⟩ | ⟨_,h',_⟩ | ⟨h',_⟩ | ⟨_,_,_,h',_⟩:=zbM hc <;> try (cases h'; done)
 simp only [M.loop.injEq] at h'; obtain rfl:=h'
 refine wp_loop_ghost (fun n a w => ∃ C s,Rep E B C s a w /\ I n s) n ⟨C,s,hr,h0⟩ ?_;rintro n a1 w1 ⟨C1,s1,hr1,hi⟩;refine wp_mono (h n s1 hi a0 k C1 a1 w1 hr1) ?_;rintro e a' w' ⟨C',s',hr',hq⟩
 cases e with
 | normal => obtain ⟨k,hk,hi'⟩:=hq; exact ⟨k,hk,C',s',hr',hi'⟩
 | exit i => exact ⟨C',s',hr',hq⟩
 | ret => exact ⟨C',s',hr',hq⟩
 | _ => exact hq.elim
theorem zap {l:List MOpr} (h:po E l (Q .normal) s):mw E B (.ops l) Q s:=by
 intro c hc C ac w hr;obtain ⟨h',_⟩ | ⟨id,ops,d,_,h',rfl,k⟩ | ⟨_,_,_,_,h',_⟩ | ⟨_,_,_,_,_,_,h',_⟩ | ⟨_,_,_,h',_⟩ | ⟨_,_,h',_⟩ | ⟨_,h',_⟩ | ⟨h',_⟩ | ⟨_,_,_,h',_⟩:=zbM hc <;> try (cases h'; done)
 simp only [M.ops.injEq] at h'; obtain rfl:=h'
 unfold trR at k
 split at k
 ·rename_i ml hml
  obtain ⟨m1,m2⟩:=zbf hml;have hsz:ops.size = ml.length:=by rw [m1,Array.length_toList]
  cases d with
  | false =>
   simp only [Bool.false_eq_true,if_false,sI] at k; subst k
   refine wp_region ?_;refine zc0 (B:=B) (range ops.size) (ml.map markCall) (by simp [hsz]) (fun k i mo h1 h2 => ?_) hr h (fun C' s' a' w' hr' hk => ⟨C',s',hr',hk⟩);rw [getElem?_map] at h2;obtain ⟨mo0,h3,rfl⟩:=Option.map_eq_some_iff.1 h2
   have htr0:∀ (o:Oper) (m:MOpr),TrO E.P B.n ops o m -> TrO E.P B.n ops o (markCall m):=by
    intro o m ht;unfold markCall; split <;> exact ht
   have hk:k < ops.size:=by
    rcases Nat.lt_or_ge k ops.size with h | h
    ·exact h
    ·rw [getElem?_eq_none (by simpa using h)] at h1; cases h1
   rw [getElem?_range hk] at h1; simp only [sI] at h1; subst h1
   exact ⟨ops[k],Array.getElem?_eq_getElem hk,htr0 _ _ (zbq (m2 k ops[k] mo0 (by simp [hk]) h3))⟩
  | true =>
   simp only [if_true] at k
   split at k
   ·rename_i hcan
    simp only [sI] at k; subst k
    have hC:=zeT hcan;refine wp_region_any E.mixed ?_
    have hr2:Rep E B C s ac { w with drawn:=w.drawn + 1 }:=by
     have hcell:∀ p:Addr,({ w with drawn:=w.drawn + 1 }:World).cell? p = w.cell? p:=fun _ => rfl
     have hF:Fix C w { w with drawn:=w.drawn + 1 }:=⟨fun _ _ _ => rfl,fun _ _ cs fz h => ⟨cs,fz,h⟩⟩;refine ⟨⟨hr.inv.nb,fun p cs hp => ?_,hr.inv.boxF,hr.inv.boxG,hr.inv.inj,hr.inv.tok,hr.inv.tinj,hr.inv.fin,hr.inv.ng,E.low w _ hr.inv.t lR (fun _ _ => rfl)⟩,hr.nt,hr.n2,⟨hr.ext.os,hr.ext.tape,hr.ext.output,hr.ext.size,hr.ext.F,hr.ext.fix,hr.ext.block,hr.ext.bx,hr.ext.newF,hr.ext.newT,hr.ext.newB,hr.ext.tk⟩,hr.size,hr.defers,fun t => (hr.tm t).frame (CxLe.refl C) hF⟩;obtain ⟨vs,e,hh,hl⟩:=hr.inv.box p cs hp;exact ⟨vs,e,hh,hl.frame (CxLe.refl C) hF⟩
    obtain ⟨ml2,hml2⟩:∃ ml2,ml2 = besides (ml.map (toQuiet ml)) (befs (ops.toList.map edgesOf)) 0 (ml.map (toQuiet ml)):=⟨_,rfl⟩;rw [<- hml2] at hC h;have hsz:ops.size = ml2.length:=by rw [hml2,zb9,length_map]; exact hsz
    have htr:∀ (i:Nat) (o:Oper) (m:MOpr),ops[i]? = some o -> ml2[i]? = some m -> TrO E.P B.n ops o m:=fun i o m ho hm => by
     rw [hml2] at hm;obtain ⟨m0,h0,g1,g2,g3⟩:=zca hm;rw [getElem?_map] at h0
     cases hmi:ml[i]? with
     | none => rw [hmi] at h0; cases h0
     | some m1 =>
      rw [hmi] at h0; simp only [Option.map_some,sI] at h0; subst h0
      have t0:=m2 i o m1 (by simpa using ho) hmi;have t1:=zbq t0
      have t2:TrO E.P B.n ops o (toQuiet ml m1):=zd1 t1 fun k xs hk => by
       have:=t1.1
       rw [hk] at this
       rcases this with h | ⟨_,_,_,h⟩
       ·exact h
       ·cases h
      unfold TrO at t2 ⊢;rw [g1,g2,g3]; exact t2
    have hes:∀ (i:Nat) (o:Oper),ops[i]? = some o -> (ops.toList.map edgesOf).getD i [] = edgesOf o:=fun i o ho => by
     rw [getD_eq_getElem?_getD,getElem?_map,Array.getElem?_toList,ho]; rfl
    have hnoL:∀ i,¬ LL (Array.replicate ops.size false) i:=by
     intro i hi;unfold LL at hi
     rcases Nat.lt_or_ge i ops.size with h | h
     ·simp [h] at hi
     ·simp [Array.getD_eq_getD_getElem?,Array.getElem?_eq_none (show (Array.replicate ops.size false).size <= i by simpa using h)] at hi
    obtain ⟨pre',rest',s',hS,e1,e2,e3,_⟩:=quiets (E:=E) (B:=B) (K:=Q .normal) (tm0:=s.tm) hC (L:=LL (Array.replicate ops.size false)) _ [] s rfl h (fun i hi => absurd hi (hnoL i)) (fun i _ hi => absurd hi (hnoL i)) (fun i hi => absurd hi (hnoL i)) (fun i m _ _ hi => by cases hi) (fun _ _ => rfl) (fun j hj => by cases hj);refine sim_any hC hsz htr hes (Q:=lift E B Q) (K:=Q .normal) (tm0:=s.tm) (fun C' s' a' w' hr' hk => ⟨C',s',hr',hk⟩) ops.size (Array.replicate ops.size false) C s' ac _ pre' rest' hS (by simp) ?_ ?_
    ·have hmix:mix ml2 (LL (Array.replicate ops.size false)) s'.tm s.tm = s.tm:=by
      funext t
      have:¬ wr ml2 (LL (Array.replicate ops.size false)) t:=fun ⟨i,_,_,_,hi⟩ => hnoL i hi
      simp [mix,this]
     have:({ s' with tm:=mix ml2 (LL (Array.replicate ops.size false)) s'.tm s.tm }:St) = s:=by
      rw [hmix];obtain ⟨tm',bx',nt',live'⟩:=s';obtain ⟨tm,bx,nt,live⟩:=s;simp only at e1 e2 e3
      subst e1; subst e2; subst e3; rfl
     rw [this]; exact hr2
    ·refine Nat.le_trans (length_filter_le _ _) ?_
     rw [length_range,hsz]; exact lR
   ·cases k
 ·cases k
theorem zek {t:RT} (h:pt E (Q .normal) t s):mw E B (.tree t) Q s:=by
 intro c hc C ac w hr;obtain ⟨h',_⟩ | ⟨_,_,_,_,h',_⟩ | ⟨_,_,_,_,h',_⟩ | ⟨_,_,_,_,_,_,h',_⟩ | ⟨_,_,_,h',_⟩ | ⟨_,_,h',_⟩ | ⟨_,h',_⟩ | ⟨h',_⟩ | ⟨id,ops,t',h',rfl,k⟩:=zbM hc <;> try (cases h'; done)
 simp only [M.tree.injEq] at h'; obtain rfl:=h'
 exact zfP k hr h (fun C' s' a' w' hr' hk => ⟨C',s',hr',hk⟩)
/-! ### Functions -/
inductive MRes where
 | tm (t:Nat)
 | cell (ag:Bool) (n t:Nat)
def trRes (P:Program):ResultVar -> Option MRes
 | .tmp t => some (.tm t)
 | .cell t ty =>
  match isRowT P ty,sizeT P ty with
  | some ag,some n => if ag || decide (n = 1) then some (.cell ag n t) else none
  | _,_ => none
def trRess (P:Program):List ResultVar -> Option (List MRes)
 | [] => some []
 | r :: l =>
  match trRes P r,trRess P l with
  | some x,some y => some (x :: y)
  | _,_ => none
def resM (s:St):MRes -> Option PV
 | .tm t => some (s.tm t)
 | .cell ag n t =>
  match s.tm t with
  | .ref p o =>
   match s.bx[p]? with
   | some cs => if o + n <= cs.length then ldv ag ((cs.drop o).take n) else none
   | none => none
  | _ => none
def ressM (s:St):List MRes -> Option (List PV)
 | [] => some []
 | r :: l =>
  match resM s r,ressM s l with
  | some x,some y => some (x :: y)
  | _,_ => none
def one:List PV -> PV
 | [v] => v
 | l => .tup l
def look (P:Program) (f:Nat):Option (Nat × M × List MRes) :=
 match P.funcs[f]? with
 | some fn =>
  match fn.body with
  | some c =>
   match tr P fn.ntmps c,trRess P fn.results.toList with
   | some m,some rs => some (fn.ntmps,m,rs)
   | _,_ => none
  | none => none
 | none => none
def initS (args:List PV):St:=⟨fun t => args.getD t (.tup []),[],2,[]⟩
def retK (rs:List MRes) (R:PV -> (Nat -> Prop) -> Prop):Exit -> St -> Prop:=fun e s => (e = .normal \/ e = .ret) /\ ∃ l,ressM s rs = some l /\ R (one l) (· ∈ s.live)
def resSem (tmps:Array Value):ResultVar -> Sem Value
 | .tmp t => Pure.pure (tmps.getD t undef)
 | .cell a t => asAddr (tmps.getD a undef) >>= fun b => loadVar t b
theorem results_eq (fn:Func) (tmps:Array Value):results fn tmps = (fn.results.mapM (resSem tmps) >>= fun vs => Pure.pure (if h:vs.size = 1 then vs[0] else Value.tuple vs)):=by
 unfold results
 congr 1
theorem ress_run {C:Cx} {a:Act} {w:World} (hr:Rep E B C s a w):∀ {rs:List ResultVar} {ms:List MRes} {l:List PV},trRess E.P rs = some ms -> ressM s ms = some l ->
  ∃ vs:List Value,(rs.mapM (resSem a.tmps)).run E.P w = .ok vs w /\ vs.length = l.length /\ ∀ (j:Nat) (x:PV) (y:Value),l[j]? = some x -> vs[j]? = some y -> RpV C w x y
 | [],ms,l,h1,h2 => by
  simp only [trRess,sI] at h1; subst h1
  simp only [ressM,sI] at h2; subst h2
  exact ⟨[],by simp,rfl,fun j x y h => by simp at h⟩
 | r :: rs,ms,l,h1,h2 => by
  simp only [trRess] at h1
  split at h1
  ·rename_i m ms' k1 k2
   simp only [sI] at h1; subst h1
   simp only [ressM] at h2
   split at h2
   ·rename_i x l' k3 k4
    simp only [sI] at h2; subst h2
    obtain ⟨vs,q1,q2,q3⟩:=ress_run hr k2 k4
    have hone:∃ v,(resSem a.tmps r).run E.P w = .ok v w /\ RpV C w x v:=by
     cases r with
     | tmp t =>
      simp only [trRes,sI] at k1; subst k1
      simp only [resM,sI] at k3; subst k3
      exact ⟨_,rfl,hr.tm t⟩
     | cell t ty =>
      simp only [trRes] at k1
      split at k1
      ·rename_i ag n g1 g2
       split at k1
       ·rename_i hag
        have hag':ag = true \/ n = 1:=by simpa using hag
        simp only [sI] at k1; subst k1
        simp only [resM] at k3
        split at k3
        ·rename_i p o hp
         have hv:=hr.tm t;rw [hp] at hv;generalize hz:a.tmps.getD t undef = z at hv
         cases hv
         split at k3
         ·rename_i cs hcs
          split at k3
          ·rename_i hle
           obtain ⟨us,e1,e2,e3⟩:=zeP hr.inv.bo hcs hle;obtain ⟨u,f1,f2⟩:=zbG e2 e1 g1 g2 hag';refine ⟨u,?_,f2 _ _ e3 k3⟩;simp only [resSem,hz];simpa [Instr.loadAt,Instr.sureAddr,asAddr] using f1
          ·cases k3
         ·cases k3
        ·cases k3
       ·cases k1
      ·cases k1
    obtain ⟨v,g1,g2⟩:=hone;refine ⟨v :: vs,?_,by simp [q2],fun j x' y' hx hy => ?_⟩
    ·rw [mapM_cons,Sem.run_bind,g1]
     simp only [Result.andThen_ok];rw [Sem.run_bind,q1];rfl
    ·match j with
     | 0 => simp at hx hy; subst hx; subst hy; exact g2
     | j + 1 => exact q3 j x' y' (by simpa using hx) (by simpa using hy)
   ·cases h2
  ·cases h1
def retG (rs:List MRes) (R:PV -> List (List PC) -> Nat -> List Nat -> Prop):Exit -> St -> Prop:=fun e s => (e = .normal \/ e = .ret) /\ ∃ l,ressM s rs = some l /\ R (one l) s.bx s.nt s.live
def argS (args:List PV) (bx:List (List PC)) (nt:Nat) (live:List Nat):St:=⟨fun t => args.getD t (.tup []),bx,nt,live⟩
theorem zfR {f n:Nat} {m:M} {rs:List MRes} (hl:look E.P f = some (n,m,rs)) {args:List PV} {bx:List (List PC)} {nt:Nat} {live:List Nat} {R:PV -> List (List PC) -> Nat -> List Nat -> Prop} (hn:args.length <= n)
  (C:Cx) (w:World) (h:mw E ⟨C,w,n⟩ m (retG rs R) (argS args bx nt live)) (vs:List Value) (hI:Inv E.NG E.T C bx (· ∈ live) w) (hnt:C.nt = nt) (hold:∀ t,t ∈ live -> C.old t) (hn2:2 <= nt) (hlen:vs.length = args.length) (hvs:∀ (j:Nat) (x:PV) (y:Value),args[j]? = some x -> vs[j]? = some y -> RpV C w x y) :
  Calls E.P f vs.toArray w fun e w' => ∃ u x bx' nt' live' C',e = .returned u /\ R x bx' nt' live' /\ Inv E.NG E.T C' bx' (· ∈ live') w' /\ C'.nt = nt' /\ Ext C w C' bx'.length (· ∈ live') w' /\ RpV C' w' x u:=by
 unfold look at hl
 split at hl
 ·rename_i fn hf
  split at hl
  ·rename_i c hc
   split at hl
   ·rename_i m' rs' h1 h2
    simp only [sI,Prod.mk.injEq] at hl;obtain ⟨rfl,rfl,rfl⟩:=hl;refine calls_of_wp hf hc ?_
    have hr:Rep E ⟨C,w,fn.ntmps⟩ C (argS args bx nt live) { tmps:=vs.toArray ++ Array.replicate (fn.ntmps - vs.toArray.size) undef,defers:=[] } w:=by
     have hnb:=hI.nb;refine ⟨hI,hnt,hn2,?_,by simp; omega,rfl,fun t => ?_⟩
     ·exact ⟨rfl,rfl,rfl,lR,fun _ _ h => h,Fix.refl C w,fun _ _ _ _ => rfl,⟨lR,fun _ _ => rfl⟩,fun _ _ h => .inl h,(fun t b ht hb => .inr ⟨t,hold t ht,hb⟩),(fun p hp hp2 => by have h1:C.nb <= p:=hp; have h2:p < bx.length:=hp2; omega),⟨lR,fun _ _ => ⟨rfl,rfl,rfl,rfl⟩⟩⟩
     ·show RpV C w (args.getD t (.tup [])) _
      rw [getD_eq_getElem?_getD,Array.getD_eq_getD_getElem?];by_cases ht:t < args.length
      ·have hx:args[t]? = some args[t]:=getElem?_eq_getElem ht
       have hy:vs[t]? = some (vs[t]'(by omega)):=getElem?_eq_getElem (by omega)
       have:=hvs t _ _ hx hy
       rw [hx,Array.getElem?_append_left (by simp; omega)];simp only [getElem?_toArray,hy,Option.getD_some];exact this
      ·rw [getElem?_eq_none (by omega),Array.getElem?_append_right (by simp; omega)]
       have:(Array.replicate (fn.ntmps - vs.toArray.size) undef)[t - vs.toArray.size]?.getD undef = .tuple (toArray []):=by
        rw [Array.getElem?_replicate]; split <;> rfl
       rw [this];exact .tup [] [] rfl (fun j x y h => by simp at h)
    have hw:=h c h1 C _ w hr;refine wp_mono hw ?_;rintro e a' w' ⟨C',s',hr',hq⟩
    have key:(∃ l,ressM s' rs' = some l /\ R (one l) s'.bx s'.nt s'.live) -> a'.defers = [] /\ ∃ v,(results fn a'.tmps).run E.P w' = .ok v w' /\ ∃ u x bx' nt' live' C',Ending.returned v = .returned u /\ R x bx' nt' live' /\ Inv E.NG E.T C' bx' (· ∈ live') w' /\ C'.nt = nt' /\ Ext C w C' bx'.length (· ∈ live') w' /\ RpV C' w' x u:=by
     rintro ⟨l,hl,hR⟩;obtain ⟨us,k1,k2,k3⟩:=ress_run hr' h2 hl
     have hres:(results fn a'.tmps).run E.P w' = .ok (if h:us.toArray.size = 1 then us.toArray[0] else .tuple us.toArray) w':=by
      rw [results_eq,Sem.run_bind,Array.mapM_eq_mapM_toList,Sem.run_map,k1];rfl
     refine ⟨hr'.defers,_,hres,_,one l,s'.bx,s'.nt,s'.live,C',rfl,hR,hr'.inv,hr'.nt,hr'.ext,?_⟩
     match l,us,k2,k3 with
     | [],[],_,_ => exact .tup [] [] rfl (fun j x y h => by simp at h)
     | [x],[u],_,k3 => exact k3 0 x u rfl rfl
     | x :: x2 :: l,u :: u2 :: us,hk,k3 => exact .tup (x :: x2 :: l) (u :: u2 :: us) (by simpa using hk) k3
    cases e with
    | normal => exact key hq.2
    | ret => exact key hq.2
    | exit i => exact absurd hq.1 (by rintro (h | h) <;> cases h)
    | _ => exact hq.elim
   ·cases hl
  ·cases hl
 ·cases hl
theorem zaU {f n:Nat} {m:M} {rs:List MRes} (hl:look E.P f = some (n,m,rs)) {args:List PV} {R:PV -> (Nat -> Prop) -> Prop} (hn:args.length <= n)
  (h:∀ B,B.n = n -> mw E B m (retK rs R) (initS args)):Fn E f args R:=by
 intro C w vs hI hnt hold hlen hvs;have hI':Inv E.NG E.T C [] (· ∈ ([]:List Nat)) w:=⟨hI.nb,hI.box,hI.boxF,hI.boxG,hI.inj,(fun t ht => by cases ht),(fun t s b ht => by cases ht),hI.fin,hI.ng,hI.t⟩;refine (zfR (R:=fun x _ _ live => R x (· ∈ live)) hl hn C w (h ⟨C,w,n⟩ rfl) vs hI' hnt (fun t ht => by cases ht) lR hlen hvs).mono ?_;rintro e w' ⟨u,x,bx',nt',live',C',e1,e2,e3,e4,e5,e6⟩;exact ⟨u,x,bx',(· ∈ live'),C',e1,e2,e3,e5,e6⟩
theorem fn_ofB {f n:Nat} {m:M} {rs:List MRes} (hl:look E.P f = some (n,m,rs)) {args:List PV} {R:PV -> (Nat -> Prop) -> Prop} (hn:args.length <= n)
  (h:∀ B,B.n = n -> (∀ t,¬ B.C.old t) -> (∀ b o,B.C.F b o -> b < B.w.heap.size) -> mw E B m (retK rs R) (initS args)):Fn E f args R:=by
 intro C w vs hI hnt hold hlen hvs;have hI':Inv E.NG E.T C [] (· ∈ ([]:List Nat)) w:=⟨hI.nb,hI.box,hI.boxF,hI.boxG,hI.inj,(fun t ht => by cases ht),(fun t s b ht => by cases ht),hI.fin,hI.ng,hI.t⟩;refine (zfR (R:=fun x _ _ live => R x (· ∈ live)) hl hn C w (h ⟨C,w,n⟩ rfl hold hI.fin) vs hI' hnt (fun t ht => by cases ht) lR hlen hvs).mono ?_;rintro e w' ⟨u,x,bx',nt',live',C',e1,e2,e3,e4,e5,e6⟩;exact ⟨u,x,bx',(· ∈ live'),C',e1,e2,e3,e5,e6⟩
theorem zbN {f n:Nat} {m:M} {rs:List MRes} (hl:look E.P f = some (n,m,rs)) {args:List PV} {bx:List (List PC)} {nt:Nat} {live:List Nat} {R:PV -> List (List PC) -> Nat -> List Nat -> Prop} (hn:args.length <= n)
  (h:∀ B,B.n = n -> mw E B m (retG rs R) (argS args bx nt live)):FnG E f args bx nt live R :=
 fun C w vs hI hnt hold hn2 hlen hvs => zfR hl hn C w (h ⟨C,w,n⟩ rfl) vs hI hnt (fun t ht => by rw [hold]; exact ht) hn2 hlen hvs
end
end
section
def FnV (E:Env) (f:Nat) (args:List PV) (v:PV):Prop:=Fn E f args (fun x _ => x.dat = some v)
def FnO (E:Env) (f:Nat) (args:List PV) (v:PV):Prop:=Fn E f args (fun x lv => x.dat = some v /\ x.toks.Nodup /\ (∀ t ∈ x.toks,lv t) /\ match x with
 | .d c => c.owned = true
 | .ag cs => ownedL cs = true
 | _ => False)
theorem FnO.v {E:Env} {f:Nat} {args:List PV} {v:PV} (h:FnO E f args v):FnV E f args v:=h.mono fun _ _ h => h.1
def cif (b:Bool) (v:PV):PV:=match b with
 | true => v
 | false => .tup []
def up (d:Nat) (v:PV) (tm:Nat -> PV):Nat -> PV:=fun t => match Nat.beq t d with
 | true => v
 | false => tm t
theorem up_eq (d:Nat) (v:PV) (tm:Nat -> PV):(fun t => if t = d then v else tm t) = up d v tm:=by
 funext t
 unfold up;by_cases h:t = d
 ·subst h; simp
 ·rw [if_neg h]; have:Nat.beq t d = false:=by cases hb:Nat.beq t d with
   | false => rfl
   | true => exact absurd (Nat.eq_of_beq_eq_true hb) h
  rw [this]
theorem up_self {d:Nat} {v:PV} {tm:Nat -> PV} (h:tm d = v):up d v tm = tm:=by
 rw [<- up_eq]; funext t
 by_cases ht:t = d
 ·subst ht; rw [if_pos rfl,h]
 ·rw [if_neg ht]
theorem za1 {tm:Nat -> PV} {bx:LP PC} {nt:Nat} {live:List Nat} {d:Nat} {v:PV}:St.put ⟨tm,bx,nt,live⟩ (some d) v = ⟨up d v tm,bx,nt,live⟩:=by
 simp only [St.put,up_eq]
section
variable {E:Env} {d:Nat} {dd:Option Nat} {o:MO} {g:Option (Nat × Bool)} {c:List X} {r:List MOpr} {K:St -> Prop} {s:St} {tm:Nat -> PV} {bx:LP PC} {nt:Nat} {live:List Nat}
theorem zaj (h:K s):po E [] K s:=h
theorem po_q {v:PV} (hg:gd g tm = some true) (hq:qf (ev tm) bx o = some v) (h:po E r K ⟨up d v tm,bx,nt,live⟩):po E (⟨some d,o,g,c⟩ :: r) K ⟨tm,bx,nt,live⟩:=by
 refine ⟨true,hg,.inl ⟨rfl,?_⟩⟩;rw [<- za1] at h
 cases o <;> first | exact .inl ⟨v,hq,h⟩ | (simp [qf] at hq; done)
theorem po_b {e:Bool} (hg:gd g tm = some true) (hq:qf (ev tm) bx o = some (.d (.v (.bool e)))) (h:∀ b,b = e -> po E r K ⟨up d (.d (.v (.bool b))) tm,bx,nt,live⟩):po E (⟨some d,o,g,c⟩ :: r) K ⟨tm,bx,nt,live⟩:=po_q hg hq (h e rfl)
theorem zfS (hg:gd g tm = some false) (h:po E r K ⟨up d (.tup []) tm,bx,nt,live⟩):po E (⟨some d,o,g,c⟩ :: r) K ⟨tm,bx,nt,live⟩:=by
 rw [<- za1] at h; exact ⟨false,hg,.inr ⟨rfl,h⟩⟩
theorem zal {x:X} {cs:List PC} (hq:pcells (ev tm x) = some cs) (h:po E r K ⟨up d (.ref bx.length 0) tm,bx ++ [cs],nt,live⟩):po E (⟨some d,.box x,none,[]⟩ :: r) K ⟨tm,bx,nt,live⟩:=by
 rw [<- za1] at h;exact ⟨true,rfl,.inl ⟨rfl,.inr ⟨.ref bx.length 0,⟨tm,bx ++ [cs],nt,live⟩,by simp only [lf,hq,Option.map_some],rfl,h⟩⟩⟩
theorem zaH {z:List Value} (h:po E r K ⟨up d (.ref bx.length 0) tm,bx ++ [z.map ofC],nt,live⟩):po E (⟨some d,.zero z,none,[]⟩ :: r) K ⟨tm,bx,nt,live⟩:=by
 rw [<- za1] at h;exact ⟨true,rfl,.inl ⟨rfl,.inr ⟨.ref bx.length 0,⟨tm,bx ++ [z.map ofC],nt,live⟩,rfl,rfl,h⟩⟩⟩
theorem zbO {n:Nat} {xs:List X} {es:LP PC} (hq:litP (ev tm) n xs = some es) (h:po E r K ⟨up d (.d (.sl nt es)) tm,bx,nt + 1,nt :: live⟩):po E (⟨some d,.lit n xs,none,[]⟩ :: r) K ⟨tm,bx,nt,live⟩:=by
 rw [<- za1] at h;exact ⟨true,rfl,.inl ⟨rfl,.inr ⟨_,_,by simp only [lf,hq,Option.map_some],rfl,h⟩⟩⟩
theorem zb4 {n t t':Nat} {x y:X} {es ds:LP PC} (hx:ev tm x = .d (.sl t es)) (hy:ev tm y = .d (.sl t' ds)) (ht:t = 1 \/ t ∈ live) (hl:es.length + ds.length <= 4294967296) (hd:∀ e ∈ ds,e.length = n) (he:∀ e ∈ es,e.length = n)
  (h:po E r K ⟨up d (.d (.sl nt (es ++ ds))) tm,bx,nt + 1,nt :: live.filter (· != t)⟩):po E (⟨some d,.app n x y,none,c⟩ :: r) K ⟨tm,bx,nt,live⟩:=by
 rw [<- za1] at h;exact ⟨true,rfl,.inl ⟨rfl,.inl ⟨_,_,by simp only [lf,hx,hy]; rw [if_pos ⟨ht,hl,hd,he⟩],h⟩⟩⟩
theorem po_appB {n p len cap t' k:Nat} {x y:X} {z:List PC} {ds:LP PC} (hx:ev tm x = .d (.row p len cap)) (hy:ev tm y = .d (.sl t' ds)) (hp:bx[p]? = some z) (hz:z.length = n * cap) (hd0:ds ≠ []) (hl:len + ds.length <= 4294967296) (hd:∀ e ∈ ds,e.length = n)
  (h:∀ p' cap' bx',AppB n len cap z ds p bx p' cap' bx' -> po E r K ⟨up d (.d (.row p' (len + ds.length) cap')) tm,bx',nt,live⟩):po E (⟨some d,.app n x y,none,[.f k]⟩ :: r) K ⟨tm,bx,nt,live⟩ :=
 ⟨true,rfl,.inl ⟨rfl,.inr ⟨rfl,p,len,cap,z,t',ds,.inl ⟨hx,hp,hz⟩,hy,hd0,hl,hd,fun p' cap' bx' hA => ⟨fun y hy => by rw [mem_singleton] at hy; subst hy; exact zcE _ _ _ _,by rw [za1]; exact h p' cap' bx' hA⟩⟩⟩⟩
theorem po_appN {n t t' k:Nat} {x y:X} {ds:LP PC} (hx:ev tm x = .d (.sl t [])) (hy:ev tm y = .d (.sl t' ds)) (ht:t = 1 \/ t ∈ live) (hd0:ds ≠ []) (hl:ds.length <= 4294967296) (hd:∀ e ∈ ds,e.length = n)
  (h:∀ p' cap' bx',AppB n 0 0 [] ds bx.length bx p' cap' bx' -> po E r K ⟨up d (.d (.row p' (0 + ds.length) cap')) tm,bx',nt,live⟩):po E (⟨some d,.app n x y,none,[.f k]⟩ :: r) K ⟨tm,bx,nt,live⟩ :=
 ⟨true,rfl,.inl ⟨rfl,.inr ⟨rfl,bx.length,0,0,[],t',ds,.inr ⟨t,hx,ht,rfl,rfl,rfl,rfl⟩,hy,hd0,by omega,hd,fun p' cap' bx' hA => ⟨fun y hy => by rw [mem_singleton] at hy; subst hy; exact zcE _ _ _ _,by rw [za1]; exact h p' cap' bx' hA⟩⟩⟩⟩
theorem zaC {n p o':Nat} {a x:X} {cs z:List PC} (ha:ev tm a = .ref p o') (hx:pcells (ev tm x) = some cs) (hz:bx[p]? = some z) (hn:cs.length = n /\ o' + n <= z.length) (hc:c.all (apartX (ev tm) a) = true)
  (h:po E r K ⟨tm,bx.set p (spl z o' cs),nt,live⟩):po E (⟨none,.store n a x,none,c⟩ :: r) K ⟨tm,bx,nt,live⟩ :=
 ⟨true,rfl,.inl ⟨rfl,.inr ⟨_,_,by simp only [lf,ha,hx,hz]; rw [if_pos hn],hc,h⟩⟩⟩
theorem za5 {n:Nat} {x i:X} {t:Nat} {es:LP PC} {k:IntKind} {j:Int} {e:List PC} (hg:gd g tm = some true) (hx:ev tm x = .d (.sl t es)) (hi:ev tm i = .d (.v (.int k j))) (he:0 <= j /\ es[j.toNat]? = some e) (hn:e.length = n)
  (h:po E r K ⟨up d (.pt e) tm,bx,nt,live⟩):po E (⟨some d,.ix n x i,g,c⟩ :: r) K ⟨tm,bx,nt,live⟩:=by
 refine po_q hg ?_ h;simp only [qf,hx,hi,if_pos he.1,he.2,if_pos hn]
theorem zac {f:Nat} {xs:List X} {args:List PV} {v:PV} (hd:PV.dats (xs.map (ev tm)) = some args) (hF:FnV E f args v) (h:po E r K ⟨up d v tm,bx,nt,live⟩):po E (⟨some d,.call f xs,none,c⟩ :: r) K ⟨tm,bx,nt,live⟩:=by
 rw [<- za1] at h;exact ⟨true,rfl,.inl ⟨rfl,.inl ⟨args,_,hd,hF,.inl fun x lv hx => ⟨v,hx,h⟩⟩⟩⟩
theorem zaM {f:Nat} {xs:List X} {args:List PV} {v:PV} {b:Bool} (hg:gd g tm = some b) (hd:b = true -> PV.dats (xs.map (ev tm)) = some args) (hF:b = true -> FnV E f args v) (h:po E r K ⟨up d (cif b v) tm,bx,nt,live⟩):po E (⟨some d,.call f xs,g,c⟩ :: r) K ⟨tm,bx,nt,live⟩:=by
 rw [<- za1] at h
 cases b with
 | true => exact ⟨true,hg,.inl ⟨rfl,.inl ⟨args,_,hd rfl,hF rfl,.inl fun x lv hx => ⟨v,hx,h⟩⟩⟩⟩
 | false => exact ⟨false,hg,.inr ⟨rfl,h⟩⟩
theorem po_own {f:Nat} {xs:List X} {args:List PV} {v:PV} (hd:PV.dats (xs.map (ev tm)) = some args) (hF:FnO E f args v)
  (h:∀ (x:PV) (nt':Nat),x.dat = some v -> x.toks.Nodup -> (∀ t ∈ x.toks,nt <= t /\ t < nt') -> nt + 2 <= nt' -> (match x with | .d c => c.owned = true | .ag cs => ownedL cs = true | _ => False) -> po E r K ⟨up d x tm,bx,nt',x.toks ++ live⟩):po E (⟨some d,.call f xs,none,c⟩ :: r) K ⟨tm,bx,nt,live⟩:=by
 refine ⟨true,rfl,.inl ⟨rfl,.inl ⟨args,_,hd,hF,.inr ?_⟩⟩⟩;rintro x lv k ⟨h1,h2,h3,h4⟩ hk hlt;have hpos:∀ t ∈ x.toks,t < k:=fun t ht => hlt t (h3 t ht)
 have nd:∀ l:List Nat,l.Nodup -> (l.map (· + nt)).Nodup:=fun l hl => hl.map _ (fun a b hab h => hab (by omega))
 cases x with
 | d x =>
  refine ⟨.d (x.sh nt),rfl,h3,?_⟩;have htk:PV.toks (.d (x.sh nt)) = (PV.toks (.d x)).map (· + nt):=PC.toks_sh nt x
  have:=h (.d (x.sh nt)) (nt + k) (by simp only [PV.dat,PC.er_sh] at h1 ⊢; exact h1) (by rw [htk]; exact nd _ h2) (by rw [htk]; intro t ht; obtain ⟨t0,ht0,rfl⟩:=mem_map.1 ht; have:=hpos t0 ht0; omega) (by omega) (by simp only [PC.owned_sh]; exact h4)
  rw [htk] at this
  rw [za1]; exact this
 | ag cs =>
  refine ⟨.ag (shL nt cs),rfl,h3,?_⟩;have htk:PV.toks (.ag (shL nt cs)) = (PV.toks (.ag cs)).map (· + nt):=zcZ nt cs
  have:=h (.ag (shL nt cs)) (nt + k) (by simp only [PV.dat,erL_sh] at h1 ⊢; exact h1) (by rw [htk]; exact nd _ h2) (by rw [htk]; intro t ht; obtain ⟨t0,ht0,rfl⟩:=mem_map.1 ht; have:=hpos t0 ht0; omega) (by omega) (by simp only [zcm]; exact h4)
  rw [htk] at this
  rw [za1]; exact this
 | _ => exact h4.elim
end
theorem po_g {E:Env} {d:Nat} {k:Nat} {r:List MOpr} {K:St -> Prop} {tm:Nat -> PV} {bx:LP PC} {nt:Nat} {live:List Nat} {f:Nat} {xs:List X} {args:List PV} {R:PV -> LP PC -> Nat -> List Nat -> Prop} (hd:xs.map (ev tm) = args) (hF:FnG E f args bx nt live R)
  (h:∀ x bx' nt' live',R x bx' nt' live' -> po E r K ⟨up d x tm,bx',nt',live'⟩):po E (⟨some d,.call f xs,none,[.f k]⟩ :: r) K ⟨tm,bx,nt,live⟩:=by
 subst hd;refine ⟨true,rfl,.inl ⟨rfl,.inr ⟨rfl,R,hF,fun x bx' nt' live' hR => ⟨fun y hy => by rw [mem_singleton] at hy; subst hy; exact zcE _ _ _ _,?_⟩⟩⟩⟩;rw [za1]; exact h x bx' nt' live' hR
theorem po_vg {E:Env} {d:Nat} {k:Nat} {r:List MOpr} {K:St -> Prop} {tm:Nat -> PV} {bx:LP PC} {nt:Nat} {live:List Nat} {f:Nat} {x:X} {xs:List X} {cap args:List PV} {R:PV -> LP PC -> Nat -> List Nat -> Prop} (hx:ev tm x = .fn f cap) (hok:okFn E.P f = true) (hd:xs.map (ev tm) ++ cap = args) (hF:FnG E f args bx nt live R)
  (h:∀ y bx' nt' live',R y bx' nt' live' -> po E r K ⟨up d y tm,bx',nt',live'⟩):po E (⟨some d,.callv x xs,none,[.f k]⟩ :: r) K ⟨tm,bx,nt,live⟩:=by
 subst hd;refine ⟨true,rfl,.inl ⟨rfl,f,cap,hx,hok,.inr ⟨rfl,R,hF,fun y bx' nt' live' hR => ⟨fun z hz => by rw [mem_singleton] at hz; subst hz; exact zcE _ _ _ _,?_⟩⟩⟩⟩;rw [za1]; exact h y bx' nt' live' hR
theorem po_v {E:Env} {d:Nat} {c:List X} {r:List MOpr} {K:St -> Prop} {tm:Nat -> PV} {bx:LP PC} {nt:Nat} {live:List Nat} {f:Nat} {x:X} {xs:List X} {cap args:List PV} {v:PV} (hx:ev tm x = .fn f cap) (hok:okFn E.P f = true) (hd:PV.dats (xs.map (ev tm) ++ cap) = some args) (hF:FnV E f args v)
  (h:po E r K ⟨up d v tm,bx,nt,live⟩):po E (⟨some d,.callv x xs,none,c⟩ :: r) K ⟨tm,bx,nt,live⟩:=by
 rw [<- za1] at h;exact ⟨true,rfl,.inl ⟨rfl,f,cap,hx,hok,.inl ⟨args,_,hd,hF,.inl fun x lv hx => ⟨v,hx,h⟩⟩⟩⟩
theorem zaY {E:Env} {B:Base} {a:M} {Q:Exit -> St -> Prop} {s:St} (I:Nat -> St -> Prop) (n:Nat) (h0:I n s) (h:∀ n tm bx nt live,I n ⟨tm,bx,nt,live⟩ -> mw E B a (loopK I n Q) ⟨tm,bx,nt,live⟩):mw E B (.loop a) Q s :=
 mw_loop I n h0 fun n s hi => by obtain ⟨tm,bx,nt,live⟩:=s; exact h n tm bx nt live hi
theorem zaS {E:Env} {B:Base} {a b:M} {Q:Exit -> St -> Prop} {s:St} (I:St -> Prop) (h:mw E B a (fun e s => match e with | .normal => I s | e => Q e s) s) (k:∀ tm bx nt live,I ⟨tm,bx,nt,live⟩ -> mw E B b Q ⟨tm,bx,nt,live⟩):mw E B (.seq a b) Q s:=by
 refine zau (mw_mono h ?_);rintro e ⟨tm,bx,nt,live⟩ hq
 cases e <;> first | exact k _ _ _ _ hq | exact hq
/-- an operation that always runs -/
instance instX (n:Nat):OfNat X n:=⟨.t n⟩
abbrev qo (d:Nat) (o:MO):MOpr:=⟨some d,o,none,[]⟩
abbrev ci (n:Int):X:=.c (.int .i64 n)
abbrev cB (b:Bool):X:=.c (.bool b)
abbrev qm (d a:Nat):MOpr:=⟨some d,.mv (.t a),none,[]⟩
abbrev qg (d a b:Nat) (v:Bool):MOpr:=⟨some d,.mv (.t a),some (b,v),[]⟩
abbrev qS (n a b:Nat):MOpr:=⟨none,.store n (.t a) (.t b),none,[]⟩
abbrev ql (d n a:Nat):MOpr:=⟨some d,.load false n (.t a),none,[]⟩
abbrev qL (d n a:Nat):MOpr:=⟨some d,.load true n (.t a),none,[]⟩
abbrev qF (d k a:Nat):MOpr:=⟨some d,.fld k (.t a),none,[]⟩
abbrev qe (d a k:Nat):MOpr:=⟨some d,.ext (.t a) k,none,[]⟩
abbrev qc (d f:Nat) (xs:List X) (k:Nat):MOpr:=⟨some d,.call f xs,none,[.f k]⟩
abbrev so (l:List MOpr) (m:M):M:=.seq (.ops l) m
abbrev oR (l:List MOpr):M:=.seq (.ops l) .ret
abbrev oC (l:List MOpr) (x:X) (m:M):M:=.seq (.seq (.ops l) (.cond x m .skip)) .ret
theorem mwF {E:Env} {B:Base} {Q:Exit -> St -> Prop} {s:St} {x:X} {a b:M} (h:mw E B b Q s) (hx:ev s.tm x = .d (.v (.bool false)):=by exact rfl):mw E B (.cond x a b) Q s:=zfQ (t:=false) hx (fun h => absurd h (by decide)) (fun _ => h)
theorem mwT {E:Env} {B:Base} {Q:Exit -> St -> Prop} {s:St} {x:X} {a b:M} (h:mw E B a Q s) (hx:ev s.tm x = .d (.v (.bool true)):=by exact rfl):mw E B (.cond x a b) Q s:=zfQ (t:=true) hx (fun _ => h) (fun h => absurd h (by decide))
theorem mZ {G A:Prop} (h:A) (f:A -> G:=by intro h; (repeat' refine zfS rfl ?_); exact h):G:=f h
theorem mM {G A:Prop} (h:A) (f:A -> G:=by intro h; refine zau (zau (zap ?_)); exact h):G:=f h
theorem mR {G:Prop} (f:G:=by exact zab ⟨.inr rfl,_,rfl,rfl⟩):G:=f
theorem mT {G A:Prop} (h:A) (f:A -> G:=by intro h; (repeat' (first | refine pm ?_ | refine pq ?_ | refine px ?_ | refine zaH ?_ | refine zaj ?_)); refine mwT ?_; exact h):G:=f h
theorem mF {G A:Prop} (h:A) (f:A -> G:=by intro h; (repeat' (first | refine pm ?_ | refine pq ?_ | refine px ?_ | refine zaH ?_ | refine zaj ?_)); refine mwF ?_; exact h):G:=f h
theorem mK {G A:Prop} (h:A) (f:A -> G:=by intro h; (repeat' (first | refine pm ?_ | refine pq ?_ | refine px ?_ | refine zaH ?_ | refine zaj ?_)); refine mwF ?_; refine za0 ?_; exact h):G:=f h
theorem mL {G A:Prop} (h:A) (f:A -> G:=by intro h; (first | refine pm ?_ | refine pq ?_); refine zaj ?_; exact h):G:=f h
theorem mN {G A:Prop} (h:A) (f:A -> G:=by intro h; (repeat' (first | refine pm ?_ | refine pq ?_ | refine px ?_ | refine zaH ?_ | refine zaj ?_)); exact h):G:=f h
theorem mS {G A:Prop} (h:A) (f:A -> G:=by intro h; (first | refine pm ?_ | refine pq ?_); exact h):G:=f h
theorem mO {G A:Prop} (h:A) (f:A -> G:=by intro h; refine zau (zap ?_); exact h):G:=f h
theorem mP {G A:Prop} (h:A) (f:A -> G:=by intro h; refine zau (zap ?_); (repeat' (first | refine pm ?_ | refine pq ?_ | refine px ?_ | refine zaH ?_ | refine zaj ?_)); exact h):G:=f h
theorem mQ {G A:Prop} (h:A) (f:A -> G:=by intro h; refine zau (zap ?_); (first | refine pm ?_ | refine pq ?_); exact h):G:=f h
end
section
inductive V where
 | mk (kind n e:Int) (s:List UInt8) (kids:List V)
inductive Sh where
 | mk (kind low high:Int) (keys:List (List UInt8)) (must:Int) (kids:List Sh)
mutual
def V.d:V -> D
 | .mk k n e s kids => .agg [dI k,dI n,dI e,dS s,.sl 5 (V.ds kids)]
def V.ds:List V -> List D
 | [] => []
 | v :: vs => V.d v :: V.ds vs
end
theorem V.ds_map:∀ vs:List V,V.ds vs = vs.map V.d
 | [] => rfl
 | v :: vs => by simp [V.ds,V.ds_map vs]
theorem V.width (v:V):D.width (V.d v) = 5:=by cases v; simp [V.d,D.width,D.widths,dI,dS]
mutual
def V.bulk:V -> Nat
 | .mk _ _ _ s kids => s.length + (kids.length + V.bulks kids)
def V.bulks:List V -> Nat
 | [] => 0
 | v :: vs => V.bulk v + V.bulks vs
end
def ssBulk:List (List UInt8) -> Nat
 | [] => 0
 | l :: ls => l.length + ssBulk ls
mutual
def V.nodes:V -> Nat
 | .mk _ _ _ _ kids => 1 + V.nodess kids
def V.nodess:List V -> Nat
 | [] => 0
 | v :: vs => V.nodes v + V.nodess vs
end
mutual
def Sh.nodes:Sh -> Nat
 | .mk _ _ _ _ _ kids => 1 + Sh.nodess kids
def Sh.nodess:List Sh -> Nat
 | [] => 0
 | v :: vs => Sh.nodes v + Sh.nodess vs
end
theorem V.nodes_get:∀ (vs:List V) i (h:i < vs.length),V.nodes vs[i] <= V.nodess vs
 | v :: vs,0,_ => by simp [V.nodess]
 | v :: vs,i + 1,hi => by have:=V.nodes_get vs i (by simpa using hi); simp only [V.nodess,getElem_cons_succ]; omega
theorem V.nodes_pos:∀ v:V,1 <= V.nodes v
 | .mk .. => by simp [V.nodes]
theorem V.bulks_snoc:∀ (ls:List V) (k:Nat) (h:k < ls.length),V.bulks (ls.take (k + 1)) = V.bulks (ls.take k) + V.bulk ls[k]
 | l :: ls,0,_ => by simp [V.bulks]
 | l :: ls,k + 1,h => by simp only [take_succ_cons,V.bulks,getElem_cons_succ]; rw [V.bulks_snoc ls k (by simpa using h)]; omega
theorem zdo:∀ (ls:List (List UInt8)) (k:Nat) (h:k < ls.length),ssBulk (ls.take (k + 1)) = ssBulk (ls.take k) + ls[k].length
 | l :: ls,0,_ => by simp [ssBulk]
 | l :: ls,k + 1,h => by simp only [take_succ_cons,ssBulk,getElem_cons_succ]; rw [zdo ls k (by simpa using h)]; omega
theorem V.bulks_take:∀ (ls:List V) (k:Nat),V.bulks (ls.take k) <= V.bulks ls
 | [],k => by simp [V.bulks]
 | l :: ls,0 => by simp [V.bulks]
 | l :: ls,k + 1 => by have:=V.bulks_take ls k; simp only [take_succ_cons,V.bulks]; omega
theorem zdp:∀ (ls:List (List UInt8)) (k:Nat),ssBulk (ls.take k) <= ssBulk ls
 | [],k => by simp [ssBulk]
 | l :: ls,0 => by simp [ssBulk]
 | l :: ls,k + 1 => by have:=zdp ls k; simp only [take_succ_cons,ssBulk]; omega
theorem zbc {α:Type} (f:α -> D) (ls:List α) (k:Nat) (h:k < ls.length):(ls.take (k + 1)).map f = (ls.take k).map f ++ [f ls[k]]:=by
 rw [take_succ_eq_append_getElem h,map_append]; rfl
mutual
def V.wf:V -> Prop
 | .mk k n e s kids => i64ok k /\ i64ok n /\ i64ok e /\ strok s /\ kids.length <= 9223372036854775807 /\ V.wfs kids
def V.wfs:List V -> Prop
 | [] => True
 | v :: vs => V.wf v /\ V.wfs vs
end
theorem V.wfs_get:∀ {vs:List V},V.wfs vs -> ∀ i (h:i < vs.length),V.wf vs[i]
 | v :: vs,h,0,_ => h.1
 | v :: vs,h,i + 1,hi => by simpa using V.wfs_get h.2 i (by simpa using hi)
def take' (t:Nat) (left:Int):Int:=if left < t then -1 else left - t
theorem zcp {t:Nat} {left:Int}:take' t left < 0 ↔ left < t \/ left < 0:=by
 unfold take'; split <;> omega
theorem zbA {t:Nat} {left:Int} (h:left < t):take' t left = -1:=by unfold take'; rw [if_pos h]
theorem zbg {t:Nat} {left:Int} (h:(t:Int) <= left):take' t left = left - t:=by unfold take'; rw [if_neg (by omega)]
theorem zeW {a b:Nat} {left:Int} (_h:¬ left < a):take' b (left - a) = take' (a + b) left:=by
 unfold take'; split <;> split <;> omega
theorem V.lay {w:World} {v:V} {cs:List Value} (h:Rd w v.d cs):∃ k n e s kids v1,v = .mk k n e s kids /\ cs = [.int .i64 k,.int .i64 n,.int .i64 e,.string ⟨s.toArray⟩,v1] /\ Rd w (.sl 5 (V.ds kids)) [v1]:=by
 obtain ⟨k,n,e,s,kids⟩:=v;simp only [Rd,V.d,RepC,RepCs,dI,dS,D.width] at h;obtain ⟨c1,r1,rfl,_,rfl,c2,r2,rfl,_,rfl,c3,r3,rfl,_,rfl,c4,r4,rfl,_,rfl,c5,r5,rfl,_,⟨a5,n5,rfl,h5⟩,rfl⟩:=h;refine ⟨k,n,e,s,kids,_,rfl,rfl,?_⟩;simp only [Rd,RepC]; exact ⟨a5,n5,rfl,h5⟩
theorem Rd.strs {w:World} {ls:List (List UInt8)} {v:Value} (h:Rd w (dSs ls) [v]) :
  ∃ a c,v = .slice a ls.length c /\ (ls ≠ [] -> ls.length <= c /\ c <= maxLen /\ ∃ b o,a = some ⟨b,o,none⟩ /\ b < w.heap.size /\ ∀ i (hi:i < ls.length),w.cell? ⟨b,o + i,none⟩ = some (.string ⟨ls[i].toArray⟩)):=by
 obtain ⟨a,c,hv,h⟩:=Rd.slice h;rw [length_map] at hv;refine ⟨a,c,hv,fun hne => ?_⟩;obtain ⟨_,h1,h2,b,o,ha,hb,hg⟩:=h (by simpa using hne);refine ⟨by simpa using h1,h2,b,o,ha,hb,fun i hi => ?_⟩;obtain ⟨cs,_,hr,hc⟩:=hg i (by simpa using hi);simp only [getElem_map,dS,Rd,RepC] at hr;subst hr
 have:=hc 0 _ rfl
 simpa using this
theorem Rd.values {w:World} {ls:List V} {v:Value} (h:Rd w (.sl 5 (V.ds ls)) [v]) :
  ∃ a c,v = .slice a ls.length c /\ (ls ≠ [] -> ls.length <= c /\ c <= maxLen /\ ∃ b o,a = some ⟨b,o,none⟩ /\ b < w.heap.size /\ ∀ i (hi:i < ls.length),∃ v0 v1 v2 v3 v4,Rd w ls[i].d [v0,v1,v2,v3,v4] /\
   w.cell? ⟨b,o + i * 5,none⟩ = some v0 /\ w.cell? ⟨b,o + i * 5 + 1,none⟩ = some v1 /\ w.cell? ⟨b,o + i * 5 + 2,none⟩ = some v2 /\ w.cell? ⟨b,o + i * 5 + 3,none⟩ = some v3 /\ w.cell? ⟨b,o + i * 5 + 4,none⟩ = some v4):=by
 rw [V.ds_map] at h;obtain ⟨a,c,hv,h⟩:=Rd.slice h;rw [length_map] at hv;refine ⟨a,c,hv,fun hne => ?_⟩;obtain ⟨_,h1,h2,b,o,ha,hb,hg⟩:=h (by simpa using hne);refine ⟨by simpa using h1,h2,b,o,ha,hb,fun i hi => ?_⟩;obtain ⟨cs,hl,hr,hc⟩:=hg i (by simpa using hi);rw [getElem_map] at hr
 match cs,hl with
 | [v0,v1,v2,v3,v4],_ =>
  rw [Nat.mul_comm 5 i] at hc;exact ⟨v0,v1,v2,v3,v4,hr,hc 0 _ rfl,hc 1 _ rfl,hc 2 _ rfl,hc 3 _ rfl,hc 4 _ rfl⟩
theorem Rd.sl_form {w:World} {n:Nat} {es:List D} {v:Value} (h:Rd w (.sl n es) [v]):∃ a c,v = .slice a es.length c:=by
 obtain ⟨a,c,h,_⟩:=Rd.slice h; exact ⟨a,c,h⟩
theorem Rd.sl_any {w:World} {n:Nat} {es:List D} {v:Value} (h:Rd w (.sl n es) [v]):∃ a l c,v = .slice a l c:=by
 obtain ⟨a,c,h,_⟩:=Rd.slice h; exact ⟨a,_,c,h⟩
theorem V.form {w:World} {v:V} {cs:List Value} (h:Rd w v.d cs):∃ k n e s a1 n1 c1,cs = [.int .i64 k,.int .i64 n,.int .i64 e,.string ⟨(s:List UInt8).toArray⟩,.slice a1 n1 c1]:=by
 obtain ⟨k,n,e,s,kids,v1,rfl,rfl,h1⟩:=V.lay h;obtain ⟨a1,c1,rfl⟩:=Rd.sl_form h1;exact ⟨k,n,e,s,a1,_,c1,rfl⟩
mutual
def Sh.same:Sh -> Sh -> Bool
 | .mk k l h ks m kids,.mk k' l' h' ks' m' kids' => decide (k = k') && (decide (l = l') && (decide (h = h') && (decide (ks = ks') && (decide (m = m') && Sh.sames kids kids'))))
def Sh.sames:List Sh -> List Sh -> Bool
 | [],[] => true
 | a :: ar,b :: bs => Sh.same a b && Sh.sames ar bs
 | _,_ => false
end
mutual
def V.same:V -> V -> Bool
 | .mk k n e s kids,.mk k' n' e' s' kids' => decide (k = k') && (decide (n = n') && (decide (e = e') && (decide (s = s') && V.sames kids kids')))
def V.sames:List V -> List V -> Bool
 | [],[] => true
 | a :: ar,b :: bs => V.same a b && V.sames ar bs
 | _,_ => false
end
mutual
theorem Sh.same_iff:∀ a b:Sh,Sh.same a b = true ↔ a = b
 | .mk k l h ks m kids,.mk k' l' h' ks' m' kids' => by simp [Sh.same,Sh.sames_iff kids kids']
theorem Sh.sames_iff:∀ a b:List Sh,Sh.sames a b = true ↔ a = b
 | [],[] => by simp [Sh.sames]
 | a :: ar,b :: bs => by simp [Sh.sames,Sh.same_iff a b,Sh.sames_iff ar bs]
 | [],b :: bs => by simp [Sh.sames]
 | a :: ar,[] => by simp [Sh.sames]
end
mutual
theorem V.same_iff:∀ a b:V,V.same a b = true ↔ a = b
 | .mk k l h ks kids,.mk k' l' h' ks' kids' => by simp [V.same,V.sames_iff kids kids']
theorem V.sames_iff:∀ a b:List V,V.sames a b = true ↔ a = b
 | [],[] => by simp [V.sames]
 | a :: ar,b :: bs => by simp [V.sames,V.same_iff a b,V.sames_iff ar bs]
 | [],b :: bs => by simp [V.sames]
 | a :: ar,[] => by simp [V.sames]
end
instance:DecidableEq Sh:=fun a b => decidable_of_iff _ (Sh.same_iff a b)
instance:DecidableEq V:=fun a b => decidable_of_iff _ (V.same_iff a b)
theorem zbP {α:Type} {a b:List α} {k:Nat} (h:a.take k = b.take k) (ha:k < a.length) (hb:k < b.length) (e:a[k] = b[k]):a.take (k + 1) = b.take (k + 1):=by
 rw [take_succ_eq_append_getElem ha,take_succ_eq_append_getElem hb,h,e]
theorem zdq {α:Type} {a b:List α} {k:Nat} (ha:k < a.length) (hb:k < b.length) (e:a[k] ≠ b[k]):a ≠ b:=by
 intro h; subst h; exact e rfl
end
section
mutual
def D.pc:D -> List PC
 | .one v => [.v v]
 | .agg fs => D.pcs fs
 | .sl _ es => [.sl 0 (D.pcE es)]
def D.pcs:List D -> List PC
 | [] => []
 | d :: ds => D.pc d ++ D.pcs ds
def D.pcE:List D -> LP PC
 | [] => []
 | d :: ds => D.pc d :: D.pcE ds
end
mutual
def D.wf:D -> Prop
 | .one v => v.oneCell' = true
 | .agg fs => D.wfs fs
 | .sl n es => (∀ e ∈ es,D.width e = n) /\ D.wfs es
def D.wfs:List D -> Prop
 | [] => True
 | d :: ds => D.wf d /\ D.wfs ds
end
mutual
theorem D.pc_len:∀ d:D,d.pc.length = d.width
 | .one v => rfl
 | .agg fs => by simp only [D.pc,D.width]; exact D.pcs_len fs
 | .sl n es => rfl
theorem D.pcs_len:∀ ds:List D,(D.pcs ds).length = D.widths ds
 | [] => rfl
 | d :: ds => by simp only [D.pcs,D.widths,length_append,D.pc_len d,D.pcs_len ds]
end
theorem D.pcE_map:∀ ds:List D,D.pcE ds = ds.map D.pc
 | [] => rfl
 | d :: ds => by simp [D.pcE,D.pcE_map ds]
mutual
theorem D.pc_er:∀ d:D,erL d.pc = d.pc
 | .one v => rfl
 | .agg fs => by simp only [D.pc]; exact D.pcs_er fs
 | .sl n es => by simp only [D.pc,erL,PC.er,D.pcE_er es]
theorem D.pcs_er:∀ ds:List D,erL (D.pcs ds) = D.pcs ds
 | [] => rfl
 | d :: ds => by
  have h1:=D.pc_er d; have h2:=D.pcs_er ds
  rw [zaw] at h1 h2 ⊢;simp only [D.pcs,map_append,h1,h2]
theorem D.pcE_er:∀ ds:List D,erLL (D.pcE ds) = D.pcE ds
 | [] => rfl
 | d :: ds => by simp only [D.pcE,erLL,D.pc_er d,D.pcE_er ds]
end
mutual
theorem RepC.rp {C:Cx} {w:World} {S:Nat -> Prop} (hF:∀ b o,S b -> C.F b o):∀ {d:D} {cs:List Value},RepC S w d cs -> d.wf -> RpL C w d.pc cs
 | .one v,cs,h,hw => by simp only [RepC] at h; subst h; simp only [D.wf] at hw; exact .one1 (.v v hw)
 | .agg fs,cs,h,hw => by simp only [RepC] at h; simp only [D.wf] at hw; exact RepCs.rp hF h hw
 | .sl n es,cs,h,hw => by
  simp only [RepC] at h; simp only [D.wf] at hw
  obtain ⟨a,c,rfl,h⟩:=h;simp only [D.pc];refine .one1 ?_;by_cases hne:es = []
  ·subst hne; exact .emp a c
  ·obtain ⟨hn,h1,h2,b,o,xs,rfl,hb,hx,hwd,hr⟩:=h hne
   have hlen:xs.length = n * es.length:=by
    rw [hr.len]
    have:∀ l:List D,(∀ e ∈ l,D.width e = n) -> D.widths l = n * l.length:=by
     intro l
     induction l with
     | nil => intro _; rfl
     | cons d l ih => intro hl; simp only [D.widths,length_cons,Nat.mul_succ,hl d (by simp),ih fun e he => hl e (by simp [he])]; omega
    exact this es hwd
   have hE:=RepCs.rpE hF hr hwd hw.2;have hel:(D.pcE es).length = es.length:=by rw [D.pcE_map]; simp
   have hget:∀ i j,i < es.length -> j < n -> n * i + j < xs.length:=by
    intro i j hi hj;rw [hlen]
    calc n * i + j < n * i + n:=by omega
     _ = n * (i + 1):=by rw [Nat.mul_succ]
     _ <= n * es.length:=Nat.mul_le_mul_left n hi
   rw [<- hel];refine .rd _ b o n c (fun i j => xs.getD (n * i + j) undef) (by rw [hel]; exact h1) h2 ⟨hn,?_,?_,fun i j _ _ => hF _ _ hb⟩ ?_
   ·intro e he
    rw [D.pcE_map] at he;obtain ⟨d,hd,rfl⟩:=mem_map.1 he;rw [D.pc_len]; exact hwd d hd
   ·intro i j hi hj
    rw [hel] at hi
    have:=hget i j hi hj
    exact hx _ _ (by rw [getD_eq_getElem?_getD,getElem?_eq_getElem this]; rfl)
   ·intro i j e y he hy
    obtain ⟨v,hv1,hv2⟩:=hE i j e y he hy;rw [getD_eq_getElem?_getD,hv1]; exact hv2
theorem RepCs.rp {C:Cx} {w:World} {S:Nat -> Prop} (hF:∀ b o,S b -> C.F b o):∀ {ds:List D} {cs:List Value},RepCs S w ds cs -> D.wfs ds -> RpL C w (D.pcs ds) cs
 | [],cs,h,hw => by simp only [RepCs] at h; subst h; exact .nil
 | d :: ds,cs,h,hw => by
  simp only [RepCs] at h; simp only [D.wfs] at hw
  obtain ⟨c1,c2,rfl,h1,h2,h3⟩:=h;exact (RepC.rp hF h2 hw.1).append (RepCs.rp hF h3 hw.2)
theorem RepCs.rpE {C:Cx} {w:World} {S:Nat -> Prop} (hF:∀ b o,S b -> C.F b o) {n:Nat}:∀ {ds:List D} {cs:List Value},RepCs S w ds cs -> (∀ e ∈ ds,D.width e = n) -> D.wfs ds ->
  ∀ (i j:Nat) (e:List PC) (y:PC),(D.pcE ds)[i]? = some e -> e[j]? = some y -> ∃ v,cs[n * i + j]? = some v /\ RpC C w y v
 | [],cs,h,_,hw,i,j,e,y,he,hy => by simp [D.pcE] at he
 | d :: ds,cs,h,hwd,hw,i,j,e,y,he,hy => by
  simp only [RepCs] at h; simp only [D.wfs] at hw
  obtain ⟨c1,c2,rfl,h1,h2,h3⟩:=h;have hd:=hwd d (by simp)
  match i with
  | 0 =>
   simp only [D.pcE,getElem?_cons_zero,sI] at he; subst he
   have hr:=RepC.rp hF h2 hw.1
   have hj:j < c1.length:=by
    rw [hr.1];by_cases hj:j < d.pc.length
    ·exact hj
    ·rw [getElem?_eq_none (Nat.not_lt.1 hj)] at hy; cases hy
   refine ⟨c1[j],?_,hr.2 j y _ hy (by simp)⟩
   rw [Nat.mul_zero,Nat.zero_add,getElem?_append_left hj]; simp
  | i + 1 =>
   simp only [D.pcE,getElem?_cons_succ] at he;obtain ⟨v,hv1,hv2⟩:=RepCs.rpE hF h3 (fun e he => hwd e (by simp [he])) hw.2 i j e y he hy;refine ⟨v,?_,hv2⟩;rw [getElem?_append_right (by rw [h1,hd,Nat.mul_succ]; omega),<- hv1]
   congr 1; rw [h1,hd,Nat.mul_succ]; omega
end
theorem RpL.split {C:Cx} {w:World} {c1 c2:List PC} {vs:List Value} (h:RpL C w (c1 ++ c2) vs):∃ v1 v2,vs = v1 ++ v2 /\ v1.length = c1.length /\ RpL C w c1 v1 /\ RpL C w c2 v2:=by
 refine ⟨vs.take c1.length,vs.drop c1.length,by simp,?_,?_,?_⟩
 ·have:=h.1; rw [length_append] at this; rw [length_take]; omega
 ·have:=h.slice 0 c1.length; simpa using this
 ·have:=h.slice c1.length c2.length
  rw [drop_left,take_of_length_le lR,take_of_length_le] at this
  ·exact this
  ·have:=h.1; rw [length_append] at this; rw [length_drop]; omega
mutual
theorem RpL.rep {C:Cx} {w:World} {S:Nat -> Prop} (hF:∀ b o,C.F b o -> S b):∀ {d:D} {cs:List Value},RpL C w d.pc cs -> d.wf -> RepC S w d cs
 | .one v,cs,h,hw => by
  simp only [D.pc] at h;obtain ⟨x,xs,rfl,h1,h2⟩:=h.inv1
  have:=h2.inv0; subst this
  cases h1; simp only [RepC]
 | .agg fs,cs,h,hw => by simp only [RepC]; simp only [D.wf] at hw; simp only [D.pc] at h; exact RpL.reps hF h hw
 | .sl n es,cs,h,hw => by
  simp only [D.wf] at hw; simp only [D.pc] at h
  obtain ⟨x,xs,rfl,h1,h2⟩:=h.inv1
  have:=h2.inv0; subst this
  have hel:(D.pcE es).length = es.length:=by rw [D.pcE_map]; simp
  simp only [RepC];generalize he:D.pcE es = es' at h1 hel
  cases h1 with
  | emp a c =>
   have:es = []:=by rw [D.pcE_map] at he; simpa using he
   subst this; exact ⟨a,c,rfl,fun h => absurd rfl h⟩
  | nilo t h2 ht hb => exact absurd h2 (by decide)
  | own t es b u h2 ht hb hlen hl hc hr h => exact absurd h2 (by decide)
  | rd _ b o n' c u hl hc hr hh =>
   rw [hel];refine ⟨_,c,rfl,fun hne => ?_⟩
   have hn:n' = n:=by
    match es,hne,he with
    | d :: es,_,he =>
     rw [<- he] at hr;have h1:=hr.wid d.pc (by simp [D.pcE]);rw [D.pc_len,hw.1 d (by simp)] at h1; omega
   subst hn
   obtain ⟨xs,hx1,hx2⟩:∃ xs:List Value,xs.length = n' * es.length /\ ∀ i j,i < es.length -> j < n' -> xs[n' * i + j]? = some (u i j):=by
    refine ⟨(range (n' * es.length)).map fun m => u (m / n') (m % n'),by simp,fun i j hi hj => ?_⟩
    have hlt:n' * i + j < n' * es.length:=by
     calc n' * i + j < n' * i + n':=by omega
      _ = n' * (i + 1):=by rw [Nat.mul_succ]
      _ <= n' * es.length:=Nat.mul_le_mul_left n' hi
    rw [getElem?_map,getElem?_range hlt];simp only [Option.map_some,sI];rw [Nat.mul_add_div hr.pos,Nat.mul_add_mod,Nat.div_eq_of_lt hj,Nat.mod_eq_of_lt hj,Nat.add_zero]
   have hpos:=hr.pos;have h00:C.F b (o + (n' * 0 + 0)):=hr.fix 0 0 (by rw [hel]; cases es with | nil => exact absurd rfl hne | cons => simp) hpos;refine ⟨hpos,by omega,hc,b,o,xs,rfl,hF _ _ h00,fun j v hj => ?_,hw.1,RpL.repE hF hw.1 hw.2 hx1 hx2 (fun i j e y h1 h2 => hh i j e y (by rw [<- he]; exact h1) h2)⟩
   have hjl:j < n' * es.length:=by
    rw [<- hx1];by_cases hj':j < xs.length
    ·exact hj'
    ·rw [getElem?_eq_none (Nat.not_lt.1 hj')] at hj; cases hj
   have h1:j / n' < es.length:=(Nat.div_lt_iff_lt_mul hpos).2 (by rw [Nat.mul_comm]; exact hjl);have h2:j % n' < n':=Nat.mod_lt _ hpos;have h3:n' * (j / n') + j % n' = j:=Nat.div_add_mod j n';have h4:=hx2 _ _ h1 h2;rw [h3,hj] at h4;have h5:=hr.cell _ _ (by rw [hel]; exact h1) h2;rw [h3,<- h4] at h5;exact h5
theorem RpL.reps {C:Cx} {w:World} {S:Nat -> Prop} (hF:∀ b o,C.F b o -> S b):∀ {ds:List D} {cs:List Value},RpL C w (D.pcs ds) cs -> D.wfs ds -> RepCs S w ds cs
 | [],cs,h,hw => by simp only [D.pcs] at h; simp only [RepCs]; exact h.inv0
 | d :: ds,cs,h,hw => by
  simp only [D.pcs] at h; simp only [D.wfs] at hw; simp only [RepCs]
  obtain ⟨v1,v2,rfl,h1,h2,h3⟩:=h.split;exact ⟨v1,v2,rfl,by rw [h1,D.pc_len],RpL.rep hF h2 hw.1,RpL.reps hF h3 hw.2⟩
theorem RpL.repE {C:Cx} {w:World} {S:Nat -> Prop} (hF:∀ b o,C.F b o -> S b) {n:Nat}:∀ {ds:List D} {xs:List Value} {u:Nat -> Nat -> Value},(∀ e ∈ ds,D.width e = n) -> D.wfs ds -> xs.length = n * ds.length -> (∀ i j,i < ds.length -> j < n -> xs[n * i + j]? = some (u i j)) ->
  (∀ (i j:Nat) (e:List PC) (y:PC),(D.pcE ds)[i]? = some e -> e[j]? = some y -> RpC C w y (u i j)) -> RepCs S w ds xs
 | [],xs,u,_,hw,hl,_,_ => by simp only [RepCs]; exact eq_nil_of_length_eq_zero (by rw [hl]; simp)
 | d :: ds,xs,u,hwd,hw,hl,hx,h => by
  simp only [D.wfs] at hw; simp only [RepCs]
  have hd:=hwd d (by simp);rw [length_cons,Nat.mul_succ] at hl;refine ⟨xs.take n,xs.drop n,by simp,by rw [length_take]; omega,RpL.rep hF ⟨by rw [length_take,D.pc_len]; omega,fun j c y hc hy => ?_⟩ hw.1,?_⟩
  ·rw [getElem?_take] at hy
   split at hy
   ·rename_i hj
    have:=hx 0 j (by simp) hj
    rw [Nat.mul_zero,Nat.zero_add,hy] at this;simp only [sI] at this;rw [this]; exact h 0 j d.pc c rfl hc
   ·cases hy
  ·refine RpL.repE hF (u:=fun i j => u (i + 1) j) (fun e he => hwd e (by simp [he])) hw.2 (by rw [length_drop]; omega) (fun i j hi hj => ?_) (fun i j e y he hy => h (i + 1) j e y he hy)
   have:=hx (i + 1) j (by simpa using hi) hj
   rw [getElem?_drop,<- this]; congr 1; rw [Nat.mul_succ]; omega
end
end
section
structure Tks (C:Cx) (w:World) (live:Nat -> Prop):Prop where
 blk:∀ t,live t -> ∀ b,C.tk t = some b -> ∃ cur e,w.heap[b]? = some (.cells cur e (0,0)) /\ cur.size = C.cp t * C.tn t
 inj:∀ t s b,live t -> live s -> C.tk t = some b -> C.tk s = some b -> t = s
theorem Tks.of {NG:Nat} {T:World -> Prop} {C:Cx} {bx:LP PC} {live:Nat -> Prop} {w:World} (h:Inv NG T C bx live w):Tks C w live :=
 ⟨fun t ht b hb => by
  obtain ⟨_,_,h3⟩:=h.tok t ht
  rcases h3 with ⟨k,_⟩ | ⟨b',cur,e,c1,_,c3,c4,_⟩
  ·rw [k] at hb; cases hb
  ·rw [c1] at hb; simp only [sI] at hb; subst hb; exact ⟨cur,e,c3,c4⟩,h.tinj⟩
theorem pcs_row {C:Cx} {w:World} {live:Nat -> Prop} (hT:Tks C w live) {f1 f2 t1 t2:List Nat} (hd:(t1 ++ t2).Nodup) (hl:∀ t ∈ t1 ++ t2,live t) (h1:f1.Nodup) (h2:f2.Nodup) (k1:∀ b ∈ f1,∃ t ∈ t1,C.tk t = some b) (k2:∀ b ∈ f2,∃ t ∈ t2,C.tk t = some b):(f1 ++ f2).Nodup /\ ∀ b ∈ f1 ++ f2,∃ t ∈ t1 ++ t2,C.tk t = some b:=by
 rw [nodup_append] at hd;refine ⟨nodup_append.2 ⟨h1,h2,fun a ha b hb hab => ?_⟩,fun b hb => ?_⟩
 ·subst hab
  obtain ⟨t,ht,e1⟩:=k1 a ha; obtain ⟨s,hs,e2⟩:=k2 a hb
  exact hd.2.2 t ht s hs (hT.inj t s a (hl t (by simp [ht])) (hl s (by simp [hs])) e1 e2)
 ·rcases mem_append.1 hb with hb | hb
  ·obtain ⟨t,ht,e⟩:=k1 b hb; exact ⟨t,by simp [ht],e⟩
  ·obtain ⟨t,ht,e⟩:=k2 b hb; exact ⟨t,by simp [ht],e⟩
theorem zaE:∀ a b:List PC,toksL (a ++ b) = toksL a ++ toksL b
 | [],b => rfl
 | c :: cs,b => by simp only [cons_append,toksL,zaE cs b,append_assoc]
theorem zaO:∀ a b:List PC,ownedL (a ++ b) = (ownedL a && ownedL b)
 | [],b => by simp [ownedL]
 | c :: cs,b => by simp only [cons_append,ownedL,zaO cs b,Bool.and_assoc]
theorem erL_one {cs:List PC} {x:PC} (h:erL cs = [x]):∃ c,cs = [c] /\ c.er = x:=by
 rw [zaw] at h
 match cs,h with
 | [],h => simp at h
 | c :: cs,h =>
  simp only [map_cons,cons.injEq,map_eq_nil_iff] at h;exact ⟨c,by rw [h.2],h.1⟩
mutual
theorem zcG {C:Cx} {w:World} {live:Nat -> Prop} (hT:Tks C w live):∀ {d:D} {cs:List PC} {vs:List Value},erL cs = d.pc -> d.wf -> ownedL cs = true -> RpL C w cs vs -> (∀ t ∈ toksL cs,live t) -> (toksL cs).Nodup ->
  ∃ fp,fp.Nodup /\ (∀ b ∈ fp,∃ t ∈ toksL cs,C.tk t = some b) /\ TreeC w d fp vs
 | .one v,cs,vs,he,hw,ho,h,hl,hn => by
  simp only [D.pc] at he;obtain ⟨c,rfl,hc0⟩:=erL_one he; clear he
  ·match c,hc0 with
   | .v x,he =>
    simp only [PC.er,PC.v.injEq] at he; subst he
    obtain ⟨y,ys,rfl,h1,h2⟩:=h.inv1
    have:=h2.inv0; subst this
    cases h1
    exact ⟨[],by simp,by simp,by simp [TreeC]⟩
 | .agg fs,cs,vs,he,hw,ho,h,hl,hn => by
  simp only [D.pc] at he; simp only [D.wf] at hw; simp only [TreeC]
  exact trees_of hT he hw ho h hl hn
 | .sl n es,cs,vs,he,hw,ho,h,hl,hn => by
  simp only [D.pc] at he; simp only [D.wf] at hw
  obtain ⟨c,rfl,hc0⟩:=erL_one he; clear he
  ·match c,hc0 with
   | .sl t rows,he =>
    simp only [PC.er,PC.sl.injEq,true_and] at he;obtain ⟨y,ys,rfl,h1,h2⟩:=h.inv1
    have:=h2.inv0; subst this
    have hlen:rows.length = es.length:=by
     have:=congrArg length he
     rw [zas,D.pcE_map] at this; simpa using this
    simp only [ownedL,PC.owned,Bool.and_true,Bool.and_eq_true,Bool.or_eq_true,decide_eq_true_eq] at ho;simp only [toksL,append_nil,PC.toks] at hl hn ⊢;simp only [TreeC]
    have nilc:∀ (a:Option Addr) (k c:Nat),k = 0 -> es = [] -> ∃ fp:List Nat,fp.Nodup /\ (∀ b ∈ fp,∃ t' ∈ (if 2 <= t then t :: toksLL rows else toksLL rows),C.tk t' = some b) /\ ∃ a' c',[Value.slice a k c] = [.slice a' es.length c'] /\ ((es = [] /\ fp = []) \/
      ∃ b fr cur e,a' = some ⟨b,0,none⟩ /\ fp = b :: fr /\ w.heap[b]? = some (.cells cur e (0,0)) /\ 0 < n /\ (es.length <= c' /\ cur.size = c' * n) /\ c' <= maxLen /\ (∀ e ∈ es,D.width e = n) /\ TreeCs w es fr (cur.toList.take (n * es.length))):=by
     intro a k c hk hes;exact ⟨[],by simp,by simp,a,c,by rw [hes,hk]; rfl,.inl ⟨hes,rfl⟩⟩
    have hnil:rows = [] -> es = []:=fun h => eq_nil_of_length_eq_zero (by rw [<- hlen,h]; rfl)
    cases h1 with
    | emp a c => exact nilc a 0 c rfl (hnil rfl)
    | nil => exact nilc none 0 0 rfl (hnil rfl)
    | nilo t h2 ht hb => exact nilc none 0 0 rfl (hnil rfl)
    | rd _ b o n' c u hl' hc hr hh =>
     have:rows = []:=by
      rcases ho.1 with h | h
      ·exact absurd rfl h
      ·exact isEmpty_iff.1 h
     exact nilc _ _ _ (by rw [this]; rfl) (hnil this)
    | own _ _ b u h2 ht hb htl hl' hc hr hh =>
     by_cases hes:es = []
     ·exact nilc _ _ _ (by rw [hlen,hes]; rfl) hes
     ·rw [if_pos h2] at hl hn ⊢
      have hlt:=hl t (by simp);obtain ⟨cur,e,hblk,hbsz⟩:=hT.blk t hlt b hb
      have hn':C.tn t = n:=by
       match es,rows,hes,he with
       | d :: es,r :: rows,_,he =>
        have h3:=hr.wid r (by simp);simp only [erLL,D.pcE,cons.injEq] at he;have h4:r.length = d.pc.length:=by rw [<- he.1,zaw]; simp
        rw [D.pc_len,hw.1 d (by simp)] at h4; omega
       | d :: es,[],_,he => simp [erLL,D.pcE] at he
      rw [nodup_cons] at hn;have hpos:0 < n:=by have:=hr.pos; omega
      have hcell:∀ i j,i < es.length -> j < n -> cur[n * i + j]? = some (u i j):=by
       intro i j hi hj
       have:=hr.cell i j (by omega) (by omega)
       rw [zae hblk,Nat.zero_add,hn'] at this;exact this
      have hcl:n * es.length <= cur.size:=by
       have hne:0 < es.length:=by cases es with | nil => exact absurd rfl hes | cons => simp
       have:=hcell (es.length - 1) (n - 1) (by omega) (by omega)
       have hlt:n * (es.length - 1) + (n - 1) < cur.size:=by
        by_cases hx:n * (es.length - 1) + (n - 1) < cur.size
        ·exact hx
        ·rw [Array.getElem?_eq_none (Nat.not_lt.1 hx)] at this; cases this
       have h5:n * es.length = n * (es.length - 1) + n:=by
        rw [<- Nat.mul_succ]; congr 1; omega
       omega
      obtain ⟨fr,f1,f2,f3⟩:=treeE_of hT he hw.1 hw.2 ho.2 (xs:=cur.toList.take (n * es.length)) (u:=u) (by rw [length_take]; simp; omega) (fun i j hi hj => by
        rw [getElem?_take,if_pos (by
         calc n * i + j < n * i + n:=by omega
          _ = n * (i + 1):=by rw [Nat.mul_succ]
          _ <= n * es.length:=Nat.mul_le_mul_left n hi)]
        simpa using hcell i j hi hj) hh (fun t ht => hl t (by simp [ht])) hn.2
      refine ⟨b :: fr,nodup_cons.2 ⟨fun hm => ?_,f1⟩,fun b' hb' => ?_,some ⟨b,0,none⟩,C.cp t,by rw [hlen],.inr ⟨b,fr,cur,e,rfl,rfl,hblk,hpos,⟨by omega,by rw [hbsz,hn']⟩,hc,hw.1,f3⟩⟩
      ·obtain ⟨s,hs,hsb⟩:=f2 b hm
       have:=hT.inj t s b hlt (hl s (by simp [hs])) hb hsb
       subst this; exact hn.1 hs
      ·rcases mem_cons.1 hb' with rfl | hb'
       ·exact ⟨t,by simp,hb⟩
       ·obtain ⟨s,hs,hsb⟩:=f2 b' hb'; exact ⟨s,by simp [hs],hsb⟩
theorem trees_of {C:Cx} {w:World} {live:Nat -> Prop} (hT:Tks C w live):∀ {ds:List D} {cs:List PC} {vs:List Value},erL cs = D.pcs ds -> D.wfs ds -> ownedL cs = true -> RpL C w cs vs -> (∀ t ∈ toksL cs,live t) -> (toksL cs).Nodup ->
  ∃ fp,fp.Nodup /\ (∀ b ∈ fp,∃ t ∈ toksL cs,C.tk t = some b) /\ TreeCs w ds fp vs
 | [],cs,vs,he,_,ho,h,hl,hn => by
  have:cs = []:=by simp only [D.pcs] at he; rw [zaw] at he; simpa using he
  subst this
  have:=h.inv0; subst this
  exact ⟨[],by simp,by simp,by simp [TreeCs]⟩
 | d :: ds,cs,vs,he,hw,ho,h,hl,hn => by
  simp only [D.pcs] at he; simp only [D.wfs] at hw
  have hlen:d.pc.length <= cs.length:=by
   have:=congrArg length he
   rw [zaw,length_map,length_append] at this; omega
  obtain ⟨c1,c2,rfl,hc1⟩:∃ c1 c2,cs = c1 ++ c2 /\ c1.length = d.pc.length:=⟨cs.take d.pc.length,cs.drop d.pc.length,by simp,by rw [length_take]; omega⟩
  have he':erL c1 = d.pc /\ erL c2 = D.pcs ds:=by
   rw [zaw,map_append] at he
   have:=append_inj he (by rw [length_map]; exact hc1)
   rw [zaw,zaw]; exact this
  rw [zaE] at hl hn ⊢;rw [zaO,Bool.and_eq_true] at ho;obtain ⟨v1,v2,rfl,hv,h1,h2⟩:=h.split;have hn':=nodup_append.1 hn;obtain ⟨f1,a1,a2,a3⟩:=zcG hT he'.1 hw.1 ho.1 h1 (fun t ht => hl t (by simp [ht])) hn'.1;obtain ⟨f2,b1,b2,b3⟩:=trees_of hT he'.2 hw.2 ho.2 h2 (fun t ht => hl t (by simp [ht])) hn'.2.1;obtain ⟨e1,e2⟩:=pcs_row hT hn hl a1 b1 a2 b2;exact ⟨f1 ++ f2,e1,e2,by simp only [TreeCs]; exact ⟨f1,f2,v1,v2,rfl,rfl,by rw [hv,hc1,D.pc_len],a3,b3⟩⟩
theorem treeE_of {C:Cx} {w:World} {live:Nat -> Prop} (hT:Tks C w live) {n:Nat}:∀ {ds:List D} {rows:LP PC} {xs:List Value} {u:Nat -> Nat -> Value},erLL rows = D.pcE ds -> (∀ e ∈ ds,D.width e = n) -> D.wfs ds -> ownedLL rows = true -> xs.length = n * ds.length -> (∀ i j,i < ds.length -> j < n -> xs[n * i + j]? = some (u i j)) ->
  (∀ (i j:Nat) (e:List PC) (y:PC),rows[i]? = some e -> e[j]? = some y -> RpC C w y (u i j)) -> (∀ t ∈ toksLL rows,live t) -> (toksLL rows).Nodup ->
  ∃ fp,fp.Nodup /\ (∀ b ∈ fp,∃ t ∈ toksLL rows,C.tk t = some b) /\ TreeCs w ds fp xs
 | [],rows,xs,u,he,_,hw,ho,hx,_,_,hl,hn => by
  have:=eq_nil_of_length_eq_zero (l:=xs) (by rw [hx]; simp)
  subst this
  exact ⟨[],by simp,by simp,by simp [TreeCs]⟩
 | d :: ds,rows,xs,u,he,hwd,hw,ho,hx,hu,h,hl,hn => by
  match rows,he with
  | r :: rows,he =>
   simp only [erLL,D.pcE,cons.injEq] at he;simp only [D.wfs] at hw;simp only [toksLL] at hl hn ⊢;simp only [ownedLL,Bool.and_eq_true] at ho;have hd:=hwd d (by simp);have hrl:r.length = n:=by rw [<- hd,<- D.pc_len,<- he.1,zaw]; simp
   rw [length_cons,Nat.mul_succ] at hx;have hn':=nodup_append.1 hn
   obtain ⟨f1,a1,a2,a3⟩:=zcG hT he.1 hw.1 ho.1 (vs:=xs.take n) ⟨by rw [length_take]; omega,fun j c y hc hy => by
    rw [getElem?_take] at hy
    split at hy
    ·rename_i hj
     have:=hu 0 j (by simp) hj
     rw [Nat.mul_zero,Nat.zero_add,hy] at this;simp only [sI] at this;rw [this]; exact h 0 j r c rfl hc
    ·cases hy⟩ (fun t ht => hl t (by simp [ht])) hn'.1
   obtain ⟨f2,b1,b2,b3⟩:=treeE_of hT (u:=fun i j => u (i + 1) j) (xs:=xs.drop n) he.2 (fun e he => hwd e (by simp [he])) hw.2 ho.2 (by rw [length_drop]; omega) (fun i j hi hj => by
    have:=hu (i + 1) j (by simpa using hi) hj
    rw [getElem?_drop,<- this]; congr 1; rw [Nat.mul_succ]; omega) (fun i j e y he hy => h (i + 1) j e y he hy) (fun t ht => hl t (by simp [ht])) hn'.2.1
   obtain ⟨e1,e2⟩:=pcs_row hT hn hl a1 b1 a2 b2;exact ⟨f1 ++ f2,e1,e2,by simp only [TreeCs]; exact ⟨f1,f2,xs.take n,xs.drop n,rfl,by simp,by rw [length_take]; omega,a3,b3⟩⟩
end
def C0 (w:World):Cx:=⟨fun b _ => b < w.heap.size,0,fun _ => 0,2,fun _ => none,fun _ => 0,fun _ => 0,fun _ => 0,fun _ => False⟩
theorem Fn.use {E:Env} {f:Nat} {args:List PV} {R:PV -> (Nat -> Prop) -> Prop} (h:Fn E f args R) {w:World} (hng:E.NG <= w.heap.size) (hT:E.T w) {vs:List Value} (hl:vs.length = args.length) (hv:∀ (j:Nat) (x:PV) (y:Value),args[j]? = some x -> vs[j]? = some y -> RpV (C0 w) w x y) :
  Calls E.P f vs.toArray w fun e w' => ∃ u x bx live C',e = .returned u /\ R x live /\ Inv E.NG E.T C' bx live w' /\ RpV C' w' x u /\ Below w.heap.size w w' /\ E.T w' /\ ∀ t b,live t -> C'.tk t = some b -> w.heap.size <= b:=by
 refine (h (C0 w) w vs ⟨rfl,fun p cs hp => by simp at hp,fun p hp => by simp at hp,fun p hp => by simp at hp,fun p q hp => by simp at hp,fun t ht => ht.elim,fun t s b ht => ht.elim,fun b o h => h,hng,hT⟩ rfl (fun t h => h) hl hv).mono ?_;rintro e w' ⟨u,x,bx,live,C',e1,e2,e3,e4,e5⟩;exact ⟨u,x,bx,live,C',e1,e2,e3,e5,⟨e4.os,e4.tape,e4.output,e4.size,fun k hk => e4.block0 (fun t h => h) k hk (fun p hp => by simp [C0] at hp)⟩,e3.t,fun t b => e4.newT0 (fun t h => h) t b⟩
theorem FnO.use {E:Env} {f:Nat} {args:List PV} {d:D} (h:FnO E f args (.ag d.pc)) (hd:d.wf) {w:World} (hng:E.NG <= w.heap.size) (hT:E.T w) {vs:List Value} (hl:vs.length = args.length) (hv:∀ (j:Nat) (x:PV) (y:Value),args[j]? = some x -> vs[j]? = some y -> RpV (C0 w) w x y) :
  Calls E.P f vs.toArray w fun e w' => ∃ cs,e = .returned (.agg (toArray cs)) /\ Own w.heap.size w' d cs /\ Below w.heap.size w w' /\ E.T w':=by
 refine (Fn.use h hng hT hl hv).mono ?_;rintro e w' ⟨u,x,bx,live,C',rfl,⟨h1,h2,h3,h4⟩,hi,hr,hb,ht,hn⟩
 match x,h1,h4 with
 | .ag cs,h1,h4 =>
  simp only [PV.dat,sI,PV.ag.injEq] at h1
  cases hr with
  | ag _ vs hr =>
   obtain ⟨fp,f1,f2,f3⟩:=zcG (Tks.of hi) h1 hd h4 hr h3 h2;refine ⟨vs,rfl,⟨fp,f1,fun b hb' => ?_,f3⟩,hb,ht⟩;obtain ⟨t,ht,htb⟩:=f2 b hb'
   exact hn t b (h3 t ht) htb
 | .d c,h1,h4 => simp [PV.dat] at h1
theorem FnV.old {E:Env} {f:Nat} {args:List PV} {v:Value} (ho:v.oneCell' = true) (h:∀ (w:World) (C:Cx) (vs:List Value),(∀ b o,C.F b o -> b < w.heap.size) -> E.NG <= w.heap.size -> E.T w -> vs.length = args.length -> (∀ (j:Nat) (x:PV) (y:Value),args[j]? = some x -> vs[j]? = some y -> RpV C w x y) ->
  Calls E.P f vs.toArray w fun e w' => e = .returned v /\ Below w.heap.size w w'):FnV E f args (.d (.v v)):=by
 intro C w vs hI hnt hold hl hv;refine (h w C vs hI.fin hI.ng hI.t hl hv).mono ?_;rintro e w' ⟨rfl,hb⟩;have hF:Fix C w w':=.of (fun b o hF => World.cell?_of_block (a:=⟨b,o,none⟩) (hb.block b (hI.fin b o hF))) hb.block
 refine ⟨v,.d (.v v),[],fun _ => False,C,rfl,rfl,⟨hI.nb,fun p cs hp => by simp at hp,fun p hp => by simp at hp,fun p hp => by simp at hp,fun p q hp => by simp at hp,fun t ht => ht.elim,fun t s b ht => ht.elim,fun b o h => Nat.lt_of_lt_of_le (hI.fin b o h) hb.size,Nat.le_trans hI.ng hb.size,E.low w w' hI.t hb.size (fun k hk => hb.block k (Nat.lt_of_lt_of_le hk hI.ng))⟩,
  ⟨hb.os,hb.tape,hb.output,hb.size,fun _ _ h => h,hF,fun k hk _ _ => hb.block k hk,⟨lR,fun _ _ => rfl⟩,fun _ _ h => .inl h,fun t b ht => ht.elim,(fun p hp hp2 => by simp at hp2),⟨lR,fun _ _ => ⟨rfl,rfl,rfl,rfl⟩⟩⟩,.d _ _ (.v v ho)⟩
theorem vRd {C:Cx} {w:World} (hF:∀ b o,C.F b o -> b < w.heap.size) {d:D} {y:Value} (hw:d.wf) (h:RpV C w (.ag d.pc) y):∃ cs:List Value,y = .agg cs.toArray /\ Rd w d cs:=by
 cases h with
 | ag _ vs h => exact ⟨vs,rfl,RpL.rep hF h hw⟩
theorem vRd1 {C:Cx} {w:World} (hF:∀ b o,C.F b o -> b < w.heap.size) {d:D} {c:PC} {y:Value} (hw:d.wf) (hc:d.pc = [c]) (h:RpV C w (.d c) y):Rd w d [y]:=by
 cases h with
 | d _ _ h => exact RpL.rep hF (by rw [hc]; exact .one1 h) hw
end
section
def Fr (NG:Nat) (C:Cx) (bx:LP PC) (live fp:List Nat):Prop:=∀ b ∈ fp,NG <= b /\ (∀ o,¬ C.F b o) /\ (∀ p,p < bx.length -> C.bx p ≠ b) /\ ∀ t ∈ live,C.tk t ≠ some b
structure Nmd (NG:Nat) (T:World -> Prop) (bx:LP PC) (w:World) (C:Cx) (live fp:List Nat) (C':Cx) (new tk:List Nat):Prop where
 le:CxLe C C'
 inv:Inv NG T C' bx (· ∈ new ++ live) w
 nd:tk.Nodup
 sub:∀ t ∈ tk,t ∈ new
 rng:∀ t ∈ new,C.nt <= t /\ t < C'.nt
 F:∀ b o,C'.F b o -> C.F b o \/ b ∈ fp
 tkb:∀ t ∈ new,∃ b ∈ fp,C'.tk t = some b
section
variable {NG:Nat} {T:World -> Prop} {bx:LP PC} {w:World}
theorem Nmd.refl {C:Cx} {live:List Nat} (h:Inv NG T C bx (· ∈ live) w):Nmd NG T bx w C live [] C [] [] :=
 ⟨CxLe.refl C,h,by simp,by simp,by simp,fun _ _ h => .inl h,by simp⟩
theorem Nmd.trans {C C1 C2:Cx} {live f1 f2 n1 n2 t1 t2:List Nat} (h:Nmd NG T bx w C live f1 C1 n1 t1) (k:Nmd NG T bx w C1 (n1 ++ live) f2 C2 n2 t2):Nmd NG T bx w C live (f1 ++ f2) C2 (n2 ++ n1) (t1 ++ t2):=by
 refine ⟨h.le.trans k.le,by rw [append_assoc]; exact k.inv,?_,fun t ht => ?_,fun t ht => ?_,fun b o hF => ?_,fun t ht => ?_⟩
 ·rw [nodup_append]
  refine ⟨h.nd,k.nd,fun a ha b hb e => ?_⟩
  have:=(h.rng a (h.sub a ha)).2; have:=(k.rng b (k.sub b hb)).1; omega
 ·rcases mem_append.1 ht with ht | ht
  ·simp [h.sub t ht]
  ·simp [k.sub t ht]
 ·have:=h.le.nt; have:=k.le.nt
  rcases mem_append.1 ht with ht | ht
  ·have:=k.rng t ht; omega
  ·have:=h.rng t ht; omega
 ·rcases k.F b o hF with h1 | h1
  ·rcases h.F b o h1 with h2 | h2
   ·exact .inl h2
   ·exact .inr (by simp [h2])
  ·exact .inr (by simp [h1])
 ·rcases mem_append.1 ht with ht | ht
  ·obtain ⟨b,hb,e⟩:=k.tkb t ht; exact ⟨b,by simp [hb],e⟩
  ·obtain ⟨b,hb,e⟩:=h.tkb t ht
   exact ⟨b,by simp [hb],((k.le.tk t (h.rng t ht).2).1).trans e⟩
theorem Fr.next {C C1:Cx} {live f1 f2 n1 t1:List Nat} (hI:Inv NG T C bx (· ∈ live) w) (h:Nmd NG T bx w C live f1 C1 n1 t1) (hf:Fr NG C bx live f2) (hd:∀ b ∈ f1,b ∉ f2):Fr NG C1 bx (n1 ++ live) f2:=by
 intro b hb;obtain ⟨a1,a2,a3,a4⟩:=hf b hb;refine ⟨a1,fun o hF => ?_,fun p hp => ?_,fun t ht => ?_⟩
 ·rcases h.F b o hF with h1 | h1
  ·exact a2 o h1
  ·exact hd b h1 hb
 ·rw [h.le.bx p (by rw [hI.nb]; exact hp)]; exact a3 p hp
 ·intro e
  rcases mem_append.1 ht with ht | ht
  ·obtain ⟨b',hb',e'⟩:=h.tkb t ht
   rw [e'] at e; simp only [sI] at e; subst e; exact hd b' hb' hb
  ·rw [(h.le.tk t (hI.tok t ht).2.1).1] at e; exact a4 t ht e
theorem Inv.addTok {C:Cx} {live:List Nat} (h:Inv NG T C bx (· ∈ live) w) (h2:2 <= C.nt) {b cap len n:Nat} (hf:Fr NG C bx live [b]) {cur:Array Value} {e:TypeId} (hblk:w.heap[b]? = some (.cells cur e (0,0))) (hsz:cur.size = cap * n) (hl:len <= cap) (hm:cap <= maxLen) (hn:0 < n) (hp:0 < len) :
  Inv NG T (C.tok (some b) cap len n) bx (· ∈ C.nt :: live) w:=by
 have hle:=Cx.tok_le C (some b) cap len n;obtain ⟨n1,n2,n3,n4⟩:=Cx.tok_new C (some b) cap len n;obtain ⟨f1,f2,f3,f4⟩:=hf b (by simp);refine ⟨h.nb,fun p cs hp => ?_,?_,h.boxG,h.inj,?_,?_,?_,h.ng,h.t⟩
 ·obtain ⟨vs,e,h1,h2⟩:=h.box p cs hp
  exact ⟨vs,e,h1,h2.frame hle (Fix.refl _ _)⟩
 ·rintro p hp o (hF | ⟨hb,_⟩)
  ·exact h.boxF p hp o hF
  ·simp only [sI] at hb; exact f3 p hp hb.symm
 ·intro t ht
  rcases mem_cons.1 ht with rfl | ht
  ·refine ⟨h2,Nat.lt_succ_self _,.inr ⟨b,cur,e,n1,f1,hblk,?_,?_,?_,?_,?_,?_,fun p hp => f3 p hp⟩⟩
   ·rw [n2,n4]; exact hsz
   ·rw [n2,n3]; exact hl
   ·rw [n2]; exact hm
   ·rw [n4]; exact hn
   ·rw [n3]; omega
   ·rintro o (hF | ⟨_,ho⟩)
    ·exact absurd hF (f2 o)
    ·rw [n3,n4]; exact ho
  ·obtain ⟨a1,a2,a3⟩:=h.tok t ht
   obtain ⟨k1,k2,k3,k4⟩:=hle.tk t a2;refine ⟨a1,Nat.lt_succ_of_lt a2,?_⟩;rw [k1,k2,k3,k4]
   rcases a3 with a3 | ⟨b',cur',e',c1,c2,c3,c4,c5,c6,c7,c8,c9,c10⟩
   ·exact .inl a3
   ·refine .inr ⟨b',cur',e',c1,c2,c3,c4,c5,c6,c7,c8,?_,c10⟩
    rintro o (hF | ⟨hb,_⟩)
    ·exact c9 o hF
    ·simp only [sI] at hb; subst hb; exact absurd c1 (f4 t ht)
 ·intro t s b' ht hs e1 e2
  have key:∀ t ∈ live,(C.tok (some b) cap len n).tk t = C.tk t:=fun t ht => (hle.tk t (h.tok t ht).2.1).1
  rcases mem_cons.1 ht with rfl | ht <;> rcases mem_cons.1 hs with rfl | hs
  ·rfl
  ·rw [n1] at e1; simp only [sI] at e1; subst e1
   rw [key s hs] at e2; exact absurd e2 (f4 s hs)
  ·rw [n1] at e2; simp only [sI] at e2; subst e2
   rw [key t ht] at e1; exact absurd e1 (f4 t ht)
  ·rw [key t ht] at e1; rw [key s hs] at e2; exact h.tinj t s b' ht hs e1 e2
 ·rintro b' o (hF | ⟨hb,_⟩)
  ·exact h.fin b' o hF
  ·simp only [sI] at hb; subst hb; exact zao hblk
mutual
theorem zcq:∀ {d:D} {fp:List Nat} {vs:List Value} {C:Cx} {live:List Nat},TreeC w d fp vs -> d.wf -> fp.Nodup -> Inv NG T C bx (· ∈ live) w -> 2 <= C.nt -> Fr NG C bx live fp ->
  ∃ C' cs new,Nmd NG T bx w C live fp C' new (toksL cs) /\ RpL C' w cs vs /\ erL cs = d.pc /\ ownedL cs = true
 | .one v,fp,vs,C,live,h,hw,hn,hI,h2,hf => by
  simp only [TreeC] at h; obtain ⟨rfl,rfl⟩:=h
  simp only [D.wf] at hw
  exact ⟨C,[.v v],[],Nmd.refl hI,.one1 (.v v hw),rfl,rfl⟩
 | .agg fs,fp,vs,C,live,h,hw,hn,hI,h2,hf => by
  simp only [TreeC] at h; simp only [D.wf] at hw; simp only [D.pc]
  exact names_ofs h hw hn hI h2 hf
 | .sl n es,fp,vs,C,live,h,hw,hn,hI,h2,hf => by
  simp only [TreeC] at h; simp only [D.wf] at hw
  obtain ⟨a,c,rfl,⟨rfl,rfl⟩ | ⟨b,fr,cur,e,rfl,rfl,hb,hn0,hl,hm,hwd,ht⟩⟩:=h
  ·exact ⟨C,[.sl 0 []],[],Nmd.refl hI,.one1 (.emp a c),rfl,rfl⟩
  ·rw [nodup_cons] at hn
   obtain ⟨C1,rows,new,k1,k2,k3,k4,k5,k6⟩:=names_ofE ht hwd hw.2 hn.2 hI h2 (fun b' hb' => hf b' (by simp [hb']));by_cases hes:es = []
   ·subst hes
    have:rows = []:=by simp only [D.pcE] at k3; rw [zas] at k3; simpa using k3
    subst this
    exact ⟨C1,[.sl 0 []],new,⟨k1.le,k1.inv,k1.nd,k1.sub,k1.rng,fun b o hF => (k1.F b o hF).imp id fun h => by simp [h],fun t ht => by
     obtain ⟨b',hb',e'⟩:=k1.tkb t ht; exact ⟨b',by simp [hb'],e'⟩⟩,.one1 (.emp _ _),rfl,rfl⟩
   ·have hlen:rows.length = es.length:=by
     have:=congrArg length k3
     rw [zas,D.pcE_map] at this; simpa using this
    have hpos:0 < es.length:=by cases es with | nil => exact absurd rfl hes | cons => simp
    have h21:2 <= C1.nt:=Nat.le_trans h2 k1.le.nt;have hf1:Fr NG C1 bx (new ++ live) [b]:=Fr.next hI k1 (fun b' hb' => hf b' (by simp at hb'; simp [hb'])) (fun b' hb' he => by simp at he; subst he; exact hn.1 hb');have hI2:=k1.inv.addTok h21 (cap:=c) (len:=rows.length) (n:=n) hf1 hb hl.2 (by rw [hlen]; exact hl.1) hm hn0 (by rw [hlen]; exact hpos)
    have hown:=zdh (C:=C1) (w:=w) (w':=w) (b:=b) (cap:=c) (n:=n) (es:=rows) (fl:=cur.toList.take (n * es.length)) h21 hn0 k5 k2 (fun q y hq => by
     rw [zae hb];rw [getElem?_take] at hq
     split at hq
     ·simpa using hq
     ·cases hq) (by rw [hlen]; exact hl.1) hm (Fix.refl _ _)
    have hle:=Cx.tok_le C1 (some b) c rows.length n;have n1:=(Cx.tok_new C1 (some b) c rows.length n).1;rw [hlen] at hown;refine ⟨C1.tok (some b) c rows.length n,[.sl C1.nt rows],C1.nt :: new,⟨k1.le.trans hle,hI2,?_,?_,?_,?_,?_⟩,.one1 (by rw [hlen]; exact hown),?_,?_⟩
    ·simp only [toksL,PC.toks,if_pos h21,append_nil]
     rw [nodup_cons];exact ⟨fun hm => by have:=(k1.rng _ (k1.sub _ hm)).2; omega,k1.nd⟩
    ·intro t ht
     simp only [toksL,PC.toks,if_pos h21,append_nil,mem_cons] at ht
     rcases ht with rfl | ht
     ·simp
     ·simp [k1.sub t ht]
    ·intro t ht
     have:(C1.tok (some b) c rows.length n).nt = C1.nt + 1:=rfl
     rcases mem_cons.1 ht with rfl | ht
     ·have:=k1.le.nt; omega
     ·have:=k1.rng t ht; omega
    ·rintro b' o (hF | ⟨hb',_⟩)
     ·exact (k1.F b' o hF).imp id fun h => by simp [h]
     ·simp only [sI] at hb'; subst hb'; exact .inr (by simp)
    ·intro t ht
     rcases mem_cons.1 ht with rfl | ht
     ·exact ⟨b,by simp,n1⟩
     ·obtain ⟨b',hb',e'⟩:=k1.tkb t ht
      exact ⟨b',by simp [hb'],((hle.tk t (k1.rng t ht).2).1).trans e'⟩
    ·simp only [erL,PC.er,k3,D.pc]
    ·have:C1.nt ≠ 0:=by omega
     simp [ownedL,PC.owned,k4,this]
theorem names_ofs:∀ {ds:List D} {fp:List Nat} {vs:List Value} {C:Cx} {live:List Nat},TreeCs w ds fp vs -> D.wfs ds -> fp.Nodup -> Inv NG T C bx (· ∈ live) w -> 2 <= C.nt -> Fr NG C bx live fp ->
  ∃ C' cs new,Nmd NG T bx w C live fp C' new (toksL cs) /\ RpL C' w cs vs /\ erL cs = D.pcs ds /\ ownedL cs = true
 | [],fp,vs,C,live,h,_,hn,hI,h2,hf => by
  simp only [TreeCs] at h; obtain ⟨rfl,rfl⟩:=h
  exact ⟨C,[],[],Nmd.refl hI,.nil,rfl,rfl⟩
 | d :: ds,fp,vs,C,live,h,hw,hn,hI,h2,hf => by
  simp only [TreeCs] at h; obtain ⟨f1,f2,c1,c2,rfl,rfl,hl,h1,h3⟩:=h
  simp only [D.wfs] at hw;rw [nodup_append] at hn;obtain ⟨C1,cs1,new1,a1,a2,a3,a4⟩:=zcq h1 hw.1 hn.1 hI h2 (fun b hb => hf b (by simp [hb]));obtain ⟨C2,cs2,new2,b1,b2,b3,b4⟩:=names_ofs h3 hw.2 hn.2.1 a1.inv (Nat.le_trans h2 a1.le.nt) (Fr.next hI a1 (fun b hb => hf b (by simp [hb])) (fun b hb hb2 => hn.2.2 b hb b hb2 rfl));refine ⟨C2,cs1 ++ cs2,new2 ++ new1,by rw [zaE]; exact a1.trans b1,(a2.frame b1.le (Fix.refl _ _)).append b2,?_,by rw [zaO,a4,b4]; rfl⟩;simp only [D.pcs]; rw [zaw,map_append,<- zaw,<- zaw,a3,b3]
theorem names_ofE {n:Nat}:∀ {es:List D} {fp:List Nat} {vs:List Value} {C:Cx} {live:List Nat},TreeCs w es fp vs -> (∀ e ∈ es,D.width e = n) -> D.wfs es -> fp.Nodup -> Inv NG T C bx (· ∈ live) w -> 2 <= C.nt -> Fr NG C bx live fp ->
  ∃ C' rows new,Nmd NG T bx w C live fp C' new (toksLL rows) /\ RpL C' w rows.flatten vs /\ erLL rows = D.pcE es /\ ownedLL rows = true /\ (∀ r ∈ rows,r.length = n) /\ True
 | [],fp,vs,C,live,h,_,_,hn,hI,h2,hf => by
  simp only [TreeCs] at h; obtain ⟨rfl,rfl⟩:=h
  exact ⟨C,[],[],Nmd.refl hI,.nil,rfl,rfl,by simp,trivial⟩
 | d :: ds,fp,vs,C,live,h,hwd,hw,hn,hI,h2,hf => by
  simp only [TreeCs] at h; obtain ⟨f1,f2,c1,c2,rfl,rfl,hl,h1,h3⟩:=h
  simp only [D.wfs] at hw;rw [nodup_append] at hn;obtain ⟨C1,cs1,new1,a1,a2,a3,a4⟩:=zcq h1 hw.1 hn.1 hI h2 (fun b hb => hf b (by simp [hb]));obtain ⟨C2,cs2,new2,b1,b2,b3,b4,b5,_⟩:=names_ofE h3 (fun e he => hwd e (by simp [he])) hw.2 hn.2.1 a1.inv (Nat.le_trans h2 a1.le.nt) (Fr.next hI a1 (fun b hb => hf b (by simp [hb])) (fun b hb hb2 => hn.2.2 b hb b hb2 rfl));refine ⟨C2,cs1 :: cs2,new2 ++ new1,by simp only [toksLL]; exact a1.trans b1,by rw [flatten_cons]; exact (a2.frame b1.le (Fix.refl _ _)).append b2,by simp only [erLL,D.pcE,a3,b3],by simp only [ownedLL,a4,b4]; rfl,fun r hr => ?_,trivial⟩
  rcases mem_cons.1 hr with rfl | hr
  ·rw [<- hwd d (by simp),<- D.pc_len,<- a3,zaw]; simp
  ·exact b5 r hr
end
end
theorem FnO.old {E:Env} {f:Nat} {args:List PV} {d:D} (hd:d.wf) (h:∀ (w:World) (C:Cx) (vs:List Value),(∀ b o,C.F b o -> b < w.heap.size) -> E.NG <= w.heap.size -> E.T w -> vs.length = args.length -> (∀ (j:Nat) (x:PV) (y:Value),args[j]? = some x -> vs[j]? = some y -> RpV C w x y) ->
  Calls E.P f vs.toArray w fun e w' => ∃ cs,e = .returned (.agg (toArray cs)) /\ Below w.heap.size w w' /\ Own w.heap.size w' d cs):FnO E f args (.ag d.pc):=by
 intro C w vs hI hnt hold hl hv;refine (h w C vs hI.fin hI.ng hI.t hl hv).mono ?_;rintro e w' ⟨cs,rfl,hb,fp,hnd,hfp,ht⟩;have hF:Fix C w w':=.of (fun b o hF => World.cell?_of_block (a:=⟨b,o,none⟩) (hb.block b (hI.fin b o hF))) hb.block;have hI1:Inv E.NG E.T C [] (· ∈ ([]:List Nat)) w':=⟨hI.nb,fun p cs hp => by simp at hp,fun p hp => by simp at hp,fun p hp => by simp at hp,fun p q hp => by simp at hp,(fun t ht => by cases ht),(fun t s b ht => by cases ht),fun b o h => Nat.lt_of_lt_of_le (hI.fin b o h) hb.size,Nat.le_trans hI.ng hb.size,E.low w w' hI.t hb.size (fun k hk => hb.block k (Nat.lt_of_lt_of_le hk hI.ng))⟩;obtain ⟨C',pcs,new,k1,k2,k3,k4⟩:=zcq ht hd hnd hI1 (by rw [hnt]; exact Nat.le_refl 2) (fun b hb' => ⟨Nat.le_trans hI.ng (hfp b hb'),fun o hFo => by have:=hI.fin b o hFo; have:=hfp b hb'; omega,fun p hp => by simp at hp,fun t ht => by cases ht⟩);refine ⟨_,.ag pcs,[],(· ∈ new ++ []),C',rfl,⟨?_,k1.nd,fun t ht => mem_append.2 (.inl (k1.sub t ht)),k4⟩,k1.inv,?_,.ag _ _ k2⟩
 ·show some (PV.ag (erL pcs)) = _; rw [k3]
 ·refine ⟨hb.os,hb.tape,hb.output,hb.size,k1.le.F,hF,fun k hk _ _ => hb.block k hk,⟨k1.le.nb,k1.le.bx⟩,?_,?_,(fun p hp hp2 => by simp at hp2),⟨k1.le.nt,k1.le.tk⟩⟩
  ·intro b o hF'
   rcases k1.F b o hF' with h | h
   ·exact .inl h
   ·exact .inr (.inl (hfp b h))
  ·intro t b ht hb2
   rw [append_nil] at ht;obtain ⟨b',hb',e'⟩:=k1.tkb t ht;rw [e'] at hb2; simp only [sI] at hb2; subst hb2; exact .inl (hfp b' hb')
theorem Fn.up {E E':Env} (hP:E'.P = E.P) (hN:E.NG <= E'.NG) (hT:∀ w,E'.T w -> E.T w) {f:Nat} {args:List PV} {R:PV -> (Nat -> Prop) -> Prop} (h:Fn E f args R):Fn E' f args R:=by
 intro C w vs hI hnt hold hl hv;rw [hP];refine (h C w vs ⟨hI.nb,fun p cs hp => by simp at hp,fun p hp => by simp at hp,fun p hp => by simp at hp,fun p q hp => by simp at hp,fun t ht => ht.elim,fun t s b ht => ht.elim,hI.fin,Nat.le_trans hN hI.ng,hT w hI.t⟩ hnt hold hl hv).mono ?_;rintro e w' ⟨u,x,bx,live,C',e1,e2,e3,e4,e5⟩;have hnb:C.nb = 0:=hI.nb;refine ⟨u,x,bx,live,C',e1,e2,⟨e3.nb,e3.box,e3.boxF,fun p hp => ?_,e3.inj,fun t ht => ?_,e3.tinj,e3.fin,Nat.le_trans hI.ng e4.size,E'.low w w' hI.t e4.size (fun k hk => e4.block0 hold k (Nat.lt_of_lt_of_le hk hI.ng) (fun p hp => by omega))⟩,e4,e5⟩
 ·exact Nat.le_trans hI.ng (e4.newB p (by omega) hp)
 ·obtain ⟨a1,a2,a3⟩:=e3.tok t ht
  refine ⟨a1,a2,a3.imp id ?_⟩;rintro ⟨b,cur,e,c1,c2,c3⟩;exact ⟨b,cur,e,c1,Nat.le_trans hI.ng (e4.newT0 hold t b ht c1),c3⟩
end
section
structure Keep (S:Nat -> Prop) (w w':World):Prop where
 os:w'.os = w.os
 tape:w'.tape = w.tape
 output:w'.output = w.output
 size:w.heap.size <= w'.heap.size
 block:∀ k,k < w.heap.size -> ¬ S k -> w'.heap[k]? = w.heap[k]?
theorem Keep.refl (S:Nat -> Prop) (w:World):Keep S w w:=⟨rfl,rfl,rfl,lR,fun _ _ _ => rfl⟩
theorem Keep.trans {S:Nat -> Prop} {a b c:World} (h:Keep S a b) (k:Keep S b c):Keep S a c :=
 ⟨k.os.trans h.os,k.tape.trans h.tape,k.output.trans h.output,Nat.le_trans h.size k.size,fun i hi hs => (k.block i (Nat.lt_of_lt_of_le hi h.size) hs).trans (h.block i hi hs)⟩
theorem Keep.mono {S T:Nat -> Prop} {a b:World} (h:Keep S a b) (hs:∀ k,k < a.heap.size -> S k -> T k):Keep T a b:=⟨h.os,h.tape,h.output,h.size,fun k hk ht => h.block k hk fun hS => ht (hs k hk hS)⟩
theorem Keep.of_below {S:Nat -> Prop} {w w':World} (h:Below w.heap.size w w'):Keep S w w':=⟨h.os,h.tape,h.output,h.size,fun k hk _ => h.block k hk⟩
theorem Keep.below {S:Nat -> Prop} {w w':World} {B:Nat} (h:Keep S w w') (hB:B <= w.heap.size) (hs:∀ k,k < B -> ¬ S k):Below B w w':=⟨h.os,h.tape,h.output,h.size,fun k hk => h.block k (Nat.lt_of_lt_of_le hk hB) (hs k hk)⟩
theorem Keep.then {S:Nat -> Prop} {a b c:World} (h:Keep S a b) (k:Below b.heap.size b c):Keep S a c:=h.trans (Keep.of_below k)
theorem Keep.alloc {S:Nat -> Prop} {a w:World} (h:Keep S a w) (o:Obj):Keep S a (w.alloc o):=h.then ((Below.refl _ _).alloc lR o)
theorem Keep.setCell {S:Nat -> Prop} {a w:World} (h:Keep S a w) {p:Addr} (hp:S p.block \/ a.heap.size <= p.block) (u:Value):Keep S a (w.setCell p u) :=
 ⟨h.os,h.tape,h.output,by simpa [World.setCell] using h.size,fun k hk hs => (Below.heap_setCell w p u k (by
  rintro rfl
  rcases hp with hp | hp
  ·exact hs hp
  ·omega)).trans (h.block k hk hs)⟩
theorem Keep.cell {S:Nat -> Prop} {w w':World} (h:Keep S w w') {b o:Nat} (hb:b < w.heap.size) (hs:¬ S b):w'.cell? ⟨b,o,none⟩ = w.cell? ⟨b,o,none⟩:=World.cell?_of_block (a:=⟨b,o,none⟩) (h.block b hb hs)
def RdN (N:Nat) (w:World) (d:D) (cs:List Value):Prop:=RepC (· < N) w d cs
theorem RdN.rd {N:Nat} {w:World} {d:D} {cs:List Value} (h:RdN N w d cs):Rd w d cs:=Rd.of h
theorem Rd.rdN {w:World} {d:D} {cs:List Value} (h:Rd w d cs):RdN w.heap.size w d cs:=h
theorem RdN.below {N:Nat} {w w':World} {d:D} {cs:List Value} (h:RdN N w d cs) (hb:Below N w w'):RdN N w' d cs:=RepC.frame (fun b hlt => hb.block b hlt) h
theorem RdN.keep {N:Nat} {S:Nat -> Prop} {w w':World} {d:D} {cs:List Value} (h:RdN N w d cs) (hk:Keep S w w') (hN:N <= w.heap.size) (hs:∀ k,k < N -> ¬ S k):RdN N w' d cs:=h.below (hk.below hN hs)
theorem V.layS {S:Nat -> Prop} {w:World} {v:V} {cs:List Value} (h:RepC S w v.d cs):∃ k n e s kids v1,v = .mk k n e s kids /\ cs = [.int .i64 k,.int .i64 n,.int .i64 e,.string ⟨s.toArray⟩,v1] /\ RepC S w (.sl 5 (V.ds kids)) [v1]:=by
 obtain ⟨k,n,e,s,kids⟩:=v;simp only [V.d,RepC,RepCs,dI,dS,D.width] at h;obtain ⟨c1,r1,rfl,_,rfl,c2,r2,rfl,_,rfl,c3,r3,rfl,_,rfl,c4,r4,rfl,_,rfl,c5,r5,rfl,_,⟨a5,n5,rfl,h5⟩,rfl⟩:=h;refine ⟨k,n,e,s,kids,_,rfl,rfl,?_⟩;simp only [RepC]; exact ⟨a5,n5,rfl,h5⟩
theorem RepC.slice {S:Nat -> Prop} {w:World} {n:Nat} {es:List D} {v:Value} (h:RepC S w (.sl n es) [v]) :
  ∃ a c,v = .slice a es.length c /\ (es ≠ [] -> 0 < n /\ es.length <= c /\ c <= maxLen /\ ∃ b o,a = some ⟨b,o,none⟩ /\ S b /\
   ∀ i (hi:i < es.length),∃ cs,cs.length = n /\ RepC S w es[i] cs /\ ∀ j u,cs[j]? = some u -> w.cell? ⟨b,o + (n * i + j),none⟩ = some u):=by
 simp only [RepC] at h;obtain ⟨a,c,hv,h⟩:=h;simp only [cons.injEq,and_true] at hv;refine ⟨a,c,hv,fun hne => ?_⟩;obtain ⟨hn,h1,h2,b,o,xs,ha,hb,hx,hw,hr⟩:=h hne;refine ⟨hn,h1,h2,b,o,ha,hb,fun i hi => ?_⟩;obtain ⟨cs,hc1,hc2,hc3⟩:=hr.get hw i hi;refine ⟨cs,hc1,hc2,fun j u hj => hx _ _ ?_⟩
 have:j < cs.length:=by
  rcases Nat.lt_or_ge j cs.length with h | h
  ·exact h
  ·simp [getElem?_eq_none h] at hj
 rw [hc3 j (by omega)]; exact hj
theorem RepC.values {S:Nat -> Prop} {w:World} {ls:List V} {v:Value} (h:RepC S w (.sl 5 (V.ds ls)) [v]) :
  ∃ a c,v = .slice a ls.length c /\ (ls ≠ [] -> ls.length <= c /\ c <= maxLen /\ ∃ b o,a = some ⟨b,o,none⟩ /\ S b /\ ∀ i (hi:i < ls.length),∃ v0 v1 v2 v3 v4,RepC S w ls[i].d [v0,v1,v2,v3,v4] /\
   w.cell? ⟨b,o + i * 5,none⟩ = some v0 /\ w.cell? ⟨b,o + i * 5 + 1,none⟩ = some v1 /\ w.cell? ⟨b,o + i * 5 + 2,none⟩ = some v2 /\ w.cell? ⟨b,o + i * 5 + 3,none⟩ = some v3 /\ w.cell? ⟨b,o + i * 5 + 4,none⟩ = some v4):=by
 rw [V.ds_map] at h;obtain ⟨a,c,hv,h⟩:=RepC.slice h;rw [length_map] at hv;refine ⟨a,c,hv,fun hne => ?_⟩;obtain ⟨_,h1,h2,b,o,ha,hb,hg⟩:=h (by simpa using hne);refine ⟨by simpa using h1,h2,b,o,ha,hb,fun i hi => ?_⟩;obtain ⟨cs,hl,hr,hc⟩:=hg i (by simpa using hi);rw [getElem_map] at hr
 match cs,hl with
 | [v0,v1,v2,v3,v4],_ =>
  rw [Nat.mul_comm 5 i] at hc;exact ⟨v0,v1,v2,v3,v4,hr,hc 0 _ rfl,hc 1 _ rfl,hc 2 _ rfl,hc 3 _ rfl,hc 4 _ rfl⟩
theorem V.formS {S:Nat -> Prop} {w:World} {v:V} {cs:List Value} (h:RepC S w v.d cs):∃ k n e s a1 n1 c1,cs = [.int .i64 k,.int .i64 n,.int .i64 e,.string ⟨(s:L8).toArray⟩,.slice a1 n1 c1]:=V.form (Rd.of h)
end
section
mutual
def PC.fine (L:Nat -> Prop):PC -> Prop
 | .v _ => True
 | .bld _ _ _ _ => False
 | .anyp => True
 | .row _ _ _ => True
 | .sl t es => es = [] \/ ((t = 1 \/ L t) /\ fineLL L es)
def fineL (L:Nat -> Prop):List PC -> Prop
 | [] => True
 | c :: cs => PC.fine L c /\ fineL L cs
def fineLL (L:Nat -> Prop):LP PC -> Prop
 | [] => True
 | l :: ls => fineL L l /\ fineLL L ls
end
theorem zdr {L:Nat -> Prop}:∀ {cs:List PC} (j:Nat) (c:PC),fineL L cs -> cs[j]? = some c -> c.fine L
 | c :: cs,0,_,h,e => by simp at e; subst e; exact h.1
 | c :: cs,j + 1,_,h,e => zdr j _ h.2 (by simpa using e)
theorem zd4 {L:Nat -> Prop}:∀ {cs:LP PC} (j:Nat) (c:List PC),fineLL L cs -> cs[j]? = some c -> fineL L c
 | c :: cs,0,_,h,e => by simp at e; subst e; exact h.1
 | c :: cs,j + 1,_,h,e => zd4 j _ h.2 (by simpa using e)
mutual
theorem fine_of {L:Nat -> Prop}:∀ {c:PC},c.owned = true -> (∀ t ∈ c.toks,L t) -> c.fine L
 | .v _,_,_ => by simp only [PC.fine]
 | .bld _ _ _ _,ho,_ => by simp [PC.owned] at ho
 | .anyp,_,_ => by simp only [PC.fine]
 | .row _ _ _,_,_ => by simp only [PC.fine]
 | .sl t es,ho,h => by
  simp only [PC.owned,Bool.and_eq_true,Bool.or_eq_true,decide_eq_true_eq] at ho;simp only [PC.fine];simp only [PC.toks] at h
  rcases ho.1 with h0 | h0
  ·refine .inr ⟨?_,fineLL_of ho.2 fun s hs => h s (by split <;> simp [hs])⟩
   by_cases h2:2 <= t
   ·exact .inr (h t (by rw [if_pos h2]; simp))
   ·exact .inl (by omega)
  ·exact .inl (isEmpty_iff.1 h0)
theorem zc2 {L:Nat -> Prop}:∀ {c:List PC},ownedL c = true -> (∀ t ∈ toksL c,L t) -> fineL L c
 | [],_,_ => by simp only [fineL]
 | c :: cs,ho,h => by
  simp only [ownedL,Bool.and_eq_true] at ho;simp only [toksL,mem_append] at h;simp only [fineL];exact ⟨fine_of ho.1 fun t ht => h t (.inl ht),zc2 ho.2 fun t ht => h t (.inr ht)⟩
theorem fineLL_of {L:Nat -> Prop}:∀ {c:LP PC},ownedLL c = true -> (∀ t ∈ toksLL c,L t) -> fineLL L c
 | [],_,_ => by simp only [fineLL]
 | c :: cs,ho,h => by
  simp only [ownedLL,Bool.and_eq_true] at ho;simp only [toksLL,mem_append] at h;simp only [fineLL];exact ⟨zc2 ho.1 fun t ht => h t (.inl ht),fineLL_of ho.2 fun t ht => h t (.inr ht)⟩
end
theorem zbh {L:Nat -> Prop}:∀ vs:List Value,fineL L (vs.map .v)
 | [] => by simp only [map_nil,fineL]
 | v :: vs => by simp only [map_cons,fineL,PC.fine,true_and]; exact zbh vs
def fineV (L:Nat -> Prop):PV -> Prop
 | .d c => c.fine L
 | .ag cs => fineL L cs
 | .ref _ _ => True
 | .raw _ => True
 | _ => False
def Cx.cut (C:Cx) (S:Nat -> Prop):Cx:={ C with F:=fun b o => C.F b o /\ ¬ S b }
section
variable {E:Env} {B:Base} {C:Cx} {s:St} {a:Act} {w w':World} {S:Nat -> Prop} {L:List Nat}
theorem fine_rp (hI:Inv E.NG E.T C s.bx (· ∈ s.live) w) (hk:Keep S w w') (hS:∀ b,S b -> ∃ t ∈ s.live,C.tk t = some b /\ t ∉ L) (hL:∀ t ∈ L,t ∈ s.live) {c:PC} {v:Value} (h:RpC C w c v):c.fine (· ∈ L) -> RpC (C.cut S) w' c v:=by
 induction h with
 | v x h => intro _; exact .v x h
 | bld p T t U v h cs fz ht hv hU => intro hf; exact hf.elim
 | anyp a h => intro _; exact .anyp a h
 | row p l c h hl hc => intro _; exact .row (C:=C.cut S) p l c h hl hc
 | emp a c => intro _; exact .emp a c
 | nil => intro _; exact .nil
 | nilo t h2 ht hb => intro _; exact .nilo t h2 ht hb
 | rd es b o n c u hl hc hr h ih =>
  intro hf;simp only [PC.fine] at hf
  rcases hf with rfl | ⟨h1 | h1,_⟩
  ·exact .emp _ _
  ·cases h1
  ·have:=(hI.tok 0 (hL 0 h1)).1; omega
 | own t es b u h2 ht hb hlen hl hc hr h ih =>
  intro hf;simp only [PC.fine] at hf
  rcases hf with rfl | ⟨h1,hf⟩
  ·refine .own (C:=C.cut S) t [] b u h2 ht hb hlen hl hc ⟨hr.pos,hr.wid,fun i j hi => by simp at hi,fun i j hi => by simp at hi⟩ (fun i j e y he => by simp at he)
  ·have h1:t ∈ L:=h1.resolve_left (by omega)
   have hnS:¬ S b:=by
    intro hSb;obtain ⟨t',ht',e',hn'⟩:=hS b hSb
    have:=hI.tinj t t' b (hL t h1) ht' hb e'
    subst this; exact hn' h1
   have hlt:∀ i j,i < es.length -> j < C.tn t -> b < w.heap.size:=fun i j hi hj => hI.fin b _ (hr.fix i j hi hj)
   refine .own (C:=C.cut S) t es b u h2 ht hb hlen hl hc ⟨hr.pos,hr.wid,fun i j hi hj => ?_,fun i j hi hj => ⟨hr.fix i j hi hj,hnS⟩⟩ (fun i j e y he hy => ih i j e y he hy (zdr j y (zd4 i e hf he) hy));exact (World.cell?_of_block (a:=⟨b,0 + (C.tn t * i + j),none⟩) (hk.block b (hlt i j hi hj) hnS)).trans (hr.cell i j hi hj)
theorem fineL_rp (hI:Inv E.NG E.T C s.bx (· ∈ s.live) w) (hk:Keep S w w') (hS:∀ b,S b -> ∃ t ∈ s.live,C.tk t = some b /\ t ∉ L) (hL:∀ t ∈ L,t ∈ s.live) {cs:List PC} {vs:List Value} (h:RpL C w cs vs) (hf:fineL (· ∈ L) cs):RpL (C.cut S) w' cs vs :=
 ⟨h.1,fun j c y h1 h2 => fine_rp hI hk hS hL (h.2 j c y h1 h2) (zdr j c hf h1)⟩
theorem fineV_rp (hI:Inv E.NG E.T C s.bx (· ∈ s.live) w) (hk:Keep S w w') (hS:∀ b,S b -> ∃ t ∈ s.live,C.tk t = some b /\ t ∉ L) (hL:∀ t ∈ L,t ∈ s.live) {x:PV} {v:Value} (h:RpV C w x v) (hf:fineV (· ∈ L) x):RpV (C.cut S) w' x v:=by
 cases h with
 | d x v h => exact .d _ _ (fine_rp hI hk hS hL h hf)
 | ag cs vs h => exact .ag _ _ (fineL_rp hI hk hS hL h hf)
 | ref p o h => exact .ref (C:=C.cut S) p o h
 | raw v => exact .raw v
 | tup xs vs hl h => exact hf.elim
 | pt cs b o u hc hF h => exact hf.elim
 | fn f xs vs hl h => exact hf.elim
end
def maskB (r:Nat -> List PC):Nat -> List Bool -> LP PC -> LP PC
 | i,true :: ks,b :: bs => b :: maskB r (i + 1) ks bs
 | i,false :: ks,_ :: bs => r i :: maskB r (i + 1) ks bs
 | _,_,_ => []
def fineB (L:Nat -> Prop):List Bool -> LP PC -> Prop
 | true :: ks,b :: bs => fineL L b /\ fineB L ks bs
 | false :: ks,_ :: bs => fineB L ks bs
 | [],[] => True
 | _,_ => False
def maskT (rw:Nat -> Value) (ks:List Nat) (tm:Nat -> PV):Nat -> PV:=fun t => match ks.contains t with
 | true => tm t
 | false => .raw (rw t)
def fineT (L:Nat -> Prop) (tm:Nat -> PV):List Nat -> Prop
 | [] => True
 | t :: ts => fineV L (tm t) /\ fineT L tm ts
theorem zeX {L:Nat -> Prop} {tm:Nat -> PV}:∀ {ts:List Nat},fineT L tm ts -> ∀ t ∈ ts,fineV L (tm t)
 | x :: ts,h,t,ht => by
  rcases mem_cons.1 ht with rfl | ht
  ·exact h.1
  ·exact zeX h.2 t ht
theorem zcr {r:Nat -> List PC} {L:Nat -> Prop}:∀ {ks:List Bool} {bs:LP PC} {i:Nat},fineB L ks bs -> (maskB r i ks bs).length = bs.length /\ ∀ (p:Nat) (c:List PC),(maskB r i ks bs)[p]? = some c -> (bs[p]? = some c /\ fineL L c) \/ c = r (i + p)
 | [],[],i,h => ⟨rfl,fun p c hc => by simp [maskB] at hc⟩
 | [],_ :: _,i,h => h.elim
 | true :: ks,[],i,h => h.elim
 | false :: ks,[],i,h => h.elim
 | true :: ks,b :: bs,i,h => by
  obtain ⟨h1,h2⟩:=zcr (r:=r) (i:=i + 1) h.2;refine ⟨by simp [maskB,h1],fun p c hc => ?_⟩
  match p with
  | 0 => simp [maskB] at hc; subst hc; exact .inl ⟨rfl,h.1⟩
  | p + 1 =>
   have:=h2 p c (by simpa [maskB] using hc)
   rw [show i + (p + 1) = i + 1 + p by omega]; exact this
 | false :: ks,b :: bs,i,h => by
  obtain ⟨h1,h2⟩:=zcr (r:=r) (L:=L) (ks:=ks) (bs:=bs) (i:=i + 1) h;refine ⟨by simp [maskB,h1],fun p c hc => ?_⟩
  match p with
  | 0 => simp [maskB] at hc; subst hc; exact .inr rfl
  | p + 1 =>
   have:=h2 p c (by simpa [maskB] using hc)
   rw [show i + (p + 1) = i + 1 + p by omega]; exact this
theorem Rep.drop {E:Env} {B:Base} {C:Cx} {tm:Nat -> PV} {bx:LP PC} {nt:Nat} {live:List Nat} {a:Act} {w w':World} (h:Rep E B C ⟨tm,bx,nt,live⟩ a w) (hB:∀ t,¬ B.C.old t) (hBF:∀ b o,B.C.F b o -> b < B.w.heap.size) {S:Nat -> Prop} {L:List Nat} (hk:Keep S w w') (hS:∀ b,S b -> ∃ t ∈ live,C.tk t = some b /\ t ∉ L) (hL:∀ t ∈ L,t ∈ live)
  {kt:List Nat} {kb:List Bool} (ht:fineT (· ∈ L) tm kt) (hb:fineB (· ∈ L) kb bx):∃ rw r,Rep E B (C.cut S) ⟨maskT rw kt tm,maskB r 0 kb bx,nt,L⟩ a w' /\ ∀ p c,bx[p]? = some c -> ∃ vs:List Value,r p = vs.map .v /\ RpL C w c vs:=by
 have hI:=h.inv
 -- what the boxes hold
 have hv:∀ p,∃ vs:List Value,p < bx.length -> ∃ e,w.heap[C.bx p]? = some (.cells (toArray vs) e (0,0)) /\ ∀ c,bx[p]? = some c -> RpL C w c vs:=by
  intro p;by_cases hp:p < bx.length
  ·obtain ⟨vs,e,h1,h2⟩:=hI.box p bx[p] (getElem?_eq_getElem hp)
   exact ⟨vs,fun _ => ⟨e,h1,fun c hc => by rw [getElem?_eq_getElem hp] at hc; simp only [sI] at hc; subst hc; exact h2⟩⟩
  ·exact ⟨[],fun h => absurd h hp⟩
 obtain ⟨vb,hvb⟩:=Classical.axiomOfChoice hv
 have hnew:∀ b,S b -> B.w.heap.size <= b:=fun b hb => by
  obtain ⟨t,ht,e,_⟩:=hS b hb;exact h.ext.newT0 hB t b ht e
 have hSlt:∀ b,S b -> E.NG <= b:=fun b hb => by
  obtain ⟨t,ht,e,_⟩:=hS b hb;obtain ⟨_,_,⟨k,_⟩ | ⟨b',cur,e',c1,c2,_⟩⟩:=hI.tok t ht
  ·rw [k] at e; cases e
  ·rw [c1] at e; simp only [sI] at e; subst e; exact c2
 have hbxS:∀ p,p < bx.length -> ¬ S (C.bx p):=fun p hp hs => by
  obtain ⟨t,ht,e,_⟩:=hS _ hs;obtain ⟨_,_,⟨k,_⟩ | ⟨b',cur,e',c1,c2,c3,c4,c5,c6,c7,c8,c9,c10⟩⟩:=hI.tok t ht
  ·rw [k] at e; cases e
  ·rw [c1] at e; simp only [sI] at e; subst e; exact c10 p hp rfl
 obtain ⟨m1,m2⟩:=zcr (r:=fun p => (vb p).map PC.v) (i:=0) hb;have hbxlt:∀ p,p < bx.length -> C.bx p < w.heap.size:=fun p hp => hI.lt hp
 refine ⟨fun t => a.tmps.getD t undef,fun p => (vb p).map PC.v,⟨?_,h.nt,h.n2,?_,h.size,h.defers,fun t => ?_⟩,fun p c hc => ?_⟩
 ·refine ⟨hI.nb.trans m1.symm,fun p cs hp => ?_,fun p hp o hF => ?_,fun p hp => ?_,fun p q hp hq => ?_,fun t ht => ?_,fun t s b ht hs => hI.tinj t s b (hL t ht) (hL s hs),fun b o hF => Nat.lt_of_lt_of_le (hI.fin b o hF.1) hk.size,Nat.le_trans hI.ng hk.size,E.low w w' hI.t hk.size fun k hk' => hk.block k (Nat.lt_of_lt_of_le hk' hI.ng) (fun hs => by have:=hSlt k hs; omega)⟩
  ·have hlt:p < bx.length:=by
    rw [<- m1]
    rcases Nat.lt_or_ge p (maskB (fun p => (vb p).map PC.v) 0 kb bx).length with h' | h'
    ·exact h'
    ·have hp':(maskB (fun p => (vb p).map PC.v) 0 kb bx)[p]? = some cs:=hp
     rw [getElem?_eq_none h'] at hp'; cases hp'
   obtain ⟨e,h1,h2⟩:=hvb p hlt;refine ⟨vb p,e,(hk.block _ (hbxlt p hlt) (hbxS p hlt)).trans h1,?_⟩
   rcases m2 p cs hp with ⟨k1,k2⟩ | rfl
   ·exact fineL_rp (s:=⟨tm,bx,nt,live⟩) hI hk hS hL (h2 cs k1) k2
   ·have h3:=h2 bx[p] (getElem?_eq_getElem hlt)
    have h4:=h3.one;rw [Nat.zero_add];refine ⟨by simp,fun j c y hc hy => ?_⟩;rw [getElem?_map,hy] at hc;simp only [Option.map_some,sI] at hc; subst hc
    exact .v _ (h4 y (mem_of_getElem? hy))
  ·have hp':p < (maskB (fun p => (vb p).map PC.v) 0 kb bx).length:=hp
   rw [m1] at hp';exact hI.boxF p hp' o hF.1
  ·have hp':p < (maskB (fun p => (vb p).map PC.v) 0 kb bx).length:=hp
   rw [m1] at hp';exact hI.boxG p hp'
  ·have hp':p < (maskB (fun p => (vb p).map PC.v) 0 kb bx).length:=hp
   have hq':q < (maskB (fun p => (vb p).map PC.v) 0 kb bx).length:=hq;rw [m1] at hp' hq';exact hI.inj p q hp' hq'
  ·obtain ⟨a1,a2,a3⟩:=hI.tok t (hL t ht)
   refine ⟨a1,a2,a3.imp id ?_⟩;rintro ⟨b,cur,e,c1,c2,c3,c4,c5,c6,c7,c8,c9,c10⟩;refine ⟨b,cur,e,c1,c2,?_,c4,c5,c6,c7,c8,fun o hF => c9 o hF.1,fun p hp => ?_⟩
   ·refine (hk.block b (zao c3) fun hs => ?_).trans c3
    obtain ⟨t',ht',e',hn'⟩:=hS b hs
    have:=hI.tinj t t' b (hL t ht) ht' c1 e'
    subst this; exact hn' ht
   ·have hp':p < (maskB (fun p => (vb p).map PC.v) 0 kb bx).length:=hp
    rw [m1] at hp'; exact c10 p hp'
 ·have hE:=h.ext
  have hb0:∀ k,k < B.w.heap.size -> w'.heap[k]? = w.heap[k]?:=fun k hk' => hk.block k (Nat.lt_of_lt_of_le hk' hE.size) fun hs => by have:=hnew k hs; omega
  refine ⟨hk.os.trans hE.os,hk.tape.trans hE.tape,hk.output.trans hE.output,Nat.le_trans hE.size hk.size,fun b o hF => ⟨hE.F b o hF,fun hs => ?_⟩,⟨fun b o hF => ?_,fun k T cs fz hh => ?_⟩,fun k hk' hp ho => (hb0 k hk').trans (hE.block k hk' hp ho),hE.bx,fun b o hF => hE.newF b o hF.1,fun t b ht => hE.newT t b (hL t ht),fun p hp hp2 => ?_,hE.tk⟩
  ·have:=hBF b o hF; have:=hnew b hs; omega
  ·exact (World.cell?_of_block (a:=⟨b,o,none⟩) (hk.block b (hI.fin b o (hE.F b o hF)) fun hs => by have:=hBF b o hF; have:=hnew b hs; omega)).trans (hE.fix.1 b o hF)
  ·obtain ⟨cs',fz',h'⟩:=hE.fix.2 k T cs fz hh
   have hkl:=zao hh;exact ⟨cs',fz',(hk.block _ (zao h') fun hs => by have:=hnew k hs; omega).trans h'⟩
  ·have hp':p < (maskB (fun p => (vb p).map PC.v) 0 kb bx).length:=hp2
   rw [m1] at hp'; exact hE.newB p hp hp'
 ·simp only [maskT]
  cases hc:kt.contains t with
  | true => exact fineV_rp (s:=⟨tm,bx,nt,live⟩) hI hk hS hL (h.tm t) (zeX ht t (contains_iff_mem.1 hc))
  | false => exact .raw _
 ·have hlt:p < bx.length:=by
   rcases Nat.lt_or_ge p bx.length with h' | h'
   ·exact h'
   ·rw [getElem?_eq_none h'] at hc; cases hc
  obtain ⟨e,h1,h2⟩:=hvb p hlt;exact ⟨vb p,rfl,h2 c hc⟩
end
section
theorem zel {P:Program} {n:Nat} {ops:Array Oper}:∀ {l:List Oper} {ml:List MOpr},trOprs P n ops l = some ml -> ∀ m ∈ ml,m.c = []
 | [],ml,h => by simp only [trOprs,sI] at h; subst h; simp
 | o :: l,ml,h => by
  simp only [trOprs] at h
  split at h
  ·rename_i m r h1 h2
   simp only [sI] at h; subst h
   intro x hx
   rcases mem_cons.1 hx with rfl | hx
   ·unfold trOpr at h1
    split at h1
    ·split at h1
     ·simp only [sI] at h1; subst h1; rfl
     ·cases h1
    ·cases h1
   ·exact zel h2 x hx
  ·cases h
theorem zds {ml:List MOpr} {bs:List (List Nat)}:∀ {l:List MOpr} {j:Nat},(∀ m ∈ l,m.c = []) -> ∀ m ∈ besides ml bs j l,(m.o.isCall = true \/ m.o.isApp = true) -> m.c ≠ [.f 1]
 | [],_,_,m,h,_ => by simp [besides] at h
 | x :: r,j,hl,m,h,hc => by
  simp only [besides,mem_cons] at h
  rcases h with rfl | h
  ·have h0:=hl x (by simp)
   unfold beside at hc ⊢
   split at hc
   ·rename_i hs
    have:x.o.isCall = false /\ x.o.isApp = false:=by cases ho:x.o <;> rw [ho] at hs <;> first | exact ⟨rfl,rfl⟩ | cases hs
    rw [show ({ x with c:=_ }:MOpr).o = x.o from rfl,this.1,this.2] at hc; rcases hc with hc | hc <;> cases hc
   ·rename_i hs
    rw [if_neg hs];split
    ·simp
    ·split
     ·simp
     ·rw [h0]; simp
  ·exact zds (fun m hm => hl m (by simp [hm])) m h hc
section
variable {E:Env} {B:Base} {C:Cx} {s:St} {a:Act} {w:World}
theorem op_callX {ops:Array Oper} {o:Oper} {d f:Nat} {xs:List X} {g:Option (Nat × Bool)} {cc:List X} (ht:TrO E.P B.n ops o ⟨some d,.call f xs,g,cc⟩) (h:Rep E B C s a w) {KC:Act -> World -> Prop}
  (hc:∀ vs:List Value,vs.length = (xs.map (ev s.tm)).length -> (∀ (j:Nat) (x:PV) (y:Value),(xs.map (ev s.tm))[j]? = some x -> vs[j]? = some y -> RpV C w x y) -> Calls E.P f vs.toArray w fun e w' => ∃ u,e = .returned u /\ KC (a.put (some d) u) w') (Q:Exit -> Act -> World -> Prop):o.wp E.P a w KC Q:=by
 obtain ⟨t1,t2,t3,t4,t5⟩:=ht;obtain ⟨dst,op,ty,pos,after,guard⟩:=o;simp only at t1 t2 t3 t4 t5;subst t3
 rcases t1 with t1 | ⟨_,_,_,h'⟩
 case inr => cases h'
 have hop:∃ c,op = .call c /\ c.callee = .value (.func f) /\ trXs c.args.toList = some xs:=by
  cases op <;> simp only [trOp] at t1 <;> (try (cases t1; done))
  case call c =>
   refine ⟨c,rfl,?_⟩
   split at t1
   ·rename_i f' hcal
    cases hx:trXs c.args.toList with
    | none => rw [hx] at t1; cases t1
    | some ys => rw [hx] at t1; simp only [Option.map_some,sI,MO.call.injEq] at t1; obtain ⟨rfl,rfl⟩:=t1; exact ⟨hcal,rfl⟩
   all_goals exfalso
   all_goals ((repeat' split at t1) <;> first | contradiction | (cases t1; done) | (simp at t1; done))
  all_goals exfalso
  all_goals ((repeat' split at t1) <;> first | contradiction | (cases t1; done) | (simp at t1; done))
 obtain ⟨c,rfl,hcc,hxs⟩:=hop;obtain ⟨k1,k2⟩:=zfM h hxs
 have hrun:(execOp a.eval { dst:=some d,op:=.call c,type:=ty,pos:=pos,after:=after,guard:=guard }).run E.P w = .ok (.enter f (c.args.toList.map a.eval).toArray) w:=by
  simp [execOp,resolve,hcc,Act.eval,Deferred.ofValue,invoke];rw [zbK t4,<- Array.toList_map,Array.toArray_toList]
 unfold Oper.wp;rw [hrun];refine (hc _ k1 k2).mono ?_;rintro e w' ⟨u,rfl,hk⟩;exact hk
theorem zbQ {ops:Array Oper} {Q:Exit -> Act -> World -> Prop} {K:St -> Prop} {l2:List Nat}:∀ (l:List Nat) (ml:List MOpr) {C:Cx} {s:St} {a:Act} {w:World},ml.length = l.length -> (∀ (k:Nat) (i:Nat) (mo:MOpr),l[k]? = some i -> ml[k]? = some mo -> ∃ o,ops[i]? = some o /\ TrO E.P B.n ops o mo) ->
  Rep E B C s a w -> po E ml K s -> (∀ C' s' a' w',Rep E B C' s' a' w' -> K s' -> wpOps E.P ops Q l2 a' w') -> wpOps E.P ops Q (l ++ l2) a w
 | [],[],C,s,a,w,_,_,h,hp,hK => hK C s a w h hp
 | i :: l,mo :: ml,C,s,a,w,hl,ht,h,hp,hK => by
  obtain ⟨o,ho,htr⟩:=ht 0 i mo rfl rfl;obtain ⟨t1,t2,t3,t4,t5⟩:=id htr;obtain ⟨g,hg,hp⟩:=hp;have hw:=zbr h t2 hg;have hrec:=fun C' s' a' w' (hr:Rep E B C' s' a' w') (hp':po E ml K s') => zbQ l ml (by simpa using hl) (fun k i mo h1 h2 => ht (k + 1) i mo (by simpa using h1) (by simpa using h2)) hr hp' hK
  simp only [cons_append,wpOps,ho,hw]
  rcases hp with ⟨rfl,hp⟩ | ⟨rfl,hp⟩
  ·rw [if_pos rfl]
   exact .inl (zby htr h hp hrec Q)
  ·rw [if_neg (by decide)]
   refine hrec C _ _ w (h.put t5 (.tup [] [] rfl (fun j x y h => by simp at h))) ?_
   rw [<- t3]; exact hp
 | [],_ :: _,_,_,_,_,hl,_,_,_,_ => by simp at hl
 | _ :: _,[],_,_,_,_,hl,_,_,_,_ => by simp at hl
end
def XCall (E:Env) (B:Base) (f:Nat) (xs:List PV) (d:Nat) (K:St -> Prop) (s:St):Prop:=∀ (C:Cx) (a:Act) (w:World) (vs:List Value),Rep E B C s a w -> vs.length = xs.length -> (∀ (j:Nat) (x:PV) (y:Value),xs[j]? = some x -> vs[j]? = some y -> RpV C w x y) ->
 Calls E.P f vs.toArray w fun e w' => ∃ u C' s' x,e = .returned u /\ Rep E B C' s' a w' /\ RpV C' w' x u /\ K (s'.put (some d) x)
theorem zem {E:Env} {B:Base} {pre suf:List MOpr} {d f:Nat} {xs:List X} {Q:Exit -> St -> Prop} {s:St} (h:po E pre (fun s1 => XCall E B f (xs.map (ev s1.tm)) d (fun s2 => po E suf (Q .normal) s2) s1) s):mw E B (.ops (pre ++ ⟨some d,.call f xs,none,[.f 1]⟩ :: suf)) Q s:=by
 intro c hc C ac w hr;obtain ⟨h',_⟩ | ⟨id,ops,dr,_,h',rfl,k⟩ | ⟨_,_,_,_,h',_⟩ | ⟨_,_,_,_,_,_,h',_⟩ | ⟨_,_,_,h',_⟩ | ⟨_,_,h',_⟩ | ⟨_,h',_⟩ | ⟨h',_⟩ | ⟨_,_,_,h',_⟩:=zbM hc <;> try (cases h'; done)
 simp only [M.ops.injEq] at h'; subst h'
 unfold trR at k
 split at k
 ·rename_i ml hml
  obtain ⟨m1,m2⟩:=zbf hml;have mc:=zel hml;have hsz:ops.size = ml.length:=by rw [m1,Array.length_toList]
  cases dr with
  | true =>
   exfalso;simp only [if_true] at k
   split at k
   ·simp only [sI] at k
    have hmem:(⟨some d,.call f xs,none,[.f 1]⟩:MOpr) ∈ pre ++ ⟨some d,.call f xs,none,[.f 1]⟩ :: suf:=by simp
    rw [<- k,mem_filterMap] at hmem;obtain ⟨i,_,hi⟩:=hmem;refine zds (l:=ml.map (toQuiet ml)) (fun m hm => ?_) _ (mem_of_getElem? hi) (.inl rfl) rfl;obtain ⟨m0,hm0,rfl⟩:=mem_map.1 hm
    have:=mc m0 hm0
    unfold toQuiet; split
    ·split
     ·exact this
     ·exact this
    ·exact this
   ·cases k
  | false =>
   simp only [Bool.false_eq_true,if_false,sI] at k;refine wp_region ?_
   have htr0:∀ (o:Oper) (m:MOpr),TrO E.P B.n ops o m -> TrO E.P B.n ops o (markCall m):=by
    intro o m ht;unfold markCall; split <;> exact ht
   have key:∀ (i:Nat) (mo:MOpr),(pre ++ ⟨some d,.call f xs,none,[.f 1]⟩ :: suf)[i]? = some mo -> ∃ o,ops[i]? = some o /\ TrO E.P B.n ops o mo:=by
    intro i mo hi;rw [<- k,getElem?_map] at hi;obtain ⟨mo0,h3,rfl⟩:=Option.map_eq_some_iff.1 hi
    have hlt:i < ops.size:=by
     rw [hsz]
     rcases Nat.lt_or_ge i ml.length with h | h
     ·exact h
     ·rw [getElem?_eq_none h] at h3; cases h3
    exact ⟨ops[i],Array.getElem?_eq_getElem hlt,htr0 _ _ (zbq (m2 i ops[i] mo0 (by simp [hlt]) h3))⟩
   have hlen:ops.size = pre.length + (suf.length + 1):=by
    have:=congrArg length k
    rw [length_map,length_append,length_cons] at this; omega
   have hrange:range ops.size = range pre.length ++ (pre.length :: (range suf.length).map (· + (pre.length + 1))):=by
    rw [hlen,range_add,Nat.add_comm suf.length 1,range_add,map_append,map_map];simp only [range_one,map_cons,map_nil,Nat.add_zero,singleton_append]
    congr 2
    refine map_congr_left fun x _ => ?_
    simp only [Function.comp_apply]; omega
   rw [hrange];refine zbQ (B:=B) (range pre.length) pre (by simp) (fun q i mo h1 h2 => ?_) hr h ?_
   ·have hq:q < pre.length:=by
     rcases Nat.lt_or_ge q pre.length with h | h
     ·exact h
     ·rw [getElem?_eq_none h] at h2; cases h2
    rw [getElem?_range hq] at h1; simp only [sI] at h1; subst h1
    exact key q mo (by rw [getElem?_append_left hq]; exact h2)
   ·intro C1 s1 a1 w1 hr1 hx
    obtain ⟨o,ho,htr⟩:=key pre.length _ (by rw [getElem?_append_right lR,Nat.sub_self]; rfl);have hw:=zbr hr1 htr.2.1 (b:=true) rfl;have t5:=htr.2.2.2.2;have t3:=htr.2.2.1;simp only [wpOps,ho,hw,if_true];refine .inl (op_callX htr hr1 (fun vs hl hv => ?_) _);refine (hx C1 a1 w1 vs hr1 hl hv).mono ?_;rintro e w' ⟨u,C',s',x,rfl,hr',hx',hk⟩;refine ⟨u,rfl,?_⟩;have hdlt:∀ t,some d = some t -> t < B.n:=fun t ht => t5 t (by rw [<- t3]; exact ht)
    refine zc0 (B:=B) _ suf (by simp) (fun q i mo h1 h2 => ?_) (hr'.put hdlt hx') hk (fun C2 s2 a2 w2 hr2 hk2 => ⟨C2,s2,hr2,hk2⟩)
    have hq:q < suf.length:=by
     rcases Nat.lt_or_ge q suf.length with h | h
     ·exact h
     ·rw [getElem?_eq_none h] at h2; cases h2
    rw [getElem?_map,getElem?_range hq] at h1;simp only [Option.map_some,sI] at h1; subst h1
    refine key _ mo ?_;rw [getElem?_append_right (by omega),show q + (pre.length + 1) - pre.length = q + 1 by omega];simpa using h2
 ·cases k
/-! ### A mark -/
def simV (v v':Value):Prop:=v = v' \/ ∃ a c a' c',v = .slice a 0 c /\ v' = .slice a' 0 c'
theorem rp_empty {C:Cx} {w:World} {t:Nat} {v:Value} (h:RpC C w (.sl t []) v):∃ a c,v = .slice a 0 c:=by
 cases h with
 | emp a c => exact ⟨a,c,rfl⟩
 | nil => exact ⟨none,0,rfl⟩
 | nilo _ _ _ => exact ⟨none,0,rfl⟩
 | rd _ b o n c u => exact ⟨_,_,rfl⟩
 | own => exact ⟨_,_,rfl⟩
theorem rp_sim {C:Cx} {w:World} {c:PC} {v v':Value} (h:RpC C w c v) (h':RpC C w c v') (ho:c.owned = true):simV v v':=by
 match c,h,h',ho with
 | .v x,h,h',_ => cases h; cases h'; exact .inl rfl
 | .bld p T t U,h,h',ho => simp [PC.owned] at ho
 | .anyp,h,h',ho => simp [PC.owned] at ho
 | .row _ _ _,h,h',ho => simp [PC.owned] at ho
 | .sl t [],h,h',_ =>
  obtain ⟨a,c,e⟩:=rp_empty h; obtain ⟨a',c',e'⟩:=rp_empty h'
  exact .inr ⟨a,c,a',c',e,e'⟩
 | .sl t (r :: es),h,h',ho =>
  simp only [PC.owned,isEmpty_cons,Bool.or_false,Bool.and_eq_true,decide_eq_true_eq] at ho
  cases h with
  | rd => exact absurd rfl ho.1
  | own _ _ b u h2 ht hb =>
   cases h' with
   | rd => omega
   | own _ _ b' u' _ _ hb' => rw [hb] at hb'; simp only [sI] at hb'; subst hb'; exact .inl rfl
theorem zd5:∀ (cs:List PC) (j:Nat) (h:j < cs.length),ownedL cs = true -> cs[j].owned = true
 | c :: cs,0,_,ho => by simp only [ownedL,Bool.and_eq_true] at ho; exact ho.1
 | c :: cs,j + 1,h,ho => by simp only [ownedL,Bool.and_eq_true] at ho; exact zd5 cs j (by simpa using h) ho.2
theorem rpL_sim {C:Cx} {w:World} {cs:List PC} {vs vs':List Value} (h:RpL C w cs vs) (h':RpL C w cs vs') (ho:ownedL cs = true):vs.length = vs'.length /\ ∀ (j:Nat) (y y':Value),vs[j]? = some y -> vs'[j]? = some y' -> simV y y':=by
 refine ⟨h.1.trans h'.1.symm,fun j y y' e e' => ?_⟩
 have hlt:j < cs.length:=by
  rw [<- h.1]
  rcases Nat.lt_or_ge j vs.length with h | h
  ·exact h
  ·rw [getElem?_eq_none h] at e; cases e
 have ho':cs[j].owned = true:=zd5 cs j hlt ho;exact rp_sim (h.2 j _ y (getElem?_eq_getElem hlt) e) (h'.2 j _ y' (getElem?_eq_getElem hlt) e') ho'
mutual
def D.pl:D -> Prop
 | .one v => ∀ a c,v ≠ .slice a 0 c
 | .agg fs => D.pls fs
 | .sl _ _ => True
def D.pls:List D -> Prop
 | [] => True
 | d :: ds => D.pl d /\ D.pls ds
end
mutual
theorem tree_sim {w:World}:∀ {d:D} {fp:List Nat} {vs vs':List Value},TreeC w d fp vs -> d.pl -> vs.length = vs'.length -> (∀ (j:Nat) (y y':Value),vs[j]? = some y -> vs'[j]? = some y' -> simV y y') -> ∃ fp',fp'.Sublist fp /\ TreeC w d fp' vs'
 | .one v,fp,vs,vs',h,hp,hl,hs => by
  simp only [TreeC] at h ⊢; obtain ⟨rfl,rfl⟩:=h
  match vs',hl with
  | [v'],_ =>
   rcases hs 0 v v' rfl rfl with rfl | ⟨a,c,a',c',e,e'⟩
   ·exact ⟨[],Sublist.refl _,rfl,rfl⟩
   ·simp only [D.pl] at hp; exact absurd e (hp a c)
 | .agg fs,fp,vs,vs',h,hp,hl,hs => by
  simp only [TreeC] at h ⊢; simp only [D.pl] at hp; exact trees_sim h hp hl hs
 | .sl n es,fp,vs,vs',h,hp,hl,hs => by
  simp only [TreeC] at h ⊢;obtain ⟨a,c,rfl,h⟩:=h
  match vs',hl with
  | [v'],_ =>
   rcases hs 0 _ v' rfl rfl with rfl | ⟨a1,c1,a',c',e,e'⟩
   ·exact ⟨fp,Sublist.refl _,a,c,rfl,h⟩
   ·simp only [Value.slice.injEq] at e
    have hes:es = []:=eq_nil_of_length_eq_zero e.2.1;subst hes;exact ⟨[],nil_sublist _,a',c',by rw [e']; rfl,.inl ⟨rfl,rfl⟩⟩
theorem trees_sim {w:World}:∀ {ds:List D} {fp:List Nat} {vs vs':List Value},TreeCs w ds fp vs -> D.pls ds -> vs.length = vs'.length -> (∀ (j:Nat) (y y':Value),vs[j]? = some y -> vs'[j]? = some y' -> simV y y') -> ∃ fp',fp'.Sublist fp /\ TreeCs w ds fp' vs'
 | [],fp,vs,vs',h,hp,hl,hs => by
  simp only [TreeCs] at h ⊢; obtain ⟨rfl,rfl⟩:=h
  exact ⟨[],Sublist.refl _,rfl,eq_nil_of_length_eq_zero (by simpa using hl.symm)⟩
 | d :: ds,fp,vs,vs',h,hp,hl,hs => by
  simp only [TreeCs] at h ⊢; obtain ⟨f1,f2,c1,c2,rfl,rfl,hw,h1,h2⟩:=h
  simp only [D.pls] at hp;rw [length_append] at hl;have hl1:(vs'.take c1.length).length = c1.length:=by rw [length_take]; omega
  have hl2:(vs'.drop c1.length).length = c2.length:=by rw [length_drop]; omega
  obtain ⟨g1,s1,t1⟩:=tree_sim h1 hp.1 hl1.symm (fun j y y' e e' => by
   rw [getElem?_take] at e'
   split at e'
   ·rename_i hj
    exact hs j y y' (by rw [getElem?_append_left hj]; exact e) e'
   ·cases e')
  obtain ⟨g2,s2,t2⟩:=trees_sim h2 hp.2 hl2.symm (fun j y y' e e' => by
   rw [getElem?_drop] at e';exact hs (c1.length + j) y y' (by rw [getElem?_append_right (by omega),Nat.add_sub_cancel_left]; exact e) e')
  exact ⟨g1 ++ g2,s1.append s2,g1,g2,vs'.take c1.length,vs'.drop c1.length,rfl,by simp,by rw [hl1]; exact hw,t1,t2⟩
end
end
section
theorem Rep.nameBox {E:Env} {B:Base} {C:Cx} {tm:Nat -> PV} {bx:LP PC} {nt:Nat} {live:List Nat} {a:Act} {w:World} (hr:Rep E B C ⟨tm,bx,nt,live⟩ a w) {p:Nat} {vs:List Value} (hp:bx[p]? = some (vs.map .v)) {d:D} {fp:List Nat} (ht:TreeC w d fp vs) (hd:d.wf) (hn:fp.Nodup) (hf:Fr E.NG C bx live fp) (hnew:∀ b ∈ fp,B.w.heap.size <= b) :
  ∃ cs' nt' C',erL cs' = d.pc /\ ownedL cs' = true /\ (toksL cs').Nodup /\ (∀ t ∈ toksL cs',nt <= t /\ t < nt') /\ nt <= nt' /\ Rep E B C' ⟨tm,bx.set p cs',nt',toksL cs' ++ live⟩ a w:=by
 have h2:2 <= C.nt:=by have h1:=hr.nt; have h2:=hr.n2; simp only at h1 h2; omega
 have hnt:C.nt = nt:=hr.nt;obtain ⟨C',cs',new,k1,k2,k3,k4⟩:=zcq ht hd hn hr.inv h2 hf
 have hplt:p < bx.length:=by
  rcases Nat.lt_or_ge p bx.length with h' | h'
  ·exact h'
  ·rw [getElem?_eq_none h'] at hp; cases hp
 have hsub:∀ t,t ∈ toksL cs' ++ live -> t ∈ new ++ live:=fun t ht => by
  rcases mem_append.1 ht with ht | ht
  ·simp [k1.sub t ht]
  ·simp [ht]
 refine ⟨cs',C'.nt,C',k3,k4,k1.nd,fun t ht => hnt ▸ k1.rng t (k1.sub t ht),by rw [<- hnt]; exact k1.le.nt,⟨?_,rfl,by have:=k1.le.nt; show 2 <= C'.nt; omega,?_,hr.size,hr.defers,fun t => (hr.tm t).frame k1.le (Fix.refl _ _)⟩⟩
 ·have hI:=k1.inv
  refine ⟨by simpa using hI.nb,fun q cs hq => ?_,fun q hq => hI.boxF q (by simpa using hq),fun q hq => hI.boxG q (by simpa using hq),fun q q' h1 h2 => hI.inj q q' (by simpa using h1) (by simpa using h2),fun t ht => ?_,fun t s b ht hs => hI.tinj t s b (hsub t ht) (hsub s hs),hI.fin,hI.ng,hI.t⟩
  ·by_cases he:p = q
   ·subst he
    have hq':(bx.set p cs')[p]? = some cs:=hq;rw [getElem?_set_self hplt] at hq'; simp only [sI] at hq'; subst hq'
    obtain ⟨us,e,h1,h3⟩:=hI.box p _ hp;refine ⟨us,e,h1,?_⟩
    have:us = vs:=by
     refine ext_getElem (by rw [h3.1]; simp) fun j h4 h5 => ?_
     have:=h3.2 j (.v vs[j]) us[j] (by simp) (by simp)
     generalize us[j] = x at this; generalize vs[j] = y at this
     cases this; rfl
    rw [this]; exact k2
   ·have hq':(bx.set p cs')[q]? = some cs:=hq
    rw [getElem?_set_ne he] at hq';exact hI.box q cs hq'
  ·obtain ⟨a1,a2,a3⟩:=hI.tok t (hsub t ht)
   refine ⟨a1,a2,a3.imp id ?_⟩;rintro ⟨b,cur,e,c1,c2,c3,c4,c5,c6,c7,c8,c9,c10⟩;exact ⟨b,cur,e,c1,c2,c3,c4,c5,c6,c7,c8,c9,fun q hq => c10 q (by simpa using hq)⟩
 ·have hE:=hr.ext
  have hnb:C.nb = bx.length:=hr.inv.nb;refine ⟨hE.os,hE.tape,hE.output,hE.size,fun b o hF => k1.le.F b o (hE.F b o hF),hE.fix,hE.block,⟨Nat.le_trans hE.bx.1 k1.le.nb,fun q hq => (k1.le.bx q (Nat.lt_of_lt_of_le hq hE.bx.1)).trans (hE.bx.2 q hq)⟩,fun b o hF => ?_,fun t b ht hb => ?_,fun q hq hq2 => ?_,⟨Nat.le_trans hE.tk.1 k1.le.nt,fun t ht => ?_⟩⟩
  ·rcases k1.F b o hF with h | h
   ·exact hE.newF b o h
   ·exact .inr (.inl (hnew b h))
  ·rcases mem_append.1 ht with ht | ht
   ·obtain ⟨b',hb',e'⟩:=k1.tkb t (k1.sub t ht)
    rw [e'] at hb; simp only [sI] at hb; subst hb; exact .inl (hnew b' hb')
   ·rw [(k1.le.tk t (hr.inv.tok t ht).2.1).1] at hb
    exact hE.newT t b ht hb
  ·have hq':q < bx.length:=by simpa using hq2
   rw [k1.le.bx q (by rw [hnb]; exact hq')]; exact hE.newB q hq hq'
  ·obtain ⟨a1,a2,a3,a4⟩:=hE.tk.2 t ht
   obtain ⟨b1,b2,b3,b4⟩:=k1.le.tk t (Nat.lt_of_lt_of_le ht hE.tk.1);exact ⟨b1.trans a1,b2.trans a2,b3.trans a3,b4.trans a4⟩
def MarkC (E:Env) (f:Nat) (d d':D) (k r:Int):Prop:=∀ (W:World) (fp:List Nat) (vs:List Value),TreeC W d fp vs -> fp.Nodup -> Calls E.P f #[.agg vs.toArray,.int .i64 k] W fun e w' => e = .returned (.int .i64 r) /\ Keep (· ∈ fp) W w' /\ TreeC w' d' fp vs
section
variable {E:Env} {B:Base} {f:Nat} {tm:Nat -> PV} {bx:LP PC} {nt:Nat} {live:List Nat} {cs:List PC} {k r:Int} {d:Nat} {dd dd':D} {K:St -> Prop} {L:List Nat} {kt:List Nat} {kb:List Bool}
theorem xcall_drop (hM:MarkC E f dd dd' k r) (hB:∀ t,¬ B.C.old t) (hBF:∀ b o,B.C.F b o -> b < B.w.heap.size) (hdd:dd.wf) (he:erL cs = dd.pc) (ho:ownedL cs = true) (hnd:(toksL cs).Nodup) (hsub:∀ t ∈ toksL cs,t ∈ live)
  (hL:∀ t ∈ L,t ∈ live /\ t ∉ toksL cs) (ht:fineT (· ∈ L) tm kt) (hb:fineB (· ∈ L) kb bx)
  (h:∀ rw r',K ⟨up d (.d (.v (.int .i64 r))) (maskT rw kt tm),maskB r' 0 kb bx,nt,L⟩):XCall E B f [.ag cs,.d (.v (.int .i64 k))] d K ⟨tm,bx,nt,live⟩:=by
 intro C a w vs hr hl hv
 match vs,hl with
 | [v1,v2],_ =>
  have h1:=hv 0 _ _ rfl rfl;have h2:=hv 1 _ _ rfl rfl
  cases h1 with
  | ag _ us hus =>
   have h2':v2 = .int .i64 k:=by cases h2 with | d _ _ h => cases h; rfl
   subst h2'
   obtain ⟨fp,n1,n2,n3⟩:=zcG (Tks.of hr.inv) he hdd ho hus hsub hnd;refine (hM w fp us n3 n1).mono ?_;rintro e w' ⟨rfl,hk,_⟩
   obtain ⟨rw,r',hr',_⟩:=hr.drop hB hBF hk (L:=L) (fun b hb' => by
    obtain ⟨t,t1,t2⟩:=n2 b hb';exact ⟨t,hsub t t1,t2,fun h => (hL t h).2 t1⟩) (fun t h => (hL t h).1) ht hb
   exact ⟨_,_,_,.d (.v (.int .i64 r)),rfl,hr',.d _ _ (.v _ rfl),by rw [za1]; exact h rw r'⟩
theorem xcall_redo {p:Nat} (hM:MarkC E f dd dd' k r) (hB:∀ t,¬ B.C.old t) (hBF:∀ b o,B.C.F b o -> b < B.w.heap.size) (hdd:dd.wf) (hdd':dd'.wf) (hpl:dd'.pl) (he:erL cs = dd.pc) (ho:ownedL cs = true) (hnd:(toksL cs).Nodup) (hsub:∀ t ∈ toksL cs,t ∈ live)
  (hL:∀ t ∈ L,t ∈ live /\ t ∉ toksL cs) (ht:fineT (· ∈ L) tm kt) (hb:fineB (· ∈ L) kb bx) (hp:bx[p]? = some cs) (hkp:∀ r',(maskB r' 0 kb bx)[p]? = some (r' p))
  (h:∀ rw r' cs' nt',erL cs' = dd'.pc -> ownedL cs' = true -> (toksL cs').Nodup -> (∀ t ∈ toksL cs',nt <= t /\ t < nt') -> nt <= nt' -> K ⟨up d (.d (.v (.int .i64 r))) (maskT rw kt tm),(maskB r' 0 kb bx).set p cs',nt',toksL cs' ++ L⟩):XCall E B f [.ag cs,.d (.v (.int .i64 k))] d K ⟨tm,bx,nt,live⟩:=by
 intro C a w vs hr hl hv
 match vs,hl with
 | [v1,v2],_ =>
  have h1:=hv 0 _ _ rfl rfl;have h2:=hv 1 _ _ rfl rfl
  cases h1 with
  | ag _ us hus =>
   have h2':v2 = .int .i64 k:=by cases h2 with | d _ _ h => cases h; rfl
   subst h2'
   obtain ⟨fp,n1,n2,n3⟩:=zcG (Tks.of hr.inv) he hdd ho hus hsub hnd;refine (hM w fp us n3 n1).mono ?_;rintro e w' ⟨rfl,hk,htr⟩
   have hS:∀ b,b ∈ fp -> ∃ t ∈ live,C.tk t = some b /\ t ∉ L:=fun b hb' => by
    obtain ⟨t,t1,t2⟩:=n2 b hb';exact ⟨t,hsub t t1,t2,fun h => (hL t h).2 t1⟩
   obtain ⟨rw,r',hr',hvb⟩:=hr.drop hB hBF hk (L:=L) hS (fun t h => (hL t h).1) ht hb;obtain ⟨us',e1,e2⟩:=hvb p cs hp;obtain ⟨s1,s2⟩:=rpL_sim hus e2 ho;obtain ⟨fp',f1,f2⟩:=tree_sim htr hpl s1 s2;have hfp:∀ b ∈ fp',b ∈ fp:=fun b hb' => f1.subset hb'
   obtain ⟨cs',nt',C',q1,q2,q3,q4,q5,q6⟩:=hr'.nameBox (p:=p) (vs:=us') (by rw [<- e1]; exact hkp r') f2 hdd' (n1.sublist f1) (fun b hb' => by
    obtain ⟨t,t1,t2,t3⟩:=hS b (hfp b hb');have tok:=hr.inv.tok t t1;obtain ⟨_,_,⟨k0,_⟩ | ⟨b',cur,e',c1,c2,c3,c4,c5,c6,c7,c8,c9,c10⟩⟩:=tok
    ·rw [k0] at t2; cases t2
    ·rw [c1] at t2; simp only [sI] at t2; subst t2
     refine ⟨c2,fun o hF => hF.2 (hfp _ hb'),fun q hq => ?_,fun s hs hsb => ?_⟩
     ·obtain ⟨m1,_⟩:=zcr (r:=r') (i:=0) hb
      exact c10 q (by rw [<- m1]; exact hq)
     ·have:=hr.inv.tinj t s _ t1 (hL s hs).1 c1 hsb
      subst this; exact t3 hs) (fun b hb' => by
    obtain ⟨t,t1,t2,_⟩:=hS b (hfp b hb');exact hr.ext.newT0 hB t b t1 t2)
   exact ⟨_,_,_,.d (.v (.int .i64 r)),rfl,q6,.d _ _ (.v _ rfl),by rw [za1]; exact h rw r' cs' nt' q1 q2 q3 q4 q5⟩
end
end
section
section
variable {P:Program} {NG:Nat} {T:World -> Prop}
theorem zbs {w:World} {ops:Array Oper} {rest:List Oper} {o:Oper} {a:Act} {Q:Exit -> Act -> World -> Prop} (hgd:o.guard = none) (sl x:Operand) (t u:TypeId)
  (ho:o.op = .call { callee:=.builtin .append,args:=#[sl,x],argTypes:=#[t,u] }) (v y v':Value) (w':World) (hs:a.eval sl = v) (hx:a.eval x = y) (hr:(Builtin.append_ #[t,u] o.type #[v,y]).run P w = .ok v' w') (h:wpList P ops Q rest (a.put o.dst v') w'):wpList P ops Q (o :: rest) a w:=by
 refine wpList_plain hgd fun K hK => ?_
 unfold Oper.wp execOp;simp only [ho,resolve,invoke,builtin,Sem.run_bind,Sem.run_pure,Result.andThen_ok,map_toArray,map_cons,map_nil,hs,hx,hr];exact hK _ _ h
end
end
section
theorem Inv.belowW {NG:Nat} {T:World -> Prop} (hL:Low NG T) {C:Cx} {bx:LP PC} {live:Nat -> Prop} {w w':World} (hI:Inv NG T C bx live w) (hb:Below w.heap.size w w'):Inv NG T C bx live w' /\ Fix C w w':=by
 have blk:∀ k,k < w.heap.size -> w'.heap[k]? = w.heap[k]?:=hb.block;have hF:Fix C w w':=.of (fun b o hF => World.cell?_of_block (a:=⟨b,o,none⟩) (blk b (hI.fin b o hF))) blk;refine ⟨⟨hI.nb,fun q cs hq => ?_,hI.boxF,hI.boxG,hI.inj,fun t ht => ?_,hI.tinj,fun b o h => Nat.lt_of_lt_of_le (hI.fin b o h) hb.size,Nat.le_trans hI.ng hb.size,hL w w' hI.t hb.size (fun k hk => blk k (Nat.lt_of_lt_of_le hk hI.ng))⟩,hF⟩
 ·obtain ⟨vs,e,h1,h2⟩:=hI.box q cs hq
  exact ⟨vs,e,by rw [blk _ (zao h1)]; exact h1,h2.frame (CxLe.refl C) hF⟩
 ·obtain ⟨a,b,c⟩:=hI.tok t ht
  exact ⟨a,b,c.imp id fun ⟨b,cur,e,k1,k2,k3,rest⟩ => ⟨b,cur,e,k1,k2,by rw [blk _ (zao k3)]; exact k3,rest⟩⟩
end
section
open Go.Lib (validD)
def keyOk (k:L8):Bool:=decide (k.length <= 100) && validD k
def keysOk (ks:List (L8)):Bool:=ks.all keyOk && decide ks.Nodup
def Sh.fields (ks:List (L8)) (m:Int) (n:Nat):Bool:=keysOk ks && (decide (n = ks.length) && (decide (0 <= m) && decide (m <= ks.length)))
def Sh.self:Sh -> Bool
 | .mk k l h ks m kids =>
  if k = 8 then decide (l = 0) && (decide (h = 0) && Sh.fields ks m kids.length)
  else if k = 3 \/ k = 5 \/ k = 6 then decide (ks = []) && (decide (m = 0) && decide (kids = []))
  else if k = 7 then decide (ks = []) && (decide (m = 0) && decide (kids.length = 1))
  else if k = 9 then decide (l = 0) && (decide (h = 0) && (decide (ks = []) && (decide (m = 0) && decide (2 <= kids.length))))
  else if k = 0 \/ k = 1 \/ k = 2 \/ k = 4 then decide (l = 0) && (decide (h = 0) && (decide (ks = []) && (decide (m = 0) && decide (kids = []))))
  else false
mutual
def Sh.right:Int -> Sh -> Bool
 | d,.mk k l h ks m kids => Sh.rights (d - 1) kids && (decide (0 <= d) && Sh.self (.mk k l h ks m kids))
def Sh.rights:Int -> List Sh -> Bool
 | _,[] => true
 | d,v :: vs => Sh.right d v && Sh.rights d vs
end
def Sh.ok (v:Sh):Bool:=Sh.right 8 v && decide (v.nodes <= 100)
end
section
def inR (n a b:Int):Bool:=decide (a <= n) && decide (n <= b)
theorem zaF {n a b:Int} (h:a <= n /\ n <= b):inR n a b = true:=by simp [inR,h]
theorem za2 {n a b:Int} (h:¬ (a <= n /\ n <= b)):inR n a b = false:=by simp only [inR,Bool.and_eq_false_iff,decide_eq_false_iff_not]; omega
theorem zbY (n a b:Int) (w:World) :
  Calls Tryz.prog 89 #[.int .i64 n,.int .i64 a,.int .i64 b] w fun e w' => e = .returned (.bool (inR n a b)) /\ w = w':=by
 by_cases h1:a <= n
 ·go_enter Tryz.func89,Tryz.ntmps89
  go_wp2;go_ret;exact ⟨by simp [inR,h1],rfl⟩
 ·have H:=Lib.hid (za2 (n:=n) (a:=a) (b:=b) (by omega))
  go_enter Tryz.func89,Tryz.ntmps89
  go_wp2;go_ret;exact ⟨by rw [H.out]; rfl,rfl⟩
theorem zaG (n a b:Int) (w:World) :
  Calls Tryz.prog 83 #[.int .i64 n,.int .i64 a,.int .i64 b] w fun e w' => e = .returned (.bool (inR n a b)) /\ w = w':=by
 by_cases h1:a <= n
 ·go_enter Tryz.func83,Tryz.ntmps83
  go_wp2;go_ret;exact ⟨by simp [inR,h1],rfl⟩
 ·have H:=Lib.hid (za2 (n:=n) (a:=a) (b:=b) (by omega))
  go_enter Tryz.func83,Tryz.ntmps83
  go_wp2;go_ret;exact ⟨by rw [H.out]; rfl,rfl⟩
end
section
open Go.Lib (validD)
def fitsN:Nat -> Int -> Bool
 | 0,_ => true
 | k + 1,n => inR (n * 10) (-9223372036854775808) 9223372036854775807 && fitsN k (n * 10)
def decOk (n e:Int):Bool:=(inR e (-20) 20 && (decide (e ≠ 0) && (inR n (-999999999999999999) 999999999999999999 && decide (Int.tmod n 10 ≠ 0)))) && !(decide (0 < e) && fitsN e.toNat n)
def V.kind:V -> Int | .mk k _ _ _ _ => k
def V.num:V -> Int | .mk _ n _ _ _ => n
def V.exp:V -> Int | .mk _ _ e _ _ => e
def V.text:V -> L8 | .mk _ _ _ s _ => s
def V.kids:V -> List V | .mk _ _ _ _ ks => ks
def isKeyK (k:Int):Bool:=decide (k = 5) || decide (k = 3)
def odds {α:Type}:List α -> List α
 | [] => []
 | [x] => [x]
 | x :: _ :: r => x :: odds r
theorem zbi {α:Type}:∀ l:List α,(odds l).length = (l.length + 1) / 2
 | [] => by simp [odds]
 | [x] => by simp [odds]
 | x :: y :: r => by simp only [odds,length_cons,zbi r]; omega
theorem zeY {α:Type}:∀ (l:List α) (j:Nat),(odds l)[j]? = l[2 * j]?
 | [],j => by simp [odds]
 | [x],0 => rfl
 | [x],j + 1 => by simp [odds]
 | x :: y :: r,0 => rfl
 | x :: y :: r,j + 1 => by simp only [odds,getElem?_cons_succ,zeY r j]; rw [show 2 * (j + 1) = 2 * j + 1 + 1 by omega]; simp
theorem odds_get {α:Type} (l:List α) (j:Nat) (h:2 * j < l.length):(odds l)[j]'(by rw [zbi]; omega) = l[2 * j]:=by
 have:=zeY l j
 rw [getElem?_eq_getElem h,getElem?_eq_getElem (by rw [zbi]; omega)] at this;exact Option.some.inj this
def uniq {α:Type} [DecidableEq α] (f:V -> α) (ks:List V):Bool:=ks.all (fun x => isKeyK x.kind) && decide ((ks.map f).Nodup)
theorem zdt {α:Type} [DecidableEq α] (f:V -> α) (ks:List V) (x:V):uniq f (ks ++ [x]) = (uniq f ks && (isKeyK x.kind && decide (f x ∉ ks.map f))):=by
 unfold uniq;rw [all_append,Bool.eq_iff_iff];simp only [Bool.and_eq_true,decide_eq_true_eq,map_append,map_cons,map_nil,nodup_append,all_cons,all_nil,Bool.and_true]
 constructor
 ·rintro ⟨⟨h1,h2⟩,h3,_,h4⟩; exact ⟨⟨h1,h3⟩,h2,fun h => h4 _ h _ (by simp) rfl⟩
 ·rintro ⟨⟨h1,h3⟩,h2,h4⟩; exact ⟨⟨h1,h2⟩,h3,by simp,fun a ha b hb => by simp at hb; subst hb; intro e; subst e; exact h4 ha⟩
theorem zeZ {α:Type} [DecidableEq α] {f:V -> α} {ks:List V} (k:Nat) (h:uniq f (ks.take k) = false):uniq f ks = false:=by
 cases hk:uniq f ks with
 | false => rfl
 | true =>
  rw [<- take_append_drop k ks] at hk;unfold uniq at hk h;simp only [all_append,Bool.and_eq_true,decide_eq_true_eq,map_append,nodup_append] at hk;rw [hk.1.1,decide_eq_true hk.2.1] at h; simp at h
def V.mark (x:V):Int × Int × L8:=(x.kind,x.num,x.text)
def pairsOk (xs:List V):Bool:=uniq V.mark (odds xs) && (decide (xs.length % 2 = 0) && decide (xs.length <= 300))
def pairsOkI (xs:List V):Bool:=uniq id (odds xs) && decide (xs.length % 2 = 0)
def V.selfBy (q:List V -> Bool):V -> Bool
 | .mk k n e s kids =>
  if k = 0 \/ k = 1 \/ k = 2 then decide (n = 0) && (decide (e = 0) && (decide (s = []) && decide (kids = [])))
  else if k = 3 then decide (e = 0) && (decide (s = []) && decide (kids = []))
  else if k = 4 then decOk n e && (decide (s = []) && decide (kids = []))
  else if k = 5 then decide (n = 0) && (decide (e = 0) && (validD s && (decide (s.length <= 2000) && decide (kids = []))))
  else if k = 6 then decide (n = 0) && (decide (e = 0) && (decide (s.length <= 2000) && decide (kids = [])))
  else if k = 7 then decide (n = 0) && (decide (e = 0) && decide (s = []))
  else if k = 8 then decide (n = 0) && (decide (e = 0) && (decide (s = []) && q kids))
  else if k = 9 then inR n 0 1000000 && (decide (e = 0) && (decide (s = []) && decide (kids.length = 1)))
  else false
def V.self:V -> Bool:=V.selfBy pairsOk
def V.selfI:V -> Bool:=V.selfBy pairsOkI
mutual
def V.rightBy (q:List V -> Bool):Int -> V -> Bool
 | d,.mk k n e s kids => V.rightsBy q (d - 1) kids && (decide (0 <= d) && V.selfBy q (.mk k n e s kids))
def V.rightsBy (q:List V -> Bool):Int -> List V -> Bool
 | _,[] => true
 | d,v :: vs => V.rightBy q d v && V.rightsBy q d vs
end
theorem V.rightsBy_all (q:List V -> Bool):∀ (d:Int) (vs:List V),V.rightsBy q d vs = vs.all (V.rightBy q d)
 | _,[] => rfl
 | d,v :: vs => by simp [V.rightsBy,V.rightsBy_all q d vs]
def V.ok (v:V):Bool:=V.rightBy pairsOk 12 v && decide (v.nodes <= 300)
theorem odds_mem {α:Type}:∀ (l:List α) (x:α),x ∈ odds l -> x ∈ l
 | [],x,h => by simp [odds] at h
 | [y],x,h => by simpa [odds] using h
 | a :: b :: r,x,h => by
  simp only [odds,mem_cons] at h ⊢
  rcases h with h | h
  ·exact .inl h
  ·exact .inr (.inr (odds_mem r x h))
theorem V.key_plain {q:List V -> Bool} {d:Int} {x:V} (h:V.rightBy q d x = true) (hk:isKeyK x.kind = true):x = .mk x.kind x.num 0 x.text []:=by
 obtain ⟨k,n,e,s,kids⟩:=x;simp only [V.rightBy,Bool.and_eq_true,V.selfBy] at h;simp only [V.kind,isKeyK,Bool.or_eq_true] at hk;simp only [V.kind,V.num,V.text]
 rcases hk with hk | hk <;> obtain rfl:=of_decide_eq_true hk
 ·have:=h.2.2; simp at this; simp [this]
 ·have:=h.2.2; simp at this; simp [this]
theorem pairs_same {q:List V -> Bool} {d:Int} {xs:List V} (h:V.rightsBy q d xs = true) (hl:xs.length <= 300):pairsOkI xs = pairsOk xs:=by
 rw [V.rightsBy_all,all_eq_true] at h;unfold pairsOkI pairsOk;rw [decide_eq_true hl,Bool.and_true]
 congr 1
 have hm:∀ x ∈ odds xs,V.rightBy q d x = true:=fun x hx => h x (odds_mem _ _ hx)
 generalize odds xs = ks at hm;unfold uniq;rw [map_id]
 cases hk:ks.all (fun x => isKeyK x.kind) with
 | false => rfl
 | true =>
  rw [all_eq_true] at hk;simp only [Bool.true_and]
  apply decide_eq_decide.2
  rw [Nodup,Nodup,pairwise_map]
  constructor
  ·intro hp
   refine Pairwise.imp_of_mem (fun ha hb hne e => hne ?_) hp;rw [V.key_plain (hm _ ha) (hk _ ha),V.key_plain (hm _ hb) (hk _ hb)];simp only [V.mark,Prod.mk.injEq] at e;rw [e.1,e.2.1,e.2.2]
  ·intro hp
   refine Pairwise.imp_of_mem (fun ha hb hne e => hne ?_) hp;rw [e]
theorem V.kids_nodes (vs:List V):vs.length <= V.nodess vs:=by
 induction vs with
 | nil => simp
 | cons x xs ih => have:=x.nodes_pos; simp only [V.nodess,length_cons]; omega
mutual
theorem V.right_same:∀ (d:Int) (v:V),v.nodes <= 300 -> V.rightBy pairsOkI d v = V.rightBy pairsOk d v
 | d,.mk k n e s kids,h => by
  have hn:V.nodess kids <= 300:=by simp only [V.nodes] at h; omega
  have hl:kids.length <= 300:=Nat.le_trans (V.kids_nodes kids) hn;have h1:=V.rights_same (d - 1) kids hn;simp only [V.rightBy];rw [h1]
  cases hr:V.rightsBy pairsOk (d - 1) kids with
  | false => rfl
  | true =>
   have:=pairs_same hr hl
   simp only [V.selfBy,this]
theorem V.rights_same:∀ (d:Int) (vs:List V),V.nodess vs <= 300 -> V.rightsBy pairsOkI d vs = V.rightsBy pairsOk d vs
 | _,[],_ => rfl
 | d,v :: vs,h => by
  simp only [V.nodess] at h;simp only [V.rightsBy,V.right_same d v (by omega),V.rights_same d vs (by omega)]
end
theorem V.ok_impl (v:V):(V.rightBy pairsOkI 12 v && decide (v.nodes <= 300)) = v.ok:=by
 unfold V.ok;by_cases h:v.nodes <= 300
 ·rw [V.right_same 12 v h]
 ·rw [decide_eq_false h,Bool.and_false,Bool.and_false]
end
section
theorem zen {w:World} {b o:Nat} {v:Value} (h:w.cell? ⟨b,o,none⟩ = some v):b < w.heap.size:=by
 apply Classical.byContradiction; intro hn
 simp [World.cell?,Array.getElem?_eq_none (Nat.le_of_not_lt hn)] at h
def StrRow (w:World) (v:Value) (ls:List (L8)):Prop :=
 ∃ a c,v = .slice a ls.length c /\ (ls ≠ [] -> ∃ b o,a = some ⟨b,o,none⟩ /\ ∀ k (h:k < ls.length),w.cell? ⟨b,o + k,none⟩ = some (.string ⟨ls[k].toArray⟩))
end
section
end
section
def pI (n:Int):PC:=.v (.int .i64 n)
def pB (b:Bool):PC:=.v (.bool b)
def pS (l:L8):PC:=.v (.string ⟨l.toArray⟩)
def pSr (ks:List (L8)):LP PC:=ks.map fun k => [pS k]
def pSs (ks:List (L8)):PC:=.sl 0 (pSr ks)
theorem zd6 (ks:List (L8)):erLL (pSr ks) = pSr ks:=by
 simp [pSr,zas,zaw,PC.er,pS,Function.comp_def]
theorem pSs_er (ks:List (L8)):(pSs ks).er = pSs ks:=by simp only [pSs,PC.er,zd6]
theorem pSr_own (ks:List (L8)):ownedLL (pSr ks) = true:=by
 induction ks with
 | nil => rfl
 | cons k ks ih => simp only [pSr,map_cons] at ih ⊢; simp [ownedLL,ownedL,PC.owned,pS] ; simpa [pS] using ih
theorem dSs_pc (ks:List (L8)):(dSs ks).pc = [pSs ks]:=by
 simp only [dSs,D.pc,pSs,pSr,D.pcE_map,map_map]; rfl
theorem dSs_wf (ks:List (L8)):(dSs ks).wf:=by
 simp only [dSs,D.wf];refine ⟨fun e he => by obtain ⟨k,_,rfl⟩:=mem_map.1 he; rfl,?_⟩
 induction ks with
 | nil => trivial
 | cons k ks ih => exact ⟨rfl,ih⟩
theorem zb5:∀ a b:LP PC,ownedLL (a ++ b) = (ownedLL a && ownedLL b)
 | [],b => by simp [ownedLL]
 | c :: cs,b => by simp only [cons_append,ownedLL,zb5 cs b,Bool.and_assoc]
theorem zcs:∀ a b:LP PC,toksLL (a ++ b) = toksLL a ++ toksLL b
 | [],b => rfl
 | c :: cs,b => by simp only [cons_append,toksLL,zcs cs b,append_assoc]
theorem zc3 {t:Nat} (h:2 <= t) (es:LP PC):PC.toks (.sl t es) = t :: toksLL es:=by rw [PC.toks,if_pos h]
theorem zdu {t:Nat} (h:2 <= t) (es:LP PC):PC.owned (.sl t es) = ownedLL es:=by
 rw [PC.owned,decide_eq_true (show t ≠ 0 by omega)]; simp
mutual
theorem PC.toks_ge:∀ (c:PC) (t:Nat),t ∈ c.toks -> 2 <= t
 | .v x,t,h => by simp [PC.toks] at h
 | .bld _ _ _ _,t,h => by simp [PC.toks] at h
 | .anyp,t,h => by simp [PC.toks] at h
 | .row _ _ _,t,h => by simp [PC.toks] at h
 | .sl s es,t,h => by
  by_cases h2:2 <= s
  ·rw [PC.toks,if_pos h2] at h
   rcases mem_cons.1 h with rfl | h
   ·exact h2
   ·exact toksLL_ge es t h
  ·rw [PC.toks,if_neg h2] at h; exact toksLL_ge es t h
theorem zbB:∀ (l:List PC) (t:Nat),t ∈ toksL l -> 2 <= t
 | [],t,h => by simp [toksL] at h
 | c :: cs,t,h => by
  rw [toksL,mem_append] at h;exact h.elim (PC.toks_ge c t) (zbB cs t)
theorem toksLL_ge:∀ (l:LP PC) (t:Nat),t ∈ toksLL l -> 2 <= t
 | [],t,h => by simp [toksLL] at h
 | c :: cs,t,h => by
  rw [toksLL,mem_append] at h;exact h.elim (zbB c t) (toksLL_ge cs t)
end
structure NewL (nt nt':Nat) (cs:List PC):Prop where
 own:ownedL cs = true
 nd:(toksL cs).Nodup
 mem:∀ t ∈ toksL cs,nt <= t /\ t < nt'
end
section
def has (tm:Nat -> PV):List (Nat × PV) -> Prop
 | [] => True
 | (d,v) :: r => tm d = v /\ has tm r
def ups:List (Nat × PV) -> (Nat -> PV) -> Nat -> PV
 | [],tm => tm
 | (d,v) :: r,tm => up d v (ups r tm)
theorem zaq:∀ {l:List (Nat × PV)} {tm:Nat -> PV},has tm l -> ∃ tm0,tm = ups l tm0:=by
 intro l tm h;refine ⟨tm,?_⟩
 induction l with
 | nil => rfl
 | cons p l ih =>
  obtain ⟨d,v⟩:=p;simp only [ups];rw [<- ih h.2,up_self h.1]
theorem zfT (ks:List (L8)):∀ e ∈ pSr ks,e.length = 1:=by
 intro e he; obtain ⟨x,_,rfl⟩:=mem_map.1 he; rfl
theorem za6 (ks:List (L8)):(pSr ks).length = ks.length:=by simp [pSr]
theorem zfU {ks:List (L8)} {j:Nat} (h:j < ks.length):(pSr ks)[j]? = some [pS ks[j]]:=by
 rw [pSr,getElem?_map,getElem?_eq_getElem h]; rfl
end
section
section
variable {E:Env} {K:St -> Prop} {tm:Nat -> PV} {bx:LP PC} {nt d:Nat} {live:List Nat} {r:List MOpr}
theorem zaa {n p:Nat} {x:X} {g:Option (Nat × Bool)} {c:List X} {cs:List PC} (hg:gd g tm = some true) (hx:ev tm x = .ref p 0) (hb:bx[p]? = some cs) (hn:cs.length = n) (h:po E r K ⟨up d (.ag cs) tm,bx,nt,live⟩):po E (⟨some d,.load true n x,g,c⟩ :: r) K ⟨tm,bx,nt,live⟩:=by
 refine po_q hg ?_ h;simp only [qf,hx,hb,Nat.zero_add,drop_zero,ldv,hn,Nat.le_refl,if_true];rw [<- hn,take_length]
theorem zad {n p:Nat} {a x:X} {c:List X} {cs z:List PC} (ha:ev tm a = .ref p 0) (hx:ev tm x = .ag cs) (hb:bx[p]? = some z) (hn:cs.length = n) (hz:z.length = n) (hc:c.all (apartX (ev tm) a) = true) (h:po E r K ⟨tm,bx.set p cs,nt,live⟩):po E (⟨none,.store n a x,none,c⟩ :: r) K ⟨tm,bx,nt,live⟩:=by
 have hs:spl z 0 cs = cs:=by
  unfold spl;rw [take_zero,nil_append,Nat.zero_add,hn,<- hz,drop_length,append_nil]
 have hx':pcells (ev tm x) = some cs:=by rw [hx]; rfl
 refine zaC ha hx' hb ⟨hn,by omega⟩ hc ?_;rw [hs]; exact h
theorem zaW {n f:Nat} {xs:List X} {args:List PV} {c:List X} {v:List PC} (hd:PV.dats (xs.map (ev tm)) = some args) (hF:FnO E f args (.ag v)) (hn:v.length = n)
  (h:∀ (cs:List PC) (nt':Nat),erL cs = v -> cs.length = n -> nt <= nt' -> NewL nt nt' cs -> po E r K ⟨up d (.ag cs) tm,bx,nt',toksL cs ++ live⟩):po E (⟨some d,.call f xs,none,c⟩ :: r) K ⟨tm,bx,nt,live⟩:=by
 refine po_own hd hF ?_;rintro (_ | cs | _ | _ | _ | _) nt2 hx hnd hmem hnt2 hown <;> try exact hown.elim
 ·simp [PV.dat] at hx
 simp only [PV.dat,sI,PV.ag.injEq] at hx;refine h cs nt2 hx ?_ (by omega) ⟨hown,hnd,hmem⟩
 have:=congrArg length hx
 rw [zaw,length_map] at this; omega
end
theorem mw_at {E:Env} {B:Base} {m:M} {Q:Exit -> St -> Prop} {s:St} (I:St -> Prop) (h:I s) (k:∀ tm bx nt live,I ⟨tm,bx,nt,live⟩ -> mw E B m Q ⟨tm,bx,nt,live⟩):mw E B m Q s:=by
 obtain ⟨tm,bx,nt,live⟩:=s;exact k tm bx nt live h
theorem dats1 {a v:List PC} (h:erL a = v):PV.dats [.ag a] = some [.ag v]:=by rw [<- h]; rfl
theorem zfV {a b v w:List PC} (h:erL a = v) (k:erL b = w):PV.dats [.ag a,.ag b] = some [.ag v,.ag w]:=by rw [<- h,<- k]; rfl
theorem dats1i {a v:List PC} (h:erL a = v) (x:Value):PV.dats [.ag a,.d (.v x)] = some [.ag v,.d (.v x)]:=by rw [<- h]; rfl
theorem NewL.gt {a b:Nat} {cs:List PC} (h:NewL a b cs) {c d:Nat} {ds:List PC} (k:NewL c d ds) (hbc:d <= a):∀ t ∈ toksL cs,t ∉ toksL ds:=fun t h1 h2 => by
 have:=(h.mem t h1).1; have:=(k.mem t h2).2; omega
end
section
noncomputable def ngl:Nat:=Tryz.prog.globals.size
noncomputable def env (T:World -> Prop) (hT:Low ngl T):Env:=⟨Tryz.prog,ngl,T,hT,by kernel_rfl⟩
theorem zaf {T:World -> Prop} {hT:Low ngl T} {f:Nat} {r:Nat × M × List MRes} (h:look Tryz.prog f = some r):look (env T hT).P f = some r:=h
end
section
theorem ngl_of {w:World} (h:w.ShapedOpen Tryz.prog):ngl <= w.heap.size:=by
 have hlt:ngl < (begin Tryz.prog (fun _ _ => 0) default).world.heap.size:=of_decide_eq_true (by unfold ngl; kernel_rfl);obtain ⟨o,_,h2,_⟩:=h.2 ngl lR hlt;exact Nat.le_of_lt (zao h2)
def Stay (T:World -> Prop) (w:World) (W:World):Prop:=T W /\ w.heap.size <= W.heap.size /\ ∀ k,k < w.heap.size -> W.heap[k]? = w.heap[k]?
theorem Stay.low {T:World -> Prop} (hT:Low ngl T) {w:World} (hn:ngl <= w.heap.size):Low w.heap.size (Stay T w):=fun W W' h hs hk =>
 ⟨hT W W' h.1 hs fun k hk' => hk k (Nat.lt_of_lt_of_le hk' hn),Nat.le_trans h.2.1 hs,fun k hk' => (hk k hk').trans (h.2.2 k hk')⟩
noncomputable def envW (T:World -> Prop) (hT:Low ngl T) (w:World) (hn:ngl <= w.heap.size):Env:=⟨Tryz.prog,w.heap.size,Stay T w,Stay.low hT hn,by kernel_rfl⟩
section
variable {T:World -> Prop} {hT:Low ngl T} {w:World} {hn:ngl <= w.heap.size}
theorem FnV.toW {f:Nat} {args:List PV} {v:PV} (h:FnV (env T hT) f args v):FnV (envW T hT w hn) f args v:=Fn.up (E:=env T hT) (E':=envW T hT w hn) rfl hn (fun _ h => h.1) h
theorem Stay.rd {W:World} (h:Stay T w W) {d:D} {cs:List Value} (hr:Rd w d cs):Rd W d cs:=Rd.of (RepC.frame (S:=(· < w.heap.size)) (fun b hb => h.2.2 b hb) hr)
end
def rawL (cs:List Value):List PC:=cs.map .v
theorem zcb (cs:List Value):erL (rawL cs) = rawL cs:=by
 unfold rawL; rw [zaw,map_map]; rfl
theorem zc4 (cs:List Value):(rawL cs).length = cs.length:=by simp [rawL]
theorem zeo {C:Cx} {W:World} {cs:List Value} {y:Value} (h:RpV C W (.ag (rawL cs)) y):y = .agg cs.toArray:=by
 cases h with
 | ag _ us hl =>
  have:us = cs:=by
   refine ext_getElem (by rw [hl.1]; simp [rawL]) fun j h4 h5 => ?_
   have:=hl.2 j (.v cs[j]) us[j] (by simp [rawL]) (by simp)
   generalize us[j] = x at this; generalize cs[j] = z at this
   cases this; rfl
  rw [this]
theorem zep {C:Cx} {W:World} {k:Int} {y:Value} (h:RpV C W (.d (pI k)) y):y = .int .i64 k:=by
 cases h with
 | d _ _ h => cases h; rfl
theorem zfW {w:World} {d:D} {cs:List Value} (hr:Rd w d cs) (hw:d.wf):RpV (C0 w) w (.ag (rawL cs)) (.agg cs.toArray):=by
 refine .ag _ _ ⟨by simp [rawL],fun j c y h1 h2 => ?_⟩;have h0:=(hr.rp (C:=C0 w) (fun _ _ hb => hb) hw).one;unfold rawL at h1;rw [getElem?_map,h2] at h1;simp only [Option.map_some,sI] at h1; subst h1
 exact .v _ (h0 y (mem_of_getElem? h2))
theorem FnV.bool {E:Env} {f:Nat} {args:List PV} {b:Bool} (h:FnV E f args (.d (pB b))) {w:World} (hng:E.NG <= w.heap.size) (hT:E.T w) {vs:List Value} (hl:vs.length = args.length) (hv:∀ (j:Nat) (x:PV) (y:Value),args[j]? = some x -> vs[j]? = some y -> RpV (C0 w) w x y) :
  Calls E.P f vs.toArray w fun e w' => e = .returned (.bool b) /\ Below w.heap.size w w':=by
 refine (Fn.use h hng hT hl hv).mono ?_;rintro e w' ⟨u,x,bx,live,C',rfl,h1,_,h3,h4,_⟩
 have hx:x = .d (pB b):=by
  cases x with
  | d c =>
   simp only [PV.dat,sI,PV.d.injEq] at h1
   cases c with
   | v y => simp only [PC.er] at h1; rw [h1]
   | sl t es => simp [PC.er,pB] at h1
   | bld p T t U => simp [PC.er,pB] at h1
   | anyp => simp [PC.er,pB] at h1
   | row => simp [PC.er,pB] at h1
  | _ => simp [PV.dat] at h1
 subst hx
 cases h3 with
 | d _ _ h => cases h; exact ⟨rfl,h4⟩
end
section
theorem zdv {E:Env} {B:Base} {pre suf:List MOpr} {d f:Nat} {g:Option (Nat × Bool)} {xs:List X} {Q:Exit -> St -> Prop} {s:St} (h:po E pre (fun s1 => gd g s1.tm = some true /\ XCall E B f (xs.map (ev s1.tm)) d (fun s2 => po E suf (Q .normal) s2) s1) s):mw E B (.ops (pre ++ ⟨some d,.call f xs,g,[.f 1]⟩ :: suf)) Q s:=by
 intro c hc C ac w hr;obtain ⟨h',_⟩ | ⟨id,ops,dr,_,h',rfl,k⟩ | ⟨_,_,_,_,h',_⟩ | ⟨_,_,_,_,_,_,h',_⟩ | ⟨_,_,_,h',_⟩ | ⟨_,_,h',_⟩ | ⟨_,h',_⟩ | ⟨h',_⟩ | ⟨_,_,_,h',_⟩:=zbM hc <;> try (cases h'; done)
 simp only [M.ops.injEq] at h'; subst h'
 unfold trR at k
 split at k
 ·rename_i ml hml
  obtain ⟨m1,m2⟩:=zbf hml;have mc:=zel hml;have hsz:ops.size = ml.length:=by rw [m1,Array.length_toList]
  cases dr with
  | true =>
   exfalso;simp only [if_true] at k
   split at k
   ·simp only [sI] at k
    have hmem:(⟨some d,.call f xs,g,[.f 1]⟩:MOpr) ∈ pre ++ ⟨some d,.call f xs,g,[.f 1]⟩ :: suf:=by simp
    rw [<- k,mem_filterMap] at hmem;obtain ⟨i,_,hi⟩:=hmem;refine zds (l:=ml.map (toQuiet ml)) (fun m hm => ?_) _ (mem_of_getElem? hi) (.inl rfl) rfl;obtain ⟨m0,hm0,rfl⟩:=mem_map.1 hm
    have:=mc m0 hm0
    unfold toQuiet; split
    ·split
     ·exact this
     ·exact this
    ·exact this
   ·cases k
  | false =>
   simp only [Bool.false_eq_true,if_false,sI] at k;refine wp_region ?_
   have htr0:∀ (o:Oper) (m:MOpr),TrO E.P B.n ops o m -> TrO E.P B.n ops o (markCall m):=by
    intro o m ht;unfold markCall; split <;> exact ht
   have key:∀ (i:Nat) (mo:MOpr),(pre ++ ⟨some d,.call f xs,g,[.f 1]⟩ :: suf)[i]? = some mo -> ∃ o,ops[i]? = some o /\ TrO E.P B.n ops o mo:=by
    intro i mo hi;rw [<- k,getElem?_map] at hi;obtain ⟨mo0,h3,rfl⟩:=Option.map_eq_some_iff.1 hi
    have hlt:i < ops.size:=by
     rw [hsz]
     rcases Nat.lt_or_ge i ml.length with h | h
     ·exact h
     ·rw [getElem?_eq_none h] at h3; cases h3
    exact ⟨ops[i],Array.getElem?_eq_getElem hlt,htr0 _ _ (zbq (m2 i ops[i] mo0 (by simp [hlt]) h3))⟩
   have hlen:ops.size = pre.length + (suf.length + 1):=by
    have:=congrArg length k
    rw [length_map,length_append,length_cons] at this; omega
   have hrange:range ops.size = range pre.length ++ (pre.length :: (range suf.length).map (· + (pre.length + 1))):=by
    rw [hlen,range_add,Nat.add_comm suf.length 1,range_add,map_append,map_map];simp only [range_one,map_cons,map_nil,Nat.add_zero,singleton_append]
    congr 2
    refine map_congr_left fun x _ => ?_
    simp only [Function.comp_apply]; omega
   rw [hrange];refine zbQ (B:=B) (range pre.length) pre (by simp) (fun q i mo h1 h2 => ?_) hr h ?_
   ·have hq:q < pre.length:=by
     rcases Nat.lt_or_ge q pre.length with h | h
     ·exact h
     ·rw [getElem?_eq_none h] at h2; cases h2
    rw [getElem?_range hq] at h1; simp only [sI] at h1; subst h1
    exact key q mo (by rw [getElem?_append_left hq]; exact h2)
   ·intro C1 s1 a1 w1 hr1 hx
    obtain ⟨o,ho,htr⟩:=key pre.length _ (by rw [getElem?_append_right lR,Nat.sub_self]; rfl);obtain ⟨hgd,hx⟩:=hx;have hw:=zbr hr1 htr.2.1 (b:=true) hgd;have t5:=htr.2.2.2.2;have t3:=htr.2.2.1;simp only [wpOps,ho,hw,if_true];refine .inl (op_callX htr hr1 (fun vs hl hv => ?_) _);refine (hx C1 a1 w1 vs hr1 hl hv).mono ?_;rintro e w' ⟨u,C',s',x,rfl,hr',hx',hk⟩;refine ⟨u,rfl,?_⟩;have hdlt:∀ t,some d = some t -> t < B.n:=fun t ht => t5 t (by rw [<- t3]; exact ht)
    refine zc0 (B:=B) _ suf (by simp) (fun q i mo h1 h2 => ?_) (hr'.put hdlt hx') hk (fun C2 s2 a2 w2 hr2 hk2 => ⟨C2,s2,hr2,hk2⟩)
    have hq:q < suf.length:=by
     rcases Nat.lt_or_ge q suf.length with h | h
     ·exact h
     ·rw [getElem?_eq_none h] at h2; cases h2
    rw [getElem?_map,getElem?_range hq] at h1;simp only [Option.map_some,sI] at h1; subst h1
    refine key _ mo ?_;rw [getElem?_append_right (by omega),show q + (pre.length + 1) - pre.length = q + 1 by omega];simpa using h2
 ·cases k
theorem XCall.bool {E:Env} {B:Base} {f:Nat} {xs ys:List PV} {d:Nat} {K:St -> Prop} {tm:Nat -> PV} {bx:LP PC} {nt:Nat} {live:List Nat} {b:Bool} (hF:FnV E f ys (.d (pB b))) (hl:ys.length = xs.length)
  (hy:∀ (C:Cx) (a:Act) (w:World) (vs:List Value),Rep E B C ⟨tm,bx,nt,live⟩ a w -> vs.length = xs.length -> (∀ (j:Nat) (x:PV) (y:Value),xs[j]? = some x -> vs[j]? = some y -> RpV C w x y) -> ∀ (j:Nat) (x:PV) (y:Value),ys[j]? = some x -> vs[j]? = some y -> RpV (C0 w) w x y)
  (h:K ⟨up d (.d (pB b)) tm,bx,nt,live⟩):XCall E B f xs d K ⟨tm,bx,nt,live⟩:=by
 intro C a w vs hr hlen hv;refine (FnV.bool hF hr.inv.ng hr.inv.t (by rw [hlen,hl]) (hy C a w vs hr hlen hv)).mono ?_;rintro e w' ⟨rfl,hb⟩;obtain ⟨hI,hFx⟩:=hr.inv.belowW E.low hb;refine ⟨_,C,⟨tm,bx,nt,live⟩,.d (pB b),rfl,hr.frame hI hr.nt hr.n2 rfl (CxLe.refl C) hFx ?_,.d _ _ (.v _ rfl),by rw [za1]; exact h⟩;exact hr.ext.step (CxLe.refl C) hFx hb.os hb.tape hb.output hb.size (fun k hk _ _ => hb.block k (Nat.lt_of_lt_of_le hk hr.ext.size)) (fun b o h => .inl h) (fun t b h1 h2 => hr.ext.newT t b h1 h2) (fun p h1 h2 => hr.ext.newB p h1 h2)
def Cx.anew (C:Cx) (lo hi:Nat):Cx:={ C with F:=fun b o => C.F b o \/ lo <= b /\ b < hi /\ ∀ p,p < C.nb -> C.bx p ≠ b,old:=fun _ => False }
theorem Cx.anew_le (C:Cx) (lo hi:Nat):CxLe C (C.anew lo hi):=⟨fun _ _ h => .inl h,lR,fun _ _ => rfl,lR,fun _ _ => ⟨rfl,rfl,rfl,rfl⟩⟩
theorem mw_anew {E:Env} {B:Base} {m:M} {Q:Exit -> St -> Prop} {tm:Nat -> PV} {bx:LP PC} {nt:Nat} {live:List Nat} (kt:List Nat)
  (h:∀ (B':Base) (us:List (List Value)),B'.n = B.n -> (∀ t,¬ B'.C.old t) -> (∀ b o,B'.C.F b o -> b < B'.w.heap.size) -> us.length = bx.length -> (∀ (p:Nat) (cs:List PC) (u:List Value),bx[p]? = some cs -> us[p]? = some u -> RpL B'.C B'.w cs u) ->
   ∀ rw:Nat -> Value,mw E B' m Q ⟨maskT rw kt tm,us.map rawL,nt,[]⟩):mw E B m Q ⟨tm,bx,nt,live⟩:=by
 intro code hc C a w hr;have hnb:C.nb = bx.length:=hr.inv.nb;have hle:=C.anew_le B.w.heap.size w.heap.size;have hfin:∀ b o,(C.anew B.w.heap.size w.heap.size).F b o -> b < w.heap.size:=fun b o hF => hF.elim (fun h => hr.inv.fin b o h) fun h => h.2.1
 obtain ⟨us,hul,hus⟩:∃ us:List (List Value),us.length = bx.length /\ ∀ (p:Nat) (cs:List PC) (u:List Value),bx[p]? = some cs -> us[p]? = some u -> RpL C w cs u /\ ∃ e,w.heap[C.bx p]? = some (.cells u.toArray e (0,0)):=by
  refine ⟨(range bx.length).map fun p => match w.heap[C.bx p]? with | some (.cells u _ _) => u.toList | _ => [],by simp,fun p cs u h1 h2 => ?_⟩;obtain ⟨vs,e,k1,k2⟩:=hr.inv.box p cs h1;have hp:p < bx.length:=(List.getElem?_eq_some_iff.1 h1).1;rw [getElem?_map,getElem?_range hp] at h2;simp only [Option.map_some,sI,k1] at h2;subst h2;exact ⟨by simpa using k2,e,by simpa using k1⟩
 have hm:=h ⟨C.anew B.w.heap.size w.heap.size,w,B.n⟩ us rfl (fun _ h => h) hfin hul (fun p cs u h1 h2 => (hus p cs u h1 h2).1.frame hle (Fix.refl _ _)) (fun t => a.tmps.getD t undef)
 have hI:Inv E.NG E.T (C.anew B.w.heap.size w.heap.size) (us.map rawL) (· ∈ ([]:List Nat)) w:=by
  refine ⟨by rw [length_map,hul]; exact hnb,fun p cs hp => ?_,fun p hp o hF => ?_,fun p hp => hr.inv.boxG p (by rw [length_map,hul] at hp; exact hp),fun p q hp hq => hr.inv.inj p q (by rw [length_map,hul] at hp; exact hp) (by rw [length_map,hul] at hq; exact hq),(fun t ht => by cases ht),(fun t s b ht => by cases ht),hfin,hr.inv.ng,hr.inv.t⟩
  ·rw [getElem?_map] at hp
   cases hu:us[p]? with
   | none => rw [hu] at hp; cases hp
   | some u =>
    rw [hu] at hp;simp only [Option.map_some,sI] at hp; subst hp
    have hlt:p < bx.length:=by rw [<- hul]; exact (List.getElem?_eq_some_iff.1 hu).1
    obtain ⟨k1,e,k2⟩:=hus p _ u (getElem?_eq_getElem hlt) hu;refine ⟨u,e,k2,by rw [zc4],fun j c y h1 h2 => ?_⟩;unfold rawL at h1;rw [getElem?_map,h2] at h1;simp only [Option.map_some,sI] at h1; subst h1
    exact .v y (k1.one y (mem_of_getElem? h2))
  ·rw [length_map,hul] at hp
   rcases hF with hF | ⟨_,_,hF⟩
   ·exact hr.inv.boxF p hp o hF
   ·exact hF p (by rw [hnb]; exact hp) rfl
 have htm:∀ t,RpV (C.anew B.w.heap.size w.heap.size) w (maskT (fun t => a.tmps.getD t undef) kt tm t) (a.tmps.getD t undef):=by
  intro t;unfold maskT;split
  ·exact (hr.tm t).frame hle (Fix.refl _ _)
  ·exact .raw _
 have hr':Rep E ⟨C.anew B.w.heap.size w.heap.size,w,B.n⟩ (C.anew B.w.heap.size w.heap.size) ⟨maskT (fun t => a.tmps.getD t undef) kt tm,us.map rawL,nt,[]⟩ a w :=
  ⟨hI,hr.nt,hr.n2,⟨rfl,rfl,rfl,lR,fun _ _ h => h,Fix.refl _ w,fun _ _ _ _ => rfl,⟨lR,fun _ _ => rfl⟩,fun _ _ h => .inl h,(fun t b ht => by cases ht),(fun p hp hp2 => by
   have hp:C.nb <= p:=hp;have hp2:p < (us.map rawL).length:=hp2;rw [length_map,hul] at hp2; omega),⟨lR,fun _ _ => ⟨rfl,rfl,rfl,rfl⟩⟩⟩,hr.size,hr.defers,htm⟩
 refine wp_mono (hm code hc _ a w hr') ?_;rintro e a' w' ⟨C',s',hr2,hq⟩
 have hE:Ext B.C B.w (C.anew B.w.heap.size w.heap.size) bx.length (· ∈ ([]:List Nat)) w:=by
  refine hr.ext.step hle (Fix.refl _ _) rfl rfl rfl lR (fun _ _ _ _ => rfl) (fun b o hF => hF.elim .inl fun h => .inr (.inl h.1)) (fun t b ht => by cases ht) (fun p h1 h2 => hr.ext.newB p h1 h2)
 have hE2:Ext B.C B.w C' s'.bx.length (· ∈ s'.live) w':=by
  refine Ext.over hE (C':=C') (w':=w') ?_ hnb;have k:=hr2.ext;exact ⟨k.os,k.tape,k.output,k.size,k.F,k.fix,fun q h1 h2 h3 => k.block q h1 h2 (fun t ht => (ht:False).elim),k.bx,fun b o hF => (k.newF b o hF).imp id fun h => h.imp id fun ⟨s,hs,_⟩ => (hs:False).elim,fun t b h1 h2 => (k.newT t b h1 h2).imp id fun ⟨s,hs,_⟩ => (hs:False).elim,k.newB,k.tk⟩
 exact ⟨C',s',⟨hr2.inv,hr2.nt,hr2.n2,hE2,hr2.size,hr2.defers,hr2.tm⟩,hq⟩
theorem Rep.since {E:Env} {B:Base} {C:Cx} {s:St} {a:Act} {w:World} (h:Rep E B C s a w) {cs:List PC} {us:List Value} (h0:RpL B.C B.w cs us):RpL C w cs us:=h0.frame h.ext.le h.ext.fix
theorem rawL_is {C:Cx} {w:World} {cs vs:List Value} (h:RpL C w (rawL cs) vs):vs = cs:=by
 refine ext_getElem (by rw [h.1,zc4]) fun j h4 h5 => ?_
 have:=h.2 j (.v cs[j]) vs[j] (by simp [rawL]) (by simp)
 generalize vs[j] = x at this; generalize cs[j] = z at this
 cases this; rfl
theorem zfX {C:Cx} {w:World} {cg:List PC} {d1 d2:List PC} {us:List Value} (hfin:∀ b o,C.F b o -> b < w.heap.size) (he:erL cg = d1) (hd:erL d2 = d2) (h0:RpL C w d2 us) {vs:List Value} (_hl:vs.length = 2) (hv:∀ (j:Nat) (x:PV) (y:Value),[PV.ag cg,.ag (rawL us)][j]? = some x -> vs[j]? = some y -> RpV C w x y) :
  ∀ (j:Nat) (x:PV) (y:Value),[PV.ag d1,.ag d2][j]? = some x -> vs[j]? = some y -> RpV (C0 w) w x y:=by
 intro j x y hx hy
 match j with
 | 0 =>
  simp only [getElem?_cons_zero,sI] at hx; subst hx
  exact (hv 0 _ y rfl hy).toDat (fun b o hF => hfin b o hF) (by show some (PV.ag (erL cg)) = _; rw [he])
 | 1 =>
  simp only [getElem?_cons_succ,getElem?_cons_zero,sI] at hx; subst hx
  have h1:=zeo (hv 1 _ y rfl hy);subst h1
  exact RpV.toDat (C:=C) (x:=.ag d2) (fun b o hF => hfin b o hF) (.ag _ _ h0) (by show some (PV.ag (erL d2)) = _; rw [hd])
 | j + 2 => simp at hx
end
section
theorem zeq (ls:List (L8)) (v:Value) (left:Int) (w:World) (h:Rd w (dSs ls) [v]) (hs:∀ s ∈ ls,strok s) (hlen:ls.length <= 9223372036854775807) (hl:0 <= left /\ left <= 1048576) :
  Calls Tryz.prog 23 #[v,.int .i64 left] w fun e w' => e = .returned (.int .i64 (take' (ls.length + ssBulk ls) left)) /\ Below w.heap.size w w':=by
 obtain ⟨a,c,rfl,hg⟩:=h.strs;obtain ⟨hl1,hl2⟩:=hl;by_cases hlt:left < ls.length
 ·have H:=Lib.hid (show take' (ls.length + ssBulk ls) left = -1 by unfold take'; rw [if_pos (by omega)])
  go_enter Tryz.func23,Tryz.ntmps23
  go_wp2;go_ret;exact ⟨zba H.out.symm,Below.refl _ _⟩
 ·go_enter Tryz.func23,Tryz.ntmps23
  go_wp2
  go_loop [1,5] (fun x i => ∃ (k:Nat),k <= ls.length /\ i = .int .i64 k /\ ((ls.length + ssBulk (ls.take k):Nat):Int) <= left /\ x = .int .i64 (left - (ls.length + ssBulk (ls.take k):Nat))) (fun _ i => ls.length - (intOf i).toNat)
  case atStart => exact ⟨0,Nat.zero_le _,rfl,by simp [ssBulk]; omega,by simp [ssBulk]⟩
  case round =>
   obtain ⟨k,hk,rfl,hx,rfl⟩:=hrel;by_cases hk2:k < ls.length
   ·obtain ⟨_,_,b,o,rfl,hb,hcell⟩:=hg (by intro e; rw [e] at hk2; simp at hk2)
    have hc:=hcell k hk2;have hsk:ls[k].length <= 9223372036854775807:=hs _ (getElem_mem hk2);have HS:=Lib.hid (zdo ls k hk2);clear hcell;go_wp2
    ·have hno:left - ((ls.length:Int) + ↑(ssBulk (ls.take k))) - ↑(ls[k].length) < 0:=by assumption
     have hle:=zdp ls (k + 1);rw [HS.out] at hle;go_ret;exact ⟨zba (zbA (by omega)).symm,Below.refl _ _⟩
    ·have hyes:0 <= left - ((ls.length:Int) + ↑(ssBulk (ls.take k))) - ↑(ls[k].length):=by assumption
     go_round
     case rel => exact ⟨k + 1,by omega,by go_num,by rw [HS.out]; omega,by rw [HS.out]; go_num⟩
     case measure => simp [intOf] <;> omega
   ·obtain rfl:k = ls.length:=by omega
    rw [take_length] at hx;have H:=Lib.hid (zbg hx);go_wp2;go_ret;exact ⟨zba (by rw [H.out]; go_num),Below.refl _ _⟩
end
section
theorem tySs:ElemTy Tryz.prog 25 9 1 16:=ElemTy.mk' (z:=.string ⟨#[]⟩) Tryz.underlying25 (by kernel_rfl) rfl (by decide)
theorem zer (ls:List (L8)) (v:Value) (w:World) (h:Rd w (dSs ls) [v]) (hlen:ls.length <= 1048576) :
  Calls Tryz.prog 32 #[v] w fun e w' => ∃ v',e = .returned v' /\ Below w.heap.size w w' /\ Own w.heap.size w' (dSs ls) [v']:=by
 obtain ⟨a,c,rfl,hg⟩:=h.strs;obtain ⟨cs,hcs,hmk⟩:=run_mk tySs ls.length (by omega) (by decide);have HCS:=Lib.hid hcs; clear hcs
 go_enter Tryz.func32,Tryz.ntmps32
 go_wp2
 go_loopw [4] (fun i wr => ∃ (k:Nat),k <= ls.length /\ i = .int .i64 k /\ Part w.heap.size wr w.heap.size 1 ls.length ((ls.take k).map dS) /\ Below w.heap.size w wr) (fun i _ => ls.length - (intOf i).toNat)
 case atStart => exact ⟨0,Nat.zero_le _,rfl,Part.start HCS.out,(Below.refl _ _).alloc lR _⟩
 case round =>
  obtain ⟨k,hk,rfl,hp,hbel⟩:=hrel;by_cases hk2:k < ls.length
  ·obtain ⟨_,_,b,o,rfl,hb,hcell⟩:=hg (by intro e; rw [e] at hk2; simp at hk2)
   have hc:=hcell k hk2;obtain ⟨hbc,_⟩:=zaP hbel;clear hcell;obtain ⟨⟨z,hz⟩,hfr⟩:=hp.there k (by omega);have hp2:=hp.put (d:=dS ls[k]) (Below.refl _ wr) (Own.one _) rfl (by simp; omega) hbel.size;have HS:=Lib.hid (zbc dS ls k hk2);go_wp2;go_roundw
   case rel => exact ⟨k + 1,by omega,by go_num,by rw [HS.out]; simpa [Nat.min_eq_left hk,setCells] using hp2,hbel.setCell lR _⟩
   case measure => simp [intOf] <;> omega
  ·obtain rfl:k = ls.length:=by omega
   rw [take_length] at hp;have ho:=Part.own (ds:=ls.map dS) (n:=1) (c:=ls.length) (by simpa using hp) (by decide) ⟨by simp,by unfold maxLen; omega⟩;go_wp2;go_ret;exact ⟨_,rfl,hbel,by simpa [dSs] using ho⟩
end
section
theorem zes (la lb:List (L8)) (va vb:Value) (w:World) (h:Rd w (dSs la) [va]) (h2:Rd w (dSs lb) [vb]) (hla:la.length <= 9223372036854775807) (_hlb:lb.length <= 9223372036854775807) :
  Calls Tryz.prog 41 #[va,vb] w fun e w' => e = .returned (.bool (decide (la = lb))) /\ Below w.heap.size w w':=by
 obtain ⟨a,c,rfl,hg⟩:=h.strs;obtain ⟨a',c',rfl,hg'⟩:=h2.strs;by_cases hlen:la.length = lb.length
 ·go_enter Tryz.func41,Tryz.ntmps41
  go_wp2
  go_loopw [5] (fun i wr => ∃ (k:Nat),k <= lb.length /\ i = .int .i64 k /\ la.take k = lb.take k /\ Below w.heap.size w wr) (fun i _ => lb.length - (intOf i).toNat)
  case atStart => exact ⟨0,Nat.zero_le _,rfl,by simp,Below.refl _ _⟩
  case round =>
   obtain ⟨k,hk,rfl,htk,hbel⟩:=hrel;have HT:=Lib.hid htk; clear htk
   by_cases hk2:k < lb.length
   ·have hk1:k < la.length:=by omega
    obtain ⟨_,_,b,o,rfl,hb,hcell⟩:=hg (by intro e; rw [e] at hk1; simp at hk1);obtain ⟨_,_,b',o',rfl,hb',hcell'⟩:=hg' (by intro e; rw [e] at hk2; simp at hk2);have hc:=hcell k hk1;have hc':=hcell' k hk2;clear hcell hcell' hg hg';obtain ⟨hbc,_⟩:=zaP hbel;have hi1:(0:Int) <= k:=by omega
    have hi2:(k:Int) < lb.length:=by omega
    go_wp2
    go_quiet (fail)
    go_wp2
    ·have hne:(!la[k] == lb[k]) = true:=by assumption
     have hne':¬ la = lb:=zdq hk1 hk2 (by simpa using hne);go_ret;exact ⟨by rw [decide_eq_false hne']; rfl,Go.below_drewN hbel _⟩
    ·have heq:(!la[k] == lb[k]) = false:=by assumption
     go_roundw
     case rel => exact ⟨k + 1,by omega,by go_num,zbP HT.out hk1 hk2 (by simpa using heq),Go.below_drewN hbel _⟩
     case measure => simp [intOf] <;> omega
   ·obtain rfl:k = lb.length:=by omega
    have he:la = lb:=by have:=HT.out; rw [take_length,<- hlen,take_length] at this; exact this
    have H:=Lib.hid (decide_eq_true he);clear he;go_wp2;go_ret;exact ⟨by rw [H.out]; rfl,hbel⟩
 ·have H:=Lib.hid (decide_eq_false (show ¬ la = lb from fun e => hlen (by rw [e])))
  go_enter Tryz.func41,Tryz.ntmps41
  go_wp2;go_ret;exact ⟨by rw [H.out]; rfl,Below.refl _ _⟩
end
section
theorem FnO.old1 {E:Env} {f:Nat} {args:List PV} {d:D} {c0:PC} (hd:d.wf) (hpc:d.pc = [c0]) (h:∀ (w:World) (C:Cx) (vs:List Value),(∀ b o,C.F b o -> b < w.heap.size) -> E.NG <= w.heap.size -> E.T w -> vs.length = args.length -> (∀ (j:Nat) (x:PV) (y:Value),args[j]? = some x -> vs[j]? = some y -> RpV C w x y) ->
  Calls E.P f vs.toArray w fun e w' => ∃ v',e = .returned v' /\ Below w.heap.size w w' /\ Own w.heap.size w' d [v']):FnO E f args (.d c0):=by
 intro C w vs hI hnt hold hl hv;refine (h w C vs hI.fin hI.ng hI.t hl hv).mono ?_;rintro e w' ⟨v',rfl,hb,fp,hnd,hfp,ht⟩;have hF:Fix C w w':=.of (fun b o hF => World.cell?_of_block (a:=⟨b,o,none⟩) (hb.block b (hI.fin b o hF))) hb.block;have hI1:Inv E.NG E.T C [] (· ∈ ([]:List Nat)) w':=⟨hI.nb,fun p cs hp => by simp at hp,fun p hp => by simp at hp,fun p hp => by simp at hp,fun p q hp => by simp at hp,(fun t ht => by cases ht),(fun t s b ht => by cases ht),fun b o h => Nat.lt_of_lt_of_le (hI.fin b o h) hb.size,Nat.le_trans hI.ng hb.size,E.low w w' hI.t hb.size (fun k hk => hb.block k (Nat.lt_of_lt_of_le hk hI.ng))⟩;obtain ⟨C',pcs,new,k1,k2,k3,k4⟩:=zcq ht hd hnd hI1 (by rw [hnt]; exact Nat.le_refl 2) (fun b hb' => ⟨Nat.le_trans hI.ng (hfp b hb'),fun o hFo => by have:=hI.fin b o hFo; have:=hfp b hb'; omega,fun p hp => by simp at hp,fun t ht => by cases ht⟩);have hlen:pcs.length = 1:=by have:=k2.1; simpa using this.symm
 match pcs,hlen with
 | [c],_ =>
  have htk:PV.toks (.d c) = toksL [c]:=by show PC.toks c = _; simp [toksL]
  refine ⟨_,.d c,[],(· ∈ new ++ []),C',rfl,⟨?_,by rw [htk]; exact k1.nd,fun t ht => mem_append.2 (.inl (k1.sub t (by rw [<- htk]; exact ht))),by simpa [ownedL] using k4⟩,k1.inv,?_,.d _ _ (k2.2 0 c v' rfl rfl)⟩
  ·rw [hpc] at k3
   have k3:[c.er] = [c0]:=k3;simp only [cons.injEq,and_true] at k3;show some (PV.d c.er) = _; rw [k3]
  ·refine ⟨hb.os,hb.tape,hb.output,hb.size,k1.le.F,hF,fun k hk _ _ => hb.block k hk,⟨k1.le.nb,k1.le.bx⟩,?_,?_,(fun p hp hp2 => by simp at hp2),⟨k1.le.nt,k1.le.tk⟩⟩
   ·intro b o hF'
    rcases k1.F b o hF' with h | h
    ·exact .inl h
    ·exact .inr (.inl (hfp b h))
   ·intro t b ht hb2
    rw [append_nil] at ht;obtain ⟨b',hb',e'⟩:=k1.tkb t ht;rw [e'] at hb2; simp only [sI] at hb2; subst hb2; exact .inl (hfp b' hb')
theorem po_own1 {E:Env} {d:Nat} {K:St -> Prop} {tm:Nat -> PV} {bx:LP PC} {nt:Nat} {live:List Nat} {r:List MOpr} {f:Nat} {xs:List X} {args:List PV} {c:List X} {v:PC} (hd:PV.dats (xs.map (ev tm)) = some args) (hF:FnO E f args (.d v))
  (h:∀ (c':PC) (nt':Nat),c'.er = v -> nt <= nt' -> NewL nt nt' [c'] -> po E r K ⟨up d (.d c') tm,bx,nt',c'.toks ++ live⟩):po E (⟨some d,.call f xs,none,c⟩ :: r) K ⟨tm,bx,nt,live⟩:=by
 refine po_own hd hF ?_;rintro (c' | _ | _ | _ | _ | _) nt2 hx hnd hmem hnt2 hown <;> try exact hown.elim
 ·simp only [PV.dat,sI,PV.d.injEq] at hx
  have e:toksL [c'] = c'.toks:=by simp [toksL]
  exact h c' nt2 hx (by omega) ⟨by simpa [ownedL] using hown,by rw [e]; exact hnd,by rw [e]; exact hmem⟩
 ·simp [PV.dat] at hx
theorem zc5 {C:Cx} {w:World} {v y:Value} (h:RpV C w (.d (.v v)) y):y = v:=by cases h with | d _ _ h => cases h; rfl
theorem pSs_rd {C:Cx} {w:World} (hF:∀ b o,C.F b o -> b < w.heap.size) {ks:List (L8)} {y:Value} (h:RpV C w (.d (pSs ks)) y):Rd w (dSs ks) [y]:=vRd1 hF (dSs_wf ks) (dSs_pc ks) h
section
variable {T:World -> Prop} {hT:Low ngl T} {w:World} {hn:ngl <= w.heap.size}
theorem szSs_fn {ls:List (L8)} {v:Value} (hr:Rd w (dSs ls) [v]) (hs:∀ s ∈ ls,strok s) (hlen:ls.length <= 9223372036854775807) {l:Int} (hl:0 <= l /\ l <= 1048576):FnV (envW T hT w hn) 23 [.d (.v v),.d (pI l)] (.d (pI (take' (ls.length + ssBulk ls) l))):=by
 refine FnV.old rfl fun W C vs _ _ hS hlen' hv => ?_
 match vs,hlen' with
 | [a,b],_ =>
  have ha:=zc5 (hv 0 _ _ rfl rfl);have hb:=zep (hv 1 _ _ rfl rfl)
  subst ha; subst hb
  exact zeq ls _ l W (Stay.rd hS hr) hs hlen hl
theorem toSs_fn {ls:List (L8)} {v:Value} (hr:Rd w (dSs ls) [v]) (hlen:ls.length <= 1048576):FnO (envW T hT w hn) 32 [.d (.v v)] (.d (pSs ls)):=by
 refine FnO.old1 (dSs_wf ls) (dSs_pc ls) fun W C vs _ _ hS hlen' hv => ?_
 match vs,hlen' with
 | [a],_ =>
  have ha:=zc5 (hv 0 _ _ rfl rfl);subst ha;exact zer ls _ W (Stay.rd hS hr) hlen
end
theorem eqSs_fn {E:Env} (hP:E.P = Tryz.prog) (a b:List (L8)) (ha:a.length <= 9223372036854775807) (hb:b.length <= 9223372036854775807):FnV E 41 [.d (pSs a),.d (pSs b)] (.d (pB (decide (a = b)))):=by
 refine FnV.old rfl fun W C vs hF _ _ hlen hv => ?_
 match vs,hlen with
 | [u,v],_ =>
  rw [hP]; exact zes a b u v W (pSs_rd hF (hv 0 _ _ rfl rfl)) (pSs_rd hF (hv 1 _ _ rfl rfl)) ha hb
end
section
def splV (l:List Value) (o:Nat) (vs:List Value):List Value:=l.take o ++ vs ++ l.drop (o + vs.length)
theorem zbZ {l:List Value} {o:Nat} {vs:List Value} (h:o + vs.length <= l.length):(splV l o vs).length = l.length:=by simp [splV]; omega
theorem splV_cons {l:List Value} {o:Nat} {v:Value} {vs:List Value} (h:o < l.length):splV (l.set o v) (o + 1) vs = splV l o (v :: vs):=by
 unfold splV
 have h1:(l.set o v).take (o + 1) = l.take o ++ [v]:=by
  rw [take_set,take_succ_eq_append_getElem h,set_append_right _ _ (by rw [length_take]; omega),length_take,Nat.min_eq_left (by omega),Nat.sub_self]; rfl
 rw [h1,drop_set_of_lt (by omega),length_cons,Nat.add_right_comm,<- Nat.add_assoc];simp
theorem zaJ (b:Nat) (e:TypeId) (fz:Nat × Nat):∀ (vs:List Value) (o:Nat) (w:World) (cur:List Value),w.heap[b]? = some (.cells cur.toArray e fz) -> o + vs.length <= cur.length -> (w.setCells b o vs).heap[b]? = some (.cells (splV cur o vs).toArray e fz)
 | [],o,w,cur,h,_ => by
  have:splV cur o [] = cur:=by unfold splV; simp
  rw [this]; exact h
 | v :: r,o,w,cur,h,hl => by
  rw [length_cons] at hl;have h1:=zbd (o:=o) h v;have h2:cur.toArray.setIfInBounds o v = (cur.set o v).toArray:=by simp
  rw [h2] at h1;rw [World.setCells,zaJ b e fz r (o + 1) _ (cur.set o v) h1 (by rw [length_set]; omega),splV_cons (by omega)]
theorem zaK (b:Nat):∀ (vs:List Value) (o:Nat) (w:World) (k:Nat),k ≠ b -> (w.setCells b o vs).heap[k]? = w.heap[k]?
 | [],_,_,_,_ => rfl
 | v :: r,o,w,k,h => by rw [World.setCells,zaK b r (o + 1) _ k h]; exact Below.heap_setCell w ⟨b,o,none⟩ v k (by simpa using h)
theorem zaV (b:Nat):∀ (vs:List Value) (o:Nat) (w:World),(w.setCells b o vs).heap.size = w.heap.size /\ (w.setCells b o vs).os = w.os /\ (w.setCells b o vs).tape = w.tape /\ (w.setCells b o vs).output = w.output
 | [],_,_ => ⟨rfl,rfl,rfl,rfl⟩
 | v :: r,o,w => by
  obtain ⟨h1,h2,h3,h4⟩:=zaV b r (o + 1) (w.setCell ⟨b,o,none⟩ v);have hb:=(Below.refl b w).setCell (p:=⟨b,o,none⟩) lR v;rw [World.setCells,h1,h2,h3,h4];exact ⟨by simp,hb.os,hb.tape,hb.output⟩
theorem zaL {w:World} {b:Nat} {cur:List Value} {e:TypeId} (h:w.heap[b]? = some (.cells cur.toArray e (0,0))) {o:Nat} (ho:o < cur.length):(w.cell? ⟨b,o,none⟩).isSome = true /\ w.frozen? ⟨b,o,none⟩ = false:=by
 refine ⟨?_,by simp [World.frozen?,h]⟩;rw [zae h]; simp [getElem?_eq_getElem ho]
section
variable {P:Program}
theorem zct (w:World) (dT sT ty elem:TypeId) (b o dLen dCap:Nat) (a:Addr) (sLen sCap k:Nat) (cs:List Value)
  (hu:P.underlying dT = some (.slice elem)) (hs:(P.info? elem).map (·.size) = some k) (hn:cs.length = Nat.min sLen dLen * k)
  (hsrc:∀ j v,cs[j]? = some v -> w.cell? (a.add j) = some v) (hc:∀ j,j < cs.length -> (w.cell? ⟨b,o + j,none⟩).isSome = true) (hf:∀ j,j < cs.length -> w.frozen? ⟨b,o + j,none⟩ = false) (h1:∀ v ∈ cs,v.oneCell' = true) :
  (Builtin.copy_ #[dT,sT] ty #[.slice (some ⟨b,o,none⟩) dLen dCap,.slice (some a) sLen sCap]).run P w = .ok (goInt (Nat.min sLen dLen)) (w.setCells b o cs):=by
 have hl:=run_loadCells_list (P:=P) w a cs hsrc;have hst:=run_storeCells_cells (P:=P) b o cs 0 w (by simpa using hc) (by simpa using hf) h1
 cases hq:P.info? elem with
 | none => simp [hq] at hs
 | some i =>
  have hi:i.size = k:=by simpa [hq] using hs
  rw [hn] at hl;simp [Builtin.copy_,run_underlying hu,Builtin.lenOf,Builtin.firstCells,sizeOf,typeInfo,hq,hi,hl,hst]
theorem run_clearN (w:World) (t ty elem:TypeId) (z:Value) (b o n c:Nat) (hu:P.underlying t = some (.slice elem)) (hz:∀ w,(zeroValue elem).run P w = .ok z w) (hn:0 < n) (zs:List Value) (hzs:(Builtin.zeroCells z.cells n).toList = zs)
  (hc:∀ j,j < zs.length -> (w.cell? ⟨b,o + j,none⟩).isSome = true) (hf:∀ j,j < zs.length -> w.frozen? ⟨b,o + j,none⟩ = false) (h1:∀ v ∈ zs,v.oneCell' = true) :
  (Builtin.clear_ #[t] ty #[.slice (some ⟨b,o,none⟩) n c]).run P w = .ok (.tuple #[]) (w.setCells b o zs):=by
 have hst:=run_storeCells_cells (P:=P) b o zs 0 w (by simpa using hc) (by simpa using hf) h1;obtain ⟨m,rfl⟩:∃ m,n = m + 1:=⟨n - 1,by omega⟩;simp [Builtin.clear_,run_underlying hu,hz,hzs,hst]
theorem wp_copyN (w:World) {o:Oper} {a:Act} {K:Act -> World -> Prop} {Q:Exit -> Act -> World -> Prop} (d s:Operand) (t t':TypeId)
  (ho:o.op = .call { callee:=.builtin .copy,args:=#[d,s],argTypes:=#[t,t'] }) (v u:Value) (hd:a.eval d = v) (hs:a.eval s = u) {v':Value} {w':World}
  (hr:(Builtin.copy_ #[t,t'] o.type #[v,u]).run P w = .ok v' w') (h:K (a.put o.dst v') w'):o.wp P a w K Q:=by
 unfold Oper.wp execOp;simp only [ho,resolve,invoke,builtin,Sem.run_bind,Sem.run_pure,Result.andThen_ok,map_toArray,map_cons,map_nil,hd,hs,hr];exact h
theorem zbR (w:World) {ops:Array Oper} {rest:List Oper} {o:Oper} {a:Act} {Q:Exit -> Act -> World -> Prop} (hgd:o.guard = none) (d s:Operand) (t t':TypeId)
  (ho:o.op = .call { callee:=.builtin .copy,args:=#[d,s],argTypes:=#[t,t'] }) (v u:Value) (hd:a.eval d = v) (hs:a.eval s = u) {v':Value} {w':World}
  (hr:(Builtin.copy_ #[t,t'] o.type #[v,u]).run P w = .ok v' w') (h:wpList P ops Q rest (a.put o.dst v') w'):wpList P ops Q (o :: rest) a w :=
 wpList_plain hgd fun _ hK => wp_copyN w d s t t' ho v u hd hs hr (hK _ _ h)
end
end
end Go.Proofs.YtaofmfkcfmcmpaaGreatDoor
/-
  DERIVED: THE SHELF's CONTRACTS AT THIS DUMP, IN PLAIN WORDS (tools/lay-plain.mjs out of 'TryzShelf.lean', which tools/lay-shelf.mjs wrote): THE SAME DECLARATIONS UNDER THE SAME NAMES: 'import', 'namespace', 'open', 'def', 'theorem' AND NOTHING ELSE: no command of the shelf's: FOR A HAND-IN. Each laying: the table of numbers ('.._ren') and one theorem, a field a fact of the dump's own or the kernel's comparison; each contract: ONE APPLICATION.
-/
namespace Go.Proofs
open Go.Shelf
def Tryz.lays172_ren:Go.Shelf.Ren:=⟨fun | 172 => 106 | 244 => 111 | 245 => 112 | 247 => 114 | 279 => 115 | 280 => 116 | 281 => 117 | 282 => 118 | 287 => 120 | 316 => 121 | 171 => 107 | 205 => 122 | 321 => 127 | 322 => 128 | 243 => 113 | 246 => 119 | 283 => 123 | 284 => 124 | 285 => 125 | 286 => 126 | 129 => 130 | 317 => 129 | 318 => 131 | 319 => 132 | 320 => 133 | 337 => 134 | 338 => 135 | n => n,fun | 9 => 9 | 3 => 3 | 75 => 112 | 76 => 113 | 4 => 4 | 5 => 5 | 167 => 119 | 37 => 79 | 0 => 0 | 85 => 120 | 2 => 2 | 168 => 122 | 53 => 115 | 175 => 126 | 46 => 108 | 210 => 130 | 127 => 138 | 145 => 141 | 143 => 139 | 21 => 21 | 171 => 132 | 173 => 135 | 212 => 144 | 51 => 145 | 20 => 20 | 213 => 146 | 232 => 150 | 233 => 151 | 80 => 152 | n => n,fun | 15 => 2 | 16 => 3 | 17 => 4 | 18 => 5 | 19 => 6 | n => n⟩
def Tryz.laysM246_ren:Go.Shelf.Ren:=⟨fun | 246 => 119 | 283 => 123 | 284 => 124 | 285 => 125 | 286 => 126 | 129 => 130 | 317 => 129 | 318 => 131 | 319 => 132 | 320 => 133 | 337 => 134 | 338 => 135 | n => n,fun | 2 => 2 | 3 => 3 | 9 => 9 | 4 => 4 | 171 => 132 | 0 => 0 | 53 => 115 | 37 => 79 | 5 => 5 | 173 => 135 | 212 => 144 | 51 => 145 | 20 => 20 | 213 => 146 | 46 => 108 | 232 => 150 | 233 => 151 | n => n,fun | 17 => 4 | 18 => 5 | 19 => 6 | n => n⟩
def Tryz.laysM243_ren:Go.Shelf.Ren:=⟨fun | 243 => 113 | 246 => 119 | 283 => 123 | 284 => 124 | 285 => 125 | 286 => 126 | 129 => 130 | 317 => 129 | 318 => 131 | 319 => 132 | 320 => 133 | 337 => 134 | 338 => 135 | n => n,fun | 3 => 3 | 9 => 9 | 2 => 2 | 4 => 4 | 171 => 132 | 0 => 0 | 53 => 115 | 37 => 79 | 5 => 5 | 173 => 135 | 212 => 144 | 51 => 145 | 20 => 20 | 213 => 146 | 46 => 108 | 232 => 150 | 233 => 151 | n => n,fun | 17 => 4 | 18 => 5 | 19 => 6 | n => n⟩
def Tryz.laysM171_ren:Go.Shelf.Ren:=⟨fun | 171 => 107 | 243 => 113 | 246 => 119 | 283 => 123 | 284 => 124 | 285 => 125 | 286 => 126 | 129 => 130 | 317 => 129 | 318 => 131 | 319 => 132 | 320 => 133 | 337 => 134 | 338 => 135 | n => n,fun | 3 => 3 | 9 => 9 | 2 => 2 | 4 => 4 | 171 => 132 | 0 => 0 | 53 => 115 | 37 => 79 | 5 => 5 | 173 => 135 | 212 => 144 | 51 => 145 | 20 => 20 | 213 => 146 | 46 => 108 | 232 => 150 | 233 => 151 | n => n,fun | 17 => 4 | 18 => 5 | 19 => 6 | n => n⟩
theorem Tryz.laysM171:Go.Proofs.LaysM.n171 Tryz.prog Tryz.laysM171_ren:={
 mixed:=by kernel_rfl
 f129:=Tryz.func130.trans (congrArg some (by kernel_rfl))
 f171:=Tryz.func107.trans (congrArg some (by kernel_rfl))
 f243:=Tryz.func113.trans (congrArg some (by kernel_rfl))
 f246:=Tryz.func119.trans (congrArg some (by kernel_rfl))
 f283:=Tryz.func123.trans (congrArg some (by kernel_rfl))
 f284:=Tryz.func124.trans (congrArg some (by kernel_rfl))
 f285:=Tryz.func125.trans (congrArg some (by kernel_rfl))
 f286:=Tryz.func126.trans (congrArg some (by kernel_rfl))
 f317:=Tryz.func129.trans (congrArg some (by kernel_rfl))
 f318:=Tryz.func131.trans (congrArg some (by kernel_rfl))
 f319:=Tryz.func132.trans (congrArg some (by kernel_rfl))
 f320:=Tryz.func133.trans (congrArg some (by kernel_rfl))
 f337:=Tryz.func134.trans (congrArg some (by kernel_rfl))
 f338:=Tryz.func135.trans (congrArg some (by kernel_rfl))
 t0:=Tryz.underlying0
 a0:=Tryz.isAgg0
 z0:=Tryz.sizeOf0
 v0:=Tryz.zeroValue0
 t2:=Tryz.underlying2
 a2:=Tryz.isAgg2
 z2:=Tryz.sizeOf2
 v2:=Tryz.zeroValue2
 t3:=Tryz.underlying3
 a3:=Tryz.isAgg3
 z3:=Tryz.sizeOf3
 v3:=Tryz.zeroValue3
 t4:=Tryz.underlying4
 a4:=Tryz.isAgg4
 z4:=Tryz.sizeOf4
 v4:=Tryz.zeroValue4
 t5:=Tryz.underlying5
 a5:=Tryz.isAgg5
 z5:=Tryz.sizeOf5
 v5:=Tryz.zeroValue5
 t9:=Tryz.underlying9
 a9:=Tryz.isAgg9
 z9:=Tryz.sizeOf9
 v9:=Tryz.zeroValue9
 t20:=Tryz.underlying20
 a20:=Tryz.isAgg20
 z20:=Tryz.sizeOf20
 v20:=Tryz.zeroValue20
 t37:=Tryz.underlying79
 a37:=Tryz.isAgg79
 z37:=Tryz.sizeOf79
 v37:=Tryz.zeroValue79
 t46:=Tryz.underlying108
 a46:=Tryz.isAgg108
 z46:=Tryz.sizeOf108
 v46:=Tryz.zeroValue108
 t51:=Tryz.underlying145
 a51:=Tryz.isAgg145
 z51:=Tryz.sizeOf145
 v51:=Tryz.zeroValue145
 t53:=Tryz.underlying115
 a53:=Tryz.isAgg115
 z53:=Tryz.sizeOf115
 v53:=Tryz.zeroValue115
 t171:=Tryz.underlying132
 a171:=Tryz.isAgg132
 z171:=Tryz.sizeOf132
 v171:=Tryz.zeroValue132
 t173:=Tryz.underlying135
 a173:=Tryz.isAgg135
 z173:=Tryz.sizeOf135
 v173:=Tryz.zeroValue135
 t212:=Tryz.underlying144
 a212:=Tryz.isAgg144
 z212:=Tryz.sizeOf144
 v212:=Tryz.zeroValue144
 t213:=Tryz.underlying146
 a213:=Tryz.isAgg146
 z213:=Tryz.sizeOf146
 t232:=Tryz.underlying150
 a232:=Tryz.isAgg150
 z232:=Tryz.sizeOf150
 v232:=Tryz.zeroValue150
 t233:=Tryz.underlying151
 a233:=Tryz.isAgg151
 z233:=Tryz.sizeOf151
 v233:=Tryz.zeroValue151
 g17:=by kernel_rfl
 g18:=by kernel_rfl
 g19:=by kernel_rfl
 i0:=by kernel_rfl
 i2:=by kernel_rfl
 i3:=by kernel_rfl
 i4:=by kernel_rfl
 i5:=by kernel_rfl
 i9:=by kernel_rfl
 i20:=by kernel_rfl
 i37:=by kernel_rfl
 i46:=by kernel_rfl
 i51:=by kernel_rfl
 i53:=by kernel_rfl
 i171:=by kernel_rfl
 i173:=by kernel_rfl
 i212:=by kernel_rfl
 i232:=by kernel_rfl
 i233:=by kernel_rfl
 m17:=by kernel_rfl
 m18:=by kernel_rfl
 m19:=by kernel_rfl }
open Go.RowKit Go.Sort Go.Lib in
theorem Tryz.strconv_Itoa (n : Int) (h0 : -9223372036854775808 ≤ n) (h1 : n ≤ 9223372036854775807) (w : World) (htab : Lib.TabIs Tryz.prog w "internal/strconv.uint64pow10" .u64 Lib.pow10Tab) :
  Calls Tryz.prog 107 #[.int .i64 n] w fun e w' => e = .returned (.string ⟨(Lib.itoa n).toArray⟩) /\ ∃ k os,w' = grow (w.drewN k) os:=Any.strconv_Itoa Tryz.laysM171 n h0 h1 w htab
def Tryz.laysC172_ren:Go.Shelf.Ren:=⟨fun | 172 => 106 | 244 => 111 | 245 => 112 | 247 => 114 | 279 => 115 | 280 => 116 | 281 => 117 | 282 => 118 | 287 => 120 | 316 => 121 | 171 => 107 | 205 => 122 | 321 => 127 | 322 => 128 | 243 => 113 | 246 => 119 | 283 => 123 | 284 => 124 | 285 => 125 | 286 => 126 | 129 => 130 | 317 => 129 | 318 => 131 | 319 => 132 | 320 => 133 | 337 => 134 | 338 => 135 | n => n,fun | 9 => 9 | 3 => 3 | 75 => 112 | 76 => 113 | 4 => 4 | 5 => 5 | 167 => 119 | 37 => 79 | 0 => 0 | 85 => 120 | 2 => 2 | 168 => 122 | 53 => 115 | 175 => 126 | 46 => 108 | 210 => 130 | 127 => 138 | 145 => 141 | 143 => 139 | 21 => 21 | 171 => 132 | 173 => 135 | 212 => 144 | 51 => 145 | 20 => 20 | 213 => 146 | 232 => 150 | 233 => 151 | 80 => 152 | n => n,fun | 15 => 2 | 16 => 3 | 17 => 4 | 18 => 5 | 19 => 6 | n => n⟩
theorem Tryz.laysC172:Go.Proofs.LaysC.n172 Tryz.prog Tryz.laysC172_ren:={
 mixed:=by kernel_rfl
 f129:=Tryz.func130.trans (congrArg some (by kernel_rfl))
 f171:=Tryz.func107.trans (congrArg some (by kernel_rfl))
 f172:=Tryz.func106.trans (congrArg some (by kernel_rfl))
 f205:=Tryz.func122.trans (congrArg some (by kernel_rfl))
 f243:=Tryz.func113.trans (congrArg some (by kernel_rfl))
 f244:=Tryz.func111.trans (congrArg some (by kernel_rfl))
 f245:=Tryz.func112.trans (congrArg some (by kernel_rfl))
 f246:=Tryz.func119.trans (congrArg some (by kernel_rfl))
 f247:=Tryz.func114.trans (congrArg some (by kernel_rfl))
 f279:=Tryz.func115.trans (congrArg some (by kernel_rfl))
 f280:=Tryz.func116.trans (congrArg some (by kernel_rfl))
 f281:=Tryz.func117.trans (congrArg some (by kernel_rfl))
 f282:=Tryz.func118.trans (congrArg some (by kernel_rfl))
 f283:=Tryz.func123.trans (congrArg some (by kernel_rfl))
 f284:=Tryz.func124.trans (congrArg some (by kernel_rfl))
 f285:=Tryz.func125.trans (congrArg some (by kernel_rfl))
 f286:=Tryz.func126.trans (congrArg some (by kernel_rfl))
 f287:=Tryz.func120.trans (congrArg some (by kernel_rfl))
 f316:=Tryz.func121.trans (congrArg some (by kernel_rfl))
 f317:=Tryz.func129.trans (congrArg some (by kernel_rfl))
 f318:=Tryz.func131.trans (congrArg some (by kernel_rfl))
 f319:=Tryz.func132.trans (congrArg some (by kernel_rfl))
 f320:=Tryz.func133.trans (congrArg some (by kernel_rfl))
 f321:=Tryz.func127.trans (congrArg some (by kernel_rfl))
 f322:=Tryz.func128.trans (congrArg some (by kernel_rfl))
 f337:=Tryz.func134.trans (congrArg some (by kernel_rfl))
 f338:=Tryz.func135.trans (congrArg some (by kernel_rfl))
 t0:=Tryz.underlying0
 a0:=Tryz.isAgg0
 z0:=Tryz.sizeOf0
 v0:=Tryz.zeroValue0
 t2:=Tryz.underlying2
 a2:=Tryz.isAgg2
 z2:=Tryz.sizeOf2
 v2:=Tryz.zeroValue2
 t3:=Tryz.underlying3
 a3:=Tryz.isAgg3
 z3:=Tryz.sizeOf3
 v3:=Tryz.zeroValue3
 t4:=Tryz.underlying4
 a4:=Tryz.isAgg4
 z4:=Tryz.sizeOf4
 v4:=Tryz.zeroValue4
 t5:=Tryz.underlying5
 a5:=Tryz.isAgg5
 z5:=Tryz.sizeOf5
 v5:=Tryz.zeroValue5
 t9:=Tryz.underlying9
 a9:=Tryz.isAgg9
 z9:=Tryz.sizeOf9
 v9:=Tryz.zeroValue9
 t20:=Tryz.underlying20
 a20:=Tryz.isAgg20
 z20:=Tryz.sizeOf20
 v20:=Tryz.zeroValue20
 t21:=Tryz.underlying21
 a21:=Tryz.isAgg21
 z21:=Tryz.sizeOf21
 v21:=Tryz.zeroValue21
 t37:=Tryz.underlying79
 a37:=Tryz.isAgg79
 z37:=Tryz.sizeOf79
 v37:=Tryz.zeroValue79
 t46:=Tryz.underlying108
 a46:=Tryz.isAgg108
 z46:=Tryz.sizeOf108
 v46:=Tryz.zeroValue108
 t51:=Tryz.underlying145
 a51:=Tryz.isAgg145
 z51:=Tryz.sizeOf145
 v51:=Tryz.zeroValue145
 t53:=Tryz.underlying115
 a53:=Tryz.isAgg115
 z53:=Tryz.sizeOf115
 v53:=Tryz.zeroValue115
 t75:=Tryz.underlying112
 a75:=Tryz.isAgg112
 z75:=Tryz.sizeOf112
 v75:=Tryz.zeroValue112
 t76:=Tryz.underlying113
 a76:=Tryz.isAgg113
 z76:=Tryz.sizeOf113
 v76:=Tryz.zeroValue113
 t85:=Tryz.underlying120
 a85:=Tryz.isAgg120
 z85:=Tryz.sizeOf120
 v85:=Tryz.zeroValue120
 t127:=Tryz.underlying138
 a127:=Tryz.isAgg138
 z127:=Tryz.sizeOf138
 v127:=Tryz.zeroValue138
 t143:=Tryz.underlying139
 a143:=Tryz.isAgg139
 z143:=Tryz.sizeOf139
 v143:=Tryz.zeroValue139
 t145:=Tryz.underlying141
 a145:=Tryz.isAgg141
 z145:=Tryz.sizeOf141
 v145:=Tryz.zeroValue141
 t167:=Tryz.underlying119
 a167:=Tryz.isAgg119
 z167:=Tryz.sizeOf119
 v167:=Tryz.zeroValue119
 t168:=Tryz.underlying122
 a168:=Tryz.isAgg122
 z168:=Tryz.sizeOf122
 v168:=Tryz.zeroValue122
 t171:=Tryz.underlying132
 a171:=Tryz.isAgg132
 z171:=Tryz.sizeOf132
 v171:=Tryz.zeroValue132
 t173:=Tryz.underlying135
 a173:=Tryz.isAgg135
 z173:=Tryz.sizeOf135
 v173:=Tryz.zeroValue135
 t175:=Tryz.underlying126
 a175:=Tryz.isAgg126
 z175:=Tryz.sizeOf126
 v175:=Tryz.zeroValue126
 t210:=Tryz.underlying130
 a210:=Tryz.isAgg130
 z210:=Tryz.sizeOf130
 v210:=Tryz.zeroValue130
 t212:=Tryz.underlying144
 a212:=Tryz.isAgg144
 z212:=Tryz.sizeOf144
 v212:=Tryz.zeroValue144
 t213:=Tryz.underlying146
 a213:=Tryz.isAgg146
 z213:=Tryz.sizeOf146
 t232:=Tryz.underlying150
 a232:=Tryz.isAgg150
 z232:=Tryz.sizeOf150
 v232:=Tryz.zeroValue150
 t233:=Tryz.underlying151
 a233:=Tryz.isAgg151
 z233:=Tryz.sizeOf151
 v233:=Tryz.zeroValue151
 g15:=by kernel_rfl
 g16:=by kernel_rfl
 g17:=by kernel_rfl
 g18:=by kernel_rfl
 g19:=by kernel_rfl
 t80:=Tryz.underlying152
 a80:=Tryz.isAgg152
 z80:=Tryz.sizeOf152
 v80:=Tryz.zeroValue152
 i0:=by kernel_rfl
 i2:=by kernel_rfl
 i3:=by kernel_rfl
 i4:=by kernel_rfl
 i5:=by kernel_rfl
 i9:=by kernel_rfl
 i20:=by kernel_rfl
 i21:=by kernel_rfl
 i37:=by kernel_rfl
 i46:=by kernel_rfl
 i51:=by kernel_rfl
 i53:=by kernel_rfl
 i75:=by kernel_rfl
 i76:=by kernel_rfl
 i80:=by kernel_rfl
 i85:=by kernel_rfl
 i127:=by kernel_rfl
 i143:=by kernel_rfl
 i145:=by kernel_rfl
 i167:=by kernel_rfl
 i168:=by kernel_rfl
 i171:=by kernel_rfl
 i173:=by kernel_rfl
 i175:=by kernel_rfl
 i210:=by kernel_rfl
 i212:=by kernel_rfl
 i232:=by kernel_rfl
 i233:=by kernel_rfl
 m15:=by kernel_rfl
 m16:=by kernel_rfl
 m17:=by kernel_rfl
 m18:=by kernel_rfl
 m19:=by kernel_rfl
 c0:=by kernel_rfl
 c2:=by kernel_rfl
 c3:=by kernel_rfl
 c4:=by kernel_rfl
 c5:=by kernel_rfl
 c9:=by kernel_rfl
 c20:=by kernel_rfl
 c21:=by kernel_rfl
 c37:=by kernel_rfl
 c46:=by kernel_rfl
 c51:=by kernel_rfl
 c53:=by kernel_rfl
 c75:=by kernel_rfl
 c76:=by kernel_rfl
 c80:=by kernel_rfl
 c85:=by kernel_rfl
 c127:=by kernel_rfl
 c143:=by kernel_rfl
 c145:=by kernel_rfl
 c167:=by kernel_rfl
 c168:=by kernel_rfl
 c171:=by kernel_rfl
 c173:=by kernel_rfl
 c175:=by kernel_rfl
 c210:=by kernel_rfl
 c212:=by kernel_rfl
 c213:=by kernel_rfl
 c232:=by kernel_rfl
 c233:=by kernel_rfl }
open Go.RowKit in
theorem Tryz.strconv_Atoi_ok (s:ByteArray) (hmax:s.size <= 9223372036854775806) (v:Int) (h:Lib.atoiAll s.data.toList = .ok v) (w:World) :
  Calls Tryz.prog 106 #[.string s] w fun e w' => e = .returned (.tuple #[.int .i64 v,.nilIface]) /\ (w' = w \/ ∃ t,w' = Lib.bytesWorld w 5 t):=Any.strconv_Atoi_ok Tryz.laysC172 s hmax v h w
open Go.RowKit in
theorem Tryz.strconv_Atoi_syntax (s:ByteArray) (hlim:s.size <= 281474976710656) (h:Lib.atoiAll s.data.toList =  Lib.NumEnd.syntax) (ev:Value) (w:World) (hv:w.cell? ⟨2,0,none⟩ = some ev) (hev:ev = .nilIface \/ ∃ te pe,ev = .iface te pe) :
  Calls Tryz.prog 106 #[.string s] w fun e w' => ∃ N,e = .returned (.tuple #[.int .i64 (0),.iface 122 (.pointer (some ⟨N,0,none⟩))]) /\ w.heap.size <= N /\ w'.heap[N]? = some (.cells #[.string ⟨#[65,116,111,105]⟩,.string s,ev] 130 (0,0)) /\ Below w.heap.size w w':=Any.strconv_Atoi_syntax Tryz.laysC172 s hlim h ev w hv hev
open Go.RowKit in
theorem Tryz.strconv_Atoi_range (s:ByteArray) (hlim:s.size <= 281474976710656) (h:Lib.atoiAll s.data.toList = .range) (ev:Value) (w:World) (hv:w.cell? ⟨3,0,none⟩ = some ev) (hev:ev = .nilIface \/ ∃ te pe,ev = .iface te pe) :
  Calls Tryz.prog 106 #[.string s] w fun e w' => ∃ N,e = .returned (.tuple #[.int .i64 (Lib.atoiSat s.data.toList),.iface 122 (.pointer (some ⟨N,0,none⟩))]) /\ w.heap.size <= N /\ w'.heap[N]? = some (.cells #[.string ⟨#[65,116,111,105]⟩,.string s,ev] 130 (0,0)) /\ Below w.heap.size w w':=Any.strconv_Atoi_range Tryz.laysC172 s hlim h ev w hv hev
def Tryz.laysValid_ren:Go.Shelf.Ren:=⟨fun | 196 => 95 | 259 => 103 | n => n,fun | 9 => 9 | 4 => 4 | 3 => 3 | 5 => 5 | 12 => 12 | 119 => 104 | 0 => 0 | 46 => 108 | 139 => 107 | 138 => 106 | 53 => 115 | n => n,fun | 3 => 0 | 4 => 1 | n => n⟩
theorem Tryz.laysValid:Go.Proofs.Lays.n196 Tryz.prog Tryz.laysValid_ren:={
 mixed:=by kernel_rfl
 f196:=Tryz.func95.trans (congrArg some (by kernel_rfl))
 f259:=Tryz.func103.trans (congrArg some (by kernel_rfl))
 t0:=Tryz.underlying0
 a0:=Tryz.isAgg0
 z0:=Tryz.sizeOf0
 v0:=Tryz.zeroValue0
 t3:=Tryz.underlying3
 a3:=Tryz.isAgg3
 z3:=Tryz.sizeOf3
 v3:=Tryz.zeroValue3
 t4:=Tryz.underlying4
 a4:=Tryz.isAgg4
 z4:=Tryz.sizeOf4
 v4:=Tryz.zeroValue4
 t5:=Tryz.underlying5
 a5:=Tryz.isAgg5
 z5:=Tryz.sizeOf5
 v5:=Tryz.zeroValue5
 t9:=Tryz.underlying9
 a9:=Tryz.isAgg9
 z9:=Tryz.sizeOf9
 v9:=Tryz.zeroValue9
 t12:=Tryz.underlying12
 a12:=Tryz.isAgg12
 z12:=Tryz.sizeOf12
 v12:=Tryz.zeroValue12
 t46:=Tryz.underlying108
 a46:=Tryz.isAgg108
 z46:=Tryz.sizeOf108
 v46:=Tryz.zeroValue108
 t53:=Tryz.underlying115
 a53:=Tryz.isAgg115
 z53:=Tryz.sizeOf115
 v53:=Tryz.zeroValue115
 t119:=Tryz.underlying104
 a119:=Tryz.isAgg104
 z119:=Tryz.sizeOf104
 t138:=Tryz.underlying106
 a138:=Tryz.isAgg106
 z138:=Tryz.sizeOf106
 v138:=Tryz.zeroValue106
 t139:=Tryz.underlying107
 a139:=Tryz.isAgg107
 z139:=Tryz.sizeOf107
 v139:=Tryz.zeroValue107
 g3:=by kernel_rfl
 g4:=by kernel_rfl }
open Go.RowKit Go.Lib in
theorem Tryz.utf8_ValidString (s:ByteArray) (w:World) (hs:s.size <= 9223372036854775807) (hT:Lib.Utf8Tabs 0 1 w) :
  Calls Tryz.prog 95 #[.string s] w fun e w' => e = .returned (.bool (Lib.validD s.data.toList)) /\ Below w.heap.size w w':=Any.utf8_ValidString Tryz.laysValid s w hs hT
end Go.Proofs
namespace Go.Proofs.YtaofmfkcfmcmpaaGreatDoor
open Go.RowKit
set_option maxHeartbeats 4000000
set_option maxRecDepth 100000
open List
section
theorem tyVs:ElemTy Tryz.prog 30 32 5 64:=ElemTy.mk' (z:=.agg #[.int .i64 0,.int .i64 0,.int .i64 0,.string ⟨#[]⟩,.slice none 0 0]) Tryz.underlying30 (by kernel_rfl) rfl (by decide)
theorem V.own {B:Nat} {w:World} {k m e:Int} {s:L8} {kids:List V} {v1:Value} (h:Own B w (.sl 5 (V.ds kids)) [v1]) :
  Own B w (V.d (.mk k m e s kids)) [.int .i64 k,.int .i64 m,.int .i64 e,.string ⟨s.toArray⟩,v1]:=by
 obtain ⟨fp,h1,h2,h3⟩:=h;refine ⟨fp,h1,h2,?_⟩;simp only [V.d,TreeC,TreeCs,dI,dS]
 exact ⟨[],fp,[_],_,by simp,rfl,rfl,⟨rfl,rfl⟩,[],fp,[_],_,by simp,rfl,rfl,⟨rfl,rfl⟩,[],fp,[_],_,by simp,rfl,rfl,⟨rfl,rfl⟩,
  [],fp,[_],_,by simp,rfl,rfl,⟨rfl,rfl⟩,fp,[],[_],[],by simp,rfl,rfl,by simpa only [TreeC] using h3,rfl,rfl⟩
end
section
def OwnSl (B:Nat) (w:World) (e:TypeId) (n:Nat) (v:Value) (ds:List D):Prop :=
 ∃ xs fp,w.ownsRow B e n v ds.length xs /\ (∀ d ∈ ds,D.width d = n) /\ TreeCs w ds fp xs /\ fp.Nodup /\ (∀ b ∈ fp,B <= b) /\ (∀ g,v.ownBlock = some g -> g ∉ fp)
theorem OwnSl.made {B:Nat} {w:World} {e:TypeId} {n:Nat} {cs:Array Value} {cap:Nat} (hB:B <= w.heap.size) (hm:cap <= maxLen) (hs:cs.size = cap * n):OwnSl B (w.alloc (.cells cs e)) e n (.slice (some ⟨w.heap.size,0,none⟩) 0 cap) [] :=
 ⟨[],[],World.ownsRow_made w cs cap hB hm hs,by simp,by simp [TreeCs],by simp,by simp,by simp⟩
theorem OwnSl.form {B:Nat} {w:World} {e:TypeId} {n:Nat} {v:Value} {ds:List D} (h:OwnSl B w e n v ds):∃ a c,v = .slice a ds.length c:=by
 obtain ⟨xs,fp,hr,_⟩:=h
 rcases hr.2 with ⟨rfl,h2⟩ | ⟨g,cap,cur,rfl,_⟩
 ·rw [h2]; exact ⟨none,0,rfl⟩
 ·exact ⟨_,_,rfl⟩
theorem OwnSl.own {B:Nat} {w:World} {e:TypeId} {n:Nat} {v:Value} {ds:List D} (h:OwnSl B w e n v ds) (hn:0 < n):Own B w (.sl n ds) [v]:=by
 obtain ⟨xs,fp,⟨h1,h2⟩,hw,ht,k1,k2,k3⟩:=h;by_cases hne:ds = []
 ·subst hne
  rcases h2 with ⟨rfl,_⟩ | ⟨g,cap,cur,rfl,_⟩
  ·exact ⟨[],by simp,by simp,by simp [TreeC]⟩
  ·exact ⟨[],by simp,by simp,by simp [TreeC]⟩
 ·rcases h2 with ⟨_,h2⟩ | ⟨g,cap,cur,rfl,hg,hh,hc1,hc2,hsz,htk⟩
  ·exact absurd (length_eq_zero_iff.1 h2) hne
  ·refine ⟨g :: fp,?_,?_,?_⟩
   ·rw [nodup_cons]; exact ⟨k3 g rfl,k1⟩
   ·intro b hb; rcases mem_cons.1 hb with rfl | hb
    ·exact hg
    ·exact k2 b hb
   ·simp only [TreeC]
    refine ⟨_,cap,rfl,.inr ⟨g,fp,cur,e,rfl,rfl,hh,hn,⟨hc1,hsz⟩,hc2,hw,?_⟩⟩;rw [Nat.mul_comm,htk]; exact ht
theorem lit_cells {w:World} {news:List Value} {e:TypeId}:∀ j u,news[j]? = some u -> (w.alloc (.cells news.toArray e)).cell? ((⟨w.heap.size,0,none⟩:Addr).add j) = some u:=by
 intro j u hj;rw [zav,zae (zat w _)]; simpa using hj
theorem OwnSl.grow {B:Nat} {w0 w1 w':World} {e:TypeId} {n:Nat} {v:Value} {ds ds':List D} {news xs:List Value} {fp f2:List Nat} {g cap:Nat} (hB:B <= w0.heap.size) (hr0:w0.ownsRow B e n v ds.length xs) (hw:∀ d ∈ ds,D.width d = n) (ht:TreeCs w0 ds fp xs) (k1:fp.Nodup) (k2:∀ b ∈ fp,B <= b) (k3:∀ g,v.ownBlock = some g -> g ∉ fp)
  (hb:Below w0.heap.size w0 w1) (n2:f2.Nodup) (b2:∀ b ∈ f2,w0.heap.size <= b) (t2:TreeCs w1 ds' f2 news) (hw':∀ d ∈ ds',D.width d = n)
  (hrow:w'.ownsRow B e n (.slice (some ⟨g,0,none⟩) (ds.length + ds'.length) cap) (ds.length + ds'.length) (xs ++ news)) (hgr:(w1.alloc (.cells news.toArray e)).grownBy w' v.ownBlock) (hg:v.ownBlock = some g \/ g = (w1.alloc (.cells news.toArray e)).heap.size) :
  OwnSl B w' e n (.slice (some ⟨g,0,none⟩) (ds.length + ds'.length) cap) (ds ++ ds') /\ Below B w0 w':=by
 have hal:Below w1.heap.size w1 (w1.alloc (.cells news.toArray e)):=(Below.refl _ _).alloc lR _;have hb2:=zag hb hal lR;have hbl:∀ k,v.ownBlock = some k -> B <= k /\ k < w0.heap.size:=hr0.lt;have hsz:=hb.size;have hsz2:(w1.alloc (.cells news.toArray e)).heap.size = w1.heap.size + 1:=by simp
 have hfr:∀ b,b < (w1.alloc (.cells news.toArray e)).heap.size -> v.ownBlock ≠ some b -> w'.heap[b]? = (w1.alloc (.cells news.toArray e)).heap[b]?:=fun b h1 h2 => hgr.block b h1 (fun h => h2 h.symm)
 refine ⟨⟨xs ++ news,fp ++ f2,by rw [length_append]; exact hrow,?_,TreeCs.append (ht.frame fun b hx => ?_) (t2.frame fun b hx => ?_),?_,?_,?_⟩,?_⟩
 ·intro d hd; rcases mem_append.1 hd with h | h
  ·exact hw d h
  ·exact hw' d h
 ·have:=ht.lt b hx
  rw [hfr b (by omega) (fun h => k3 b h hx),hb2.block b this]
 ·have:=t2.lt b hx
  rw [hfr b (by omega) (fun h => by have:=(hbl b h).2; have:=b2 b hx; omega),hal.block b this]
 ·rw [nodup_append]
  refine ⟨k1,n2,fun a ha b hb' => ?_⟩
  have:=ht.lt a ha; have:=b2 b hb'; omega
 ·intro b hx; rcases mem_append.1 hx with h | h
  ·exact k2 b h
  ·exact Nat.le_trans hB (b2 b h)
 ·intro g' hg'
  obtain rfl:g = g':=by simpa [Value.ownBlock] using hg'
  intro hm
  rcases mem_append.1 hm with h | h
  ·rcases hg with hg | hg
   ·exact k3 g hg h
   ·have:=ht.lt g h; omega
  ·rcases hg with hg | hg
   ·have:=(hbl g hg).2; have:=b2 g h; omega
   ·have:=t2.lt g h; omega
 ·exact (hb2.mono hB).grown hgr (by omega) (fun k hk => (hbl k hk).1)
theorem wp_appD {P:Program} {ops:Array Oper} {rest:List Oper} {o:Oper} {a:Act} {Q:Exit -> Act -> World -> Prop} {t e:TypeId} {n bytes:Nat} {s x:Operand} {v:Value} {ds ds':List D} {news:List Value} {w0 w1:World}
  (T:ElemTy P t e n bytes) (hgd:o.guard = none) (ho:o.op = .call { callee:=.builtin .append,args:=#[s,x],argTypes:=#[t,t] })
  (B:Nat) (hown:OwnSl B w0 e n v ds) (hb:Below w0.heap.size w0 w1) (hB:B <= w0.heap.size) (k:Owns w0.heap.size w1 ds' news) (hw':∀ d ∈ ds',D.width d = n) (hne:0 < ds'.length) (h1:∀ u ∈ news,u.oneCell' = true)
  (hs:a.eval s = v) (c:Nat) (hx:a.eval x = .slice (some ⟨w1.heap.size,0,none⟩) ds'.length c) (h63:ds.length + ds'.length <= 4294967296) (hby:bytes <= 32768)
  (h:∀ g cap w',OwnSl B w' e n (.slice (some ⟨g,0,none⟩) (ds.length + ds'.length) cap) (ds ++ ds') -> Below B w0 w' -> wpList P ops Q rest (a.put o.dst (.slice (some ⟨g,0,none⟩) (ds.length + ds'.length) cap)) w'):wpList P ops Q (o :: rest) a (w1.alloc (.cells news.toArray e)):=by
 obtain ⟨xs,fp,hr,hw,ht,k1,k2,k3⟩:=hown;obtain ⟨f2,n2,b2,t2⟩:=k;obtain ⟨i,z,g1,g2,g3,g4,g5⟩:=T.info
 have hwd:∀ ds:List D,(∀ d ∈ ds,D.width d = n) -> D.widths ds = ds.length * n:=by
  intro ds h; induction ds with
  | nil => simp [D.widths]
  | cons x r ih => simp only [D.widths,h x (by simp),ih (fun d hd => h d (by simp [hd])),length_cons,Nat.succ_mul]; omega
 have hr':(w1.alloc (.cells news.toArray e)).ownsRow B e n v ds.length xs:=by
  have hb2:=zag hb ((Below.refl w1.heap.size w1).alloc lR (.cells news.toArray e)) lR;refine ⟨hr.1,?_⟩
  rcases hr.2 with h2 | ⟨g,cap,cur,hv,hg,hh,r⟩
  ·exact .inl h2
  ·exact .inr ⟨g,cap,cur,hv,hg,by rw [hb2.block g (zao hh)]; exact hh,r⟩
 have hsz:=hb.size
 refine wpList_append_lies _ hgd s x t ho B e i z n bytes T.under g1 g2 g3 g4 g5 T.pos v ds.length xs hs hr' ⟨w1.heap.size,0,none⟩ ds'.length c news hx (by rw [t2.len,hwd ds' hw']) lit_cells h1 hne (by unfold maxLen; omega)
  (Nat.le_trans (Nat.mul_le_mul h63 hby) (by decide)) (by simp; omega) _ rfl ?_
 intro g cap w' q1 q2 q3 _;obtain ⟨r1,r2⟩:=OwnSl.grow hB hr hw ht k1 k2 k3 hb n2 b2 t2 hw' q1 q2 q3;exact h g cap w' r1 r2
end
end Go.Proofs.YtaofmfkcfmcmpaaGreatDoor
