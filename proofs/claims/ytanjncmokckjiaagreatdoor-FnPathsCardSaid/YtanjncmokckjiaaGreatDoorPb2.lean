/- Part 2 of a proof: PvS, PvT, PvU, PvV, PvK, PvW0, PvY, PvZ, PvW, PvX, PvB, PvB2, PvO, ShapeDef, Range, ValueDef, Find, WrongDef, PvD, PvJ0, Keep, PvN, PvN2, PvN3, PvVal, PvEnv, Own2, PathDef, Repl, BuildC, Shelf, Build, Text, TextS, TextI, MaxC, PutI, Path, PvLw, PvHlp, PvTrim, PvNe, PvLift, PvRow, Lcg -/
import Derived.Test.YtanjncmokckjiaaGreatDoorPb1
import Derived.StillTailTactics
import Derived.Shelf.Unicode.ValidAny
import Derived.Shelf.Strings.BuilderK
import Derived.Shelf.Strconv.Itoa3
import Derived.Shelf.Strconv.ErrVar
import Derived.Shelf.Strconv.ErrVarAll
import Derived.Shelf.Strings.Shaped
import Derived.Shelf.Strings.SplitShaped
import Derived.Deep.RegionHeld3
namespace Go.Proofs.YtanjncmokckjiaaGreatDoor
open Go.RowKit
set_option maxHeartbeats 4000000
set_option maxRecDepth 100000
open List
section
def edgesOf (o:Oper):List Nat:=(o.after.toList.filter (Region.binds .any)).map (·.on)
def befs (es:List (List Nat)):List (List Nat):=es.foldl (fun acc e => acc ++ [(e ++ e.flatMap fun j => acc.getD j []).eraseDups]) []
def befOf (bs:List (List Nat)) (i:Nat):List Nat:=bs.getD i []
structure Canon (ml:List MOpr) (es bs:List (List Nat)) (ord:List Nat):Prop where
 len:es.length = ml.length
 blen:bs.length = ml.length
 nodup:ord.Nodup
 mem:∀ i,i ∈ ord ↔ i < ml.length
 acyc:∀ i e,i < ml.length -> e ∈ es.getD i [] -> e < i
 bef:∀ i j,i < ml.length -> j ∈ befOf bs i -> j ∈ es.getD i [] \/ ∃ e ∈ es.getD i [],j ∈ befOf bs e
 dst:∀ (i j:Nat) (a b:MOpr) (t:Nat),ml[i]? = some a -> ml[j]? = some b -> a.d = some t -> b.d = some t -> i = j
 touch:∀ (i j:Nat) (a b:MOpr) (t:Nat),ml[i]? = some a -> ml[j]? = some b -> a.d = some t -> t ∈ b.tmps -> i ∈ befOf bs j \/ j ∈ befOf bs i
 ord':∀ pre i post,ord = pre ++ i :: post -> ∀ j ∈ befOf bs i,j ∈ pre
 loud:∀ (i j:Nat) (a b:MOpr),ml[i]? = some a -> ml[j]? = some b -> a.o.loud = true -> b.o.loud = true -> i ≠ j -> i ∈ befOf bs j \/ j ∈ befOf bs i
 asap:∀ (pre:List Nat) (i:Nat) (post:List Nat) (a:MOpr),ord = pre ++ i :: post -> ml[i]? = some a -> a.o.loud = false -> ∀ (j:Nat) (b:MOpr),j ∈ pre -> ml[j]? = some b -> b.o.loud = true -> j ∈ befOf bs i
 store:∀ (i j:Nat) (a b:MOpr),ml[i]? = some a -> ml[j]? = some b -> a.o.isLoad = true -> b.wr = true -> (i ∈ befOf bs j \/ j ∈ befOf bs i) \/ ∃ x,adrL a.o = some x /\ x ∈ b.c /\ ∀ t ∈ x.tmps,∀ (k:Nat) (mk:MOpr),ml[k]? = some mk -> mk.d = some t -> k ∈ befOf bs i
 self:∀ i,i < ml.length -> i ∉ befOf bs i
section
variable {ml:List MOpr} {es bs:List (List Nat)} {ord:List Nat} (hc:Canon ml es bs ord)
include hc
theorem Canon.closed (L:Nat -> Prop) (hL:∀ i,i < ml.length -> L i -> ∀ e ∈ es.getD i [],L e):∀ (i:Nat),i < ml.length -> (∀ e ∈ es.getD i [],L e) -> ∀ j ∈ befOf bs i,L j:=by
 intro i
 induction i using Nat.strongRecOn with
 | _ i ih =>
  intro hi he j hj
  rcases hc.bef i j hi hj with h | ⟨e,he',h⟩
  ·exact he j h
  ·have hlt:=hc.acyc i e hi he'
   exact ih e hlt (by omega) (hL e (by omega) (he e he')) j h
end
def wr (ml:List MOpr) (L:Nat -> Prop) (t:Nat):Prop:=∃ (i:Nat) (m:MOpr),ml[i]? = some m /\ m.d = some t /\ L i
open Classical in
noncomputable def mix (ml:List MOpr) (L:Nat -> Prop) (f g:Nat -> PV):Nat -> PV:=fun t => if wr ml L t then f t else g t
def Done (ml:List MOpr) (bs:List (List Nat)) (tm0 tm:Nat -> PV) (bx:LP PC) (j:Nat):Prop :=
 ∀ (m:MOpr),ml[j]? = some m -> m.o.loud = false -> ∃ v,(∀ t,m.d = some t -> tm t = v) /\
  ((gd m.g (mix ml (· ∈ befOf bs j) tm tm0) = some true /\ qf (ev (mix ml (· ∈ befOf bs j) tm tm0)) bx m.o = some v) \/ (gd m.g (mix ml (· ∈ befOf bs j) tm tm0) = some false /\ v = .tup []))
structure Sim (E:Env) (B:Base) (ml:List MOpr) (es bs:List (List Nat)) (ord:List Nat) (K:St -> Prop) (tm0:Nat -> PV) (L:Nat -> Prop) (pre rest:List Nat) (s:St):Prop where
 split:ord = pre ++ rest
 head:∀ (i:Nat) (r:List Nat) (m:MOpr),rest = i :: r -> ml[i]? = some m -> m.o.loud = true
 run:po E (rest.filterMap (ml[·]?)) K s
 lt:∀ i,L i -> i < ml.length
 closed:∀ i,i < ml.length -> L i -> ∀ e ∈ es.getD i [],L e
 sub:∀ i,L i -> i ∈ pre
 loud:∀ (i:Nat) (m:MOpr),ml[i]? = some m -> m.o.loud = true -> i ∈ pre -> L i
 fresh:∀ t,¬ wr ml (· ∈ pre) t -> s.tm t = tm0 t
 done:∀ j ∈ pre,¬ L j -> Done ml bs tm0 s.tm s.bx j
section
variable {E:Env} {B:Base} {ml:List MOpr} {es bs:List (List Nat)} {ord:List Nat} {K:St -> Prop} {tm0:Nat -> PV}
theorem mix_eq (hc:Canon ml es bs ord) {L:Nat -> Prop} (hLlt:∀ i,L i -> i < ml.length) (hLcl:∀ i,i < ml.length -> L i -> ∀ e ∈ es.getD i [],L e) {j:Nat} {m:MOpr} (hj:ml[j]? = some m) (hnot:¬ L j) (hready:∀ e ∈ es.getD j [],L e) (f g:Nat -> PV) :
  ∀ t ∈ m.tmps,mix ml (· ∈ befOf bs j) f g t = mix ml L f g t:=by
 intro t ht
 have hjl:j < ml.length:=by
  rcases Nat.lt_or_ge j ml.length with h | h
  ·exact h
  ·simp [getElem?_eq_none h] at hj
 have hcl:=hc.closed L hLcl;by_cases h1:wr ml (· ∈ befOf bs j) t
 ·have h2:wr ml L t:=by
   obtain ⟨i,mi,a1,a2,a3⟩:=h1;exact ⟨i,mi,a1,a2,hcl j hjl hready i a3⟩
  simp [mix,h1,h2]
 ·have h2:¬ wr ml L t:=by
   rintro ⟨i,mi,a1,a2,a3⟩
   rcases hc.touch i j mi m t a1 hj a2 ht with h | h
   ·exact h1 ⟨i,mi,a1,a2,h⟩
   ·exact hnot (hcl i (hLlt i a3) (hLcl i (hLlt i a3) a3) j h)
  simp [mix,h1,h2]
theorem quiets (hc:Canon ml es bs ord) {L:Nat -> Prop}:∀ (rest pre:List Nat) (s:St),ord = pre ++ rest -> po E (rest.filterMap (ml[·]?)) K s -> (∀ i,L i -> i < ml.length) -> (∀ i,i < ml.length -> L i -> ∀ e ∈ es.getD i [],L e) -> (∀ i,L i -> i ∈ pre) ->
  (∀ (i:Nat) (m:MOpr),ml[i]? = some m -> m.o.loud = true -> i ∈ pre -> L i) -> (∀ t,¬ wr ml (· ∈ pre) t -> s.tm t = tm0 t) -> (∀ j ∈ pre,¬ L j -> Done ml bs tm0 s.tm s.bx j) ->
  ∃ pre' rest' s',Sim E B ml es bs ord K tm0 L pre' rest' s' /\ s'.bx = s.bx /\ s'.nt = s.nt /\ s'.live = s.live /\ (∀ t,wr ml (· ∈ pre) t -> s'.tm t = s.tm t):=by
 intro rest
 induction rest with
 | nil =>
  intro pre s h1 h2 h3 h4 h5 h6 h7 h8
  exact ⟨pre,[],s,⟨h1,(fun i r m h => by cases h),h2,h3,h4,h5,h6,h7,h8⟩,rfl,rfl,rfl,fun _ _ => rfl⟩
 | cons i rest ih =>
  intro pre s h1 h2 h3 h4 h5 h6 h7 h8;have him:i ∈ ord:=by rw [h1]; simp
  have hil:i < ml.length:=(hc.mem i).1 him;have hmi:ml[i]? = some ml[i]:=getElem?_eq_getElem hil;by_cases hloud:ml[i].o.loud = true
  ·exact ⟨pre,i :: rest,s,⟨h1,fun i' r m h hm => by simp only [cons.injEq] at h; obtain ⟨rfl,rfl⟩:=h; rw [hmi] at hm; simp only [sI] at hm; subst hm; exact hloud,h2,h3,h4,h5,h6,h7,h8⟩,rfl,rfl,rfl,fun _ _ => rfl⟩
  ·have hq:ml[i].o.loud = false:=by simpa using hloud
   have hnd:=hc.nodup;rw [h1] at hnd
   have hipre:i ∉ pre:=fun h => by
    have:=(nodup_append.1 hnd).2.2 i h i (by simp)
    exact this rfl
   have hiL:¬ L i:=fun h => hipre (h5 i h)
   simp only [filterMap_cons,hmi] at h2;obtain ⟨g,hg,hrun⟩:=h2
   -- what i mentions is as the canonical order has it
   have hmix:∀ t ∈ ml[i].tmps,s.tm t = mix ml (· ∈ befOf bs i) s.tm tm0 t:=by
    intro t ht;by_cases hw:wr ml (· ∈ befOf bs i) t
    ·simp [mix,hw]
    ·simp only [mix,hw,if_false]
     refine h7 t ?_;rintro ⟨k,mk,a1,a2,a3⟩
     rcases hc.touch k i mk ml[i] t a1 hmi a2 ht with h | h
     ·exact hw ⟨k,mk,a1,a2,h⟩
     ·obtain ⟨p1,p2,hp⟩:=append_of_mem a3
      have:=hc.ord' p1 k (p2 ++ i :: rest) (by rw [h1,hp]; simp) i h
      exact hipre (by rw [hp]; simp [this])
   have hdi:∀ t,ml[i].d = some t -> ¬ wr ml (· ∈ pre) t:=by
    rintro t ht ⟨k,mk,a1,a2,a3⟩
    have:=hc.dst k i mk ml[i] t a1 hmi a2 ht
    subst this; exact hipre a3
   -- the step
   have step:∃ v,po E (rest.filterMap (ml[·]?)) K (s.put ml[i].d v) /\ ((gd ml[i].g s.tm = some true /\ qf (ev s.tm) s.bx ml[i].o = some v) \/ (gd ml[i].g s.tm = some false /\ v = .tup [])):=by
    rcases hrun with ⟨rfl,hrun⟩ | ⟨rfl,hrun⟩
    ·generalize hm:ml[i] = m at *
     have hno:∀ x,lf (ev s.tm) s m.o ≠ some x:=by
      intro x hx
      rcases zbG hx with ⟨x,e⟩ | ⟨z,e⟩ | ⟨n,xs,e⟩ | ⟨n,a,x,e⟩ | ⟨n,a,x,e⟩ | ⟨bT,bU,e⟩ <;> rw [e] at hq <;> cases hq
     have:∃ v,qf (ev s.tm) s.bx m.o = some v /\ po E (rest.filterMap (ml[·]?)) K (s.put m.d v):=by
      unfold pstep at hrun
      split at hrun
      ·rename_i e; rw [e] at hq; cases hq
      ·rename_i e; rw [e] at hq; cases hq
      ·rename_i e; rw [e] at hq; cases hq
      ·rcases hrun with h | ⟨v,s',hv,_,_⟩
       ·exact h
       ·exact absurd hv (hno _)
     obtain ⟨v,hv,hk⟩:=this;exact ⟨v,hk,.inl ⟨hg,hv⟩⟩
    ·exact ⟨.tup [],hrun,.inr ⟨hg,rfl⟩⟩
   obtain ⟨v,hk,hv⟩:=step
   have hput:∀ t,wr ml (· ∈ pre) t -> (s.put ml[i].d v).tm t = s.tm t:=by
    intro t ht
    cases hd:ml[i].d with
    | none => rfl
    | some d =>
     simp only [St.put];rw [if_neg (fun h => by subst h; exact hdi _ hd ht)]
   have hbx:(s.put ml[i].d v).bx = s.bx /\ (s.put ml[i].d v).nt = s.nt /\ (s.put ml[i].d v).live = s.live:=by cases ml[i].d <;> exact ⟨rfl,rfl,rfl⟩
   have hmono:∀ j,(∀ k ∈ befOf bs j,k ∈ pre) -> ∀ t,mix ml (· ∈ befOf bs j) (s.put ml[i].d v).tm tm0 t = mix ml (· ∈ befOf bs j) s.tm tm0 t:=by
    intro j hj t;by_cases hw:wr ml (· ∈ befOf bs j) t
    ·simp only [mix,hw,if_true]
     refine hput t ?_;obtain ⟨k,mk,a1,a2,a3⟩:=hw;exact ⟨k,mk,a1,a2,hj k a3⟩
    ·simp only [mix,hw,if_false]
   have hbi:∀ k ∈ befOf bs i,k ∈ pre:=hc.ord' pre i rest h1
   obtain ⟨pre',rest',s',hS,e1,e2,e3,e4⟩:=ih (pre ++ [i]) (s.put ml[i].d v) (by rw [h1]; simp) hk h3 h4 (fun k hk => by simp [h5 k hk]) (fun k m hm hl hk => by
     rcases mem_append.1 hk with hk | hk
     ·exact h6 k m hm hl hk
     ·rw [mem_singleton] at hk; subst hk; rw [hmi] at hm; simp only [sI] at hm; subst hm; rw [hq] at hl; cases hl)
    (fun t ht => by
     have hnp:¬ wr ml (· ∈ pre) t:=fun ⟨k,mk,a1,a2,a3⟩ => ht ⟨k,mk,a1,a2,by simp [a3]⟩
     cases hd:ml[i].d with
     | none => exact h7 t hnp
     | some d =>
      simp only [St.put];rw [if_neg (fun h => ht ⟨i,ml[i],hmi,by rw [hd,h],by simp⟩)];exact h7 t hnp)
    (fun j hj hjL => by
     rcases mem_append.1 hj with hj | hj
     ·-- an earlier one
      obtain ⟨p1,p2,hp⟩:=append_of_mem hj
      have hbj:∀ k ∈ befOf bs j,k ∈ pre:=fun k hk => by
       have:=hc.ord' p1 j (p2 ++ i :: rest) (by rw [h1,hp]; simp) k hk
       rw [hp]; simp [this]
      intro m hm hl;obtain ⟨u,hu1,hu2⟩:=h8 j hj hjL m hm hl;have hmm:=funext (hmono j hbj);refine ⟨u,fun t ht => ?_,?_⟩
      ·rw [hput t ⟨j,m,hm,ht,hj⟩]; exact hu1 t ht
      ·rw [hmm,hbx.1]; exact hu2
     ·rw [mem_singleton] at hj; subst hj
      intro m hm hl;rw [hmi] at hm; simp only [sI] at hm; subst hm
      have hmm:=funext (hmono j hbi);refine ⟨v,fun t ht => ?_,?_⟩
      ·rw [ht]; simp [St.put]
      ·rw [hmm,hbx.1]
       have hgc:gd ml[j].g s.tm = gd ml[j].g (mix ml (· ∈ befOf bs j) s.tm tm0):=gd_congr fun t ht => hmix t (by
        unfold MOpr.tmps; exact mem_append.2 (.inr (by simpa using ht)))
       have hqc:qf (ev s.tm) s.bx ml[j].o = qf (ev (mix ml (· ∈ befOf bs j) s.tm tm0)) s.bx ml[j].o:=zdF fun t ht => hmix t (by unfold MOpr.tmps; exact mem_append.2 (.inl ht))
       rw [<- hgc,<- hqc]; exact hv)
   exact ⟨pre',rest',s',hS,e1.trans hbx.1,e2.trans hbx.2.1,e3.trans hbx.2.2,fun t ht => by
    rw [e4 t (by obtain ⟨k,mk,a1,a2,a3⟩:=ht; exact ⟨k,mk,a1,a2,by simp [a3]⟩)]; exact hput t ht⟩
end
end
section
theorem zd6 {p q:Nat -> Bool} {i:Nat}:∀ {l:List Nat},(∀ j,q j = true -> p j = true) -> i ∈ l -> p i = true -> q i = false -> (l.filter q).length < (l.filter p).length
 | [],_,hi,_,_ => by simp at hi
 | x :: l,hpq,hi,hp,hq => by
  have hle:∀ l:List Nat,(l.filter q).length <= (l.filter p).length:=by
   intro l
   induction l with
   | nil => simp
   | cons y l ih =>
    by_cases hy:q y = true
    ·rw [filter_cons_of_pos hy,filter_cons_of_pos (hpq y hy)]; simp; exact ih
    ·rw [filter_cons_of_neg hy]
     by_cases hy2:p y = true
     ·rw [filter_cons_of_pos hy2]; simp; omega
     ·rw [filter_cons_of_neg hy2]; exact ih
  rcases mem_cons.1 hi with rfl | hi
  ·rw [filter_cons_of_neg (by rw [hq]; decide),filter_cons_of_pos hp]
   have:=hle l; simp; omega
  ·have ih:=zd6 hpq hi hp hq
   by_cases hy:q x = true
   ·rw [filter_cons_of_pos hy,filter_cons_of_pos (hpq x hy)]; simp; exact ih
   ·rw [filter_cons_of_neg hy]
    by_cases hy2:p x = true
    ·rw [filter_cons_of_pos hy2]; simp; omega
    ·rw [filter_cons_of_neg hy2]; exact ih
section
variable {E:Env} {B:Base} {ml:List MOpr} {es bs:List (List Nat)} {ord:List Nat} {K:St -> Prop} {tm0:Nat -> PV} {ops:Array Oper} {Q:Exit -> Act -> World -> Prop}
def LL (listed:Array Bool) (i:Nat):Prop:=listed.getD i false = true
theorem LL_set {listed:Array Bool} {i:Nat} (hi:i < listed.size) (j:Nat):LL (listed.setIfInBounds i true) j ↔ j = i \/ LL listed j:=by
 unfold LL;by_cases h:j = i
 ·subst h; simp [hi]
 ·simp only [Array.getD_eq_getD_getElem?,Array.getElem?_setIfInBounds_ne (show i ≠ j by omega)]; simp [h]
theorem zd7 {tm:Nat -> PV} {bx:LP PC} {nt:Nat} {live:List Nat} {d:Option Nat} {v:PV}:St.put ⟨tm,bx,nt,live⟩ d v = ⟨fun t => if d = some t then v else tm t,bx,nt,live⟩:=by
 cases d with
 | none => simp [St.put]
 | some d =>
  simp only [St.put,sI,St.mk.injEq,and_true]
  funext t
  by_cases h:t = d
  ·subst h; simp
  ·rw [if_neg h,if_neg (fun e => h e.symm)]
theorem sim_any (hc:Canon ml es bs ord) (hsz:ops.size = ml.length) (htr:∀ (i:Nat) (o:Oper) (m:MOpr),ops[i]? = some o -> ml[i]? = some m -> TrO E.P B.n ops o m) (hes:∀ (i:Nat) (o:Oper),ops[i]? = some o -> es.getD i [] = edgesOf o)
  (hK:∀ C' s' a' w',Rep E B C' s' a' w' -> K s' -> Q .normal a' w') :
  ∀ (fuel:Nat) (listed:Array Bool) (C:Cx) (s:St) (a:Act) (w:World) (pre rest:List Nat),Sim E B ml es bs ord K tm0 (LL listed) pre rest s -> listed.size = ops.size -> Rep E B C { s with tm:=mix ml (LL listed) s.tm tm0 } a w ->
   ((range ml.length).filter (fun i => !(listed.getD i false))).length <= fuel -> wpAny E.P .any ops Q fuel listed a w:=by
 -- all is listed
 have hdone:∀ (listed:Array Bool) (C:Cx) (s:St) (a:Act) (w:World) (pre rest:List Nat),Sim E B ml es bs ord K tm0 (LL listed) pre rest s -> Rep E B C { s with tm:=mix ml (LL listed) s.tm tm0 } a w -> (∀ i,i < ml.length -> LL listed i) -> Q .normal a w:=by
  intro listed C s a w pre rest hS hr hall
  have hrest:rest = []:=by
   cases hrr:rest with
   | nil => rfl
   | cons i r =>
    exfalso;have hio:i ∈ ord:=by rw [hS.split,hrr]; simp
    have hip:=hS.sub i (hall i ((hc.mem i).1 hio));have hnd:=hc.nodup;rw [hS.split,hrr] at hnd;exact (nodup_append.1 hnd).2.2 i hip i (by simp) rfl
  have hrun:=hS.run;rw [hrest] at hrun;refine hK C s a w ?_ hrun
  have htm:mix ml (LL listed) s.tm tm0 = s.tm:=by
   funext t
   by_cases hw:wr ml (LL listed) t
   ·simp [mix,hw]
   ·simp only [mix,hw,if_false]
    refine (hS.fresh t ?_).symm;rintro ⟨i,m,a1,a2,a3⟩;refine hw ⟨i,m,a1,a2,hall i ?_⟩
    rcases Nat.lt_or_ge i ml.length with h | h
    ·exact h
    ·simp [getElem?_eq_none h] at a1
  rw [htm] at hr; exact hr
 -- nothing is ready: all is listed
 have hready:∀ (listed:Array Bool),listed.size = ops.size -> Region.ready .any ops listed = [] -> ∀ i,i < ml.length -> LL listed i:=by
  intro listed hls hr i
  induction i using Nat.strongRecOn with
  | _ i ih =>
   intro hi
   apply Classical.byContradiction
   intro hn;have hio:i < ops.size:=by omega
   have:i ∈ Region.ready .any ops listed:=by
    rw [mem_ready];refine ⟨?_,ops[i],Array.getElem?_eq_getElem hio,fun e he hb => ?_⟩
    ·unfold LL at hn
     have hil:i < listed.size:=by omega
     simp only [Array.getD_eq_getD_getElem?,Array.getElem?_eq_getElem hil,Option.getD_some] at hn ⊢;simpa using hn
    ·have hm:e.on ∈ es.getD i []:=by
      rw [hes i ops[i] (Array.getElem?_eq_getElem hio)];unfold edgesOf;exact mem_map.2 ⟨e,mem_filter.2 ⟨by simpa using he,hb⟩,rfl⟩
     have:=hc.acyc i e.on hi hm
     exact ih e.on this (by omega)
   rw [hr] at this; cases this
 intro fuel
 induction fuel with
 | zero =>
  intro listed C s a w pre rest hS hls hr hcount
  have hall:∀ i,i < ml.length -> LL listed i:=by
   intro i hi
   apply Classical.byContradiction
   intro hn
   have:i ∈ (range ml.length).filter (fun i => !(listed.getD i false)):=mem_filter.2 ⟨mem_range.2 hi,by unfold LL at hn; simpa using hn⟩
   have h0:(range ml.length).filter (fun i => !(listed.getD i false)) = []:=eq_nil_of_length_eq_zero (by omega);rw [h0] at this; cases this
  refine ⟨?_,hdone listed C s a w pre rest hS hr hall⟩
  cases hrd:Region.ready .any ops listed with
  | nil => rfl
  | cons i r =>
   exfalso;have hm:i ∈ Region.ready .any ops listed:=by rw [hrd]; simp
   obtain ⟨h1,o,ho,_⟩:=mem_ready.1 hm;have hi:i < ops.size:=(Array.getElem?_eq_some_iff.1 ho).1
   have:=hall i (by omega)
   unfold LL at this;have hil:i < listed.size:=by omega
   simp only [Array.getD_eq_getD_getElem?,Array.getElem?_eq_getElem hil,Option.getD_some] at this h1
   rw [this] at h1; cases h1
 | succ fuel ih =>
  intro listed C s a w pre rest hS hls hr hcount;refine ⟨fun h => hdone listed C s a w pre rest hS hr (hready listed hls h),fun i hi => ?_⟩;obtain ⟨h1,o,ho,hall⟩:=mem_ready.1 hi;have hio:i < ops.size:=(Array.getElem?_eq_some_iff.1 ho).1;have hil:i < ml.length:=by omega
  have hils:i < listed.size:=by omega
  have hmi:ml[i]? = some ml[i]:=getElem?_eq_getElem hil;have htro:=htr i o ml[i] ho hmi;obtain ⟨t1,t2,t3,t4,t5⟩:=id htro;have htro0:TrO E.P B.n ops o { ml[i] with c:=ml[i].keep }:=htro
  have hnL:¬ LL listed i:=by
   unfold LL;simp only [Array.getD_eq_getD_getElem?,Array.getElem?_eq_getElem hils,Option.getD_some] at h1 ⊢;rw [h1]; decide
  have hrdy:∀ e ∈ es.getD i [],LL listed e:=by
   intro e he;rw [hes i o ho] at he;unfold edgesOf at he;obtain ⟨ed,hed,rfl⟩:=mem_map.1 he;obtain ⟨g1,g2⟩:=mem_filter.1 hed;exact hall ed (by simpa using g1) g2
  have hcl:∀ j ∈ befOf bs i,LL listed j:=hc.closed (LL listed) hS.closed i hil hrdy;have hset:=fun j => LL_set (listed:=listed) hils j
  have hcount':((range ml.length).filter (fun j => !((listed.setIfInBounds i true).getD j false))).length <= fuel:=by
   have hlt:=zd6 (p:=fun j => !(listed.getD j false)) (q:=fun j => !((listed.setIfInBounds i true).getD j false)) (i:=i) (l:=range ml.length)
    (fun j hj => by
     simp only [Bool.not_eq_true'] at hj ⊢
     cases h0:listed.getD j false with
     | false => rfl
     | true => have:=(hset j).2 (.inr h0); unfold LL at this; rw [this] at hj; cases hj)
    (mem_range.2 hil) (by simp only [Bool.not_eq_true']; unfold LL at hnL; simpa using hnL) (by
     have:=(hset i).2 (.inl rfl); unfold LL at this; simp only [this]; rfl)
   omega
  have hls':(listed.setIfInBounds i true).size = ops.size:=by rw [Array.size_setIfInBounds]; exact hls
  have hdst:∀ (k:Nat) (mk:MOpr) (t:Nat),ml[k]? = some mk -> mk.d = some t -> ml[i].d = some t -> k = i:=fun k mk t a1 a2 a3 => hc.dst k i mk ml[i] t a1 hmi a2 a3
  have hwset:∀ t,wr ml (LL (listed.setIfInBounds i true)) t ↔ (ml[i].d = some t \/ wr ml (LL listed) t):=by
   intro t
   constructor
   ·rintro ⟨k,mk,a1,a2,a3⟩
    rcases (hset k).1 a3 with rfl | a3
    ·rw [hmi] at a1; simp only [sI] at a1; subst a1; exact .inl a2
    ·exact .inr ⟨k,mk,a1,a2,a3⟩
   ·rintro (h | ⟨k,mk,a1,a2,a3⟩)
    ·exact ⟨i,ml[i],hmi,h,(hset i).2 (.inl rfl)⟩
    ·exact ⟨k,mk,a1,a2,(hset k).2 (.inr a3)⟩
  have hgdm:∀ (f g:Nat -> PV),(∀ t ∈ ml[i].tmps,f t = g t) -> gd ml[i].g f = gd ml[i].g g:=fun f g h => gd_congr fun t ht => h t (by unfold MOpr.tmps; exact mem_append.2 (.inr (by simpa using ht)))
  have hopm:∀ (f g:Nat -> PV),(∀ t ∈ ml[i].tmps,f t = g t) -> ∀ t ∈ ml[i].o.tmps,f t = g t:=fun f g h t ht => h t (by unfold MOpr.tmps; exact mem_append.2 (.inl ht))
  -- the machine's step,for either kind
  have machine:∀ (b:Bool) (K':St -> Prop),gd ml[i].g (mix ml (LL listed) s.tm tm0) = some b -> (b = true -> pstep E { ml[i] with c:=ml[i].keep } K' { s with tm:=mix ml (LL listed) s.tm tm0 }) -> (b = false -> K' (St.put { s with tm:=mix ml (LL listed) s.tm tm0 } ml[i].d (.tup []))) ->
    (∀ C' s' a' w',Rep E B C' s' a' w' -> K' s' -> wpAny E.P .any ops Q fuel (listed.setIfInBounds i true) a' w') -> wpOp E.P ops Q i (wpAny E.P .any ops Q fuel (listed.setIfInBounds i true)) a w:=by
   intro b K' hg hp1 hp2 hk;have hw:=zd4 hr t2 hg;unfold wpOp;simp only [ho,hw]
   cases b with
   | true => rw [if_pos rfl]; exact .inl (zcG htro0 hr (hp1 rfl) hk Q)
   | false =>
    rw [if_neg (by decide)];refine hk C _ _ w (hr.put t5 (.tup [] [] rfl (fun j x y h => by simp at h))) ?_;rw [<- t3]; exact hp2 rfl
  by_cases hloud:ml[i].o.loud = true
  ·-- a loud one: the canonical order's next
   have hipre:i ∉ pre:=fun h => hnL (hS.loud i ml[i] hmi hloud h)
   have hior:i ∈ ord:=(hc.mem i).2 hil;have hnd:=hc.nodup
   obtain ⟨r,hrest⟩:∃ r,rest = i :: r:=by
    rw [hS.split] at hior hnd;have hirest:i ∈ rest:=(mem_append.1 hior).resolve_left hipre
    cases hrr:rest with
    | nil => rw [hrr] at hirest; cases hirest
    | cons l r =>
     by_cases hli:l = i
     ·exact ⟨r,by rw [hli]⟩
     ·exfalso
      have hlo:l ∈ ord:=by rw [hS.split,hrr]; simp
      have hll:l < ml.length:=(hc.mem l).1 hlo;have hml:ml[l]? = some ml[l]:=getElem?_eq_getElem hll;have hld:=hS.head l r ml[l] hrr hml;rw [hrr] at hnd
      rcases hc.loud l i ml[l] ml[i] hml hmi hld hloud hli with h | h
      ·exact (nodup_append.1 hnd).2.2 l (hS.sub l (hcl l h)) l (by simp) rfl
      ·exact hipre (hc.ord' pre l r (by rw [hS.split,hrr]) i h)
   have hsplit:ord = pre ++ i :: r:=by rw [hS.split,hrest]
   have hment:∀ t ∈ ml[i].tmps,s.tm t = mix ml (LL listed) s.tm tm0 t:=by
    intro t ht;by_cases hw:wr ml (LL listed) t
    ·simp [mix,hw]
    ·simp only [mix,hw,if_false]
     refine hS.fresh t ?_;rintro ⟨k,mk,a1,a2,a3⟩
     rcases hc.touch k i mk ml[i] t a1 hmi a2 ht with h | h
     ·exact hw ⟨k,mk,a1,a2,hcl k h⟩
     ·obtain ⟨p1,p2,hp⟩:=append_of_mem a3
      have:=hc.ord' p1 k (p2 ++ i :: r) (by rw [hsplit,hp]; simp) i h
      exact hipre (by rw [hp]; simp [this])
   have hrun:=hS.run;rw [hrest] at hrun;simp only [filterMap_cons,hmi] at hrun;obtain ⟨g,hg,hrun⟩:=hrun;have hg':gd ml[i].g (mix ml (LL listed) s.tm tm0) = some g:=by rw [<- hgdm _ _ hment]; exact hg
   -- behind it
   have after:∀ (v:PV) (bx':LP PC) (nt':Nat) (live':List Nat),po E (r.filterMap (ml[·]?)) K (St.put ⟨s.tm,bx',nt',live'⟩ ml[i].d v) -> (ml[i].wr = false -> bx' = s.bx \/ ∃ c,bx' = s.bx ++ [c]) -> (ml[i].wr = true -> Wrote (ev s.tm) ml[i] s.bx bx' \/ bx' = s.bx) ->
     ∀ C' a' w',Rep E B C' (St.put ⟨mix ml (LL listed) s.tm tm0,bx',nt',live'⟩ ml[i].d v) a' w' -> wpAny E.P .any ops Q fuel (listed.setIfInBounds i true) a' w':=by
    intro v bx' nt' live' hpo hbx hst C' a' w' hr';have hs1:∀ t,¬ ml[i].d = some t -> (St.put ⟨s.tm,bx',nt',live'⟩ ml[i].d v).tm t = s.tm t:=fun t ht => by rw [zd7]; simp [ht]
    have hb1:(St.put ⟨s.tm,bx',nt',live'⟩ ml[i].d v).bx = bx':=by rw [zd7]
    obtain ⟨pre',rest',s2,hS2,e1,e2,e3,e4⟩:=quiets (E:=E) (B:=B) (K:=K) (tm0:=tm0) hc (L:=LL (listed.setIfInBounds i true)) r (pre ++ [i]) (St.put ⟨s.tm,bx',nt',live'⟩ ml[i].d v) (by rw [hsplit]; simp) hpo
     (fun k hk => by rcases (hset k).1 hk with rfl | hk; exact hil; exact hS.lt k hk)
     (fun k hk hL e he => by
      rcases (hset k).1 hL with rfl | hL
      ·exact (hset e).2 (.inr (hrdy e he))
      ·exact (hset e).2 (.inr (hS.closed k hk hL e he)))
     (fun k hk => by rcases (hset k).1 hk with rfl | hk; simp; simp [hS.sub k hk])
     (fun k mk hk hl hkp => by
      rcases mem_append.1 hkp with h | h
      ·exact (hset k).2 (.inr (hS.loud k mk hk hl h))
      ·rw [mem_singleton] at h; exact (hset k).2 (.inl h))
     (fun t ht => by
      rw [hs1 t (fun h => ht ⟨i,ml[i],hmi,h,by simp⟩)];exact hS.fresh t fun ⟨k,mk,a1,a2,a3⟩ => ht ⟨k,mk,a1,a2,by simp [a3]⟩)
     (fun j hj hjL => by
      have hji:j ≠ i:=fun h => hjL ((hset j).2 (.inl h))
      have hjp:j ∈ pre:=(mem_append.1 hj).resolve_right (by simpa using hji);have hjL':¬ LL listed j:=fun h => hjL ((hset j).2 (.inr h))
      obtain ⟨p1,p2,hp⟩:=append_of_mem hjp
      have hbj:∀ k ∈ befOf bs j,k ∈ pre:=fun k hk => by
       have:=hc.ord' p1 j (p2 ++ i :: r) (by rw [hsplit,hp]; simp) k hk
       rw [hp]; simp [this]
      have hmm:mix ml (· ∈ befOf bs j) (St.put ⟨s.tm,bx',nt',live'⟩ ml[i].d v).tm tm0 = mix ml (· ∈ befOf bs j) s.tm tm0:=by
       funext t
       by_cases hw:wr ml (· ∈ befOf bs j) t
       ·simp only [mix,hw,if_true]
        refine hs1 t fun hd => ?_
        obtain ⟨k,mk,a1,a2,a3⟩:=hw
        have:=hdst k mk t a1 a2 hd
        subst this; exact hipre (hbj k a3)
       ·simp only [mix,hw,if_false]
      intro m hm hl;obtain ⟨u,hu1,hu2⟩:=hS.done j hjp hjL' m hm hl;refine ⟨u,fun t ht => ?_,?_⟩
      ·rw [hs1 t fun hd => hji (hdst j m t hm ht hd)]; exact hu1 t ht
      ·rw [hmm,hb1]
       refine hu2.imp (fun ⟨q1,q2⟩ => ⟨q1,?_⟩) id
       cases his:ml[i].wr with
       | false => exact qf_ext q2 (hbx his)
       | true =>
        rcases hst his with hwr | hsame
        ·cases hld:m.o.isLoad with
         | false => rw [qf_nobx hld (bx':=s.bx)]; exact q2
         | true =>
          rcases hc.store j i m ml[i] hm hmi hld his with (h | h) | ⟨x,x1,x2,x3⟩
          ·exact absurd (hcl j h) hjL'
          ·exact absurd (hbj i h) hipre
          ·refine qf_apart x1 (zar fun t ht => ?_) hwr (fun k => ⟨k,rfl⟩) x2 q2
           by_cases hw:wr ml (· ∈ befOf bs j) t
           ·simp [mix,hw]
           ·simp only [mix,hw,if_false]
            refine (hS.fresh t ?_).symm;rintro ⟨k,mk,a1,a2,_⟩;exact hw ⟨k,mk,a1,a2,x3 t ht k mk a1 a2⟩
        ·rw [hsame]; exact q2)
    refine ih _ C' s2 a' w' pre' rest' hS2 hls' ?_ hcount'
    have heq:({ s2 with tm:=mix ml (LL (listed.setIfInBounds i true)) s2.tm tm0 }:St) = St.put ⟨mix ml (LL listed) s.tm tm0,bx',nt',live'⟩ ml[i].d v:=by
     rw [zd7] at e1 e2 e3 ⊢;simp only [St.mk.injEq];refine ⟨?_,e1,e2,e3⟩
     funext t
     have hsub:wr ml (LL (listed.setIfInBounds i true)) t -> wr ml (· ∈ pre ++ [i]) t:=fun ⟨k,mk,a1,a2,a3⟩ => ⟨k,mk,a1,a2,by
      rcases (hset k).1 a3 with rfl | a3
      ·simp
      ·simp [hS.sub k a3]⟩
     by_cases hd:ml[i].d = some t
     ·have hw:wr ml (LL (listed.setIfInBounds i true)) t:=(hwset t).2 (.inl hd)
      simp only [mix,hw,if_true,hd];rw [e4 t (hsub hw),zd7]; simp [hd]
     ·by_cases hw0:wr ml (LL listed) t
      ·have hw:wr ml (LL (listed.setIfInBounds i true)) t:=(hwset t).2 (.inr hw0)
       simp only [mix,hw,hw0,if_true,hd,if_false];rw [e4 t (hsub hw),hs1 t hd]
      ·have hw:¬ wr ml (LL (listed.setIfInBounds i true)) t:=fun h => by rcases (hwset t).1 h with h | h; exact hd h; exact hw0 h
       simp only [mix,hw,hw0,if_false,hd]
    rw [heq]; exact hr'
   rcases hrun with ⟨rfl,hrun⟩ | ⟨rfl,hrun⟩
   ·refine machine true _ hg' (fun _ => zeR (tm':=mix ml (LL listed) s.tm tm0) (hopm _ _ hment) hrun) (fun h => by cases h) ?_
    rintro C' s' a' w' hr' ⟨v,bx',nt',live',rfl,hk,hkind⟩
    rcases hkind with ⟨h,_⟩ | ⟨_,h,h'⟩
    ·rw [hloud] at h; cases h
    ·exact after v bx' nt' live' hk h (fun hs => .inl (h' hs)) C' a' w' hr'
   ·refine machine false (fun s' => s' = St.put { s with tm:=mix ml (LL listed) s.tm tm0 } ml[i].d (.tup [])) hg' (fun h => by cases h) (fun _ => rfl) ?_
    rintro C' s' a' w' hr' rfl;exact after (.tup []) s.bx s.nt s.live hrun (fun _ => .inl rfl) (fun _ => .inr rfl) C' a' w' hr'
  ·-- a quiet one: the canonical order has carried it out
   have hq:ml[i].o.loud = false:=by simpa using hloud
   have hior:i ∈ ord:=(hc.mem i).2 hil;have hnd:=hc.nodup
   have hipre:i ∈ pre:=by
    rw [hS.split] at hior hnd
    rcases mem_append.1 hior with h | h
    ·exact h
    ·exfalso
     cases hrr:rest with
     | nil => rw [hrr] at h; cases h
     | cons l r =>
      rw [hrr] at h hnd;have hlo:l ∈ ord:=by rw [hS.split,hrr]; simp
      have hll:l < ml.length:=(hc.mem l).1 hlo;have hml:ml[l]? = some ml[l]:=getElem?_eq_getElem hll;have hld:=hS.head l r ml[l] hrr hml;have hne:i ≠ l:=fun h => by subst h; rw [hmi] at hml; rw [hq] at hld; cases hld
      have hir:i ∈ r:=(mem_cons.1 h).resolve_left hne;obtain ⟨p1,p2,hp⟩:=append_of_mem hir
      have:=hc.asap (pre ++ l :: p1) i p2 ml[i] (by rw [hS.split,hrr,hp]; simp) hmi hq l ml[l] (by simp) hml hld
      exact (nodup_append.1 hnd).2.2 l (hS.sub l (hcl l this)) l (by simp) rfl
   obtain ⟨v,hv1,hv2⟩:=hS.done i hipre hnL ml[i] hmi hq;have hmix:=mix_eq hc (L:=LL listed) hS.lt hS.closed hmi hnL hrdy s.tm tm0;have hgc:=hgdm _ _ hmix;have hqc:=zdF (bx:=s.bx) (hopm _ _ hmix);rw [hgc,hqc] at hv2
   have hfin:∀ C' a' w',Rep E B C' (St.put { s with tm:=mix ml (LL listed) s.tm tm0 } ml[i].d v) a' w' -> wpAny E.P .any ops Q fuel (listed.setIfInBounds i true) a' w':=by
    intro C' a' w' hr';refine ih _ C' s a' w' pre rest ⟨hS.split,hS.head,hS.run,fun k hk => by rcases (hset k).1 hk with rfl | hk; exact hil; exact hS.lt k hk,fun k hk hL e he => ?_,fun k hk => by rcases (hset k).1 hk with rfl | hk; exact hipre; exact hS.sub k hk,fun k mk hk hl hkp => (hset k).2 (.inr (hS.loud k mk hk hl hkp)),hS.fresh,fun j hj hjL => hS.done j hj fun h => hjL ((hset j).2 (.inr h))⟩ hls' ?_ hcount'
    ·rcases (hset k).1 hL with rfl | hL
     ·exact (hset e).2 (.inr (hrdy e he))
     ·exact (hset e).2 (.inr (hS.closed k hk hL e he))
    ·have heq:({ s with tm:=mix ml (LL (listed.setIfInBounds i true)) s.tm tm0 }:St) = St.put { s with tm:=mix ml (LL listed) s.tm tm0 } ml[i].d v:=by
      rw [zd7];simp only [St.mk.injEq,and_true]
      funext t
      by_cases hd:ml[i].d = some t
      ·have hw:wr ml (LL (listed.setIfInBounds i true)) t:=(hwset t).2 (.inl hd)
       simp only [mix,hw,if_true,hd]; exact hv1 t hd
      ·by_cases hw0:wr ml (LL listed) t
       ·have hw:wr ml (LL (listed.setIfInBounds i true)) t:=(hwset t).2 (.inr hw0)
        simp only [mix,hw,hw0,if_true,hd,if_false]
       ·have hw:¬ wr ml (LL (listed.setIfInBounds i true)) t:=fun h => by rcases (hwset t).1 h with h | h; exact hd h; exact hw0 h
        simp only [mix,hw,hw0,if_false,hd]
     rw [heq]; exact hr'
   rcases hv2 with ⟨hg,hv⟩ | ⟨hg,rfl⟩
   ·refine machine true (fun s' => s' = St.put { s with tm:=mix ml (LL listed) s.tm tm0 } ml[i].d v) hg (fun _ => ?_) (fun h => by cases h) (fun C' s' a' w' hr' he => by subst he; exact hfin C' a' w' hr')
    unfold pstep;split
    ·rename_i e; simp only at e; rw [e] at hq; cases hq
    ·rename_i e; simp only at e; rw [e] at hq; cases hq
    ·rename_i e; simp only at e; rw [e] at hq; cases hq
    ·exact .inl ⟨v,hv,rfl⟩
   ·exact machine false (fun s' => s' = St.put { s with tm:=mix ml (LL listed) s.tm tm0 } ml[i].d (.tup [])) hg (fun h => by cases h) (fun _ => rfl) (fun C' s' a' w' hr' he => by subst he; exact hfin C' a' w' hr')
end
end
section
structure CanonT (ml:List MOpr) (es bs:List (List Nat)):Prop where
 len:es.length = ml.length
 blen:bs.length = ml.length
 acyc:∀ i e,i < ml.length -> e ∈ es.getD i [] -> e < i
 bef:∀ i j,i < ml.length -> j ∈ befOf bs i -> j ∈ es.getD i [] \/ ∃ e ∈ es.getD i [],j ∈ befOf bs e
 dst:∀ (i j:Nat) (a b:MOpr) (t:Nat),ml[i]? = some a -> ml[j]? = some b -> a.d = some t -> b.d = some t -> i = j
 touch:∀ (i j:Nat) (a b:MOpr) (t:Nat),ml[i]? = some a -> ml[j]? = some b -> a.d = some t -> t ∈ b.tmps -> i ∈ befOf bs j \/ j ∈ befOf bs i
 store:∀ (i j:Nat) (a b:MOpr),ml[i]? = some a -> ml[j]? = some b -> a.o.isLoad = true -> b.wr = true -> (i ∈ befOf bs j \/ j ∈ befOf bs i) \/ ∃ x,adrL a.o = some x /\ x ∈ b.c /\ ∀ t ∈ x.tmps,∀ (k:Nat) (mk:MOpr),ml[k]? = some mk -> mk.d = some t -> k ∈ befOf bs i
 self:∀ i,i < ml.length -> i ∉ befOf bs i
section
variable {E:Env} {B:Base} {ml:List MOpr} {es bs:List (List Nat)} {K:St -> Prop} {tm0:Nat -> PV}
end
end
section
section
variable {ml:List MOpr} {es bs:List (List Nat)} (hc:CanonT ml es bs)
include hc
end
section
variable {E:Env} {B:Base} {ml:List MOpr} {es bs:List (List Nat)} {K:St -> Prop} {tm0:Nat -> PV} {ops:Array Oper} {Q:Exit -> Act -> World -> Prop}
end
end
section
def isLoudAt (ml:List MOpr) (i:Nat):Bool :=
 match ml[i]? with
 | some m => m.o.loud
 | none => false
def pickNext (ml:List MOpr) (es:List (List Nat)) (done:List Nat):Option Nat :=
 let rs:=(range ml.length).filter fun i => !done.contains i && (es.getD i []).all done.contains
 match rs.find? fun i => !isLoudAt ml i with
 | some i => some i
 | none => rs.head?
def canonOrd (ml:List MOpr) (es:List (List Nat)):Nat -> List Nat -> List Nat
 | 0,done => done
 | k + 1,done =>
  match pickNext ml es done with
  | some i => canonOrd ml es k (done ++ [i])
  | none => done
def ordOk (ml:List MOpr) (bs:List (List Nat)):List Nat -> List Nat -> Bool
 | _,[] => true
 | pre,i :: r => (befOf bs i).all pre.contains && (isLoudAt ml i || pre.all fun j => !isLoudAt ml j || (befOf bs i).contains j) && ordOk ml bs (pre ++ [i]) r
def X.beq:X -> X -> Bool
 | .t a,.t b => a == b
 | _,_ => false
def besideOk (ml:List MOpr) (bs:List (List Nat)) (i:Nat) (a b:MOpr):Bool :=
 match adrL a.o with
 | some (.t t) => (b.c.any fun y => X.beq y (.t t)) && (range ml.length).all fun k => match ml[k]? with
  | some mk => !(mk.d == some t) || (befOf bs i).contains k
  | none => true
 | _ => false
def pairOk (ml:List MOpr) (bs:List (List Nat)) (i j:Nat):Bool :=
 match ml[i]?,ml[j]? with
 | some a,some b =>
  let o:=(befOf bs j).contains i || (befOf bs i).contains j
  (match a.d with
   | some t => (decide (i = j) || !(b.d == some t)) && (!b.tmps.contains t || o)
   | none => true) &&
  (decide (i = j) || !(a.o.loud && b.o.loud) || o) && (!(a.o.isLoad && b.wr) || o || besideOk ml bs i a b)
 | _,_ => true
def canonOk (ml:List MOpr) (es bs:List (List Nat)) (ord:List Nat):Bool :=
 decide (es.length = ml.length) && decide (bs.length = ml.length) && decide ord.Nodup && ord.all (fun i => decide (i < ml.length)) && (range ml.length).all ord.contains &&
 (range ml.length).all (fun i => (es.getD i []).all fun e => decide (e < i)) &&
 (range ml.length).all (fun i => (befOf bs i).all fun j => (es.getD i []).contains j || (es.getD i []).any fun e => (befOf bs e).contains j) &&
 (range ml.length).all (fun i => (range ml.length).all fun j => pairOk ml bs i j) && ordOk ml bs [] ord
theorem zbq {ml:List MOpr} {bs:List (List Nat)}:∀ {ord pre0:List Nat},ordOk ml bs pre0 ord = true -> ∀ pre i post,ord = pre ++ i :: post -> (∀ j ∈ befOf bs i,j ∈ pre0 ++ pre) /\ (isLoudAt ml i = false -> ∀ j ∈ pre0 ++ pre,isLoudAt ml j = true -> j ∈ befOf bs i)
 | [],pre0,_,pre,i,post,h => by simp at h
 | x :: ord,pre0,hk,pre,i,post,h => by
  simp only [ordOk,Bool.and_eq_true,Bool.or_eq_true,all_eq_true,Bool.not_eq_true',contains_iff_mem] at hk;obtain ⟨⟨h1,h2⟩,h3⟩:=hk
  cases pre with
  | nil =>
   simp only [nil_append,cons.injEq] at h;obtain ⟨rfl,rfl⟩:=h;simp only [append_nil];refine ⟨h1,fun hq j hj hl => ?_⟩
   rcases h2 with h2 | h2
   ·rw [hq] at h2; cases h2
   ·rcases h2 j hj with h | h
    ·rw [hl] at h; cases h
    ·exact h
  | cons y pre =>
   simp only [cons_append,cons.injEq] at h;obtain ⟨rfl,h⟩:=h
   have:=zbq h3 pre i post h
   simpa only [append_assoc,singleton_append] using this
theorem zd8 {ml:List MOpr} {es bs:List (List Nat)} {ord:List Nat} (h:canonOk ml es bs ord = true):Canon ml es bs ord:=by
 simp only [canonOk,Bool.and_eq_true,decide_eq_true_eq,all_eq_true,mem_range,contains_iff_mem] at h;obtain ⟨⟨⟨⟨⟨⟨⟨⟨h1,h2⟩,h3⟩,h4⟩,h5⟩,h6⟩,h7⟩,h8⟩,h9⟩:=h
 have hlt:∀ {i:Nat} {m:MOpr},ml[i]? = some m -> i < ml.length:=fun {i m} hi => by
  rcases Nat.lt_or_ge i ml.length with h | h
  ·exact h
  ·simp [getElem?_eq_none h] at hi
 have hpair:∀ {i j:Nat} {a b:MOpr},ml[i]? = some a -> ml[j]? = some b -> (∀ t,a.d = some t -> (i = j \/ ¬ b.d = some t) /\ (t ∈ b.tmps -> i ∈ befOf bs j \/ j ∈ befOf bs i)) /\ (a.o.loud = true -> b.o.loud = true -> i ≠ j -> i ∈ befOf bs j \/ j ∈ befOf bs i) /\ (a.o.isLoad = true -> b.wr = true -> (i ∈ befOf bs j \/ j ∈ befOf bs i) \/ besideOk ml bs i a b = true):=by
  intro i j a b hi hj
  have:=h8 i (hlt hi) j (hlt hj)
  simp only [pairOk,hi,hj,Bool.and_eq_true,Bool.or_eq_true,decide_eq_true_eq,Bool.not_eq_true',contains_iff_mem] at this;obtain ⟨⟨p1,p2⟩,p3⟩:=this;refine ⟨fun t ht => ?_,fun hl hl2 hne => ?_,fun hl hs => ?_⟩
  ·rw [ht] at p1
   simp only [Bool.and_eq_true,Bool.or_eq_true,decide_eq_true_eq,Bool.not_eq_true',beq_eq_false_iff_ne,ne_eq,contains_iff_mem] at p1;refine ⟨p1.1,fun hm => p1.2.resolve_left fun hh => ?_⟩
   have:b.tmps.contains t = true:=contains_iff_mem.2 hm
   rw [hh] at this; cases this
  ·rcases p2 with (p2 | p2) | p2
   ·exact absurd p2 hne
   ·rw [hl,hl2] at p2; cases p2
   ·exact p2
  ·rcases p3 with (p3 | p3) | p3
   ·rw [hl,hs] at p3; cases p3
   ·exact .inl p3
   ·exact .inr p3
 refine ⟨h1,h2,h3,fun i => ⟨fun hi => h4 i hi,fun hi => h5 i hi⟩,fun i e hi he => h6 i hi e he,fun i j hi hj => ?_,fun i j a b t hi hj ha hb => ?_,fun i j a b t hi hj ha ht => ((hpair hi hj).1 t ha).2 ht,fun pre i post ho j hj => ?_,fun i j a b hi hj ha hb hne => (hpair hi hj).2.1 ha hb hne,
  fun pre i post a ho hi hq j b hj hb hl => ?_,fun i j a b hi hj ha hb => ((hpair hi hj).2.2 ha hb).imp id fun hb => ?_,fun i hi hm => ?_⟩
 ·have:=h7 i hi j hj
  simp only [Bool.or_eq_true,contains_iff_mem,any_eq_true] at this;exact this
 ·exact ((hpair hi hj).1 t ha).1.resolve_right fun h => h hb
 ·have:=(zbq h9 pre i post ho).1 j hj; simpa using this
 ·have:=(zbq h9 pre i post ho).2 (by simp [isLoudAt,hi,hq]) j (by simpa using hj) (by simp [isLoudAt,hb,hl])
  exact this
 ·unfold besideOk at hb
  split at hb
  ·rename_i t ht
   simp only [Bool.and_eq_true,any_eq_true,all_eq_true,mem_range] at hb;obtain ⟨⟨y,hy1,hy2⟩,hall⟩:=hb
   have hyt:y = .t t:=by
    cases y <;> simp only [X.beq,Bool.false_eq_true] at hy2
    simp only [beq_iff_eq] at hy2; rw [hy2]
   subst hyt;refine ⟨.t t,ht,hy1,fun t' ht' k mk hk hd => ?_⟩;simp only [X.tmps,mem_singleton] at ht'; subst ht'
   have:=hall k (hlt hk)
   simp only [hk,hd,beq_self_eq_true,Bool.not_true,Bool.false_or,contains_iff_mem] at this;exact this
  ·cases hb
 ·-- nothing comes before itself
  have hio:i ∈ ord:=h5 i hi;obtain ⟨p1,p2,hp⟩:=append_of_mem hio
  have:=(zbq h9 p1 i p2 hp).1 i hm
  rw [hp] at h3;exact (nodup_append.1 h3).2.2 i (by simpa using this) i (by simp) rfl
end
section
def trOprs (P:Program) (n:Nat) (ops:Array Oper):List Oper -> Option (List MOpr)
 | [] => some []
 | o :: r =>
  match trOpr P n ops o,trOprs P n ops r with
  | some m,some l => some (m :: l)
  | _,_ => none
def onlySrc (ml:List MOpr) (t:Nat):Bool:=ml.all fun m => match m.o with
 | .app _ s _x => !s.tmps.contains t && (match m.g with | some (u,_) => !(u == t) | none => true) || !m.tmps.contains t
 | _ => !m.tmps.contains t
def toQuiet (ml:List MOpr) (m:MOpr):MOpr :=
 match m.o,m.d with
 | .lit n xs,some d => if onlySrc ml d then { m with o:=.litq n xs } else m
 | _,_ => m
def beside (ml:List MOpr) (bs:List (List Nat)) (j:Nat) (m:MOpr):MOpr :=
 if m.o.isStore then
  { m with c:=(range ml.length).filterMap fun i => match ml[i]? with | some a => if a.o.isLoad && !((befOf bs j).contains i || (befOf bs i).contains j) then adrL a.o else none | none => none }
 else if m.o.isCall then
  { m with c:=.f 0 :: (range ml.length).filterMap fun i => match ml[i]? with | some a => if a.o.isLoad && !((befOf bs j).contains i || (befOf bs i).contains j) then adrL a.o else none | none => none }
 else if m.o.isApp && (range ml.length).all (fun i => match ml[i]? with
   | some a => !a.o.isLoad || (befOf bs j).contains i || (befOf bs i).contains j
   | none => true) then { m with c:=[.f 0] }
 else m
def markCall (m:MOpr):MOpr:=if m.o.isCall || m.o.isApp then { m with c:=[.f 1] } else m
def besides (ml:List MOpr) (bs:List (List Nat)):Nat -> List MOpr -> List MOpr
 | _,[] => []
 | j,m :: r => beside ml bs j m :: besides ml bs (j + 1) r
theorem zcJ {P:Program} {n:Nat} {ops:Array Oper}:∀ {l:List Oper} {ml:List MOpr},trOprs P n ops l = some ml -> ml.length = l.length /\ ∀ (i:Nat) (o:Oper) (m:MOpr),l[i]? = some o -> ml[i]? = some m -> trOpr P n ops o = some m
 | [],ml,h => by simp only [trOprs,sI] at h; subst h; simp
 | o :: l,ml,h => by
  simp only [trOprs] at h
  split at h
  ·rename_i m r h1 h2
   simp only [sI] at h; subst h
   obtain ⟨k1,k2⟩:=zcJ h2;refine ⟨by simp [k1],fun i o' m' ho hm => ?_⟩
   match i with
   | 0 => simp at ho hm; subst ho; subst hm; exact h1
   | i + 1 => exact k2 i o' m' (by simpa using ho) (by simpa using hm)
  ·cases h
theorem zcK {ml:List MOpr} {bs:List (List Nat)}:∀ {l:List MOpr} {j:Nat},(besides ml bs j l).length = l.length
 | [],_ => rfl
 | m :: r,j => by simp [besides,zcK (l:=r)]
theorem zcL {ml:List MOpr} {bs:List (List Nat)}:∀ {l:List MOpr} {j i:Nat} {m:MOpr},(besides ml bs j l)[i]? = some m -> ∃ m0,l[i]? = some m0 /\ m.d = m0.d /\ m.o = m0.o /\ m.g = m0.g
 | [],_,i,m,h => by simp [besides] at h
 | x :: r,j,i,m,h => by
  simp only [besides] at h
  match i with
  | 0 =>
   simp only [getElem?_cons_zero,sI] at h; subst h
   refine ⟨x,rfl,?_⟩;unfold beside; split
   ·exact ⟨rfl,rfl,rfl⟩
   ·split
    ·exact ⟨rfl,rfl,rfl⟩
    ·split <;> exact ⟨rfl,rfl,rfl⟩
  | i + 1 =>
   simp only [getElem?_cons_succ] at h ⊢;exact zcL h
theorem toQuiet_tr {P:Program} {n:Nat} {ops:Array Oper} {o:Oper} {ml:List MOpr} {m:MOpr} (h:TrO P n ops o m) (hq:∀ k xs,m.o = .lit k xs -> trOp P o.op = some (.lit k xs)):TrO P n ops o (toQuiet ml m):=by
 unfold toQuiet;split
 ·rename_i k xs d h1 h2
  split
  ·obtain ⟨a1,a2,a3,a4,a5⟩:=h
   exact ⟨.inr ⟨k,xs,hq k xs h1,rfl⟩,a2,a3,rfl,a5⟩
  ·exact h
 ·exact h
end
section
inductive RT where
 | leaf
 | node (qs:List MOpr) (alts:RT)
 | alt (m:MOpr) (t next:RT)
def RT.isLeaf:RT -> Bool
 | .leaf => true
 | _ => false
def pt (E:Env) (K:St -> Prop):RT -> St -> Prop
 | .leaf,_ => True
 | .node qs a,s => po E qs (fun s => (a.isLeaf = true -> K s) /\ pt E K a s) s
 | .alt m t n,s => po E [m] (pt E K t) s /\ pt E K n s
def asapQ (ml:List MOpr) (bs:List (List Nat)):Nat -> List Nat -> List Nat
 | 0,_ => []
 | f + 1,pre =>
  match (range ml.length).find? (fun i => !isLoudAt ml i && !pre.contains i && (befOf bs i).all pre.contains) with
  | some i => i :: asapQ ml bs f (pre ++ [i])
  | none => []
def qsOk (ml:List MOpr) (bs:List (List Nat)):List Nat -> List Nat -> Bool
 | _,[] => true
 | pre,i :: r => decide (i < ml.length) && !isLoudAt ml i && !pre.contains i && (befOf bs i).all pre.contains && qsOk ml bs (pre ++ [i]) r
def closOk (ml:List MOpr) (bs:List (List Nat)) (pre:List Nat):Bool:=(range ml.length).all fun i => isLoudAt ml i || !(befOf bs i).all pre.contains || pre.contains i
def nextOf (ml:List MOpr) (bs:List (List Nat)) (pre:List Nat):List Nat:=(range ml.length).filter fun i => isLoudAt ml i && !pre.contains i && (befOf bs i).all pre.contains
def altsOf (ml:List MOpr) (rec:Nat -> Option RT):List Nat -> Option RT
 | [] => some .leaf
 | i :: r =>
  match ml[i]?,rec i,altsOf ml rec r with
  | some m,some t,some n => some (.alt m t n)
  | _,_,_ => none
def buildT (ml:List MOpr) (bs:List (List Nat)):Nat -> List Nat -> Option RT
 | 0,_ => none
 | f + 1,pre =>
  let qs:=asapQ ml bs ml.length pre
  if qsOk ml bs pre qs && closOk ml bs (pre ++ qs) then
   (altsOf ml (fun i => buildT ml bs f (pre ++ qs ++ [i])) (nextOf ml bs (pre ++ qs))).map (.node (qs.filterMap (ml[·]?)))
  else none
def pairOkT (ml:List MOpr) (bs:List (List Nat)) (i j:Nat):Bool :=
 match ml[i]?,ml[j]? with
 | some a,some b =>
  let o:=(befOf bs j).contains i || (befOf bs i).contains j
  (match a.d with
   | some t => (decide (i = j) || !(b.d == some t)) && (!b.tmps.contains t || o)
   | none => true) && (!(a.o.isLoad && b.wr) || o || besideOk ml bs i a b)
 | _,_ => true
def canonOkT (ml:List MOpr) (es bs:List (List Nat)):Bool :=
 decide (es.length = ml.length) && decide (bs.length = ml.length) &&
 (range ml.length).all (fun i => (es.getD i []).all fun e => decide (e < i)) &&
 (range ml.length).all (fun i => (befOf bs i).all fun j => (es.getD i []).contains j || (es.getD i []).any fun e => (befOf bs e).contains j) &&
 (range ml.length).all (fun i => (range ml.length).all fun j => pairOkT ml bs i j) && (range ml.length).all fun i => !(befOf bs i).contains i
end
section
def trT (P:Program) (n:Nat) (ops:Array Oper):Option RT :=
 match trOprs P n ops ops.toList with
 | some ml =>
  let es:=ops.toList.map edgesOf
  let bs:=befs es
  let ml:=besides (ml.map (toQuiet ml)) bs 0 (ml.map (toQuiet ml))
  if canonOkT ml es bs then buildT ml bs (ml.length + 1) [] else none
 | none => none
end
section
inductive M where
 | skip
 | ops (l:List MOpr)
 | tree (t:RT)
 | seq (a b:M)
 | cond (x:X) (a b:M)
 | block (id:Nat) (a:M)
 | loop (a:M)
 | exit (id:Nat)
 | ret
def trR (P:Program) (n:Nat) (ops:Array Oper) (draw:Bool):Option (List MOpr) :=
 match trOprs P n ops ops.toList with
 | some ml =>
  if draw then
   let es:=ops.toList.map edgesOf
   let bs:=befs es
   let ml:=besides (ml.map (toQuiet ml)) bs 0 (ml.map (toQuiet ml))
   let ord:=canonOrd ml es ml.length []
   if canonOk ml es bs ord then some (ord.filterMap (ml[·]?)) else none
  else some (ml.map markCall)
 | none => none
def tr (P:Program) (n:Nat):Code -> Option M
 | .skip => some .skip
 | .region _ ops draw =>
  match trR P n ops draw with
  | some l => some (.ops l)
  | none => if draw then (trT P n ops).map .tree else none
 | .seq a b =>
  match tr P n a,tr P n b with
  | some a,some b => some (.seq a b)
  | _,_ => none
 | .cond x a b =>
  match trX x,tr P n a,tr P n b with
  | some x,some a,some b => some (.cond x a b)
  | _,_,_ => none
 | .block id a => (tr P n a).map (.block id)
 | .loop a => (tr P n a).map .loop
 | .exit id => some (.exit id)
 | .ret => some .ret
 | _ => none
def lift (E:Env) (B:Base) (Q:Exit -> St -> Prop):Exit -> Act -> World -> Prop:=fun e a w => ∃ C s,Rep E B C s a w /\ match e with
 | .normal => Q .normal s
 | .exit i => Q (.exit i) s
 | .ret => Q .ret s
 | _ => False
theorem lift_mono {E:Env} {B:Base} {Q Q':Exit -> St -> Prop} (h:∀ e s,Q e s -> Q' e s):∀ e a w,lift E B Q e a w -> lift E B Q' e a w:=by
 rintro e a w ⟨C,s,hr,hq⟩;exact ⟨C,s,hr,by cases e <;> first | exact h _ _ hq | exact hq⟩
def mw (E:Env) (B:Base) (m:M) (Q:Exit -> St -> Prop) (s:St):Prop:=∀ code,tr E.P B.n code = some m -> ∀ C a w,Rep E B C s a w -> code.wp E.P (lift E B Q) a w
section
variable {E:Env} {B:Base} {s:St} {Q:Exit -> St -> Prop}
theorem zcj {P:Program} {n:Nat} {c:Code} {m:M} (h:tr P n c = some m) :
  (m = .skip /\ c = .skip) \/ (∃ id ops d l,m = .ops l /\ c = .region id ops d /\ trR P n ops d = some l) \/ (∃ a b a' b',m = .seq a' b' /\ c = .seq a b /\ tr P n a = some a' /\ tr P n b = some b') \/
  (∃ x a b x' a' b',m = .cond x' a' b' /\ c = .cond x a b /\ trX x = some x' /\ tr P n a = some a' /\ tr P n b = some b') \/ (∃ id a a',m = .block id a' /\ c = .block id a /\ tr P n a = some a') \/
  (∃ a a',m = .loop a' /\ c = .loop a /\ tr P n a = some a') \/ (∃ id,m = .exit id /\ c = .exit id) \/ (m = .ret /\ c = .ret) \/ (∃ id ops t,m = .tree t /\ c = .region id ops true /\ trT P n ops = some t):=by
 cases c with
 | skip => simp only [tr,sI] at h; subst h; exact .inl ⟨rfl,rfl⟩
 | region id ops d =>
  simp only [tr] at h
  cases hr:trR P n ops d with
  | none =>
   rw [hr] at h
   cases d with
   | false => cases h
   | true =>
    cases ht:trT P n ops with
    | none => rw [ht] at h; cases h
    | some t => rw [ht] at h; simp only [if_true,Option.map_some,sI] at h; subst h; exact .inr (.inr (.inr (.inr (.inr (.inr (.inr (.inr ⟨id,ops,t,rfl,rfl,ht⟩)))))))
  | some l => rw [hr] at h; simp only [sI] at h; subst h; exact .inr (.inl ⟨id,ops,d,l,rfl,rfl,hr⟩)
 | seq a b =>
  simp only [tr] at h
  split at h
  ·rename_i a' b' h1 h2
   simp only [sI] at h; subst h; exact .inr (.inr (.inl ⟨a,b,a',b',rfl,rfl,h1,h2⟩))
  ·cases h
 | cond x a b =>
  simp only [tr] at h
  split at h
  ·rename_i x' a' b' h0 h1 h2
   simp only [sI] at h; subst h; exact .inr (.inr (.inr (.inl ⟨x,a,b,x',a',b',rfl,rfl,h0,h1,h2⟩)))
  ·cases h
 | block id a =>
  simp only [tr] at h
  cases hr:tr P n a with
  | none => rw [hr] at h; cases h
  | some l => rw [hr] at h; simp only [Option.map_some,sI] at h; subst h; exact .inr (.inr (.inr (.inr (.inl ⟨id,a,l,rfl,rfl,hr⟩))))
 | loop a =>
  simp only [tr] at h
  cases hr:tr P n a with
  | none => rw [hr] at h; cases h
  | some l => rw [hr] at h; simp only [Option.map_some,sI] at h; subst h; exact .inr (.inr (.inr (.inr (.inr (.inl ⟨a,l,rfl,rfl,hr⟩)))))
 | exit id => simp only [tr,sI] at h; subst h; exact .inr (.inr (.inr (.inr (.inr (.inr (.inl ⟨id,rfl,rfl⟩))))))
 | ret => simp only [tr,sI] at h; subst h; exact .inr (.inr (.inr (.inr (.inr (.inr (.inr (.inl ⟨rfl,rfl⟩)))))))
 | _ => simp [tr] at h
theorem mw_mono {m:M} {Q':Exit -> St -> Prop} (h:mw E B m Q s) (hq:∀ e s,Q e s -> Q' e s):mw E B m Q' s:=fun c hc C a w hr => wp_mono (h c hc C a w hr) (lift_mono hq)
theorem zam (h:Q .normal s):mw E B .skip Q s:=by
 intro c hc C a w hr;obtain ⟨_,rfl⟩ | ⟨_,_,_,_,h',_⟩ | ⟨_,_,_,_,h',_⟩ | ⟨_,_,_,_,_,_,h',_⟩ | ⟨_,_,_,h',_⟩ | ⟨_,_,h',_⟩ | ⟨_,h',_⟩ | ⟨h',_⟩ | ⟨_,_,_,h',_⟩:=zcj hc <;> first | (cases h'; done) | exact wp_skip ⟨C,s,hr,h⟩
theorem zad (h:Q .ret s):mw E B .ret Q s:=by
 intro c hc C a w hr;obtain ⟨h',_⟩ | ⟨_,_,_,_,h',_⟩ | ⟨_,_,_,_,h',_⟩ | ⟨_,_,_,_,_,_,h',_⟩ | ⟨_,_,_,h',_⟩ | ⟨_,_,h',_⟩ | ⟨_,h',_⟩ | ⟨_,rfl⟩ | ⟨_,_,_,h',_⟩:=zcj hc <;> first | (cases h'; done) | exact wp_ret ⟨C,s,hr,h⟩
theorem zay {id:Nat} (h:Q (.exit id) s):mw E B (.exit id) Q s:=by
 intro c hc C a w hr;obtain ⟨h',_⟩ | ⟨_,_,_,_,h',_⟩ | ⟨_,_,_,_,h',_⟩ | ⟨_,_,_,_,_,_,h',_⟩ | ⟨_,_,_,h',_⟩ | ⟨_,_,h',_⟩ | ⟨i,h',rfl⟩ | ⟨h',_⟩ | ⟨_,_,_,h',_⟩:=zcj hc <;> first | (cases h'; done) | (cases h'; exact wp_exit ⟨C,s,hr,h⟩)
def seqK (E:Env) (B:Base) (b:M) (Q:Exit -> St -> Prop):Exit -> St -> Prop
 | .normal,s => mw E B b Q s
 | e,s => Q e s
theorem zav {a b:M} (h:mw E B a (seqK E B b Q) s):mw E B (.seq a b) Q s:=by
 intro c hc C ac w hr;obtain ⟨h',_⟩ | ⟨_,_,_,_,h',_⟩ | ⟨x,y,_,_,h',rfl,h1,h2⟩ | ⟨_,_,_,_,_,_,h',_⟩ | ⟨_,_,_,h',_⟩ | ⟨_,_,h',_⟩ | ⟨_,h',_⟩ | ⟨h',_⟩ | ⟨_,_,_,h',_⟩:=zcj hc <;> try (cases h'; done)
 simp only [M.seq.injEq] at h'; obtain ⟨rfl,rfl⟩:=h'
 refine wp_seq (wp_mono (h x h1 C ac w hr) ?_);rintro e a' w' ⟨C',s',hr',hq⟩
 cases e with
 | normal => exact hq y h2 C' a' w' hr'
 | exit i => exact ⟨C',s',hr',hq⟩
 | ret => exact ⟨C',s',hr',hq⟩
 | _ => exact hq.elim
theorem zdG {x:X} {a b:M} {t:Bool} (hx:ev s.tm x = .d (.v (.bool t))) (h1:t = true -> mw E B a Q s) (h2:t = false -> mw E B b Q s):mw E B (.cond x a b) Q s:=by
 intro c hc C ac w hr;obtain ⟨h',_⟩ | ⟨_,_,_,_,h',_⟩ | ⟨_,_,_,_,h',_⟩ | ⟨x0,a0,b0,_,_,_,h',rfl,k0,k1,k2⟩ | ⟨_,_,_,h',_⟩ | ⟨_,_,h',_⟩ | ⟨_,h',_⟩ | ⟨h',_⟩ | ⟨_,_,_,h',_⟩:=zcj hc <;> try (cases h'; done)
 simp only [M.cond.injEq] at h'; obtain ⟨rfl,rfl,rfl⟩:=h'
 have hv:=hr.ro x0 x k0;rw [hx] at hv
 have hb:ac.eval x0 = .bool t:=by
  generalize ac.eval x0 = z at hv
  cases hv with
  | d _ _ hv => cases hv with
   | v _ _ => rfl
 exact wp_cond_split hb (fun e => h1 e a0 k1 C ac w hr) (fun e => h2 e b0 k2 C ac w hr)
def blockK (id:Nat) (Q:Exit -> St -> Prop):Exit -> St -> Prop
 | .exit i,s => if i = id then Q .normal s else Q (.exit i) s
 | e,s => Q e s
theorem zab {id:Nat} {a:M} (h:mw E B a (blockK id Q) s):mw E B (.block id a) Q s:=by
 intro c hc C ac w hr;obtain ⟨h',_⟩ | ⟨_,_,_,_,h',_⟩ | ⟨_,_,_,_,h',_⟩ | ⟨_,_,_,_,_,_,h',_⟩ | ⟨i,a0,_,h',rfl,k⟩ | ⟨_,_,h',_⟩ | ⟨_,h',_⟩ | ⟨h',_⟩ | ⟨_,_,_,h',_⟩:=zcj hc <;> try (cases h'; done)
 simp only [M.block.injEq] at h'; obtain ⟨rfl,rfl⟩:=h'
 refine wp_block (wp_mono (h a0 k C ac w hr) ?_);rintro e a' w' ⟨C',s',hr',hq⟩
 cases e with
 | normal => exact ⟨C',s',hr',hq⟩
 | exit i =>
  simp only [Exit.inBlock];simp only [blockK] at hq;by_cases hi:i = id
  ·rw [if_pos hi] at hq ⊢; exact ⟨C',s',hr',hq⟩
  ·rw [if_neg hi] at hq ⊢; exact ⟨C',s',hr',hq⟩
 | ret => exact ⟨C',s',hr',hq⟩
 | _ => exact hq.elim
def loopK (I:Nat -> St -> Prop) (n:Nat) (Q:Exit -> St -> Prop):Exit -> St -> Prop
 | .normal,s => ∃ k,k < n /\ I k s
 | e,s => Q e s
theorem mw_loop {a:M} (I:Nat -> St -> Prop) (n:Nat) (h0:I n s) (h:∀ n s,I n s -> mw E B a (loopK I n Q) s):mw E B (.loop a) Q s:=by
 intro c hc C ac w hr;obtain ⟨h',_⟩ | ⟨_,_,_,_,h',_⟩ | ⟨_,_,_,_,h',_⟩ | ⟨_,_,_,_,_,_,h',_⟩ | ⟨_,_,_,h',_⟩ | ⟨a0,_,h',rfl,k⟩ | ⟨_,h',_⟩ | ⟨h',_⟩ | ⟨_,_,_,h',_⟩:=zcj hc <;> try (cases h'; done)
 simp only [M.loop.injEq] at h'; obtain rfl:=h'
 refine wp_loop_ghost (fun n a w => ∃ C s,Rep E B C s a w /\ I n s) n ⟨C,s,hr,h0⟩ ?_;rintro n a1 w1 ⟨C1,s1,hr1,hi⟩;refine wp_mono (h n s1 hi a0 k C1 a1 w1 hr1) ?_;rintro e a' w' ⟨C',s',hr',hq⟩
 cases e with
 | normal => obtain ⟨k,hk,hi'⟩:=hq; exact ⟨k,hk,C',s',hr',hi'⟩
 | exit i => exact ⟨C',s',hr',hq⟩
 | ret => exact ⟨C',s',hr',hq⟩
 | _ => exact hq.elim
theorem zae {l:List MOpr} (h:po E l (Q .normal) s):mw E B (.ops l) Q s:=by
 intro c hc C ac w hr;obtain ⟨h',_⟩ | ⟨id,ops,d,_,h',rfl,k⟩ | ⟨_,_,_,_,h',_⟩ | ⟨_,_,_,_,_,_,h',_⟩ | ⟨_,_,_,h',_⟩ | ⟨_,_,h',_⟩ | ⟨_,h',_⟩ | ⟨h',_⟩ | ⟨_,_,_,h',_⟩:=zcj hc <;> try (cases h'; done)
 simp only [M.ops.injEq] at h'; obtain rfl:=h'
 unfold trR at k
 split at k
 ·rename_i ml hml
  obtain ⟨m1,m2⟩:=zcJ hml;have hsz:ops.size = ml.length:=by rw [m1,Array.length_toList]
  cases d with
  | false =>
   simp only [Bool.false_eq_true,if_false,sI] at k; subst k
   refine wp_region ?_;refine po_sound (B:=B) (range ops.size) (ml.map markCall) (by simp [hsz]) (fun k i mo h1 h2 => ?_) hr h (fun C' s' a' w' hr' hk => ⟨C',s',hr',hk⟩);rw [getElem?_map] at h2;obtain ⟨mo0,h3,rfl⟩:=Option.map_eq_some_iff.1 h2
   have htr0:∀ (o:Oper) (m:MOpr),TrO E.P B.n ops o m -> TrO E.P B.n ops o (markCall m):=by
    intro o m ht;unfold markCall; split <;> exact ht
   have hk:k < ops.size:=by
    rcases Nat.lt_or_ge k ops.size with h | h
    ·exact h
    ·rw [getElem?_eq_none (by simpa using h)] at h1; cases h1
   rw [getElem?_range hk] at h1; simp only [sI] at h1; subst h1
   exact ⟨ops[k],Array.getElem?_eq_getElem hk,htr0 _ _ (zdj (m2 k ops[k] mo0 (by simp [hk]) h3))⟩
  | true =>
   simp only [if_true] at k
   split at k
   ·rename_i hcan
    simp only [sI] at k; subst k
    have hC:=zd8 hcan;refine wp_region_any E.mixed ?_
    have hr2:Rep E B C s ac { w with drawn:=w.drawn + 1 }:=by
     have hcell:∀ p:Addr,({ w with drawn:=w.drawn + 1 }:World).cell? p = w.cell? p:=fun _ => rfl
     have hF:Fix C w { w with drawn:=w.drawn + 1 }:=⟨fun _ _ _ => rfl,fun _ _ cs fz h => ⟨cs,fz,h⟩⟩;refine ⟨⟨hr.inv.nb,fun p cs hp => ?_,hr.inv.boxF,hr.inv.boxG,hr.inv.inj,hr.inv.tok,hr.inv.tinj,hr.inv.fin,hr.inv.ng,E.low w _ hr.inv.t lR (fun _ _ => rfl)⟩,hr.nt,hr.n2,⟨hr.ext.os,hr.ext.tape,hr.ext.output,hr.ext.size,hr.ext.F,hr.ext.fix,hr.ext.block,hr.ext.bx,hr.ext.newF,hr.ext.newT,hr.ext.newB,hr.ext.tk⟩,hr.size,hr.defers,fun t => (hr.tm t).frame (CxLe.refl C) hF⟩;obtain ⟨vs,e,hh,hl⟩:=hr.inv.box p cs hp;exact ⟨vs,e,hh,hl.frame (CxLe.refl C) hF⟩
    obtain ⟨ml2,hml2⟩:∃ ml2,ml2 = besides (ml.map (toQuiet ml)) (befs (ops.toList.map edgesOf)) 0 (ml.map (toQuiet ml)):=⟨_,rfl⟩;rw [<- hml2] at hC h;have hsz:ops.size = ml2.length:=by rw [hml2,zcK,length_map]; exact hsz
    have htr:∀ (i:Nat) (o:Oper) (m:MOpr),ops[i]? = some o -> ml2[i]? = some m -> TrO E.P B.n ops o m:=fun i o m ho hm => by
     rw [hml2] at hm;obtain ⟨m0,h0,g1,g2,g3⟩:=zcL hm;rw [getElem?_map] at h0
     cases hmi:ml[i]? with
     | none => rw [hmi] at h0; cases h0
     | some m1 =>
      rw [hmi] at h0; simp only [Option.map_some,sI] at h0; subst h0
      have t0:=m2 i o m1 (by simpa using ho) hmi;have t1:=zdj t0
      have t2:TrO E.P B.n ops o (toQuiet ml m1):=toQuiet_tr t1 fun k xs hk => by
       have:=t1.1
       rw [hk] at this
       rcases this with h | ⟨_,_,_,h⟩
       ·exact h
       ·cases h
      unfold TrO at t2 ⊢;rw [g1,g2,g3]; exact t2
    have hes:∀ (i:Nat) (o:Oper),ops[i]? = some o -> (ops.toList.map edgesOf).getD i [] = edgesOf o:=fun i o ho => by
     rw [getD_eq_getElem?_getD,getElem?_map,Array.getElem?_toList,ho]; rfl
    have hnoL:∀ i,¬ LL (Array.replicate ops.size false) i:=by
     intro i hi;unfold LL at hi
     rcases Nat.lt_or_ge i ops.size with h | h
     ·simp [h] at hi
     ·simp [Array.getD_eq_getD_getElem?,Array.getElem?_eq_none (show (Array.replicate ops.size false).size <= i by simpa using h)] at hi
    obtain ⟨pre',rest',s',hS,e1,e2,e3,_⟩:=quiets (E:=E) (B:=B) (K:=Q .normal) (tm0:=s.tm) hC (L:=LL (Array.replicate ops.size false)) _ [] s rfl h (fun i hi => absurd hi (hnoL i)) (fun i _ hi => absurd hi (hnoL i)) (fun i hi => absurd hi (hnoL i)) (fun i m _ _ hi => by cases hi) (fun _ _ => rfl) (fun j hj => by cases hj);refine sim_any hC hsz htr hes (Q:=lift E B Q) (K:=Q .normal) (tm0:=s.tm) (fun C' s' a' w' hr' hk => ⟨C',s',hr',hk⟩) ops.size (Array.replicate ops.size false) C s' ac _ pre' rest' hS (by simp) ?_ ?_
    ·have hmix:mix ml2 (LL (Array.replicate ops.size false)) s'.tm s.tm = s.tm:=by
      funext t
      have:¬ wr ml2 (LL (Array.replicate ops.size false)) t:=fun ⟨i,_,_,_,hi⟩ => hnoL i hi
      simp [mix,this]
     have:({ s' with tm:=mix ml2 (LL (Array.replicate ops.size false)) s'.tm s.tm }:St) = s:=by
      rw [hmix];obtain ⟨tm',bx',nt',live'⟩:=s';obtain ⟨tm,bx,nt,live⟩:=s;simp only at e1 e2 e3
      subst e1; subst e2; subst e3; rfl
     rw [this]; exact hr2
    ·refine Nat.le_trans (length_filter_le _ _) ?_
     rw [length_range,hsz]; exact lR
   ·cases k
 ·cases k
/-! ### Functions -/
inductive MRes where
 | tm (t:Nat)
 | cell (ag:Bool) (n t:Nat)
def trRes (P:Program):ResultVar -> Option MRes
 | .tmp t => some (.tm t)
 | .cell t ty =>
  match isRowT P ty,sizeT P ty with
  | some ag,some n => if ag || decide (n = 1) then some (.cell ag n t) else none
  | _,_ => none
def trRess (P:Program):List ResultVar -> Option (List MRes)
 | [] => some []
 | r :: l =>
  match trRes P r,trRess P l with
  | some x,some y => some (x :: y)
  | _,_ => none
def resM (s:St):MRes -> Option PV
 | .tm t => some (s.tm t)
 | .cell ag n t =>
  match s.tm t with
  | .ref p o =>
   match s.bx[p]? with
   | some cs => if o + n <= cs.length then ldv ag ((cs.drop o).take n) else none
   | none => none
  | _ => none
def ressM (s:St):List MRes -> Option (List PV)
 | [] => some []
 | r :: l =>
  match resM s r,ressM s l with
  | some x,some y => some (x :: y)
  | _,_ => none
def one:List PV -> PV
 | [v] => v
 | l => .tup l
def look (P:Program) (f:Nat):Option (Nat × M × List MRes) :=
 match P.funcs[f]? with
 | some fn =>
  match fn.body with
  | some c =>
   match tr P fn.ntmps c,trRess P fn.results.toList with
   | some m,some rs => some (fn.ntmps,m,rs)
   | _,_ => none
  | none => none
 | none => none
def initS (args:List PV):St:=⟨fun t => args.getD t (.tup []),[],2,[]⟩
def retK (rs:List MRes) (R:PV -> (Nat -> Prop) -> Prop):Exit -> St -> Prop:=fun e s => (e = .normal \/ e = .ret) /\ ∃ l,ressM s rs = some l /\ R (one l) (· ∈ s.live)
def resSem (tmps:Array Value):ResultVar -> Sem Value
 | .tmp t => Pure.pure (tmps.getD t undef)
 | .cell a t => asAddr (tmps.getD a undef) >>= fun b => loadVar t b
theorem results_eq (fn:Func) (tmps:Array Value):results fn tmps = (fn.results.mapM (resSem tmps) >>= fun vs => Pure.pure (if h:vs.size = 1 then vs[0] else Value.tuple vs)):=by
 unfold results
 congr 1
theorem ress_run {C:Cx} {a:Act} {w:World} (hr:Rep E B C s a w):∀ {rs:List ResultVar} {ms:List MRes} {l:List PV},trRess E.P rs = some ms -> ressM s ms = some l ->
  ∃ vs:List Value,(rs.mapM (resSem a.tmps)).run E.P w = .ok vs w /\ vs.length = l.length /\ ∀ (j:Nat) (x:PV) (y:Value),l[j]? = some x -> vs[j]? = some y -> RpV C w x y
 | [],ms,l,h1,h2 => by
  simp only [trRess,sI] at h1; subst h1
  simp only [ressM,sI] at h2; subst h2
  exact ⟨[],by simp,rfl,fun j x y h => by simp at h⟩
 | r :: rs,ms,l,h1,h2 => by
  simp only [trRess] at h1
  split at h1
  ·rename_i m ms' k1 k2
   simp only [sI] at h1; subst h1
   simp only [ressM] at h2
   split at h2
   ·rename_i x l' k3 k4
    simp only [sI] at h2; subst h2
    obtain ⟨vs,q1,q2,q3⟩:=ress_run hr k2 k4
    have hone:∃ v,(resSem a.tmps r).run E.P w = .ok v w /\ RpV C w x v:=by
     cases r with
     | tmp t =>
      simp only [trRes,sI] at k1; subst k1
      simp only [resM,sI] at k3; subst k3
      exact ⟨_,rfl,hr.tm t⟩
     | cell t ty =>
      simp only [trRes] at k1
      split at k1
      ·rename_i ag n g1 g2
       split at k1
       ·rename_i hag
        have hag':ag = true \/ n = 1:=by simpa using hag
        simp only [sI] at k1; subst k1
        simp only [resM] at k3
        split at k3
        ·rename_i p o hp
         have hv:=hr.tm t;rw [hp] at hv;generalize hz:a.tmps.getD t undef = z at hv
         cases hv
         split at k3
         ·rename_i cs hcs
          split at k3
          ·rename_i hle
           obtain ⟨us,e1,e2,e3⟩:=zd1 hr.inv.bo hcs hle;obtain ⟨u,f1,f2⟩:=zbg e2 e1 g1 g2 hag';refine ⟨u,?_,f2 _ _ e3 k3⟩;simp only [resSem,hz];simpa [Instr.loadAt,Instr.sureAddr,asAddr] using f1
          ·cases k3
         ·cases k3
        ·cases k3
       ·cases k1
      ·cases k1
    obtain ⟨v,g1,g2⟩:=hone;refine ⟨v :: vs,?_,by simp [q2],fun j x' y' hx hy => ?_⟩
    ·rw [mapM_cons,Sem.run_bind,g1]
     simp only [Result.andThen_ok];rw [Sem.run_bind,q1];rfl
    ·match j with
     | 0 => simp at hx hy; subst hx; subst hy; exact g2
     | j + 1 => exact q3 j x' y' (by simpa using hx) (by simpa using hy)
   ·cases h2
  ·cases h1
def retG (rs:List MRes) (R:PV -> List (List PC) -> Nat -> List Nat -> Prop):Exit -> St -> Prop:=fun e s => (e = .normal \/ e = .ret) /\ ∃ l,ressM s rs = some l /\ R (one l) s.bx s.nt s.live
def argS (args:List PV) (bx:List (List PC)) (nt:Nat) (live:List Nat):St:=⟨fun t => args.getD t (.tup []),bx,nt,live⟩
theorem fn_core {f n:Nat} {m:M} {rs:List MRes} (hl:look E.P f = some (n,m,rs)) {args:List PV} {bx:List (List PC)} {nt:Nat} {live:List Nat} {R:PV -> List (List PC) -> Nat -> List Nat -> Prop} (hn:args.length <= n)
  (C:Cx) (w:World) (h:mw E ⟨C,w,n⟩ m (retG rs R) (argS args bx nt live)) (vs:List Value) (hI:Inv E.NG E.T C bx (· ∈ live) w) (hnt:C.nt = nt) (hold:∀ t,t ∈ live -> C.old t) (hn2:2 <= nt) (hlen:vs.length = args.length) (hvs:∀ (j:Nat) (x:PV) (y:Value),args[j]? = some x -> vs[j]? = some y -> RpV C w x y) :
  Calls E.P f vs.toArray w fun e w' => ∃ u x bx' nt' live' C',e = .returned u /\ R x bx' nt' live' /\ Inv E.NG E.T C' bx' (· ∈ live') w' /\ C'.nt = nt' /\ Ext C w C' bx'.length (· ∈ live') w' /\ RpV C' w' x u:=by
 unfold look at hl
 split at hl
 ·rename_i fn hf
  split at hl
  ·rename_i c hc
   split at hl
   ·rename_i m' rs' h1 h2
    simp only [sI,Prod.mk.injEq] at hl;obtain ⟨rfl,rfl,rfl⟩:=hl;refine calls_of_wp hf hc ?_
    have hr:Rep E ⟨C,w,fn.ntmps⟩ C (argS args bx nt live) { tmps:=vs.toArray ++ Array.replicate (fn.ntmps - vs.toArray.size) undef,defers:=[] } w:=by
     have hnb:=hI.nb;refine ⟨hI,hnt,hn2,?_,by simp; omega,rfl,fun t => ?_⟩
     ·exact ⟨rfl,rfl,rfl,lR,fun _ _ h => h,Fix.refl C w,fun _ _ _ _ => rfl,⟨lR,fun _ _ => rfl⟩,fun _ _ h => .inl h,(fun t b ht hb => .inr ⟨t,hold t ht,hb⟩),(fun p hp hp2 => by have h1:C.nb <= p:=hp; have h2:p < bx.length:=hp2; omega),⟨lR,fun _ _ => ⟨rfl,rfl,rfl,rfl⟩⟩⟩
     ·show RpV C w (args.getD t (.tup [])) _
      rw [getD_eq_getElem?_getD,Array.getD_eq_getD_getElem?];by_cases ht:t < args.length
      ·have hx:args[t]? = some args[t]:=getElem?_eq_getElem ht
       have hy:vs[t]? = some (vs[t]'(by omega)):=getElem?_eq_getElem (by omega)
       have:=hvs t _ _ hx hy
       rw [hx,Array.getElem?_append_left (by simp; omega)];simp only [getElem?_toArray,hy,Option.getD_some];exact this
      ·rw [getElem?_eq_none (by omega),Array.getElem?_append_right (by simp; omega)]
       have:(Array.replicate (fn.ntmps - vs.toArray.size) undef)[t - vs.toArray.size]?.getD undef = .tuple (toArray []):=by
        rw [Array.getElem?_replicate]; split <;> rfl
       rw [this];exact .tup [] [] rfl (fun j x y h => by simp at h)
    have hw:=h c h1 C _ w hr;refine wp_mono hw ?_;rintro e a' w' ⟨C',s',hr',hq⟩
    have key:(∃ l,ressM s' rs' = some l /\ R (one l) s'.bx s'.nt s'.live) -> a'.defers = [] /\ ∃ v,(results fn a'.tmps).run E.P w' = .ok v w' /\ ∃ u x bx' nt' live' C',Ending.returned v = .returned u /\ R x bx' nt' live' /\ Inv E.NG E.T C' bx' (· ∈ live') w' /\ C'.nt = nt' /\ Ext C w C' bx'.length (· ∈ live') w' /\ RpV C' w' x u:=by
     rintro ⟨l,hl,hR⟩;obtain ⟨us,k1,k2,k3⟩:=ress_run hr' h2 hl
     have hres:(results fn a'.tmps).run E.P w' = .ok (if h:us.toArray.size = 1 then us.toArray[0] else .tuple us.toArray) w':=by
      rw [results_eq,Sem.run_bind,Array.mapM_eq_mapM_toList,Sem.run_map,k1];rfl
     refine ⟨hr'.defers,_,hres,_,one l,s'.bx,s'.nt,s'.live,C',rfl,hR,hr'.inv,hr'.nt,hr'.ext,?_⟩
     match l,us,k2,k3 with
     | [],[],_,_ => exact .tup [] [] rfl (fun j x y h => by simp at h)
     | [x],[u],_,k3 => exact k3 0 x u rfl rfl
     | x :: x2 :: l,u :: u2 :: us,hk,k3 => exact .tup (x :: x2 :: l) (u :: u2 :: us) (by simpa using hk) k3
    cases e with
    | normal => exact key hq.2
    | ret => exact key hq.2
    | exit i => exact absurd hq.1 (by rintro (h | h) <;> cases h)
    | _ => exact hq.elim
   ·cases hl
  ·cases hl
 ·cases hl
theorem zbw {f n:Nat} {m:M} {rs:List MRes} (hl:look E.P f = some (n,m,rs)) {args:List PV} {R:PV -> (Nat -> Prop) -> Prop} (hn:args.length <= n)
  (h:∀ B,B.n = n -> mw E B m (retK rs R) (initS args)):Fn E f args R:=by
 intro C w vs hI hnt hold hlen hvs;have hI':Inv E.NG E.T C [] (· ∈ ([]:List Nat)) w:=⟨hI.nb,hI.box,hI.boxF,hI.boxG,hI.inj,(fun t ht => by cases ht),(fun t s b ht => by cases ht),hI.fin,hI.ng,hI.t⟩;refine (fn_core (R:=fun x _ _ live => R x (· ∈ live)) hl hn C w (h ⟨C,w,n⟩ rfl) vs hI' hnt (fun t ht => by cases ht) lR hlen hvs).mono ?_;rintro e w' ⟨u,x,bx',nt',live',C',e1,e2,e3,e4,e5,e6⟩;exact ⟨u,x,bx',(· ∈ live'),C',e1,e2,e3,e5,e6⟩
theorem zaO {f n:Nat} {m:M} {rs:List MRes} (hl:look E.P f = some (n,m,rs)) {args:List PV} {bx:List (List PC)} {nt:Nat} {live:List Nat} {R:PV -> List (List PC) -> Nat -> List Nat -> Prop} (hn:args.length <= n)
  (h:∀ B,B.n = n -> mw E B m (retG rs R) (argS args bx nt live)):FnG E f args bx nt live R :=
 fun C w vs hI hnt hold hn2 hlen hvs => fn_core hl hn C w (h ⟨C,w,n⟩ rfl) vs hI hnt (fun t ht => by rw [hold]; exact ht) hn2 hlen hvs
end
end
section
def FnV (E:Env) (f:Nat) (args:List PV) (v:PV):Prop:=Fn E f args (fun x _ => x.dat = some v)
def FnO (E:Env) (f:Nat) (args:List PV) (v:PV):Prop:=Fn E f args (fun x lv => x.dat = some v /\ x.toks.Nodup /\ (∀ t ∈ x.toks,lv t) /\ match x with
 | .d c => c.owned = true
 | .ag cs => ownedL cs = true
 | _ => False)
theorem FnO.v {E:Env} {f:Nat} {args:List PV} {v:PV} (h:FnO E f args v):FnV E f args v:=h.mono fun _ _ h => h.1
def cif (b:Bool) (v:PV):PV:=match b with
 | true => v
 | false => .tup []
def up (d:Nat) (v:PV) (tm:Nat -> PV):Nat -> PV:=fun t => match Nat.beq t d with
 | true => v
 | false => tm t
theorem up_eq (d:Nat) (v:PV) (tm:Nat -> PV):(fun t => if t = d then v else tm t) = up d v tm:=by
 funext t
 unfold up;by_cases h:t = d
 ·subst h; simp
 ·rw [if_neg h]; have:Nat.beq t d = false:=by cases hb:Nat.beq t d with
   | false => rfl
   | true => exact absurd (Nat.eq_of_beq_eq_true hb) h
  rw [this]
theorem up_self {d:Nat} {v:PV} {tm:Nat -> PV} (h:tm d = v):up d v tm = tm:=by
 rw [<- up_eq]; funext t
 by_cases ht:t = d
 ·subst ht; rw [if_pos rfl,h]
 ·rw [if_neg ht]
theorem zaT {tm:Nat -> PV} {bx:LP PC} {nt:Nat} {live:List Nat} {d:Nat} {v:PV}:St.put ⟨tm,bx,nt,live⟩ (some d) v = ⟨up d v tm,bx,nt,live⟩:=by
 simp only [St.put,up_eq]
section
variable {E:Env} {d:Nat} {dd:Option Nat} {o:MO} {g:Option (Nat × Bool)} {c:List X} {r:List MOpr} {K:St -> Prop} {s:St} {tm:Nat -> PV} {bx:LP PC} {nt:Nat} {live:List Nat}
theorem zai (h:K s):po E [] K s:=h
theorem po_q {v:PV} (hg:gd g tm = some true) (hq:qf (ev tm) bx o = some v) (h:po E r K ⟨up d v tm,bx,nt,live⟩):po E (⟨some d,o,g,c⟩ :: r) K ⟨tm,bx,nt,live⟩:=by
 refine ⟨true,hg,.inl ⟨rfl,?_⟩⟩;rw [<- zaT] at h
 cases o <;> first | exact .inl ⟨v,hq,h⟩ | (simp [qf] at hq; done)
theorem po_b {e:Bool} (hg:gd g tm = some true) (hq:qf (ev tm) bx o = some (.d (.v (.bool e)))) (h:∀ b,b = e -> po E r K ⟨up d (.d (.v (.bool b))) tm,bx,nt,live⟩):po E (⟨some d,o,g,c⟩ :: r) K ⟨tm,bx,nt,live⟩:=po_q hg hq (h e rfl)
theorem po_skip (hg:gd g tm = some false) (h:po E r K ⟨up d (.tup []) tm,bx,nt,live⟩):po E (⟨some d,o,g,c⟩ :: r) K ⟨tm,bx,nt,live⟩:=by
 rw [<- zaT] at h; exact ⟨false,hg,.inr ⟨rfl,h⟩⟩
theorem zby {x:X} {cs:List PC} (hq:pcells (ev tm x) = some cs) (h:po E r K ⟨up d (.ref bx.length 0) tm,bx ++ [cs],nt,live⟩):po E (⟨some d,.box x,none,[]⟩ :: r) K ⟨tm,bx,nt,live⟩:=by
 rw [<- zaT] at h;exact ⟨true,rfl,.inl ⟨rfl,.inr ⟨.ref bx.length 0,⟨tm,bx ++ [cs],nt,live⟩,by simp only [lf,hq,Option.map_some],rfl,h⟩⟩⟩
theorem zbH {z:List Value} (h:po E r K ⟨up d (.ref bx.length 0) tm,bx ++ [z.map ofC],nt,live⟩):po E (⟨some d,.zero z,none,[]⟩ :: r) K ⟨tm,bx,nt,live⟩:=by
 rw [<- zaT] at h;exact ⟨true,rfl,.inl ⟨rfl,.inr ⟨.ref bx.length 0,⟨tm,bx ++ [z.map ofC],nt,live⟩,rfl,rfl,h⟩⟩⟩
theorem zaz {n:Nat} {xs:List X} {es:LP PC} (hq:litP (ev tm) n xs = some es) (h:po E r K ⟨up d (.d (.sl nt es)) tm,bx,nt + 1,nt :: live⟩):po E (⟨some d,.lit n xs,none,[]⟩ :: r) K ⟨tm,bx,nt,live⟩:=by
 rw [<- zaT] at h;exact ⟨true,rfl,.inl ⟨rfl,.inr ⟨_,_,by simp only [lf,hq,Option.map_some],rfl,h⟩⟩⟩
theorem za1 {n t t':Nat} {x y:X} {es ds:LP PC} (hx:ev tm x = .d (.sl t es)) (hy:ev tm y = .d (.sl t' ds)) (ht:t = 1 \/ t ∈ live) (hl:es.length + ds.length <= 4294967296) (hd:∀ e ∈ ds,e.length = n) (he:∀ e ∈ es,e.length = n)
  (h:po E r K ⟨up d (.d (.sl nt (es ++ ds))) tm,bx,nt + 1,nt :: live.filter (· != t)⟩):po E (⟨some d,.app n x y,none,c⟩ :: r) K ⟨tm,bx,nt,live⟩:=by
 rw [<- zaT] at h;exact ⟨true,rfl,.inl ⟨rfl,.inl ⟨_,_,by simp only [lf,hx,hy]; rw [if_pos ⟨ht,hl,hd,he⟩],h⟩⟩⟩
theorem po_appB {n p len cap t' k:Nat} {x y:X} {z:List PC} {ds:LP PC} (hx:ev tm x = .d (.row p len cap)) (hy:ev tm y = .d (.sl t' ds)) (hp:bx[p]? = some z) (hz:z.length = n * cap) (hd0:ds ≠ []) (hl:len + ds.length <= 4294967296) (hd:∀ e ∈ ds,e.length = n)
  (h:∀ p' cap' bx',AppB n len cap z ds p bx p' cap' bx' -> po E r K ⟨up d (.d (.row p' (len + ds.length) cap')) tm,bx',nt,live⟩):po E (⟨some d,.app n x y,none,[.f k]⟩ :: r) K ⟨tm,bx,nt,live⟩ :=
 ⟨true,rfl,.inl ⟨rfl,.inr ⟨rfl,p,len,cap,z,t',ds,.inl ⟨hx,hp,hz⟩,hy,hd0,hl,hd,fun p' cap' bx' hA => ⟨fun y hy => by rw [mem_singleton] at hy; subst hy; exact zb4 _ _ _ _,by rw [zaT]; exact h p' cap' bx' hA⟩⟩⟩⟩
theorem po_appN {n t t' k:Nat} {x y:X} {ds:LP PC} (hx:ev tm x = .d (.sl t [])) (hy:ev tm y = .d (.sl t' ds)) (ht:t = 1 \/ t ∈ live) (hd0:ds ≠ []) (hl:ds.length <= 4294967296) (hd:∀ e ∈ ds,e.length = n)
  (h:∀ p' cap' bx',AppB n 0 0 [] ds bx.length bx p' cap' bx' -> po E r K ⟨up d (.d (.row p' (0 + ds.length) cap')) tm,bx',nt,live⟩):po E (⟨some d,.app n x y,none,[.f k]⟩ :: r) K ⟨tm,bx,nt,live⟩ :=
 ⟨true,rfl,.inl ⟨rfl,.inr ⟨rfl,bx.length,0,0,[],t',ds,.inr ⟨t,hx,ht,rfl,rfl,rfl,rfl⟩,hy,hd0,by omega,hd,fun p' cap' bx' hA => ⟨fun y hy => by rw [mem_singleton] at hy; subst hy; exact zb4 _ _ _ _,by rw [zaT]; exact h p' cap' bx' hA⟩⟩⟩⟩
theorem zaL {n p o':Nat} {a x:X} {cs z:List PC} (ha:ev tm a = .ref p o') (hx:pcells (ev tm x) = some cs) (hz:bx[p]? = some z) (hn:cs.length = n /\ o' + n <= z.length) (hc:c.all (apartX (ev tm) a) = true)
  (h:po E r K ⟨tm,bx.set p (spl z o' cs),nt,live⟩):po E (⟨none,.store n a x,none,c⟩ :: r) K ⟨tm,bx,nt,live⟩ :=
 ⟨true,rfl,.inl ⟨rfl,.inr ⟨_,_,by simp only [lf,ha,hx,hz]; rw [if_pos hn],hc,h⟩⟩⟩
theorem za9 {n:Nat} {x i:X} {t:Nat} {es:LP PC} {k:IntKind} {j:Int} {e:List PC} (hg:gd g tm = some true) (hx:ev tm x = .d (.sl t es)) (hi:ev tm i = .d (.v (.int k j))) (he:0 <= j /\ es[j.toNat]? = some e) (hn:e.length = n)
  (h:po E r K ⟨up d (.pt e) tm,bx,nt,live⟩):po E (⟨some d,.ix n x i,g,c⟩ :: r) K ⟨tm,bx,nt,live⟩:=by
 refine po_q hg ?_ h;simp only [qf,hx,hi,if_pos he.1,he.2,if_pos hn]
theorem zao {f:Nat} {xs:List X} {args:List PV} {v:PV} (hd:PV.dats (xs.map (ev tm)) = some args) (hF:FnV E f args v) (h:po E r K ⟨up d v tm,bx,nt,live⟩):po E (⟨some d,.call f xs,none,c⟩ :: r) K ⟨tm,bx,nt,live⟩:=by
 rw [<- zaT] at h;exact ⟨true,rfl,.inl ⟨rfl,.inl ⟨args,_,hd,hF,.inl fun x lv hx => ⟨v,hx,h⟩⟩⟩⟩
theorem zbr {f:Nat} {xs:List X} {args:List PV} {v:PV} {b:Bool} (hg:gd g tm = some b) (hd:b = true -> PV.dats (xs.map (ev tm)) = some args) (hF:b = true -> FnV E f args v) (h:po E r K ⟨up d (cif b v) tm,bx,nt,live⟩):po E (⟨some d,.call f xs,g,c⟩ :: r) K ⟨tm,bx,nt,live⟩:=by
 rw [<- zaT] at h
 cases b with
 | true => exact ⟨true,hg,.inl ⟨rfl,.inl ⟨args,_,hd rfl,hF rfl,.inl fun x lv hx => ⟨v,hx,h⟩⟩⟩⟩
 | false => exact ⟨false,hg,.inr ⟨rfl,h⟩⟩
theorem po_own {f:Nat} {xs:List X} {args:List PV} {v:PV} (hd:PV.dats (xs.map (ev tm)) = some args) (hF:FnO E f args v)
  (h:∀ (x:PV) (nt':Nat),x.dat = some v -> x.toks.Nodup -> (∀ t ∈ x.toks,nt <= t /\ t < nt') -> nt + 2 <= nt' -> (match x with | .d c => c.owned = true | .ag cs => ownedL cs = true | _ => False) -> po E r K ⟨up d x tm,bx,nt',x.toks ++ live⟩):po E (⟨some d,.call f xs,none,c⟩ :: r) K ⟨tm,bx,nt,live⟩:=by
 refine ⟨true,rfl,.inl ⟨rfl,.inl ⟨args,_,hd,hF,.inr ?_⟩⟩⟩;rintro x lv k ⟨h1,h2,h3,h4⟩ hk hlt;have hpos:∀ t ∈ x.toks,t < k:=fun t ht => hlt t (h3 t ht)
 have nd:∀ l:List Nat,l.Nodup -> (l.map (· + nt)).Nodup:=fun l hl => hl.map _ (fun a b hab h => hab (by omega))
 cases x with
 | d x =>
  refine ⟨.d (x.sh nt),rfl,h3,?_⟩;have htk:PV.toks (.d (x.sh nt)) = (PV.toks (.d x)).map (· + nt):=PC.toks_sh nt x
  have:=h (.d (x.sh nt)) (nt + k) (by simp only [PV.dat,PC.er_sh] at h1 ⊢; exact h1) (by rw [htk]; exact nd _ h2) (by rw [htk]; intro t ht; obtain ⟨t0,ht0,rfl⟩:=mem_map.1 ht; have:=hpos t0 ht0; omega) (by omega) (by simp only [PC.owned_sh]; exact h4)
  rw [htk] at this
  rw [zaT]; exact this
 | ag cs =>
  refine ⟨.ag (shL nt cs),rfl,h3,?_⟩;have htk:PV.toks (.ag (shL nt cs)) = (PV.toks (.ag cs)).map (· + nt):=zdE nt cs
  have:=h (.ag (shL nt cs)) (nt + k) (by simp only [PV.dat,erL_sh] at h1 ⊢; exact h1) (by rw [htk]; exact nd _ h2) (by rw [htk]; intro t ht; obtain ⟨t0,ht0,rfl⟩:=mem_map.1 ht; have:=hpos t0 ht0; omega) (by omega) (by simp only [zcF]; exact h4)
  rw [htk] at this
  rw [zaT]; exact this
 | _ => exact h4.elim
end
theorem po_g {E:Env} {d:Nat} {k:Nat} {r:List MOpr} {K:St -> Prop} {tm:Nat -> PV} {bx:LP PC} {nt:Nat} {live:List Nat} {f:Nat} {xs:List X} {args:List PV} {R:PV -> LP PC -> Nat -> List Nat -> Prop} (hd:xs.map (ev tm) = args) (hF:FnG E f args bx nt live R)
  (h:∀ x bx' nt' live',R x bx' nt' live' -> po E r K ⟨up d x tm,bx',nt',live'⟩):po E (⟨some d,.call f xs,none,[.f k]⟩ :: r) K ⟨tm,bx,nt,live⟩:=by
 subst hd;refine ⟨true,rfl,.inl ⟨rfl,.inr ⟨rfl,R,hF,fun x bx' nt' live' hR => ⟨fun y hy => by rw [mem_singleton] at hy; subst hy; exact zb4 _ _ _ _,?_⟩⟩⟩⟩;rw [zaT]; exact h x bx' nt' live' hR
theorem po_gk {E:Env} {d:Nat} {k:Nat} {ys:List X} {r:List MOpr} {K:St -> Prop} {tm:Nat -> PV} {bx:LP PC} {nt:Nat} {live:List Nat} {f:Nat} {xs:List X} {args:List PV} {R:PV -> LP PC -> Nat -> List Nat -> Prop} (hd:xs.map (ev tm) = args) (hF:FnG E f args bx nt live R)
  (hk:∀ x bx' nt' live',R x bx' nt' live' -> ∀ y ∈ ys,keepX (ev tm) bx bx' y)
  (h:∀ x bx' nt' live',R x bx' nt' live' -> po E r K ⟨up d x tm,bx',nt',live'⟩):po E (⟨some d,.call f xs,none,.f k :: ys⟩ :: r) K ⟨tm,bx,nt,live⟩:=by
 subst hd;refine ⟨true,rfl,.inl ⟨rfl,.inr ⟨rfl,R,hF,fun x bx' nt' live' hR => ⟨fun y hy => ?_,?_⟩⟩⟩⟩
 ·rcases mem_cons.1 hy with rfl | hy
  ·exact zb4 _ _ _ _
  ·exact hk x bx' nt' live' hR y hy
 ·rw [zaT]; exact h x bx' nt' live' hR
theorem zaA {E:Env} {B:Base} {a:M} {Q:Exit -> St -> Prop} {s:St} (I:Nat -> St -> Prop) (n:Nat) (h0:I n s) (h:∀ n tm bx nt live,I n ⟨tm,bx,nt,live⟩ -> mw E B a (loopK I n Q) ⟨tm,bx,nt,live⟩):mw E B (.loop a) Q s :=
 mw_loop I n h0 fun n s hi => by obtain ⟨tm,bx,nt,live⟩:=s; exact h n tm bx nt live hi
theorem zax {E:Env} {B:Base} {a b:M} {Q:Exit -> St -> Prop} {s:St} (I:St -> Prop) (h:mw E B a (fun e s => match e with | .normal => I s | e => Q e s) s) (k:∀ tm bx nt live,I ⟨tm,bx,nt,live⟩ -> mw E B b Q ⟨tm,bx,nt,live⟩):mw E B (.seq a b) Q s:=by
 refine zav (mw_mono h ?_);rintro e ⟨tm,bx,nt,live⟩ hq
 cases e <;> first | exact k _ _ _ _ hq | exact hq
/-- an operation that always runs -/
instance instX (n:Nat):OfNat X n:=⟨.t n⟩
abbrev qo (d:Nat) (o:MO):MOpr:=⟨some d,o,none,[]⟩
abbrev ci (n:Int):X:=.c (.int .i64 n)
abbrev cB (b:Bool):X:=.c (.bool b)
abbrev qm (d a:Nat):MOpr:=⟨some d,.mv (.t a),none,[]⟩
abbrev qg (d a b:Nat) (v:Bool):MOpr:=⟨some d,.mv (.t a),some (b,v),[]⟩
abbrev qS (n a b:Nat):MOpr:=⟨none,.store n (.t a) (.t b),none,[]⟩
abbrev ql (d n a:Nat):MOpr:=⟨some d,.load false n (.t a),none,[]⟩
abbrev qL (d n a:Nat):MOpr:=⟨some d,.load true n (.t a),none,[]⟩
abbrev qF (d k a:Nat):MOpr:=⟨some d,.fld k (.t a),none,[]⟩
abbrev qe (d a k:Nat):MOpr:=⟨some d,.ext (.t a) k,none,[]⟩
abbrev qc (d f:Nat) (xs:List X) (k:Nat):MOpr:=⟨some d,.call f xs,none,[.f k]⟩
abbrev so (l:List MOpr) (m:M):M:=.seq (.ops l) m
abbrev oR (l:List MOpr):M:=.seq (.ops l) .ret
abbrev oC (l:List MOpr) (x:X) (m:M):M:=.seq (.seq (.ops l) (.cond x m .skip)) .ret
theorem mwF {E:Env} {B:Base} {Q:Exit -> St -> Prop} {s:St} {x:X} {a b:M} (h:mw E B b Q s) (hx:ev s.tm x = .d (.v (.bool false)):=by exact rfl):mw E B (.cond x a b) Q s:=zdG (t:=false) hx (fun h => absurd h (by decide)) (fun _ => h)
theorem mwT {E:Env} {B:Base} {Q:Exit -> St -> Prop} {s:St} {x:X} {a b:M} (h:mw E B a Q s) (hx:ev s.tm x = .d (.v (.bool true)):=by exact rfl):mw E B (.cond x a b) Q s:=zdG (t:=true) hx (fun _ => h) (fun h => absurd h (by decide))
theorem mZ {G A:Prop} (h:A) (f:A -> G:=by intro h; (repeat' refine po_skip rfl ?_); exact h):G:=f h
theorem mM {G A:Prop} (h:A) (f:A -> G:=by intro h; refine zav (zav (zae ?_)); exact h):G:=f h
theorem mR {G:Prop} (f:G:=by exact zad ⟨.inr rfl,_,rfl,rfl⟩):G:=f
theorem mT {G A:Prop} (h:A) (f:A -> G:=by intro h; (repeat' (first | refine pm ?_ | refine pq ?_ | refine px ?_ | refine zbH ?_ | refine zai ?_)); refine mwT ?_; exact h):G:=f h
theorem mF {G A:Prop} (h:A) (f:A -> G:=by intro h; (repeat' (first | refine pm ?_ | refine pq ?_ | refine px ?_ | refine zbH ?_ | refine zai ?_)); refine mwF ?_; exact h):G:=f h
theorem mK {G A:Prop} (h:A) (f:A -> G:=by intro h; (repeat' (first | refine pm ?_ | refine pq ?_ | refine px ?_ | refine zbH ?_ | refine zai ?_)); refine mwF ?_; refine zam ?_; exact h):G:=f h
theorem mL {G A:Prop} (h:A) (f:A -> G:=by intro h; (first | refine pm ?_ | refine pq ?_); refine zai ?_; exact h):G:=f h
theorem mN {G A:Prop} (h:A) (f:A -> G:=by intro h; (repeat' (first | refine pm ?_ | refine pq ?_ | refine px ?_ | refine zbH ?_ | refine zai ?_)); exact h):G:=f h
theorem mS {G A:Prop} (h:A) (f:A -> G:=by intro h; (first | refine pm ?_ | refine pq ?_); exact h):G:=f h
theorem mO {G A:Prop} (h:A) (f:A -> G:=by intro h; refine zav (zae ?_); exact h):G:=f h
theorem mP {G A:Prop} (h:A) (f:A -> G:=by intro h; refine zav (zae ?_); (repeat' (first | refine pm ?_ | refine pq ?_ | refine px ?_ | refine zbH ?_ | refine zai ?_)); exact h):G:=f h
theorem mQ {G A:Prop} (h:A) (f:A -> G:=by intro h; refine zav (zae ?_); (first | refine pm ?_ | refine pq ?_); exact h):G:=f h
end
section
mutual
def D.pc:D -> List PC
 | .one v => [.v v]
 | .agg fs => D.pcs fs
 | .sl _ es => [.sl 0 (D.pcE es)]
def D.pcs:List D -> List PC
 | [] => []
 | d :: ds => D.pc d ++ D.pcs ds
def D.pcE:List D -> LP PC
 | [] => []
 | d :: ds => D.pc d :: D.pcE ds
end
mutual
def D.wf:D -> Prop
 | .one v => v.oneCell' = true
 | .agg fs => D.wfs fs
 | .sl n es => (∀ e ∈ es,D.width e = n) /\ D.wfs es
def D.wfs:List D -> Prop
 | [] => True
 | d :: ds => D.wf d /\ D.wfs ds
end
mutual
theorem D.pc_len:∀ d:D,d.pc.length = d.width
 | .one v => rfl
 | .agg fs => by simp only [D.pc,D.width]; exact D.pcs_len fs
 | .sl n es => rfl
theorem D.pcs_len:∀ ds:List D,(D.pcs ds).length = D.widths ds
 | [] => rfl
 | d :: ds => by simp only [D.pcs,D.widths,length_append,D.pc_len d,D.pcs_len ds]
end
theorem D.pcE_map:∀ ds:List D,D.pcE ds = ds.map D.pc
 | [] => rfl
 | d :: ds => by simp [D.pcE,D.pcE_map ds]
mutual
theorem D.pc_er:∀ d:D,erL d.pc = d.pc
 | .one v => rfl
 | .agg fs => by simp only [D.pc]; exact D.pcs_er fs
 | .sl n es => by simp only [D.pc,erL,PC.er,D.pcE_er es]
theorem D.pcs_er:∀ ds:List D,erL (D.pcs ds) = D.pcs ds
 | [] => rfl
 | d :: ds => by
  have h1:=D.pc_er d; have h2:=D.pcs_er ds
  rw [zaJ] at h1 h2 ⊢;simp only [D.pcs,map_append,h1,h2]
theorem D.pcE_er:∀ ds:List D,erLL (D.pcE ds) = D.pcE ds
 | [] => rfl
 | d :: ds => by simp only [D.pcE,erLL,D.pc_er d,D.pcE_er ds]
end
mutual
theorem RepC.rp {C:Cx} {w:World} {S:Nat -> Prop} (hF:∀ b o,S b -> C.F b o):∀ {d:D} {cs:List Value},RepC S w d cs -> d.wf -> RpL C w d.pc cs
 | .one v,cs,h,hw => by simp only [RepC] at h; subst h; simp only [D.wf] at hw; exact .one1 (.v v hw)
 | .agg fs,cs,h,hw => by simp only [RepC] at h; simp only [D.wf] at hw; exact RepCs.rp hF h hw
 | .sl n es,cs,h,hw => by
  simp only [RepC] at h; simp only [D.wf] at hw
  obtain ⟨a,c,rfl,h⟩:=h;simp only [D.pc];refine .one1 ?_;by_cases hne:es = []
  ·subst hne; exact .emp a c
  ·obtain ⟨hn,h1,h2,b,o,xs,rfl,hb,hx,hwd,hr⟩:=h hne
   have hlen:xs.length = n * es.length:=by
    rw [hr.len]
    have:∀ l:List D,(∀ e ∈ l,D.width e = n) -> D.widths l = n * l.length:=by
     intro l
     induction l with
     | nil => intro _; rfl
     | cons d l ih => intro hl; simp only [D.widths,length_cons,Nat.mul_succ,hl d (by simp),ih fun e he => hl e (by simp [he])]; omega
    exact this es hwd
   have hE:=RepCs.rpE hF hr hwd hw.2;have hel:(D.pcE es).length = es.length:=by rw [D.pcE_map]; simp
   have hget:∀ i j,i < es.length -> j < n -> n * i + j < xs.length:=by
    intro i j hi hj;rw [hlen]
    calc n * i + j < n * i + n:=by omega
     _ = n * (i + 1):=by rw [Nat.mul_succ]
     _ <= n * es.length:=Nat.mul_le_mul_left n hi
   rw [<- hel];refine .rd _ b o n c (fun i j => xs.getD (n * i + j) undef) (by rw [hel]; exact h1) h2 ⟨hn,?_,?_,fun i j _ _ => hF _ _ hb⟩ ?_
   ·intro e he
    rw [D.pcE_map] at he;obtain ⟨d,hd,rfl⟩:=mem_map.1 he;rw [D.pc_len]; exact hwd d hd
   ·intro i j hi hj
    rw [hel] at hi
    have:=hget i j hi hj
    exact hx _ _ (by rw [getD_eq_getElem?_getD,getElem?_eq_getElem this]; rfl)
   ·intro i j e y he hy
    obtain ⟨v,hv1,hv2⟩:=hE i j e y he hy;rw [getD_eq_getElem?_getD,hv1]; exact hv2
theorem RepCs.rp {C:Cx} {w:World} {S:Nat -> Prop} (hF:∀ b o,S b -> C.F b o):∀ {ds:List D} {cs:List Value},RepCs S w ds cs -> D.wfs ds -> RpL C w (D.pcs ds) cs
 | [],cs,h,hw => by simp only [RepCs] at h; subst h; exact .nil
 | d :: ds,cs,h,hw => by
  simp only [RepCs] at h; simp only [D.wfs] at hw
  obtain ⟨c1,c2,rfl,h1,h2,h3⟩:=h;exact (RepC.rp hF h2 hw.1).append (RepCs.rp hF h3 hw.2)
theorem RepCs.rpE {C:Cx} {w:World} {S:Nat -> Prop} (hF:∀ b o,S b -> C.F b o) {n:Nat}:∀ {ds:List D} {cs:List Value},RepCs S w ds cs -> (∀ e ∈ ds,D.width e = n) -> D.wfs ds ->
  ∀ (i j:Nat) (e:List PC) (y:PC),(D.pcE ds)[i]? = some e -> e[j]? = some y -> ∃ v,cs[n * i + j]? = some v /\ RpC C w y v
 | [],cs,h,_,hw,i,j,e,y,he,hy => by simp [D.pcE] at he
 | d :: ds,cs,h,hwd,hw,i,j,e,y,he,hy => by
  simp only [RepCs] at h; simp only [D.wfs] at hw
  obtain ⟨c1,c2,rfl,h1,h2,h3⟩:=h;have hd:=hwd d (by simp)
  match i with
  | 0 =>
   simp only [D.pcE,getElem?_cons_zero,sI] at he; subst he
   have hr:=RepC.rp hF h2 hw.1
   have hj:j < c1.length:=by
    rw [hr.1];by_cases hj:j < d.pc.length
    ·exact hj
    ·rw [getElem?_eq_none (Nat.not_lt.1 hj)] at hy; cases hy
   refine ⟨c1[j],?_,hr.2 j y _ hy (by simp)⟩
   rw [Nat.mul_zero,Nat.zero_add,getElem?_append_left hj]; simp
  | i + 1 =>
   simp only [D.pcE,getElem?_cons_succ] at he;obtain ⟨v,hv1,hv2⟩:=RepCs.rpE hF h3 (fun e he => hwd e (by simp [he])) hw.2 i j e y he hy;refine ⟨v,?_,hv2⟩;rw [getElem?_append_right (by rw [h1,hd,Nat.mul_succ]; omega),<- hv1]
   congr 1; rw [h1,hd,Nat.mul_succ]; omega
end
theorem RpL.split {C:Cx} {w:World} {c1 c2:List PC} {vs:List Value} (h:RpL C w (c1 ++ c2) vs):∃ v1 v2,vs = v1 ++ v2 /\ v1.length = c1.length /\ RpL C w c1 v1 /\ RpL C w c2 v2:=by
 refine ⟨vs.take c1.length,vs.drop c1.length,by simp,?_,?_,?_⟩
 ·have:=h.1; rw [length_append] at this; rw [length_take]; omega
 ·have:=h.slice 0 c1.length; simpa using this
 ·have:=h.slice c1.length c2.length
  rw [drop_left,take_of_length_le lR,take_of_length_le] at this
  ·exact this
  ·have:=h.1; rw [length_append] at this; rw [length_drop]; omega
mutual
theorem RpL.rep {C:Cx} {w:World} {S:Nat -> Prop} (hF:∀ b o,C.F b o -> S b):∀ {d:D} {cs:List Value},RpL C w d.pc cs -> d.wf -> RepC S w d cs
 | .one v,cs,h,hw => by
  simp only [D.pc] at h;obtain ⟨x,xs,rfl,h1,h2⟩:=h.inv1
  have:=h2.inv0; subst this
  cases h1; simp only [RepC]
 | .agg fs,cs,h,hw => by simp only [RepC]; simp only [D.wf] at hw; simp only [D.pc] at h; exact RpL.reps hF h hw
 | .sl n es,cs,h,hw => by
  simp only [D.wf] at hw; simp only [D.pc] at h
  obtain ⟨x,xs,rfl,h1,h2⟩:=h.inv1
  have:=h2.inv0; subst this
  have hel:(D.pcE es).length = es.length:=by rw [D.pcE_map]; simp
  simp only [RepC];generalize he:D.pcE es = es' at h1 hel
  cases h1 with
  | emp a c =>
   have:es = []:=by rw [D.pcE_map] at he; simpa using he
   subst this; exact ⟨a,c,rfl,fun h => absurd rfl h⟩
  | nilo t h2 ht hb => exact absurd h2 (by decide)
  | own t es b u h2 ht hb hlen hl hc hr h => exact absurd h2 (by decide)
  | rd _ b o n' c u hl hc hr hh =>
   rw [hel];refine ⟨_,c,rfl,fun hne => ?_⟩
   have hn:n' = n:=by
    match es,hne,he with
    | d :: es,_,he =>
     rw [<- he] at hr;have h1:=hr.wid d.pc (by simp [D.pcE]);rw [D.pc_len,hw.1 d (by simp)] at h1; omega
   subst hn
   obtain ⟨xs,hx1,hx2⟩:∃ xs:List Value,xs.length = n' * es.length /\ ∀ i j,i < es.length -> j < n' -> xs[n' * i + j]? = some (u i j):=by
    refine ⟨(range (n' * es.length)).map fun m => u (m / n') (m % n'),by simp,fun i j hi hj => ?_⟩
    have hlt:n' * i + j < n' * es.length:=by
     calc n' * i + j < n' * i + n':=by omega
      _ = n' * (i + 1):=by rw [Nat.mul_succ]
      _ <= n' * es.length:=Nat.mul_le_mul_left n' hi
    rw [getElem?_map,getElem?_range hlt];simp only [Option.map_some,sI];rw [Nat.mul_add_div hr.pos,Nat.mul_add_mod,Nat.div_eq_of_lt hj,Nat.mod_eq_of_lt hj,Nat.add_zero]
   have hpos:=hr.pos;have h00:C.F b (o + (n' * 0 + 0)):=hr.fix 0 0 (by rw [hel]; cases es with | nil => exact absurd rfl hne | cons => simp) hpos;refine ⟨hpos,by omega,hc,b,o,xs,rfl,hF _ _ h00,fun j v hj => ?_,hw.1,RpL.repE hF hw.1 hw.2 hx1 hx2 (fun i j e y h1 h2 => hh i j e y (by rw [<- he]; exact h1) h2)⟩
   have hjl:j < n' * es.length:=by
    rw [<- hx1];by_cases hj':j < xs.length
    ·exact hj'
    ·rw [getElem?_eq_none (Nat.not_lt.1 hj')] at hj; cases hj
   have h1:j / n' < es.length:=(Nat.div_lt_iff_lt_mul hpos).2 (by rw [Nat.mul_comm]; exact hjl);have h2:j % n' < n':=Nat.mod_lt _ hpos;have h3:n' * (j / n') + j % n' = j:=Nat.div_add_mod j n';have h4:=hx2 _ _ h1 h2;rw [h3,hj] at h4;have h5:=hr.cell _ _ (by rw [hel]; exact h1) h2;rw [h3,<- h4] at h5;exact h5
theorem RpL.reps {C:Cx} {w:World} {S:Nat -> Prop} (hF:∀ b o,C.F b o -> S b):∀ {ds:List D} {cs:List Value},RpL C w (D.pcs ds) cs -> D.wfs ds -> RepCs S w ds cs
 | [],cs,h,hw => by simp only [D.pcs] at h; simp only [RepCs]; exact h.inv0
 | d :: ds,cs,h,hw => by
  simp only [D.pcs] at h; simp only [D.wfs] at hw; simp only [RepCs]
  obtain ⟨v1,v2,rfl,h1,h2,h3⟩:=h.split;exact ⟨v1,v2,rfl,by rw [h1,D.pc_len],RpL.rep hF h2 hw.1,RpL.reps hF h3 hw.2⟩
theorem RpL.repE {C:Cx} {w:World} {S:Nat -> Prop} (hF:∀ b o,C.F b o -> S b) {n:Nat}:∀ {ds:List D} {xs:List Value} {u:Nat -> Nat -> Value},(∀ e ∈ ds,D.width e = n) -> D.wfs ds -> xs.length = n * ds.length -> (∀ i j,i < ds.length -> j < n -> xs[n * i + j]? = some (u i j)) ->
  (∀ (i j:Nat) (e:List PC) (y:PC),(D.pcE ds)[i]? = some e -> e[j]? = some y -> RpC C w y (u i j)) -> RepCs S w ds xs
 | [],xs,u,_,hw,hl,_,_ => by simp only [RepCs]; exact eq_nil_of_length_eq_zero (by rw [hl]; simp)
 | d :: ds,xs,u,hwd,hw,hl,hx,h => by
  simp only [D.wfs] at hw; simp only [RepCs]
  have hd:=hwd d (by simp);rw [length_cons,Nat.mul_succ] at hl;refine ⟨xs.take n,xs.drop n,by simp,by rw [length_take]; omega,RpL.rep hF ⟨by rw [length_take,D.pc_len]; omega,fun j c y hc hy => ?_⟩ hw.1,?_⟩
  ·rw [getElem?_take] at hy
   split at hy
   ·rename_i hj
    have:=hx 0 j (by simp) hj
    rw [Nat.mul_zero,Nat.zero_add,hy] at this;simp only [sI] at this;rw [this]; exact h 0 j d.pc c rfl hc
   ·cases hy
  ·refine RpL.repE hF (u:=fun i j => u (i + 1) j) (fun e he => hwd e (by simp [he])) hw.2 (by rw [length_drop]; omega) (fun i j hi hj => ?_) (fun i j e y he hy => h (i + 1) j e y he hy)
   have:=hx (i + 1) j (by simpa using hi) hj
   rw [getElem?_drop,<- this]; congr 1; rw [Nat.mul_succ]; omega
end
end
section
theorem zas:∀ a b:List PC,toksL (a ++ b) = toksL a ++ toksL b
 | [],b => rfl
 | c :: cs,b => by simp only [cons_append,toksL,zas cs b,append_assoc]
theorem zaB:∀ a b:List PC,ownedL (a ++ b) = (ownedL a && ownedL b)
 | [],b => by simp [ownedL]
 | c :: cs,b => by simp only [cons_append,ownedL,zaB cs b,Bool.and_assoc]
def C0 (w:World):Cx:=⟨fun b _ => b < w.heap.size,0,fun _ => 0,2,fun _ => none,fun _ => 0,fun _ => 0,fun _ => 0,fun _ => False⟩
theorem rd1 {w:World} {d:D} {v:Value} {c:PC} (h:Rd w d [v]) (hw:d.wf) (hc:d.pc = [c]):RpV (C0 w) w (.d c) v:=.d _ _ (by
 have:=h.rp (C:=C0 w) (fun _ _ hb => hb) hw
 rw [hc] at this;exact this.2 0 c v rfl rfl)
theorem Fn.use {E:Env} {f:Nat} {args:List PV} {R:PV -> (Nat -> Prop) -> Prop} (h:Fn E f args R) {w:World} (hng:E.NG <= w.heap.size) (hT:E.T w) {vs:List Value} (hl:vs.length = args.length) (hv:∀ (j:Nat) (x:PV) (y:Value),args[j]? = some x -> vs[j]? = some y -> RpV (C0 w) w x y) :
  Calls E.P f vs.toArray w fun e w' => ∃ u x bx live C',e = .returned u /\ R x live /\ Inv E.NG E.T C' bx live w' /\ RpV C' w' x u /\ Below w.heap.size w w' /\ E.T w' /\ ∀ t b,live t -> C'.tk t = some b -> w.heap.size <= b:=by
 refine (h (C0 w) w vs ⟨rfl,fun p cs hp => by simp at hp,fun p hp => by simp at hp,fun p hp => by simp at hp,fun p q hp => by simp at hp,fun t ht => ht.elim,fun t s b ht => ht.elim,fun b o h => h,hng,hT⟩ rfl (fun t h => h) hl hv).mono ?_;rintro e w' ⟨u,x,bx,live,C',e1,e2,e3,e4,e5⟩;exact ⟨u,x,bx,live,C',e1,e2,e3,e5,⟨e4.os,e4.tape,e4.output,e4.size,fun k hk => e4.block0 (fun t h => h) k hk (fun p hp => by simp [C0] at hp)⟩,e3.t,fun t b => e4.newT0 (fun t h => h) t b⟩
theorem FnV.old {E:Env} {f:Nat} {args:List PV} {v:Value} (ho:v.oneCell' = true) (h:∀ (w:World) (C:Cx) (vs:List Value),(∀ b o,C.F b o -> b < w.heap.size) -> E.NG <= w.heap.size -> E.T w -> vs.length = args.length -> (∀ (j:Nat) (x:PV) (y:Value),args[j]? = some x -> vs[j]? = some y -> RpV C w x y) ->
  Calls E.P f vs.toArray w fun e w' => e = .returned v /\ Below w.heap.size w w'):FnV E f args (.d (.v v)):=by
 intro C w vs hI hnt hold hl hv;refine (h w C vs hI.fin hI.ng hI.t hl hv).mono ?_;rintro e w' ⟨rfl,hb⟩;have hF:Fix C w w':=.of (fun b o hF => World.cell?_of_block (a:=⟨b,o,none⟩) (hb.block b (hI.fin b o hF))) hb.block
 refine ⟨v,.d (.v v),[],fun _ => False,C,rfl,rfl,⟨hI.nb,fun p cs hp => by simp at hp,fun p hp => by simp at hp,fun p hp => by simp at hp,fun p q hp => by simp at hp,fun t ht => ht.elim,fun t s b ht => ht.elim,fun b o h => Nat.lt_of_lt_of_le (hI.fin b o h) hb.size,Nat.le_trans hI.ng hb.size,E.low w w' hI.t hb.size (fun k hk => hb.block k (Nat.lt_of_lt_of_le hk hI.ng))⟩,
  ⟨hb.os,hb.tape,hb.output,hb.size,fun _ _ h => h,hF,fun k hk _ _ => hb.block k hk,⟨lR,fun _ _ => rfl⟩,fun _ _ h => .inl h,fun t b ht => ht.elim,(fun p hp hp2 => by simp at hp2),⟨lR,fun _ _ => ⟨rfl,rfl,rfl,rfl⟩⟩⟩,.d _ _ (.v v ho)⟩
theorem vRd {C:Cx} {w:World} (hF:∀ b o,C.F b o -> b < w.heap.size) {d:D} {y:Value} (hw:d.wf) (h:RpV C w (.ag d.pc) y):∃ cs:List Value,y = .agg cs.toArray /\ Rd w d cs:=by
 cases h with
 | ag _ vs h => exact ⟨vs,rfl,RpL.rep hF h hw⟩
end
section
def Fr (NG:Nat) (C:Cx) (bx:LP PC) (live fp:List Nat):Prop:=∀ b ∈ fp,NG <= b /\ (∀ o,¬ C.F b o) /\ (∀ p,p < bx.length -> C.bx p ≠ b) /\ ∀ t ∈ live,C.tk t ≠ some b
structure Nmd (NG:Nat) (T:World -> Prop) (bx:LP PC) (w:World) (C:Cx) (live fp:List Nat) (C':Cx) (new tk:List Nat):Prop where
 le:CxLe C C'
 inv:Inv NG T C' bx (· ∈ new ++ live) w
 nd:tk.Nodup
 sub:∀ t ∈ tk,t ∈ new
 rng:∀ t ∈ new,C.nt <= t /\ t < C'.nt
 F:∀ b o,C'.F b o -> C.F b o \/ b ∈ fp
 tkb:∀ t ∈ new,∃ b ∈ fp,C'.tk t = some b
section
variable {NG:Nat} {T:World -> Prop} {bx:LP PC} {w:World}
theorem Nmd.refl {C:Cx} {live:List Nat} (h:Inv NG T C bx (· ∈ live) w):Nmd NG T bx w C live [] C [] [] :=
 ⟨CxLe.refl C,h,by simp,by simp,by simp,fun _ _ h => .inl h,by simp⟩
theorem Nmd.trans {C C1 C2:Cx} {live f1 f2 n1 n2 t1 t2:List Nat} (h:Nmd NG T bx w C live f1 C1 n1 t1) (k:Nmd NG T bx w C1 (n1 ++ live) f2 C2 n2 t2):Nmd NG T bx w C live (f1 ++ f2) C2 (n2 ++ n1) (t1 ++ t2):=by
 refine ⟨h.le.trans k.le,by rw [append_assoc]; exact k.inv,?_,fun t ht => ?_,fun t ht => ?_,fun b o hF => ?_,fun t ht => ?_⟩
 ·rw [nodup_append]
  refine ⟨h.nd,k.nd,fun a ha b hb e => ?_⟩
  have:=(h.rng a (h.sub a ha)).2; have:=(k.rng b (k.sub b hb)).1; omega
 ·rcases mem_append.1 ht with ht | ht
  ·simp [h.sub t ht]
  ·simp [k.sub t ht]
 ·have:=h.le.nt; have:=k.le.nt
  rcases mem_append.1 ht with ht | ht
  ·have:=k.rng t ht; omega
  ·have:=h.rng t ht; omega
 ·rcases k.F b o hF with h1 | h1
  ·rcases h.F b o h1 with h2 | h2
   ·exact .inl h2
   ·exact .inr (by simp [h2])
  ·exact .inr (by simp [h1])
 ·rcases mem_append.1 ht with ht | ht
  ·obtain ⟨b,hb,e⟩:=k.tkb t ht; exact ⟨b,by simp [hb],e⟩
  ·obtain ⟨b,hb,e⟩:=h.tkb t ht
   exact ⟨b,by simp [hb],((k.le.tk t (h.rng t ht).2).1).trans e⟩
theorem Fr.next {C C1:Cx} {live f1 f2 n1 t1:List Nat} (hI:Inv NG T C bx (· ∈ live) w) (h:Nmd NG T bx w C live f1 C1 n1 t1) (hf:Fr NG C bx live f2) (hd:∀ b ∈ f1,b ∉ f2):Fr NG C1 bx (n1 ++ live) f2:=by
 intro b hb;obtain ⟨a1,a2,a3,a4⟩:=hf b hb;refine ⟨a1,fun o hF => ?_,fun p hp => ?_,fun t ht => ?_⟩
 ·rcases h.F b o hF with h1 | h1
  ·exact a2 o h1
  ·exact hd b h1 hb
 ·rw [h.le.bx p (by rw [hI.nb]; exact hp)]; exact a3 p hp
 ·intro e
  rcases mem_append.1 ht with ht | ht
  ·obtain ⟨b',hb',e'⟩:=h.tkb t ht
   rw [e'] at e; simp only [sI] at e; subst e; exact hd b' hb' hb
  ·rw [(h.le.tk t (hI.tok t ht).2.1).1] at e; exact a4 t ht e
theorem Inv.addTok {C:Cx} {live:List Nat} (h:Inv NG T C bx (· ∈ live) w) (h2:2 <= C.nt) {b cap len n:Nat} (hf:Fr NG C bx live [b]) {cur:Array Value} {e:TypeId} (hblk:w.heap[b]? = some (.cells cur e (0,0))) (hsz:cur.size = cap * n) (hl:len <= cap) (hm:cap <= maxLen) (hn:0 < n) (hp:0 < len) :
  Inv NG T (C.tok (some b) cap len n) bx (· ∈ C.nt :: live) w:=by
 have hle:=Cx.tok_le C (some b) cap len n;obtain ⟨n1,n2,n3,n4⟩:=Cx.tok_new C (some b) cap len n;obtain ⟨f1,f2,f3,f4⟩:=hf b (by simp);refine ⟨h.nb,fun p cs hp => ?_,?_,h.boxG,h.inj,?_,?_,?_,h.ng,h.t⟩
 ·obtain ⟨vs,e,h1,h2⟩:=h.box p cs hp
  exact ⟨vs,e,h1,h2.frame hle (Fix.refl _ _)⟩
 ·rintro p hp o (hF | ⟨hb,_⟩)
  ·exact h.boxF p hp o hF
  ·simp only [sI] at hb; exact f3 p hp hb.symm
 ·intro t ht
  rcases mem_cons.1 ht with rfl | ht
  ·refine ⟨h2,Nat.lt_succ_self _,.inr ⟨b,cur,e,n1,f1,hblk,?_,?_,?_,?_,?_,?_,fun p hp => f3 p hp⟩⟩
   ·rw [n2,n4]; exact hsz
   ·rw [n2,n3]; exact hl
   ·rw [n2]; exact hm
   ·rw [n4]; exact hn
   ·rw [n3]; omega
   ·rintro o (hF | ⟨_,ho⟩)
    ·exact absurd hF (f2 o)
    ·rw [n3,n4]; exact ho
  ·obtain ⟨a1,a2,a3⟩:=h.tok t ht
   obtain ⟨k1,k2,k3,k4⟩:=hle.tk t a2;refine ⟨a1,Nat.lt_succ_of_lt a2,?_⟩;rw [k1,k2,k3,k4]
   rcases a3 with a3 | ⟨b',cur',e',c1,c2,c3,c4,c5,c6,c7,c8,c9,c10⟩
   ·exact .inl a3
   ·refine .inr ⟨b',cur',e',c1,c2,c3,c4,c5,c6,c7,c8,?_,c10⟩
    rintro o (hF | ⟨hb,_⟩)
    ·exact c9 o hF
    ·simp only [sI] at hb; subst hb; exact absurd c1 (f4 t ht)
 ·intro t s b' ht hs e1 e2
  have key:∀ t ∈ live,(C.tok (some b) cap len n).tk t = C.tk t:=fun t ht => (hle.tk t (h.tok t ht).2.1).1
  rcases mem_cons.1 ht with rfl | ht <;> rcases mem_cons.1 hs with rfl | hs
  ·rfl
  ·rw [n1] at e1; simp only [sI] at e1; subst e1
   rw [key s hs] at e2; exact absurd e2 (f4 s hs)
  ·rw [n1] at e2; simp only [sI] at e2; subst e2
   rw [key t ht] at e1; exact absurd e1 (f4 t ht)
  ·rw [key t ht] at e1; rw [key s hs] at e2; exact h.tinj t s b' ht hs e1 e2
 ·rintro b' o (hF | ⟨hb,_⟩)
  ·exact h.fin b' o hF
  ·simp only [sI] at hb; subst hb; exact zak hblk
mutual
theorem zdH:∀ {d:D} {fp:List Nat} {vs:List Value} {C:Cx} {live:List Nat},TreeC w d fp vs -> d.wf -> fp.Nodup -> Inv NG T C bx (· ∈ live) w -> 2 <= C.nt -> Fr NG C bx live fp ->
  ∃ C' cs new,Nmd NG T bx w C live fp C' new (toksL cs) /\ RpL C' w cs vs /\ erL cs = d.pc /\ ownedL cs = true
 | .one v,fp,vs,C,live,h,hw,hn,hI,h2,hf => by
  simp only [TreeC] at h; obtain ⟨rfl,rfl⟩:=h
  simp only [D.wf] at hw
  exact ⟨C,[.v v],[],Nmd.refl hI,.one1 (.v v hw),rfl,rfl⟩
 | .agg fs,fp,vs,C,live,h,hw,hn,hI,h2,hf => by
  simp only [TreeC] at h; simp only [D.wf] at hw; simp only [D.pc]
  exact names_ofs h hw hn hI h2 hf
 | .sl n es,fp,vs,C,live,h,hw,hn,hI,h2,hf => by
  simp only [TreeC] at h; simp only [D.wf] at hw
  obtain ⟨a,c,rfl,⟨rfl,rfl⟩ | ⟨b,fr,cur,e,rfl,rfl,hb,hn0,hl,hm,hwd,ht⟩⟩:=h
  ·exact ⟨C,[.sl 0 []],[],Nmd.refl hI,.one1 (.emp a c),rfl,rfl⟩
  ·rw [nodup_cons] at hn
   obtain ⟨C1,rows,new,k1,k2,k3,k4,k5,k6⟩:=names_ofE ht hwd hw.2 hn.2 hI h2 (fun b' hb' => hf b' (by simp [hb']));by_cases hes:es = []
   ·subst hes
    have:rows = []:=by simp only [D.pcE] at k3; rw [zaH] at k3; simpa using k3
    subst this
    exact ⟨C1,[.sl 0 []],new,⟨k1.le,k1.inv,k1.nd,k1.sub,k1.rng,fun b o hF => (k1.F b o hF).imp id fun h => by simp [h],fun t ht => by
     obtain ⟨b',hb',e'⟩:=k1.tkb t ht; exact ⟨b',by simp [hb'],e'⟩⟩,.one1 (.emp _ _),rfl,rfl⟩
   ·have hlen:rows.length = es.length:=by
     have:=congrArg length k3
     rw [zaH,D.pcE_map] at this; simpa using this
    have hpos:0 < es.length:=by cases es with | nil => exact absurd rfl hes | cons => simp
    have h21:2 <= C1.nt:=Nat.le_trans h2 k1.le.nt;have hf1:Fr NG C1 bx (new ++ live) [b]:=Fr.next hI k1 (fun b' hb' => hf b' (by simp at hb'; simp [hb'])) (fun b' hb' he => by simp at he; subst he; exact hn.1 hb');have hI2:=k1.inv.addTok h21 (cap:=c) (len:=rows.length) (n:=n) hf1 hb hl.2 (by rw [hlen]; exact hl.1) hm hn0 (by rw [hlen]; exact hpos)
    have hown:=zb3 (C:=C1) (w:=w) (w':=w) (b:=b) (cap:=c) (n:=n) (es:=rows) (fl:=cur.toList.take (n * es.length)) h21 hn0 k5 k2 (fun q y hq => by
     rw [zaj hb];rw [getElem?_take] at hq
     split at hq
     ·simpa using hq
     ·cases hq) (by rw [hlen]; exact hl.1) hm (Fix.refl _ _)
    have hle:=Cx.tok_le C1 (some b) c rows.length n;have n1:=(Cx.tok_new C1 (some b) c rows.length n).1;rw [hlen] at hown;refine ⟨C1.tok (some b) c rows.length n,[.sl C1.nt rows],C1.nt :: new,⟨k1.le.trans hle,hI2,?_,?_,?_,?_,?_⟩,.one1 (by rw [hlen]; exact hown),?_,?_⟩
    ·simp only [toksL,PC.toks,if_pos h21,append_nil]
     rw [nodup_cons];exact ⟨fun hm => by have:=(k1.rng _ (k1.sub _ hm)).2; omega,k1.nd⟩
    ·intro t ht
     simp only [toksL,PC.toks,if_pos h21,append_nil,mem_cons] at ht
     rcases ht with rfl | ht
     ·simp
     ·simp [k1.sub t ht]
    ·intro t ht
     have:(C1.tok (some b) c rows.length n).nt = C1.nt + 1:=rfl
     rcases mem_cons.1 ht with rfl | ht
     ·have:=k1.le.nt; omega
     ·have:=k1.rng t ht; omega
    ·rintro b' o (hF | ⟨hb',_⟩)
     ·exact (k1.F b' o hF).imp id fun h => by simp [h]
     ·simp only [sI] at hb'; subst hb'; exact .inr (by simp)
    ·intro t ht
     rcases mem_cons.1 ht with rfl | ht
     ·exact ⟨b,by simp,n1⟩
     ·obtain ⟨b',hb',e'⟩:=k1.tkb t ht
      exact ⟨b',by simp [hb'],((hle.tk t (k1.rng t ht).2).1).trans e'⟩
    ·simp only [erL,PC.er,k3,D.pc]
    ·have:C1.nt ≠ 0:=by omega
     simp [ownedL,PC.owned,k4,this]
theorem names_ofs:∀ {ds:List D} {fp:List Nat} {vs:List Value} {C:Cx} {live:List Nat},TreeCs w ds fp vs -> D.wfs ds -> fp.Nodup -> Inv NG T C bx (· ∈ live) w -> 2 <= C.nt -> Fr NG C bx live fp ->
  ∃ C' cs new,Nmd NG T bx w C live fp C' new (toksL cs) /\ RpL C' w cs vs /\ erL cs = D.pcs ds /\ ownedL cs = true
 | [],fp,vs,C,live,h,_,hn,hI,h2,hf => by
  simp only [TreeCs] at h; obtain ⟨rfl,rfl⟩:=h
  exact ⟨C,[],[],Nmd.refl hI,.nil,rfl,rfl⟩
 | d :: ds,fp,vs,C,live,h,hw,hn,hI,h2,hf => by
  simp only [TreeCs] at h; obtain ⟨f1,f2,c1,c2,rfl,rfl,hl,h1,h3⟩:=h
  simp only [D.wfs] at hw;rw [nodup_append] at hn;obtain ⟨C1,cs1,new1,a1,a2,a3,a4⟩:=zdH h1 hw.1 hn.1 hI h2 (fun b hb => hf b (by simp [hb]));obtain ⟨C2,cs2,new2,b1,b2,b3,b4⟩:=names_ofs h3 hw.2 hn.2.1 a1.inv (Nat.le_trans h2 a1.le.nt) (Fr.next hI a1 (fun b hb => hf b (by simp [hb])) (fun b hb hb2 => hn.2.2 b hb b hb2 rfl));refine ⟨C2,cs1 ++ cs2,new2 ++ new1,by rw [zas]; exact a1.trans b1,(a2.frame b1.le (Fix.refl _ _)).append b2,?_,by rw [zaB,a4,b4]; rfl⟩;simp only [D.pcs]; rw [zaJ,map_append,<- zaJ,<- zaJ,a3,b3]
theorem names_ofE {n:Nat}:∀ {es:List D} {fp:List Nat} {vs:List Value} {C:Cx} {live:List Nat},TreeCs w es fp vs -> (∀ e ∈ es,D.width e = n) -> D.wfs es -> fp.Nodup -> Inv NG T C bx (· ∈ live) w -> 2 <= C.nt -> Fr NG C bx live fp ->
  ∃ C' rows new,Nmd NG T bx w C live fp C' new (toksLL rows) /\ RpL C' w rows.flatten vs /\ erLL rows = D.pcE es /\ ownedLL rows = true /\ (∀ r ∈ rows,r.length = n) /\ True
 | [],fp,vs,C,live,h,_,_,hn,hI,h2,hf => by
  simp only [TreeCs] at h; obtain ⟨rfl,rfl⟩:=h
  exact ⟨C,[],[],Nmd.refl hI,.nil,rfl,rfl,by simp,trivial⟩
 | d :: ds,fp,vs,C,live,h,hwd,hw,hn,hI,h2,hf => by
  simp only [TreeCs] at h; obtain ⟨f1,f2,c1,c2,rfl,rfl,hl,h1,h3⟩:=h
  simp only [D.wfs] at hw;rw [nodup_append] at hn;obtain ⟨C1,cs1,new1,a1,a2,a3,a4⟩:=zdH h1 hw.1 hn.1 hI h2 (fun b hb => hf b (by simp [hb]));obtain ⟨C2,cs2,new2,b1,b2,b3,b4,b5,_⟩:=names_ofE h3 (fun e he => hwd e (by simp [he])) hw.2 hn.2.1 a1.inv (Nat.le_trans h2 a1.le.nt) (Fr.next hI a1 (fun b hb => hf b (by simp [hb])) (fun b hb hb2 => hn.2.2 b hb b hb2 rfl));refine ⟨C2,cs1 :: cs2,new2 ++ new1,by simp only [toksLL]; exact a1.trans b1,by rw [flatten_cons]; exact (a2.frame b1.le (Fix.refl _ _)).append b2,by simp only [erLL,D.pcE,a3,b3],by simp only [ownedLL,a4,b4]; rfl,fun r hr => ?_,trivial⟩
  rcases mem_cons.1 hr with rfl | hr
  ·rw [<- hwd d (by simp),<- D.pc_len,<- a3,zaJ]; simp
  ·exact b5 r hr
end
end
theorem FnO.old {E:Env} {f:Nat} {args:List PV} {d:D} (hd:d.wf) (h:∀ (w:World) (C:Cx) (vs:List Value),(∀ b o,C.F b o -> b < w.heap.size) -> E.NG <= w.heap.size -> E.T w -> vs.length = args.length -> (∀ (j:Nat) (x:PV) (y:Value),args[j]? = some x -> vs[j]? = some y -> RpV C w x y) ->
  Calls E.P f vs.toArray w fun e w' => ∃ cs,e = .returned (.agg (toArray cs)) /\ Below w.heap.size w w' /\ Own w.heap.size w' d cs):FnO E f args (.ag d.pc):=by
 intro C w vs hI hnt hold hl hv;refine (h w C vs hI.fin hI.ng hI.t hl hv).mono ?_;rintro e w' ⟨cs,rfl,hb,fp,hnd,hfp,ht⟩;have hF:Fix C w w':=.of (fun b o hF => World.cell?_of_block (a:=⟨b,o,none⟩) (hb.block b (hI.fin b o hF))) hb.block;have hI1:Inv E.NG E.T C [] (· ∈ ([]:List Nat)) w':=⟨hI.nb,fun p cs hp => by simp at hp,fun p hp => by simp at hp,fun p hp => by simp at hp,fun p q hp => by simp at hp,(fun t ht => by cases ht),(fun t s b ht => by cases ht),fun b o h => Nat.lt_of_lt_of_le (hI.fin b o h) hb.size,Nat.le_trans hI.ng hb.size,E.low w w' hI.t hb.size (fun k hk => hb.block k (Nat.lt_of_lt_of_le hk hI.ng))⟩;obtain ⟨C',pcs,new,k1,k2,k3,k4⟩:=zdH ht hd hnd hI1 (by rw [hnt]; exact Nat.le_refl 2) (fun b hb' => ⟨Nat.le_trans hI.ng (hfp b hb'),fun o hFo => by have:=hI.fin b o hFo; have:=hfp b hb'; omega,fun p hp => by simp at hp,fun t ht => by cases ht⟩);refine ⟨_,.ag pcs,[],(· ∈ new ++ []),C',rfl,⟨?_,k1.nd,fun t ht => mem_append.2 (.inl (k1.sub t ht)),k4⟩,k1.inv,?_,.ag _ _ k2⟩
 ·show some (PV.ag (erL pcs)) = _; rw [k3]
 ·refine ⟨hb.os,hb.tape,hb.output,hb.size,k1.le.F,hF,fun k hk _ _ => hb.block k hk,⟨k1.le.nb,k1.le.bx⟩,?_,?_,(fun p hp hp2 => by simp at hp2),⟨k1.le.nt,k1.le.tk⟩⟩
  ·intro b o hF'
   rcases k1.F b o hF' with h | h
   ·exact .inl h
   ·exact .inr (.inl (hfp b h))
  ·intro t b ht hb2
   rw [append_nil] at ht;obtain ⟨b',hb',e'⟩:=k1.tkb t ht;rw [e'] at hb2; simp only [sI] at hb2; subst hb2; exact .inl (hfp b' hb')
end
section
open Go.Lib (validD)
end
section
def inR (n a b:Int):Bool:=decide (a <= n) && decide (n <= b)
theorem zat {n a b:Int} (h:a <= n /\ n <= b):inR n a b = true:=by simp [inR,h]
theorem zaM {n a b:Int} (h:¬ (a <= n /\ n <= b)):inR n a b = false:=by simp only [inR,Bool.and_eq_false_iff,decide_eq_false_iff_not]; omega
theorem zbs (n a b:Int) (w:World) :
  Calls Tryz.prog 84 #[.int .i64 n,.int .i64 a,.int .i64 b] w fun e w' => e = .returned (.bool (inR n a b)) /\ w = w':=by
 by_cases h1:a <= n
 ·go_enter Tryz.func84,Tryz.ntmps84
  go_wp2;go_ret;exact ⟨by simp [inR,h1],rfl⟩
 ·have H:=Lib.hid (zaM (n:=n) (a:=a) (b:=b) (by omega))
  go_enter Tryz.func84,Tryz.ntmps84
  go_wp2;go_ret;exact ⟨by rw [H.out]; rfl,rfl⟩
theorem zau (n a b:Int) (w:World) :
  Calls Tryz.prog 72 #[.int .i64 n,.int .i64 a,.int .i64 b] w fun e w' => e = .returned (.bool (inR n a b)) /\ w = w':=by
 by_cases h1:a <= n
 ·go_enter Tryz.func72,Tryz.ntmps72
  go_wp2;go_ret;exact ⟨by simp [inR,h1],rfl⟩
 ·have H:=Lib.hid (zaM (n:=n) (a:=a) (b:=b) (by omega))
  go_enter Tryz.func72,Tryz.ntmps72
  go_wp2;go_ret;exact ⟨by rw [H.out]; rfl,rfl⟩
end
section
open Go.Lib (validD)
def fitsN:Nat -> Int -> Bool
 | 0,_ => true
 | k + 1,n => inR (n * 10) (-9223372036854775808) 9223372036854775807 && fitsN k (n * 10)
def decOk (n e:Int):Bool:=(inR e (-20) 20 && (decide (e ≠ 0) && (inR n (-999999999999999999) 999999999999999999 && decide (Int.tmod n 10 ≠ 0)))) && !(decide (0 < e) && fitsN e.toNat n)
def V.kind:V -> Int | .mk k _ _ _ _ => k
def V.num:V -> Int | .mk _ n _ _ _ => n
def V.exp:V -> Int | .mk _ _ e _ _ => e
def V.text:V -> L8 | .mk _ _ _ s _ => s
def V.kids:V -> List V | .mk _ _ _ _ ks => ks
def isKeyK (k:Int):Bool:=decide (k = 5) || decide (k = 3)
def odds {α:Type}:List α -> List α
 | [] => []
 | [x] => [x]
 | x :: _ :: r => x :: odds r
theorem zaF {α:Type}:∀ l:List α,(odds l).length = (l.length + 1) / 2
 | [] => by simp [odds]
 | [x] => by simp [odds]
 | x :: y :: r => by simp only [odds,length_cons,zaF r]; omega
theorem zd9 {α:Type}:∀ (l:List α) (j:Nat),(odds l)[j]? = l[2 * j]?
 | [],j => by simp [odds]
 | [x],0 => rfl
 | [x],j + 1 => by simp [odds]
 | x :: y :: r,0 => rfl
 | x :: y :: r,j + 1 => by simp only [odds,getElem?_cons_succ,zd9 r j]; rw [show 2 * (j + 1) = 2 * j + 1 + 1 by omega]; simp
theorem zcv {α:Type} (l:List α) (j:Nat) (h:2 * j < l.length):(odds l)[j]'(by rw [zaF]; omega) = l[2 * j]:=by
 have:=zd9 l j
 rw [getElem?_eq_getElem h,getElem?_eq_getElem (by rw [zaF]; omega)] at this;exact Option.some.inj this
def uniq {α:Type} [DecidableEq α] (f:V -> α) (ks:List V):Bool:=ks.all (fun x => isKeyK x.kind) && decide ((ks.map f).Nodup)
theorem zcM {α:Type} [DecidableEq α] (f:V -> α) (ks:List V) (x:V):uniq f (ks ++ [x]) = (uniq f ks && (isKeyK x.kind && decide (f x ∉ ks.map f))):=by
 unfold uniq;rw [all_append,Bool.eq_iff_iff];simp only [Bool.and_eq_true,decide_eq_true_eq,map_append,map_cons,map_nil,nodup_append,all_cons,all_nil,Bool.and_true]
 constructor
 ·rintro ⟨⟨h1,h2⟩,h3,_,h4⟩; exact ⟨⟨h1,h3⟩,h2,fun h => h4 _ h _ (by simp) rfl⟩
 ·rintro ⟨⟨h1,h3⟩,h2,h4⟩; exact ⟨⟨h1,h2⟩,h3,by simp,fun a ha b hb => by simp at hb; subst hb; intro e; subst e; exact h4 ha⟩
theorem zea {α:Type} [DecidableEq α] {f:V -> α} {ks:List V} (k:Nat) (h:uniq f (ks.take k) = false):uniq f ks = false:=by
 cases hk:uniq f ks with
 | false => rfl
 | true =>
  rw [<- take_append_drop k ks] at hk;unfold uniq at hk h;simp only [all_append,Bool.and_eq_true,decide_eq_true_eq,map_append,nodup_append] at hk;rw [hk.1.1,decide_eq_true hk.2.1] at h; simp at h
def V.mark (x:V):Int × Int × L8:=(x.kind,x.num,x.text)
def pairsOk (xs:List V):Bool:=uniq V.mark (odds xs) && (decide (xs.length % 2 = 0) && decide (xs.length <= 300))
def pairsOkI (xs:List V):Bool:=uniq id (odds xs) && decide (xs.length % 2 = 0)
def V.selfBy (q:List V -> Bool):V -> Bool
 | .mk k n e s kids =>
  if k = 0 \/ k = 1 \/ k = 2 then decide (n = 0) && (decide (e = 0) && (decide (s = []) && decide (kids = [])))
  else if k = 3 then decide (e = 0) && (decide (s = []) && decide (kids = []))
  else if k = 4 then decOk n e && (decide (s = []) && decide (kids = []))
  else if k = 5 then decide (n = 0) && (decide (e = 0) && (validD s && (decide (s.length <= 2000) && decide (kids = []))))
  else if k = 6 then decide (n = 0) && (decide (e = 0) && (decide (s.length <= 2000) && decide (kids = [])))
  else if k = 7 then decide (n = 0) && (decide (e = 0) && decide (s = []))
  else if k = 8 then decide (n = 0) && (decide (e = 0) && (decide (s = []) && q kids))
  else if k = 9 then inR n 0 1000000 && (decide (e = 0) && (decide (s = []) && decide (kids.length = 1)))
  else false
def V.self:V -> Bool:=V.selfBy pairsOk
def V.selfI:V -> Bool:=V.selfBy pairsOkI
mutual
def V.rightBy (q:List V -> Bool):Int -> V -> Bool
 | d,.mk k n e s kids => V.rightsBy q (d - 1) kids && (decide (0 <= d) && V.selfBy q (.mk k n e s kids))
def V.rightsBy (q:List V -> Bool):Int -> List V -> Bool
 | _,[] => true
 | d,v :: vs => V.rightBy q d v && V.rightsBy q d vs
end
theorem V.rightsBy_all (q:List V -> Bool):∀ (d:Int) (vs:List V),V.rightsBy q d vs = vs.all (V.rightBy q d)
 | _,[] => rfl
 | d,v :: vs => by simp [V.rightsBy,V.rightsBy_all q d vs]
def V.ok (v:V):Bool:=V.rightBy pairsOk 12 v && decide (v.nodes <= 300)
theorem odds_mem {α:Type}:∀ (l:List α) (x:α),x ∈ odds l -> x ∈ l
 | [],x,h => by simp [odds] at h
 | [y],x,h => by simpa [odds] using h
 | a :: b :: r,x,h => by
  simp only [odds,mem_cons] at h ⊢
  rcases h with h | h
  ·exact .inl h
  ·exact .inr (.inr (odds_mem r x h))
theorem V.key_plain {q:List V -> Bool} {d:Int} {x:V} (h:V.rightBy q d x = true) (hk:isKeyK x.kind = true):x = .mk x.kind x.num 0 x.text []:=by
 obtain ⟨k,n,e,s,kids⟩:=x;simp only [V.rightBy,Bool.and_eq_true,V.selfBy] at h;simp only [V.kind,isKeyK,Bool.or_eq_true] at hk;simp only [V.kind,V.num,V.text]
 rcases hk with hk | hk <;> obtain rfl:=of_decide_eq_true hk
 ·have:=h.2.2; simp at this; simp [this]
 ·have:=h.2.2; simp at this; simp [this]
theorem pairs_same {q:List V -> Bool} {d:Int} {xs:List V} (h:V.rightsBy q d xs = true) (hl:xs.length <= 300):pairsOkI xs = pairsOk xs:=by
 rw [V.rightsBy_all,all_eq_true] at h;unfold pairsOkI pairsOk;rw [decide_eq_true hl,Bool.and_true]
 congr 1
 have hm:∀ x ∈ odds xs,V.rightBy q d x = true:=fun x hx => h x (odds_mem _ _ hx)
 generalize odds xs = ks at hm;unfold uniq;rw [map_id]
 cases hk:ks.all (fun x => isKeyK x.kind) with
 | false => rfl
 | true =>
  rw [all_eq_true] at hk;simp only [Bool.true_and]
  apply decide_eq_decide.2
  rw [Nodup,Nodup,pairwise_map]
  constructor
  ·intro hp
   refine Pairwise.imp_of_mem (fun ha hb hne e => hne ?_) hp;rw [V.key_plain (hm _ ha) (hk _ ha),V.key_plain (hm _ hb) (hk _ hb)];simp only [V.mark,Prod.mk.injEq] at e;rw [e.1,e.2.1,e.2.2]
  ·intro hp
   refine Pairwise.imp_of_mem (fun ha hb hne e => hne ?_) hp;rw [e]
theorem V.kids_nodes (vs:List V):vs.length <= V.nodess vs:=by
 induction vs with
 | nil => simp
 | cons x xs ih => have:=x.nodes_pos; simp only [V.nodess,length_cons]; omega
mutual
theorem V.right_same:∀ (d:Int) (v:V),v.nodes <= 300 -> V.rightBy pairsOkI d v = V.rightBy pairsOk d v
 | d,.mk k n e s kids,h => by
  have hn:V.nodess kids <= 300:=by simp only [V.nodes] at h; omega
  have hl:kids.length <= 300:=Nat.le_trans (V.kids_nodes kids) hn;have h1:=V.rights_same (d - 1) kids hn;simp only [V.rightBy];rw [h1]
  cases hr:V.rightsBy pairsOk (d - 1) kids with
  | false => rfl
  | true =>
   have:=pairs_same hr hl
   simp only [V.selfBy,this]
theorem V.rights_same:∀ (d:Int) (vs:List V),V.nodess vs <= 300 -> V.rightsBy pairsOkI d vs = V.rightsBy pairsOk d vs
 | _,[],_ => rfl
 | d,v :: vs,h => by
  simp only [V.nodess] at h;simp only [V.rightsBy,V.right_same d v (by omega),V.rights_same d vs (by omega)]
end
theorem V.ok_impl (v:V):(V.rightBy pairsOkI 12 v && decide (v.nodes <= 300)) = v.ok:=by
 unfold V.ok;by_cases h:v.nodes <= 300
 ·rw [V.right_same 12 v h]
 ·rw [decide_eq_false h,Bool.and_false,Bool.and_false]
end
section
theorem zba {w:World} {b o:Nat} {v:Value} (h:w.cell? ⟨b,o,none⟩ = some v):b < w.heap.size:=by
 apply Classical.byContradiction; intro hn
 simp [World.cell?,Array.getElem?_eq_none (Nat.le_of_not_lt hn)] at h
def StrRow (w:World) (v:Value) (ls:List (L8)):Prop :=
 ∃ a c,v = .slice a ls.length c /\ (ls ≠ [] -> ∃ b o,a = some ⟨b,o,none⟩ /\ ∀ k (h:k < ls.length),w.cell? ⟨b,o + k,none⟩ = some (.string ⟨ls[k].toArray⟩))
theorem StrRow.below {w w':World} {ls:List (L8)} {v:Value} (h:StrRow w v ls) (hb:Below w.heap.size w w'):StrRow w' v ls:=by
 obtain ⟨a,c,rfl,hg⟩:=h
 exact ⟨a,c,rfl,fun hne => by
  obtain ⟨b,o,ha,hc⟩:=hg hne;exact ⟨b,o,ha,fun k hk => by rw [hb.cell (p:=⟨b,o + k,none⟩) (zba (hc k hk))]; exact hc k hk⟩⟩
end
section
end
section
def pI (n:Int):PC:=.v (.int .i64 n)
def pB (b:Bool):PC:=.v (.bool b)
def pS (l:L8):PC:=.v (.string ⟨l.toArray⟩)
def pSr (ks:List (L8)):LP PC:=ks.map fun k => [pS k]
def pSs (ks:List (L8)):PC:=.sl 0 (pSr ks)
theorem zaR (ks:List (L8)):erLL (pSr ks) = pSr ks:=by
 simp [pSr,zaH,zaJ,PC.er,pS,Function.comp_def]
theorem pSr_tok (ks:List (L8)):toksLL (pSr ks) = []:=by
 induction ks with
 | nil => rfl
 | cons k ks ih => simp only [pSr,map_cons] at ih ⊢; simp [toksLL,toksL,PC.toks,pS] ; simpa [pS] using ih
theorem pSr_own (ks:List (L8)):ownedLL (pSr ks) = true:=by
 induction ks with
 | nil => rfl
 | cons k ks ih => simp only [pSr,map_cons] at ih ⊢; simp [ownedLL,ownedL,PC.owned,pS] ; simpa [pS] using ih
theorem zbz:∀ a b:LP PC,ownedLL (a ++ b) = (ownedLL a && ownedLL b)
 | [],b => by simp [ownedLL]
 | c :: cs,b => by simp only [cons_append,ownedLL,zbz cs b,Bool.and_assoc]
theorem zbR:∀ a b:LP PC,toksLL (a ++ b) = toksLL a ++ toksLL b
 | [],b => rfl
 | c :: cs,b => by simp only [cons_append,toksLL,zbR cs b,append_assoc]
theorem zaV {t:Nat} (h:2 <= t) (es:LP PC):PC.toks (.sl t es) = t :: toksLL es:=by rw [PC.toks,if_pos h]
theorem zbS {t:Nat} (h:2 <= t) (es:LP PC):PC.owned (.sl t es) = ownedLL es:=by
 rw [PC.owned,decide_eq_true (show t ≠ 0 by omega)]; simp
mutual
theorem PC.toks_ge:∀ (c:PC) (t:Nat),t ∈ c.toks -> 2 <= t
 | .v x,t,h => by simp [PC.toks] at h
 | .bld _ _ _ _,t,h => by simp [PC.toks] at h
 | .anyp,t,h => by simp [PC.toks] at h
 | .row _ _ _,t,h => by simp [PC.toks] at h
 | .sl s es,t,h => by
  by_cases h2:2 <= s
  ·rw [PC.toks,if_pos h2] at h
   rcases mem_cons.1 h with rfl | h
   ·exact h2
   ·exact toksLL_ge es t h
  ·rw [PC.toks,if_neg h2] at h; exact toksLL_ge es t h
theorem zbb:∀ (l:List PC) (t:Nat),t ∈ toksL l -> 2 <= t
 | [],t,h => by simp [toksL] at h
 | c :: cs,t,h => by
  rw [toksL,mem_append] at h;exact h.elim (PC.toks_ge c t) (zbb cs t)
theorem toksLL_ge:∀ (l:LP PC) (t:Nat),t ∈ toksLL l -> 2 <= t
 | [],t,h => by simp [toksLL] at h
 | c :: cs,t,h => by
  rw [toksLL,mem_append] at h;exact h.elim (zbb c t) (toksLL_ge cs t)
end
end
section
def has (tm:Nat -> PV):List (Nat × PV) -> Prop
 | [] => True
 | (d,v) :: r => tm d = v /\ has tm r
def ups:List (Nat × PV) -> (Nat -> PV) -> Nat -> PV
 | [],tm => tm
 | (d,v) :: r,tm => up d v (ups r tm)
theorem zaf:∀ {l:List (Nat × PV)} {tm:Nat -> PV},has tm l -> ∃ tm0,tm = ups l tm0:=by
 intro l tm h;refine ⟨tm,?_⟩
 induction l with
 | nil => rfl
 | cons p l ih =>
  obtain ⟨d,v⟩:=p;simp only [ups];rw [<- ih h.2,up_self h.1]
theorem zbI (ks:List (L8)):∀ e ∈ pSr ks,e.length = 1:=by
 intro e he; obtain ⟨x,_,rfl⟩:=mem_map.1 he; rfl
theorem zaE (ks:List (L8)):(pSr ks).length = ks.length:=by simp [pSr]
theorem zb6 {ks:List (L8)} {j:Nat} (h:j < ks.length):(pSr ks)[j]? = some [pS ks[j]]:=by
 rw [pSr,getElem?_map,getElem?_eq_getElem h]; rfl
end
section
structure Keep (S:Nat -> Prop) (w w':World):Prop where
 os:w'.os = w.os
 tape:w'.tape = w.tape
 output:w'.output = w.output
 size:w.heap.size <= w'.heap.size
 block:∀ k,k < w.heap.size -> ¬ S k -> w'.heap[k]? = w.heap[k]?
theorem Keep.refl (S:Nat -> Prop) (w:World):Keep S w w:=⟨rfl,rfl,rfl,lR,fun _ _ _ => rfl⟩
theorem Keep.trans {S:Nat -> Prop} {a b c:World} (h:Keep S a b) (k:Keep S b c):Keep S a c :=
 ⟨k.os.trans h.os,k.tape.trans h.tape,k.output.trans h.output,Nat.le_trans h.size k.size,fun i hi hs => (k.block i (Nat.lt_of_lt_of_le hi h.size) hs).trans (h.block i hi hs)⟩
theorem Keep.of_below {S:Nat -> Prop} {w w':World} (h:Below w.heap.size w w'):Keep S w w':=⟨h.os,h.tape,h.output,h.size,fun k hk _ => h.block k hk⟩
theorem Keep.below {S:Nat -> Prop} {w w':World} {B:Nat} (h:Keep S w w') (hB:B <= w.heap.size) (hs:∀ k,k < B -> ¬ S k):Below B w w':=⟨h.os,h.tape,h.output,h.size,fun k hk => h.block k (Nat.lt_of_lt_of_le hk hB) (hs k hk)⟩
theorem Keep.then {S:Nat -> Prop} {a b c:World} (h:Keep S a b) (k:Below b.heap.size b c):Keep S a c:=h.trans (Keep.of_below k)
theorem Keep.alloc {S:Nat -> Prop} {a w:World} (h:Keep S a w) (o:Obj):Keep S a (w.alloc o):=h.then ((Below.refl _ _).alloc lR o)
theorem Keep.setCell {S:Nat -> Prop} {a w:World} (h:Keep S a w) {p:Addr} (hp:S p.block \/ a.heap.size <= p.block) (u:Value):Keep S a (w.setCell p u) :=
 ⟨h.os,h.tape,h.output,by simpa [World.setCell] using h.size,fun k hk hs => (Below.heap_setCell w p u k (by
  rintro rfl
  rcases hp with hp | hp
  ·exact hs hp
  ·omega)).trans (h.block k hk hs)⟩
theorem Keep.cell {S:Nat -> Prop} {w w':World} (h:Keep S w w') {b o:Nat} (hb:b < w.heap.size) (hs:¬ S b):w'.cell? ⟨b,o,none⟩ = w.cell? ⟨b,o,none⟩:=World.cell?_of_block (a:=⟨b,o,none⟩) (h.block b hb hs)
def RdN (N:Nat) (w:World) (d:D) (cs:List Value):Prop:=RepC (· < N) w d cs
theorem RdN.rd {N:Nat} {w:World} {d:D} {cs:List Value} (h:RdN N w d cs):Rd w d cs:=Rd.of h
theorem Rd.rdN {w:World} {d:D} {cs:List Value} (h:Rd w d cs):RdN w.heap.size w d cs:=h
theorem RdN.below {N:Nat} {w w':World} {d:D} {cs:List Value} (h:RdN N w d cs) (hb:Below N w w'):RdN N w' d cs:=RepC.frame (fun b hlt => hb.block b hlt) h
theorem RdN.keep {N:Nat} {S:Nat -> Prop} {w w':World} {d:D} {cs:List Value} (h:RdN N w d cs) (hk:Keep S w w') (hN:N <= w.heap.size) (hs:∀ k,k < N -> ¬ S k):RdN N w' d cs:=h.below (hk.below hN hs)
theorem V.layS {S:Nat -> Prop} {w:World} {v:V} {cs:List Value} (h:RepC S w v.d cs):∃ k n e s kids v1,v = .mk k n e s kids /\ cs = [.int .i64 k,.int .i64 n,.int .i64 e,.string ⟨s.toArray⟩,v1] /\ RepC S w (.sl 5 (V.ds kids)) [v1]:=by
 obtain ⟨k,n,e,s,kids⟩:=v;simp only [V.d,RepC,RepCs,dI,dS,D.width] at h;obtain ⟨c1,r1,rfl,_,rfl,c2,r2,rfl,_,rfl,c3,r3,rfl,_,rfl,c4,r4,rfl,_,rfl,c5,r5,rfl,_,⟨a5,n5,rfl,h5⟩,rfl⟩:=h;refine ⟨k,n,e,s,kids,_,rfl,rfl,?_⟩;simp only [RepC]; exact ⟨a5,n5,rfl,h5⟩
theorem RepC.slice {S:Nat -> Prop} {w:World} {n:Nat} {es:List D} {v:Value} (h:RepC S w (.sl n es) [v]) :
  ∃ a c,v = .slice a es.length c /\ (es ≠ [] -> 0 < n /\ es.length <= c /\ c <= maxLen /\ ∃ b o,a = some ⟨b,o,none⟩ /\ S b /\
   ∀ i (hi:i < es.length),∃ cs,cs.length = n /\ RepC S w es[i] cs /\ ∀ j u,cs[j]? = some u -> w.cell? ⟨b,o + (n * i + j),none⟩ = some u):=by
 simp only [RepC] at h;obtain ⟨a,c,hv,h⟩:=h;simp only [cons.injEq,and_true] at hv;refine ⟨a,c,hv,fun hne => ?_⟩;obtain ⟨hn,h1,h2,b,o,xs,ha,hb,hx,hw,hr⟩:=h hne;refine ⟨hn,h1,h2,b,o,ha,hb,fun i hi => ?_⟩;obtain ⟨cs,hc1,hc2,hc3⟩:=hr.get hw i hi;refine ⟨cs,hc1,hc2,fun j u hj => hx _ _ ?_⟩
 have:j < cs.length:=by
  rcases Nat.lt_or_ge j cs.length with h | h
  ·exact h
  ·simp [getElem?_eq_none h] at hj
 rw [hc3 j (by omega)]; exact hj
theorem RepC.values {S:Nat -> Prop} {w:World} {ls:List V} {v:Value} (h:RepC S w (.sl 5 (V.ds ls)) [v]) :
  ∃ a c,v = .slice a ls.length c /\ (ls ≠ [] -> ls.length <= c /\ c <= maxLen /\ ∃ b o,a = some ⟨b,o,none⟩ /\ S b /\ ∀ i (hi:i < ls.length),∃ v0 v1 v2 v3 v4,RepC S w ls[i].d [v0,v1,v2,v3,v4] /\
   w.cell? ⟨b,o + i * 5,none⟩ = some v0 /\ w.cell? ⟨b,o + i * 5 + 1,none⟩ = some v1 /\ w.cell? ⟨b,o + i * 5 + 2,none⟩ = some v2 /\ w.cell? ⟨b,o + i * 5 + 3,none⟩ = some v3 /\ w.cell? ⟨b,o + i * 5 + 4,none⟩ = some v4):=by
 rw [V.ds_map] at h;obtain ⟨a,c,hv,h⟩:=RepC.slice h;rw [length_map] at hv;refine ⟨a,c,hv,fun hne => ?_⟩;obtain ⟨_,h1,h2,b,o,ha,hb,hg⟩:=h (by simpa using hne);refine ⟨by simpa using h1,h2,b,o,ha,hb,fun i hi => ?_⟩;obtain ⟨cs,hl,hr,hc⟩:=hg i (by simpa using hi);rw [getElem_map] at hr
 match cs,hl with
 | [v0,v1,v2,v3,v4],_ =>
  rw [Nat.mul_comm 5 i] at hc;exact ⟨v0,v1,v2,v3,v4,hr,hc 0 _ rfl,hc 1 _ rfl,hc 2 _ rfl,hc 3 _ rfl,hc 4 _ rfl⟩
theorem V.formS {S:Nat -> Prop} {w:World} {v:V} {cs:List Value} (h:RepC S w v.d cs):∃ k n e s a1 n1 c1,cs = [.int .i64 k,.int .i64 n,.int .i64 e,.string ⟨(s:L8).toArray⟩,.slice a1 n1 c1]:=V.form (Rd.of h)
end
section
section
variable {E:Env} {B:Base} {C:Cx} {s:St} {a:Act} {w w':World} {S:Nat -> Prop} {L:List Nat}
end
end
section
section
variable {E:Env} {B:Base} {C:Cx} {s:St} {a:Act} {w:World}
end
/-! ### A mark -/
end
section
section
variable {E:Env} {B:Base} {f:Nat} {tm:Nat -> PV} {bx:LP PC} {nt:Nat} {live:List Nat} {cs:List PC} {k r:Int} {d:Nat} {dd dd':D} {K:St -> Prop} {L:List Nat} {kt:List Nat} {kb:List Bool}
end
end
section
def vK (kids:List V):LP PC:=kids.map fun x => x.d.pc
def vC (v:V):List PC:=[pI v.kind,pI v.num,pI v.exp,pS v.text,.sl 0 (vK v.kids)]
theorem V.pc_eq (x:V):x.d.pc = vC x:=by
 obtain ⟨k,n,e,s,kids⟩:=x;simp only [V.d,D.pc,D.pcs,D.pcE_map,V.ds_map,map_map,append_nil];rfl
theorem vK_eq (kids:List V):vK kids = kids.map vC:=by unfold vK; exact map_congr_left fun x _ => x.pc_eq
theorem zcr (x:V):erL (vC x) = vC x:=by rw [<- V.pc_eq]; exact D.pc_er _
mutual
theorem V.wfd:∀ x:V,x.d.wf
 | .mk k n e s kids => by
  simp only [V.d,D.wf,D.wfs];exact ⟨rfl,rfl,rfl,rfl,⟨fun e he => by rw [V.ds_map] at he; obtain ⟨y,_,rfl⟩:=mem_map.1 he; exact V.width y,V.wfds kids⟩,trivial⟩
theorem V.wfds:∀ xs:List V,D.wfs (V.ds xs)
 | [] => trivial
 | x :: xs => ⟨V.wfd x,V.wfds xs⟩
end
theorem vK_wid (kids:List V):∀ e ∈ vK kids,e.length = 5:=by
 intro e he; rw [vK_eq] at he; obtain ⟨x,_,rfl⟩:=mem_map.1 he; rfl
theorem zbT {kids:List V} {j:Nat} (h:j < kids.length):(vK kids)[j]? = some (vC kids[j]):=by
 rw [vK_eq,getElem?_map,getElem?_eq_getElem h]; rfl
theorem zdk (kids:List V):(vK kids).length = kids.length:=by simp [vK]
theorem zcN (x:V):PV.dats [.ag (vC x)] = some [.ag (vC x)]:=congrArg (fun l => some [PV.ag l]) (zcr x)
end
section
noncomputable def ngl:Nat:=Tryz.prog.globals.size
noncomputable def env (T:World -> Prop) (hT:Low ngl T):Env:=⟨Tryz.prog,ngl,T,hT,by kernel_rfl⟩
theorem zag {T:World -> Prop} {hT:Low ngl T} {f:Nat} {r:Nat × M × List MRes} (h:look Tryz.prog f = some r):look (env T hT).P f = some r:=h
end
section
variable {T:World -> Prop} {hT:Low ngl T}
theorem own2_fn (v:V) (_hw:v.wf) (hb:v.bulk <= 1048576):FnV (env T hT) 33 [.ag (vC v)] (.ag (vC v)):=by
 have h:FnO (env T hT) 33 [.ag (vC v)] (.ag v.d.pc):=by
  refine FnO.old (V.wfd v) fun w C vs hF _ _ hlen hv => ?_
  match vs,hlen with
  | [y],_ =>
   have h0:=hv 0 _ _ rfl rfl;rw [<- v.pc_eq] at h0;obtain ⟨cs,rfl,hr⟩:=vRd hF (V.wfd v) h0;exact own_any v cs w hr (by omega)
 have h:=h.v;rw [v.pc_eq] at h;exact h
end
section
open Go.Lib (validD)
def esc1 (b:UInt8):L8:=if b = 126 then [126,48] else if b = 47 then [126,49] else [b]
def esc (s:L8):L8:=s.flatMap esc1
def pathL (st:List (L8)):L8:=st.flatMap fun s => 47 :: esc s
def stepOk (s:L8):Bool:=validD s && decide (s.length <= 2000)
def putPath (st:List (L8)):L8:=if st.length <= 12 /\ st.all stepOk = true then pathL st else []
theorem zeS (b:UInt8):(esc1 b).length <= 2:=by
 unfold esc1;split
 ·simp
 ·split <;> simp
theorem zbt:∀ s:L8,(esc s).length <= 2 * s.length
 | [] => by simp [esc]
 | b :: s => by have:=zbt s; have:=zeS b; simp only [esc,flatMap_cons,length_append,length_cons] at *; omega
theorem za2:∀ st:List (L8),st.all stepOk = true -> (pathL st).length <= 4001 * st.length
 | [],_ => by simp [pathL]
 | s :: st,h => by
  simp only [all_cons,Bool.and_eq_true] at h;have h1:=za2 st h.2;have h2:=zbt s;have h3:s.length <= 2000:=by have:=h.1; unfold stepOk at this; simp only [Bool.and_eq_true,decide_eq_true_eq] at this; exact this.2
  simp only [pathL,flatMap_cons,length_append,length_cons] at *; omega
theorem zdl (st:List (L8)) (j:Nat) (h:j < st.length):pathL (st.take (j + 1)) = pathL (st.take j) ++ (47 :: esc st[j]):=by
 unfold pathL; rw [take_succ_eq_append_getElem h,List.flatMap_append,List.flatMap_singleton]
theorem esc_take (s:L8) (j:Nat) (h:j < s.length):esc (s.take (j + 1)) = esc (s.take j) ++ esc1 s[j]:=by
 unfold esc; rw [take_succ_eq_append_getElem h,List.flatMap_append,List.flatMap_singleton]
theorem zdm {st:List (L8)} {j:Nat} (h:j < st.length) (hn:stepOk st[j] = false):putPath st = []:=by
 unfold putPath; rw [if_neg]; rintro ⟨_,h2⟩
 rw [all_eq_true] at h2; rw [h2 _ (getElem_mem h)] at hn; cases hn
theorem zeb {st:List (L8)} (h:¬ st.length <= 12):putPath st = []:=by
 unfold putPath; rw [if_neg]; exact fun h2 => h h2.1
theorem zbU (b:UInt8):(b = 126 /\ esc1 b = [126,48]) \/ (b ≠ 126 /\ b = 47 /\ esc1 b = [126,49]) \/ (b ≠ 126 /\ b ≠ 47 /\ esc1 b = [b]):=by
 by_cases h1:b = 126
 ·exact .inl ⟨h1,by rw [h1]; rfl⟩
 ·by_cases h2:b = 47
  ·exact .inr (.inl ⟨h1,h2,by rw [h2]; rfl⟩)
  ·exact .inr (.inr ⟨h1,h2,by unfold esc1; rw [if_neg h1,if_neg h2]⟩)
end
section
theorem zdI (c b:UInt8) (new:L8) (h:b ≠ c) (l:L8):∀ k:Nat,Lib.replaceK [c] new k (b :: l) = b :: Lib.replaceK [c] new k l
 | 0 => rfl
 | k + 1 => by
  have hp:([c]:L8).isPrefixOf (b :: l) = false:=by simp [List.isPrefixOf,Ne.symm h]
  have hix:Lib.index (b :: l) [c] = if Lib.index l [c] == -1 then -1 else Lib.index l [c] + 1:=by rw [Lib.index,hp]; simp
  by_cases hm:Lib.index l [c] = -1
  ·have h2:Lib.index (b :: l) [c] = -1:=by rw [hix,hm]; rfl
   rw [Lib.replaceK,Lib.replaceK,hm,h2]; rfl
  ·have hge:=Lib.index_ge l [c]
   obtain ⟨i,hi⟩:∃ i:Nat,Lib.index l [c] = i:=⟨(Lib.index l [c]).toNat,by omega⟩;have h2:Lib.index (b :: l) [c] = ((i + 1:Nat):Int):=by rw [hix,if_neg (fun e => hm (beq_iff_eq.1 e)),hi]; omega
   rw [Lib.replaceK_hit _ _ _ _ _ hi,Lib.replaceK_hit _ _ _ _ _ h2];simp
theorem zck (c:UInt8) (new:L8):∀ l:L8,Lib.replaceK [c] new (Lib.count l [c]) l = l.flatMap fun b => if b = c then new else [b]
 | [] => by rw [Lib.count_one]; rfl
 | b :: l => by
  have ih:=zck c new l;by_cases h:b = c
  ·subst h
   have hix:Lib.index (b :: l) [b] = ((0:Nat):Int):=by rw [Lib.index]; simp [List.isPrefixOf]
   rw [Lib.count_cons_eq,Nat.add_comm,Lib.replaceK_hit _ _ _ _ _ hix];simp [ih]
  ·rw [Lib.count_cons_ne b c l h,zdI c b new h,ih]
   simp [h]
theorem za3 (c:UInt8) (new s:L8) (hne:([c] == new) = false):Lib.replaceAll s [c] new = s.flatMap fun b => if b = c then new else [b]:=by
 unfold Lib.replaceAll Lib.replace Lib.replaceNum;rw [hne,if_neg (by decide),if_pos (.inl (by decide))];exact zck c new s
theorem esc_repl (s:L8):Lib.replaceAll (Lib.replaceAll s [126] [126,48]) [47] [126,49] = esc s:=by
 rw [za3 _ _ _ (by decide),za3 _ _ _ (by decide),List.flatMap_assoc];unfold esc
 congr 1
 funext b
 unfold esc1;by_cases h:b = 126
 ·subst h; rfl
 ·rw [if_neg h,if_neg h]; simp
theorem zec:∀ s:L8,(s.flatMap fun b => if b = 126 then [126,48] else [b]).length <= 2 * s.length
 | [] => by simp
 | b :: s => by
  have ih:=zec s;rw [flatMap_cons,length_append,length_cons];by_cases h:b = 126
  ·rw [if_pos h,length_cons,length_cons,length_nil]; omega
  ·rw [if_neg h,length_cons,length_nil]; omega
theorem zdc (s:L8):(Lib.replaceAll s [126] [126,48]).length <= 2 * s.length:=by
 rw [za3 _ _ _ (by decide)]; exact zec s
end
section
theorem sizeBld:(Tryz.prog.info? 47).map (·.size) = some 2:=by kernel_rfl
theorem liesBld:liesAt Tryz.prog Tryz.prog.depth 47 (2 / Tryz.prog.cellsOf 47) 0 47 1 = true:=by kernel_rfl
theorem infoByteB:(Tryz.prog.info? 5).map (fun i => (i.zero,i.size,i.bytes)) = some (some (.int .u8 0),1,1):=by kernel_rfl
theorem zdd (b:Nat) (w:World) (h0:w.cell? ⟨b,0,none⟩ = some (.pointer (some ⟨b,0,none⟩))) :
  Calls Tryz.prog 40 #[.pointer (some ⟨b,0,none⟩)] w fun e w' => e = .returned (.tuple #[]) /\ w' = w:=by
 obtain ⟨j,hj,_⟩:=Option.map_eq_some_iff.1 sizeBld
 go_enter Tryz.func40,Tryz.ntmps40
 go_wp2;rw [Lib.run_neq_ptr_same w _ Tryz.underlying45 hj];go_wp2
 go_end0
 exact ⟨rfl,rfl⟩
theorem zcO (b:Nat) (w:World) (h0:w.cell? ⟨b,0,none⟩ = some (.pointer none)) (hsh:w.shape? b = some (47,2)) (hfz:w.frozen? ⟨b,0,none⟩ = false) :
  Calls Tryz.prog 40 #[.pointer (some ⟨b,0,none⟩)] w fun e w' => e = .returned (.tuple #[]) /\ w' = w.setCell ⟨b,0,none⟩ (.pointer (some ⟨b,0,none⟩)):=by
 obtain ⟨j,hj,hjs⟩:=Option.map_eq_some_iff.1 sizeBld
 go_enter Tryz.func40,Tryz.ntmps40
 go_wp2;rw [Lib.run_to_unsafe w ⟨b,0,none⟩ Tryz.underlying45 Tryz.underlying80 hj (by rw [hjs]; decide) hsh (Nat.zero_lt_succ 1)];simp only [Result.andThen];rw [Oper.upon_value];go_wp2;rw [run_callFunc_extern Tryz.func54 (by kernel_rfl) (by kernel_rfl) (by kernel_rfl) (e:=Extern.AbiNoEscape.same) (by kernel_rfl)];rw [Lib.run_noEscape];simp only [Result.andThen];rw [Oper.upon_value];go_wp2;rw [Lib.run_from_unsafe w ⟨b,0,none⟩ Tryz.underlying80 Tryz.underlying45 hj hsh liesBld];simp only [Result.andThen];rw [Oper.upon_value];go_wp2
 go_end0
 exact ⟨rfl,rfl⟩
end
end Go.Proofs.YtanjncmokckjiaaGreatDoor
/-
  DERIVED: THE SHELF's CONTRACTS AT THIS DUMP, IN PLAIN WORDS (tools/lay-plain.mjs out of 'TryzShelf.lean', which tools/lay-shelf.mjs wrote): THE SAME DECLARATIONS UNDER THE SAME NAMES: 'import', 'namespace', 'open', 'def', 'theorem' AND NOTHING ELSE: no command of the shelf's: FOR A HAND-IN. Each laying: the table of numbers ('.._ren') and one theorem, a field a fact of the dump's own or the kernel's comparison; each contract: ONE APPLICATION.
-/
namespace Go.Proofs
open Go.Shelf
def Tryz.lays169_ren:Go.Shelf.Ren:=⟨fun | 169 => 24 | n => n,fun | 70 => 45 | 9 => 9 | 0 => 0 | 72 => 47 | 37 => 22 | 127 => 68 | 3 => 3 | 5 => 5 | n => n,fun | n => n⟩
theorem Tryz.lays169:Go.Proofs.Lays.n169 Tryz.prog Tryz.lays169_ren:={
 mixed:=by kernel_rfl
 f169:=Tryz.func24.trans (congrArg some (by kernel_rfl))
 t0:=Tryz.underlying0
 a0:=Tryz.isAgg0
 z0:=Tryz.sizeOf0
 v0:=Tryz.zeroValue0
 t3:=Tryz.underlying3
 a3:=Tryz.isAgg3
 z3:=Tryz.sizeOf3
 v3:=Tryz.zeroValue3
 t9:=Tryz.underlying9
 a9:=Tryz.isAgg9
 z9:=Tryz.sizeOf9
 v9:=Tryz.zeroValue9
 t37:=Tryz.underlying22
 a37:=Tryz.isAgg22
 z37:=Tryz.sizeOf22
 v37:=Tryz.zeroValue22
 t70:=Tryz.underlying45
 a70:=Tryz.isAgg45
 z70:=Tryz.sizeOf45
 v70:=Tryz.zeroValue45
 t72:=Tryz.underlying47
 a72:=Tryz.isAgg47
 z72:=Tryz.sizeOf47
 v72:=Tryz.zeroValue47
 t127:=Tryz.underlying68
 a127:=Tryz.isAgg68
 z127:=Tryz.sizeOf68
 v127:=Tryz.zeroValue68 }
theorem Tryz.Builder_Extra_169:Builder.Extra Tryz.prog Tryz.lays169_ren:={
 sizeBuilder:=by kernel_rfl
 liesBuilder:=by kernel_rfl
 t5:=Tryz.underlying5
 a5:=Tryz.isAgg5
 z5:=Tryz.sizeOf5
 v5:=Tryz.zeroValue5
 infoByte:=by kernel_rfl
 cellsByte:=by kernel_rfl
 sizeByte:=by kernel_rfl
 neB5:=by decide }
open Go.RowKit in
theorem Tryz.Builder_String_any (B b:Nat) (l:List UInt8) (w:World) (h:Lib.IsBuilder 47 5 B b (Lib.byteCells l) w) (hBw:B <= w.heap.size) :
  Calls Tryz.prog 24 #[.pointer (some ⟨b,0,none⟩)] w fun e w' => e = .returned (.string ⟨l.toArray⟩) /\ Below B w w':=Any.Builder_String_any Tryz.lays169 Tryz.Builder_Extra_169 B b l w h hBw
def Tryz.lays172_ren:Go.Shelf.Ren:=⟨fun | 172 => 100 | 244 => 107 | 245 => 108 | 247 => 114 | 279 => 115 | 280 => 116 | 281 => 117 | 282 => 118 | 287 => 121 | 316 => 122 | 171 => 68 | 205 => 123 | 321 => 124 | 322 => 125 | 243 => 88 | 246 => 99 | 283 => 103 | 284 => 104 | 285 => 105 | 286 => 106 | 129 => 110 | 317 => 109 | 318 => 111 | 319 => 112 | 320 => 113 | 337 => 119 | 338 => 120 | n => n,fun | 9 => 9 | 3 => 3 | 75 => 49 | 76 => 50 | 4 => 4 | 5 => 5 | 167 => 131 | 37 => 22 | 0 => 0 | 85 => 132 | 2 => 2 | 168 => 134 | 53 => 111 | 175 => 138 | 46 => 78 | 210 => 142 | 127 => 68 | 145 => 149 | 143 => 147 | 21 => 21 | 171 => 120 | 173 => 123 | 212 => 127 | 51 => 117 | 20 => 20 | 213 => 128 | 232 => 144 | 233 => 145 | 80 => 53 | n => n,fun | 15 => 4 | 16 => 5 | 17 => 3 | 18 => 6 | 19 => 7 | n => n⟩
def Tryz.laysM246_ren:Go.Shelf.Ren:=⟨fun | 246 => 99 | 283 => 103 | 284 => 104 | 285 => 105 | 286 => 106 | 129 => 110 | 317 => 109 | 318 => 111 | 319 => 112 | 320 => 113 | 337 => 119 | 338 => 120 | n => n,fun | 2 => 2 | 3 => 3 | 9 => 9 | 4 => 4 | 171 => 120 | 0 => 0 | 53 => 111 | 37 => 22 | 5 => 5 | 173 => 123 | 212 => 127 | 51 => 117 | 20 => 20 | 213 => 128 | 46 => 78 | 232 => 144 | 233 => 145 | n => n,fun | 17 => 3 | 18 => 6 | 19 => 7 | n => n⟩
def Tryz.laysM243_ren:Go.Shelf.Ren:=⟨fun | 243 => 88 | 246 => 99 | 283 => 103 | 284 => 104 | 285 => 105 | 286 => 106 | 129 => 110 | 317 => 109 | 318 => 111 | 319 => 112 | 320 => 113 | 337 => 119 | 338 => 120 | n => n,fun | 3 => 3 | 9 => 9 | 2 => 2 | 4 => 4 | 171 => 120 | 0 => 0 | 53 => 111 | 37 => 22 | 5 => 5 | 173 => 123 | 212 => 127 | 51 => 117 | 20 => 20 | 213 => 128 | 46 => 78 | 232 => 144 | 233 => 145 | n => n,fun | 17 => 3 | 18 => 6 | 19 => 7 | n => n⟩
def Tryz.laysM171_ren:Go.Shelf.Ren:=⟨fun | 171 => 68 | 243 => 88 | 246 => 99 | 283 => 103 | 284 => 104 | 285 => 105 | 286 => 106 | 129 => 110 | 317 => 109 | 318 => 111 | 319 => 112 | 320 => 113 | 337 => 119 | 338 => 120 | n => n,fun | 3 => 3 | 9 => 9 | 2 => 2 | 4 => 4 | 171 => 120 | 0 => 0 | 53 => 111 | 37 => 22 | 5 => 5 | 173 => 123 | 212 => 127 | 51 => 117 | 20 => 20 | 213 => 128 | 46 => 78 | 232 => 144 | 233 => 145 | n => n,fun | 17 => 3 | 18 => 6 | 19 => 7 | n => n⟩
theorem Tryz.laysM171:Go.Proofs.LaysM.n171 Tryz.prog Tryz.laysM171_ren:={
 mixed:=by kernel_rfl
 f129:=Tryz.func110.trans (congrArg some (by kernel_rfl))
 f171:=Tryz.func68.trans (congrArg some (by kernel_rfl))
 f243:=Tryz.func88.trans (congrArg some (by kernel_rfl))
 f246:=Tryz.func99.trans (congrArg some (by kernel_rfl))
 f283:=Tryz.func103.trans (congrArg some (by kernel_rfl))
 f284:=Tryz.func104.trans (congrArg some (by kernel_rfl))
 f285:=Tryz.func105.trans (congrArg some (by kernel_rfl))
 f286:=Tryz.func106.trans (congrArg some (by kernel_rfl))
 f317:=Tryz.func109.trans (congrArg some (by kernel_rfl))
 f318:=Tryz.func111.trans (congrArg some (by kernel_rfl))
 f319:=Tryz.func112.trans (congrArg some (by kernel_rfl))
 f320:=Tryz.func113.trans (congrArg some (by kernel_rfl))
 f337:=Tryz.func119.trans (congrArg some (by kernel_rfl))
 f338:=Tryz.func120.trans (congrArg some (by kernel_rfl))
 t0:=Tryz.underlying0
 a0:=Tryz.isAgg0
 z0:=Tryz.sizeOf0
 v0:=Tryz.zeroValue0
 t2:=Tryz.underlying2
 a2:=Tryz.isAgg2
 z2:=Tryz.sizeOf2
 v2:=Tryz.zeroValue2
 t3:=Tryz.underlying3
 a3:=Tryz.isAgg3
 z3:=Tryz.sizeOf3
 v3:=Tryz.zeroValue3
 t4:=Tryz.underlying4
 a4:=Tryz.isAgg4
 z4:=Tryz.sizeOf4
 v4:=Tryz.zeroValue4
 t5:=Tryz.underlying5
 a5:=Tryz.isAgg5
 z5:=Tryz.sizeOf5
 v5:=Tryz.zeroValue5
 t9:=Tryz.underlying9
 a9:=Tryz.isAgg9
 z9:=Tryz.sizeOf9
 v9:=Tryz.zeroValue9
 t20:=Tryz.underlying20
 a20:=Tryz.isAgg20
 z20:=Tryz.sizeOf20
 v20:=Tryz.zeroValue20
 t37:=Tryz.underlying22
 a37:=Tryz.isAgg22
 z37:=Tryz.sizeOf22
 v37:=Tryz.zeroValue22
 t46:=Tryz.underlying78
 a46:=Tryz.isAgg78
 z46:=Tryz.sizeOf78
 v46:=Tryz.zeroValue78
 t51:=Tryz.underlying117
 a51:=Tryz.isAgg117
 z51:=Tryz.sizeOf117
 v51:=Tryz.zeroValue117
 t53:=Tryz.underlying111
 a53:=Tryz.isAgg111
 z53:=Tryz.sizeOf111
 v53:=Tryz.zeroValue111
 t171:=Tryz.underlying120
 a171:=Tryz.isAgg120
 z171:=Tryz.sizeOf120
 v171:=Tryz.zeroValue120
 t173:=Tryz.underlying123
 a173:=Tryz.isAgg123
 z173:=Tryz.sizeOf123
 v173:=Tryz.zeroValue123
 t212:=Tryz.underlying127
 a212:=Tryz.isAgg127
 z212:=Tryz.sizeOf127
 v212:=Tryz.zeroValue127
 t213:=Tryz.underlying128
 a213:=Tryz.isAgg128
 z213:=Tryz.sizeOf128
 t232:=Tryz.underlying144
 a232:=Tryz.isAgg144
 z232:=Tryz.sizeOf144
 v232:=Tryz.zeroValue144
 t233:=Tryz.underlying145
 a233:=Tryz.isAgg145
 z233:=Tryz.sizeOf145
 v233:=Tryz.zeroValue145
 g17:=by kernel_rfl
 g18:=by kernel_rfl
 g19:=by kernel_rfl
 i0:=by kernel_rfl
 i2:=by kernel_rfl
 i3:=by kernel_rfl
 i4:=by kernel_rfl
 i5:=by kernel_rfl
 i9:=by kernel_rfl
 i20:=by kernel_rfl
 i37:=by kernel_rfl
 i46:=by kernel_rfl
 i51:=by kernel_rfl
 i53:=by kernel_rfl
 i171:=by kernel_rfl
 i173:=by kernel_rfl
 i212:=by kernel_rfl
 i232:=by kernel_rfl
 i233:=by kernel_rfl
 m17:=by kernel_rfl
 m18:=by kernel_rfl
 m19:=by kernel_rfl }
open Go.RowKit Go.Sort Go.Lib in
theorem Tryz.strconv_Itoa (n : Int) (h0 : -9223372036854775808 ≤ n) (h1 : n ≤ 9223372036854775807) (w : World) (htab : Lib.TabIs Tryz.prog w "internal/strconv.uint64pow10" .u64 Lib.pow10Tab) :
  Calls Tryz.prog 68 #[.int .i64 n] w fun e w' => e = .returned (.string ⟨(Lib.itoa n).toArray⟩) /\ ∃ k os,w' = grow (w.drewN k) os:=Any.strconv_Itoa Tryz.laysM171 n h0 h1 w htab
def Tryz.laysC172_ren:Go.Shelf.Ren:=⟨fun | 172 => 100 | 244 => 107 | 245 => 108 | 247 => 114 | 279 => 115 | 280 => 116 | 281 => 117 | 282 => 118 | 287 => 121 | 316 => 122 | 171 => 68 | 205 => 123 | 321 => 124 | 322 => 125 | 243 => 88 | 246 => 99 | 283 => 103 | 284 => 104 | 285 => 105 | 286 => 106 | 129 => 110 | 317 => 109 | 318 => 111 | 319 => 112 | 320 => 113 | 337 => 119 | 338 => 120 | n => n,fun | 9 => 9 | 3 => 3 | 75 => 49 | 76 => 50 | 4 => 4 | 5 => 5 | 167 => 131 | 37 => 22 | 0 => 0 | 85 => 132 | 2 => 2 | 168 => 134 | 53 => 111 | 175 => 138 | 46 => 78 | 210 => 142 | 127 => 68 | 145 => 149 | 143 => 147 | 21 => 21 | 171 => 120 | 173 => 123 | 212 => 127 | 51 => 117 | 20 => 20 | 213 => 128 | 232 => 144 | 233 => 145 | 80 => 53 | n => n,fun | 15 => 4 | 16 => 5 | 17 => 3 | 18 => 6 | 19 => 7 | n => n⟩
theorem Tryz.laysC172:Go.Proofs.LaysC.n172 Tryz.prog Tryz.laysC172_ren:={
 mixed:=by kernel_rfl
 f129:=Tryz.func110.trans (congrArg some (by kernel_rfl))
 f171:=Tryz.func68.trans (congrArg some (by kernel_rfl))
 f172:=Tryz.func100.trans (congrArg some (by kernel_rfl))
 f205:=Tryz.func123.trans (congrArg some (by kernel_rfl))
 f243:=Tryz.func88.trans (congrArg some (by kernel_rfl))
 f244:=Tryz.func107.trans (congrArg some (by kernel_rfl))
 f245:=Tryz.func108.trans (congrArg some (by kernel_rfl))
 f246:=Tryz.func99.trans (congrArg some (by kernel_rfl))
 f247:=Tryz.func114.trans (congrArg some (by kernel_rfl))
 f279:=Tryz.func115.trans (congrArg some (by kernel_rfl))
 f280:=Tryz.func116.trans (congrArg some (by kernel_rfl))
 f281:=Tryz.func117.trans (congrArg some (by kernel_rfl))
 f282:=Tryz.func118.trans (congrArg some (by kernel_rfl))
 f283:=Tryz.func103.trans (congrArg some (by kernel_rfl))
 f284:=Tryz.func104.trans (congrArg some (by kernel_rfl))
 f285:=Tryz.func105.trans (congrArg some (by kernel_rfl))
 f286:=Tryz.func106.trans (congrArg some (by kernel_rfl))
 f287:=Tryz.func121.trans (congrArg some (by kernel_rfl))
 f316:=Tryz.func122.trans (congrArg some (by kernel_rfl))
 f317:=Tryz.func109.trans (congrArg some (by kernel_rfl))
 f318:=Tryz.func111.trans (congrArg some (by kernel_rfl))
 f319:=Tryz.func112.trans (congrArg some (by kernel_rfl))
 f320:=Tryz.func113.trans (congrArg some (by kernel_rfl))
 f321:=Tryz.func124.trans (congrArg some (by kernel_rfl))
 f322:=Tryz.func125.trans (congrArg some (by kernel_rfl))
 f337:=Tryz.func119.trans (congrArg some (by kernel_rfl))
 f338:=Tryz.func120.trans (congrArg some (by kernel_rfl))
 t0:=Tryz.underlying0
 a0:=Tryz.isAgg0
 z0:=Tryz.sizeOf0
 v0:=Tryz.zeroValue0
 t2:=Tryz.underlying2
 a2:=Tryz.isAgg2
 z2:=Tryz.sizeOf2
 v2:=Tryz.zeroValue2
 t3:=Tryz.underlying3
 a3:=Tryz.isAgg3
 z3:=Tryz.sizeOf3
 v3:=Tryz.zeroValue3
 t4:=Tryz.underlying4
 a4:=Tryz.isAgg4
 z4:=Tryz.sizeOf4
 v4:=Tryz.zeroValue4
 t5:=Tryz.underlying5
 a5:=Tryz.isAgg5
 z5:=Tryz.sizeOf5
 v5:=Tryz.zeroValue5
 t9:=Tryz.underlying9
 a9:=Tryz.isAgg9
 z9:=Tryz.sizeOf9
 v9:=Tryz.zeroValue9
 t20:=Tryz.underlying20
 a20:=Tryz.isAgg20
 z20:=Tryz.sizeOf20
 v20:=Tryz.zeroValue20
 t21:=Tryz.underlying21
 a21:=Tryz.isAgg21
 z21:=Tryz.sizeOf21
 v21:=Tryz.zeroValue21
 t37:=Tryz.underlying22
 a37:=Tryz.isAgg22
 z37:=Tryz.sizeOf22
 v37:=Tryz.zeroValue22
 t46:=Tryz.underlying78
 a46:=Tryz.isAgg78
 z46:=Tryz.sizeOf78
 v46:=Tryz.zeroValue78
 t51:=Tryz.underlying117
 a51:=Tryz.isAgg117
 z51:=Tryz.sizeOf117
 v51:=Tryz.zeroValue117
 t53:=Tryz.underlying111
 a53:=Tryz.isAgg111
 z53:=Tryz.sizeOf111
 v53:=Tryz.zeroValue111
 t75:=Tryz.underlying49
 a75:=Tryz.isAgg49
 z75:=Tryz.sizeOf49
 v75:=Tryz.zeroValue49
 t76:=Tryz.underlying50
 a76:=Tryz.isAgg50
 z76:=Tryz.sizeOf50
 v76:=Tryz.zeroValue50
 t85:=Tryz.underlying132
 a85:=Tryz.isAgg132
 z85:=Tryz.sizeOf132
 v85:=Tryz.zeroValue132
 t127:=Tryz.underlying68
 a127:=Tryz.isAgg68
 z127:=Tryz.sizeOf68
 v127:=Tryz.zeroValue68
 t143:=Tryz.underlying147
 a143:=Tryz.isAgg147
 z143:=Tryz.sizeOf147
 v143:=Tryz.zeroValue147
 t145:=Tryz.underlying149
 a145:=Tryz.isAgg149
 z145:=Tryz.sizeOf149
 v145:=Tryz.zeroValue149
 t167:=Tryz.underlying131
 a167:=Tryz.isAgg131
 z167:=Tryz.sizeOf131
 v167:=Tryz.zeroValue131
 t168:=Tryz.underlying134
 a168:=Tryz.isAgg134
 z168:=Tryz.sizeOf134
 v168:=Tryz.zeroValue134
 t171:=Tryz.underlying120
 a171:=Tryz.isAgg120
 z171:=Tryz.sizeOf120
 v171:=Tryz.zeroValue120
 t173:=Tryz.underlying123
 a173:=Tryz.isAgg123
 z173:=Tryz.sizeOf123
 v173:=Tryz.zeroValue123
 t175:=Tryz.underlying138
 a175:=Tryz.isAgg138
 z175:=Tryz.sizeOf138
 v175:=Tryz.zeroValue138
 t210:=Tryz.underlying142
 a210:=Tryz.isAgg142
 z210:=Tryz.sizeOf142
 v210:=Tryz.zeroValue142
 t212:=Tryz.underlying127
 a212:=Tryz.isAgg127
 z212:=Tryz.sizeOf127
 v212:=Tryz.zeroValue127
 t213:=Tryz.underlying128
 a213:=Tryz.isAgg128
 z213:=Tryz.sizeOf128
 t232:=Tryz.underlying144
 a232:=Tryz.isAgg144
 z232:=Tryz.sizeOf144
 v232:=Tryz.zeroValue144
 t233:=Tryz.underlying145
 a233:=Tryz.isAgg145
 z233:=Tryz.sizeOf145
 v233:=Tryz.zeroValue145
 g15:=by kernel_rfl
 g16:=by kernel_rfl
 g17:=by kernel_rfl
 g18:=by kernel_rfl
 g19:=by kernel_rfl
 t80:=Tryz.underlying53
 a80:=Tryz.isAgg53
 z80:=Tryz.sizeOf53
 v80:=Tryz.zeroValue53
 i0:=by kernel_rfl
 i2:=by kernel_rfl
 i3:=by kernel_rfl
 i4:=by kernel_rfl
 i5:=by kernel_rfl
 i9:=by kernel_rfl
 i20:=by kernel_rfl
 i21:=by kernel_rfl
 i37:=by kernel_rfl
 i46:=by kernel_rfl
 i51:=by kernel_rfl
 i53:=by kernel_rfl
 i75:=by kernel_rfl
 i76:=by kernel_rfl
 i80:=by kernel_rfl
 i85:=by kernel_rfl
 i127:=by kernel_rfl
 i143:=by kernel_rfl
 i145:=by kernel_rfl
 i167:=by kernel_rfl
 i168:=by kernel_rfl
 i171:=by kernel_rfl
 i173:=by kernel_rfl
 i175:=by kernel_rfl
 i210:=by kernel_rfl
 i212:=by kernel_rfl
 i232:=by kernel_rfl
 i233:=by kernel_rfl
 m15:=by kernel_rfl
 m16:=by kernel_rfl
 m17:=by kernel_rfl
 m18:=by kernel_rfl
 m19:=by kernel_rfl
 c0:=by kernel_rfl
 c2:=by kernel_rfl
 c3:=by kernel_rfl
 c4:=by kernel_rfl
 c5:=by kernel_rfl
 c9:=by kernel_rfl
 c20:=by kernel_rfl
 c21:=by kernel_rfl
 c37:=by kernel_rfl
 c46:=by kernel_rfl
 c51:=by kernel_rfl
 c53:=by kernel_rfl
 c75:=by kernel_rfl
 c76:=by kernel_rfl
 c80:=by kernel_rfl
 c85:=by kernel_rfl
 c127:=by kernel_rfl
 c143:=by kernel_rfl
 c145:=by kernel_rfl
 c167:=by kernel_rfl
 c168:=by kernel_rfl
 c171:=by kernel_rfl
 c173:=by kernel_rfl
 c175:=by kernel_rfl
 c210:=by kernel_rfl
 c212:=by kernel_rfl
 c213:=by kernel_rfl
 c232:=by kernel_rfl
 c233:=by kernel_rfl }
open Go.RowKit in
theorem Tryz.strconv_Atoi_ok (s:ByteArray) (hmax:s.size <= 9223372036854775806) (v:Int) (h:Lib.atoiAll s.data.toList = .ok v) (w:World) :
  Calls Tryz.prog 100 #[.string s] w fun e w' => e = .returned (.tuple #[.int .i64 v,.nilIface]) /\ (w' = w \/ ∃ t,w' = Lib.bytesWorld w 5 t):=Any.strconv_Atoi_ok Tryz.laysC172 s hmax v h w
open Go.RowKit in
theorem Tryz.strconv_Atoi_syntax (s:ByteArray) (hlim:s.size <= 281474976710656) (h:Lib.atoiAll s.data.toList =  Lib.NumEnd.syntax) (ev:Value) (w:World) (hv:w.cell? ⟨4,0,none⟩ = some ev) (hev:ev = .nilIface \/ ∃ te pe,ev = .iface te pe) :
  Calls Tryz.prog 100 #[.string s] w fun e w' => ∃ N,e = .returned (.tuple #[.int .i64 (0),.iface 134 (.pointer (some ⟨N,0,none⟩))]) /\ w.heap.size <= N /\ w'.heap[N]? = some (.cells #[.string ⟨#[65,116,111,105]⟩,.string s,ev] 142 (0,0)) /\ Below w.heap.size w w':=Any.strconv_Atoi_syntax Tryz.laysC172 s hlim h ev w hv hev
open Go.RowKit in
theorem Tryz.strconv_Atoi_range (s:ByteArray) (hlim:s.size <= 281474976710656) (h:Lib.atoiAll s.data.toList = .range) (ev:Value) (w:World) (hv:w.cell? ⟨5,0,none⟩ = some ev) (hev:ev = .nilIface \/ ∃ te pe,ev = .iface te pe) :
  Calls Tryz.prog 100 #[.string s] w fun e w' => ∃ N,e = .returned (.tuple #[.int .i64 (Lib.atoiSat s.data.toList),.iface 134 (.pointer (some ⟨N,0,none⟩))]) /\ w.heap.size <= N /\ w'.heap[N]? = some (.cells #[.string ⟨#[65,116,111,105]⟩,.string s,ev] 142 (0,0)) /\ Below w.heap.size w w':=Any.strconv_Atoi_range Tryz.laysC172 s hlim h ev w hv hev
def Tryz.lays221_ren:Go.Shelf.Ren:=⟨fun | 221 => 42 | 268 => 59 | 138 => 55 | 143 => 57 | 195 => 76 | 197 => 58 | 218 => 77 | 219 => 79 | 260 => 80 | 217 => 93 | 225 => 94 | 224 => 95 | 267 => 96 | 266 => 101 | 314 => 102 | n => n,fun | 9 => 9 | 3 => 3 | 31 => 24 | 4 => 4 | 0 => 0 | 105 => 84 | 21 => 21 | 5 => 5 | 46 => 78 | 119 => 99 | 139 => 102 | 138 => 101 | 146 => 118 | 51 => 117 | n => n,fun | 1 => 2 | 3 => 0 | 4 => 1 | n => n⟩
def Tryz.lays146_ren:Go.Shelf.Ren:=⟨fun | 146 => 26 | 221 => 42 | 268 => 59 | 138 => 55 | 143 => 57 | 195 => 76 | 197 => 58 | 218 => 77 | 219 => 79 | 260 => 80 | 217 => 93 | 225 => 94 | 224 => 95 | 267 => 96 | 266 => 101 | 314 => 102 | n => n,fun | 9 => 9 | 31 => 24 | 3 => 3 | 4 => 4 | 0 => 0 | 105 => 84 | 21 => 21 | 5 => 5 | 46 => 78 | 119 => 99 | 139 => 102 | 138 => 101 | 146 => 118 | 51 => 117 | n => n,fun | 1 => 2 | 3 => 0 | 4 => 1 | n => n⟩
theorem Tryz.lays146:Go.Proofs.Lays.n146 Tryz.prog Tryz.lays146_ren:={
 mixed:=by kernel_rfl
 f138:=Tryz.func55.trans (congrArg some (by kernel_rfl))
 f143:=Tryz.func57.trans (congrArg some (by kernel_rfl))
 f146:=Tryz.func26.trans (congrArg some (by kernel_rfl))
 f195:=Tryz.func76.trans (congrArg some (by kernel_rfl))
 f197:=Tryz.func58.trans (congrArg some (by kernel_rfl))
 f217:=Tryz.func93.trans (congrArg some (by kernel_rfl))
 f218:=Tryz.func77.trans (congrArg some (by kernel_rfl))
 f219:=Tryz.func79.trans (congrArg some (by kernel_rfl))
 f221:=Tryz.func42.trans (congrArg some (by kernel_rfl))
 f224:=Tryz.func95.trans (congrArg some (by kernel_rfl))
 f225:=Tryz.func94.trans (congrArg some (by kernel_rfl))
 f260:=Tryz.func80.trans (congrArg some (by kernel_rfl))
 f266:=Tryz.func101.trans (congrArg some (by kernel_rfl))
 f267:=Tryz.func96.trans (congrArg some (by kernel_rfl))
 f268:=Tryz.func59.trans (congrArg some (by kernel_rfl))
 f314:=Tryz.func102.trans (congrArg some (by kernel_rfl))
 t0:=Tryz.underlying0
 a0:=Tryz.isAgg0
 z0:=Tryz.sizeOf0
 v0:=Tryz.zeroValue0
 t3:=Tryz.underlying3
 a3:=Tryz.isAgg3
 z3:=Tryz.sizeOf3
 v3:=Tryz.zeroValue3
 t4:=Tryz.underlying4
 a4:=Tryz.isAgg4
 z4:=Tryz.sizeOf4
 v4:=Tryz.zeroValue4
 t5:=Tryz.underlying5
 a5:=Tryz.isAgg5
 z5:=Tryz.sizeOf5
 v5:=Tryz.zeroValue5
 t9:=Tryz.underlying9
 a9:=Tryz.isAgg9
 z9:=Tryz.sizeOf9
 v9:=Tryz.zeroValue9
 t21:=Tryz.underlying21
 a21:=Tryz.isAgg21
 z21:=Tryz.sizeOf21
 v21:=Tryz.zeroValue21
 t31:=Tryz.underlying24
 a31:=Tryz.isAgg24
 z31:=Tryz.sizeOf24
 v31:=Tryz.zeroValue24
 t46:=Tryz.underlying78
 a46:=Tryz.isAgg78
 z46:=Tryz.sizeOf78
 v46:=Tryz.zeroValue78
 t51:=Tryz.underlying117
 a51:=Tryz.isAgg117
 z51:=Tryz.sizeOf117
 v51:=Tryz.zeroValue117
 t105:=Tryz.underlying84
 a105:=Tryz.isAgg84
 z105:=Tryz.sizeOf84
 v105:=Tryz.zeroValue84
 t119:=Tryz.underlying99
 a119:=Tryz.isAgg99
 z119:=Tryz.sizeOf99
 t138:=Tryz.underlying101
 a138:=Tryz.isAgg101
 z138:=Tryz.sizeOf101
 v138:=Tryz.zeroValue101
 t139:=Tryz.underlying102
 a139:=Tryz.isAgg102
 z139:=Tryz.sizeOf102
 v139:=Tryz.zeroValue102
 t146:=Tryz.underlying118
 a146:=Tryz.isAgg118
 z146:=Tryz.sizeOf118
 v146:=Tryz.zeroValue118
 g1:=by kernel_rfl
 g3:=by kernel_rfl
 g4:=by kernel_rfl }
open Go.RowKit Go.Lib in
theorem Tryz.strings_Split (s sep:ByteArray) (m:Int) (w:World) (hs:s.size < 4294967281) (hm:w.cell? ⟨2,0,none⟩ = some (.int .i64 m)) (h1:1 <= sep.size) :
  Calls Tryz.prog 26 #[.string s,.string sep] w fun e w' =>
   e = .returned (.slice (some ⟨w.heap.size,0,none⟩) (Lib.countB s sep + 1) (Lib.countB s sep + 1)) /\ w' = w.alloc (.cells ((Lib.splitB sep 0 (Lib.countB s sep) s).map Value.string).toArray 9):=Any.strings_Split Tryz.lays146 (by kernel_rfl) s sep m w hs hm h1
def Tryz.lays154_ren:Go.Shelf.Ren:=⟨fun | 154 => 41 | 138 => 55 | 165 => 56 | 143 => 57 | 166 => 22 | 197 => 58 | 169 => 24 | 195 => 76 | 218 => 77 | 240 => 40 | 241 => 78 | 219 => 79 | 260 => 80 | 276 => 54 | 277 => 92 | 217 => 93 | 225 => 94 | 224 => 95 | 267 => 96 | 266 => 101 | 314 => 102 | n => n,fun | 9 => 9 | 3 => 3 | 4 => 4 | 72 => 47 | 0 => 0 | 76 => 50 | 105 => 84 | 21 => 21 | 5 => 5 | 70 => 45 | 20 => 20 | 37 => 22 | 75 => 49 | 127 => 68 | 164 => 80 | 46 => 78 | 119 => 99 | 139 => 102 | 138 => 101 | 146 => 118 | 51 => 117 | 80 => 53 | n => n,fun | 1 => 2 | 3 => 0 | 4 => 1 | n => n⟩
def Tryz.lays155_ren:Go.Shelf.Ren:=⟨fun | 155 => 23 | 154 => 41 | 138 => 55 | 165 => 56 | 143 => 57 | 166 => 22 | 197 => 58 | 169 => 24 | 195 => 76 | 218 => 77 | 240 => 40 | 241 => 78 | 219 => 79 | 260 => 80 | 276 => 54 | 277 => 92 | 217 => 93 | 225 => 94 | 224 => 95 | 267 => 96 | 266 => 101 | 314 => 102 | n => n,fun | 9 => 9 | 3 => 3 | 4 => 4 | 72 => 47 | 0 => 0 | 76 => 50 | 105 => 84 | 21 => 21 | 5 => 5 | 70 => 45 | 20 => 20 | 37 => 22 | 75 => 49 | 127 => 68 | 164 => 80 | 46 => 78 | 119 => 99 | 139 => 102 | 138 => 101 | 146 => 118 | 51 => 117 | 80 => 53 | n => n,fun | 1 => 2 | 3 => 0 | 4 => 1 | n => n⟩
theorem Tryz.lays155:Go.Proofs.Lays.n155 Tryz.prog Tryz.lays155_ren:={
 mixed:=by kernel_rfl
 f138:=Tryz.func55.trans (congrArg some (by kernel_rfl))
 f143:=Tryz.func57.trans (congrArg some (by kernel_rfl))
 f154:=Tryz.func41.trans (congrArg some (by kernel_rfl))
 f155:=Tryz.func23.trans (congrArg some (by kernel_rfl))
 f165:=Tryz.func56.trans (congrArg some (by kernel_rfl))
 f166:=Tryz.func22.trans (congrArg some (by kernel_rfl))
 f169:=Tryz.func24.trans (congrArg some (by kernel_rfl))
 f195:=Tryz.func76.trans (congrArg some (by kernel_rfl))
 f197:=Tryz.func58.trans (congrArg some (by kernel_rfl))
 f217:=Tryz.func93.trans (congrArg some (by kernel_rfl))
 f218:=Tryz.func77.trans (congrArg some (by kernel_rfl))
 f219:=Tryz.func79.trans (congrArg some (by kernel_rfl))
 f224:=Tryz.func95.trans (congrArg some (by kernel_rfl))
 f225:=Tryz.func94.trans (congrArg some (by kernel_rfl))
 f240:=Tryz.func40.trans (congrArg some (by kernel_rfl))
 f241:=Tryz.func78.trans (congrArg some (by kernel_rfl))
 f260:=Tryz.func80.trans (congrArg some (by kernel_rfl))
 f266:=Tryz.func101.trans (congrArg some (by kernel_rfl))
 f267:=Tryz.func96.trans (congrArg some (by kernel_rfl))
 f276:=Tryz.func54.trans (congrArg some (by kernel_rfl))
 f277:=Tryz.func92.trans (congrArg some (by kernel_rfl))
 f314:=Tryz.func102.trans (congrArg some (by kernel_rfl))
 t0:=Tryz.underlying0
 a0:=Tryz.isAgg0
 z0:=Tryz.sizeOf0
 v0:=Tryz.zeroValue0
 t3:=Tryz.underlying3
 a3:=Tryz.isAgg3
 z3:=Tryz.sizeOf3
 v3:=Tryz.zeroValue3
 t4:=Tryz.underlying4
 a4:=Tryz.isAgg4
 z4:=Tryz.sizeOf4
 v4:=Tryz.zeroValue4
 t5:=Tryz.underlying5
 a5:=Tryz.isAgg5
 z5:=Tryz.sizeOf5
 v5:=Tryz.zeroValue5
 t9:=Tryz.underlying9
 a9:=Tryz.isAgg9
 z9:=Tryz.sizeOf9
 v9:=Tryz.zeroValue9
 t20:=Tryz.underlying20
 a20:=Tryz.isAgg20
 z20:=Tryz.sizeOf20
 v20:=Tryz.zeroValue20
 t21:=Tryz.underlying21
 a21:=Tryz.isAgg21
 z21:=Tryz.sizeOf21
 v21:=Tryz.zeroValue21
 t37:=Tryz.underlying22
 a37:=Tryz.isAgg22
 z37:=Tryz.sizeOf22
 v37:=Tryz.zeroValue22
 t46:=Tryz.underlying78
 a46:=Tryz.isAgg78
 z46:=Tryz.sizeOf78
 v46:=Tryz.zeroValue78
 t51:=Tryz.underlying117
 a51:=Tryz.isAgg117
 z51:=Tryz.sizeOf117
 v51:=Tryz.zeroValue117
 t70:=Tryz.underlying45
 a70:=Tryz.isAgg45
 z70:=Tryz.sizeOf45
 v70:=Tryz.zeroValue45
 t72:=Tryz.underlying47
 a72:=Tryz.isAgg47
 z72:=Tryz.sizeOf47
 v72:=Tryz.zeroValue47
 t75:=Tryz.underlying49
 a75:=Tryz.isAgg49
 z75:=Tryz.sizeOf49
 v75:=Tryz.zeroValue49
 t76:=Tryz.underlying50
 a76:=Tryz.isAgg50
 z76:=Tryz.sizeOf50
 v76:=Tryz.zeroValue50
 t105:=Tryz.underlying84
 a105:=Tryz.isAgg84
 z105:=Tryz.sizeOf84
 v105:=Tryz.zeroValue84
 t119:=Tryz.underlying99
 a119:=Tryz.isAgg99
 z119:=Tryz.sizeOf99
 t127:=Tryz.underlying68
 a127:=Tryz.isAgg68
 z127:=Tryz.sizeOf68
 v127:=Tryz.zeroValue68
 t138:=Tryz.underlying101
 a138:=Tryz.isAgg101
 z138:=Tryz.sizeOf101
 v138:=Tryz.zeroValue101
 t139:=Tryz.underlying102
 a139:=Tryz.isAgg102
 z139:=Tryz.sizeOf102
 v139:=Tryz.zeroValue102
 t146:=Tryz.underlying118
 a146:=Tryz.isAgg118
 z146:=Tryz.sizeOf118
 v146:=Tryz.zeroValue118
 t164:=Tryz.underlying80
 a164:=Tryz.isAgg80
 z164:=Tryz.sizeOf80
 v164:=Tryz.zeroValue80
 g1:=by kernel_rfl
 g3:=by kernel_rfl
 g4:=by kernel_rfl }
theorem Tryz.Builder_Extra_155:Builder.Extra Tryz.prog Tryz.lays155_ren:={
 sizeBuilder:=by kernel_rfl
 liesBuilder:=by kernel_rfl
 t5:=Tryz.underlying5
 a5:=Tryz.isAgg5
 z5:=Tryz.sizeOf5
 v5:=Tryz.zeroValue5
 infoByte:=by kernel_rfl
 cellsByte:=by kernel_rfl
 sizeByte:=by kernel_rfl
 neB5:=by decide }
open Go.RowKit Go.Lib in
theorem Tryz.strings_ReplaceAll (s old new:ByteArray) (m:Int) (w:World) (hs:s.size < 4294967281) (hm:w.cell? ⟨2,0,none⟩ = some (.int .i64 m)) (h1:1 <= old.size) (hlen:s.size + Lib.countB s old * new.size <= 140737488355328) :
  Calls Tryz.prog 23 #[.string s,.string old,.string new] w fun e w' =>
   e = .returned (.string ⟨(Lib.replaceAll s.data.toList old.data.toList new.data.toList).toArray⟩) /\ Below w.heap.size w w':=Any.strings_ReplaceAll Tryz.lays155 Tryz.Builder_Extra_155 s old new m w hs hm h1 hlen
def Tryz.lays260_ren:Go.Shelf.Ren:=⟨fun | 260 => 80 | n => n,fun | 9 => 9 | 21 => 21 | 3 => 3 | 4 => 4 | 5 => 5 | 119 => 99 | 0 => 0 | 46 => 78 | 139 => 102 | 138 => 101 | n => n,fun | 3 => 0 | 4 => 1 | n => n⟩
def Tryz.laysValid_ren:Go.Shelf.Ren:=⟨fun | 196 => 53 | 259 => 75 | n => n,fun | 9 => 9 | 4 => 4 | 3 => 3 | 5 => 5 | 12 => 12 | 119 => 99 | 0 => 0 | 46 => 78 | 139 => 102 | 138 => 101 | 53 => 111 | n => n,fun | 3 => 0 | 4 => 1 | n => n⟩
theorem Tryz.laysValid:Go.Proofs.Lays.n196 Tryz.prog Tryz.laysValid_ren:={
 mixed:=by kernel_rfl
 f196:=Tryz.func53.trans (congrArg some (by kernel_rfl))
 f259:=Tryz.func75.trans (congrArg some (by kernel_rfl))
 t0:=Tryz.underlying0
 a0:=Tryz.isAgg0
 z0:=Tryz.sizeOf0
 v0:=Tryz.zeroValue0
 t3:=Tryz.underlying3
 a3:=Tryz.isAgg3
 z3:=Tryz.sizeOf3
 v3:=Tryz.zeroValue3
 t4:=Tryz.underlying4
 a4:=Tryz.isAgg4
 z4:=Tryz.sizeOf4
 v4:=Tryz.zeroValue4
 t5:=Tryz.underlying5
 a5:=Tryz.isAgg5
 z5:=Tryz.sizeOf5
 v5:=Tryz.zeroValue5
 t9:=Tryz.underlying9
 a9:=Tryz.isAgg9
 z9:=Tryz.sizeOf9
 v9:=Tryz.zeroValue9
 t12:=Tryz.underlying12
 a12:=Tryz.isAgg12
 z12:=Tryz.sizeOf12
 v12:=Tryz.zeroValue12
 t46:=Tryz.underlying78
 a46:=Tryz.isAgg78
 z46:=Tryz.sizeOf78
 v46:=Tryz.zeroValue78
 t53:=Tryz.underlying111
 a53:=Tryz.isAgg111
 z53:=Tryz.sizeOf111
 v53:=Tryz.zeroValue111
 t119:=Tryz.underlying99
 a119:=Tryz.isAgg99
 z119:=Tryz.sizeOf99
 t138:=Tryz.underlying101
 a138:=Tryz.isAgg101
 z138:=Tryz.sizeOf101
 v138:=Tryz.zeroValue101
 t139:=Tryz.underlying102
 a139:=Tryz.isAgg102
 z139:=Tryz.sizeOf102
 v139:=Tryz.zeroValue102
 g3:=by kernel_rfl
 g4:=by kernel_rfl }
open Go.RowKit Go.Lib in
theorem Tryz.utf8_ValidString (s:ByteArray) (w:World) (hs:s.size <= 9223372036854775807) (hT:Lib.Utf8Tabs 0 1 w) :
  Calls Tryz.prog 53 #[.string s] w fun e w' => e = .returned (.bool (Lib.validD s.data.toList)) /\ Below w.heap.size w w':=Any.utf8_ValidString Tryz.laysValid s w hs hT
end Go.Proofs
namespace Go.Proofs.YtanjncmokckjiaaGreatDoor
open Go.RowKit
set_option maxHeartbeats 4000000
set_option maxRecDepth 100000
open List
section
theorem zdJ (B b:Nat) (bs:List Value) (w:World) (h:Lib.IsBuilder 47 5 B b bs w) :
  Calls Tryz.prog 40 #[.pointer (some ⟨b,0,none⟩)] w fun e w' => e = .returned (.tuple #[]) /\ (Lib.BuilderAt 47 5 B b (.pointer (some ⟨b,0,none⟩)) bs w' /\ Below B w w'):=by
 rcases h with h | h
 ·refine (zcO b w h.cell0 h.shape h.frozen0).mono ?_
  rintro e w' ⟨rfl,rfl⟩;exact ⟨rfl,h.used _,(Below.refl B w).setCell (p:=⟨b,0,none⟩) h.1 _⟩
 ·refine (zdd b w h.cell0).mono ?_
  rintro e w' ⟨rfl,rfl⟩;exact ⟨rfl,h,Below.refl B _⟩
theorem zcP (B b:Nat) (l s:L8) (w:World) (h:Lib.IsBuilder 47 5 B b (Lib.byteCells l) w) (hlen:l.length + s.length <= 140737488355328) (hBw:B <= w.heap.size) :
  Calls Tryz.prog 22 #[.pointer (some ⟨b,0,none⟩),.string ⟨s.toArray⟩] w fun e w' => e = .returned (.tuple #[.int .i64 s.length,.nilIface]) /\ (Lib.BuilderAt 47 5 B b (.pointer (some ⟨b,0,none⟩)) (Lib.byteCells (l ++ s)) w' /\ Below B w w'):=by
 obtain ⟨i0,hi,hz0,hz1,hz2⟩:=info_parts infoByteB;have HC:=Lib.hid (zdJ B b _ w h);have hbl:(Lib.byteCells l).length = l.length:=Lib.byteCells_length l;have hss:(⟨s.toArray⟩:ByteArray).size = s.length:=by simp [ByteArray.size]
 clear h
 go_enter Tryz.func22,Tryz.ntmps22
 go_wp2_with (go_at_call 40; refine HC.out.mono ?_)
 rintro e w1 ⟨rfl,h1,hb1⟩;obtain ⟨hB,v,hbk,hown,hne⟩:=h1;have c0:w1.cell? ⟨b,0,none⟩ = some (.pointer (some ⟨b,0,none⟩)):=by rw [Lib.cell_of_heap hbk]; rfl
 have c1:w1.cell? ⟨b,1,none⟩ = some v:=by rw [Lib.cell_of_heap hbk]; rfl
 go_wp2_with (at_builtin; refine Lib.wpList_append_own_string _ rfl _ _ 22 9 rfl B 5 i0 Tryz.underlying22 Tryz.underlying9 hi hz0 hz1 hz2 _ _ _ rfl hown ⟨s.toArray⟩ rfl ?c3 ?c4 ?c5 ?_)
 case c3 => unfold maxLen; rw [hbl,hss]; omega
 case c4 => rw [hbl,hss]; omega
 case c5 => have:=hb1.size; omega
 intro v' w2 hown' hgrow _
 have hlt:b < w1.heap.size:=by
  rcases Nat.lt_or_ge b w1.heap.size with h' | h'
  ·exact h'
  ·simp [Array.getElem?_eq_none h'] at hbk
 have hb2:w2.heap[b]? = some (.cells #[.pointer (some ⟨b,0,none⟩),v] 47 (0,0)):=by
  rw [hgrow.block b hlt (fun e => hne e.symm)];exact hbk
 have d0:w2.cell? ⟨b,0,none⟩ = some (.pointer (some ⟨b,0,none⟩)):=by rw [Lib.cell_of_heap hb2]; rfl
 have d1:w2.cell? ⟨b,1,none⟩ = some v:=by rw [Lib.cell_of_heap hb2]; rfl
 have f1:w2.frozen? ⟨b,1,none⟩ = false:=Lib.frozen_of_heap hb2 1
 obtain ⟨ao,n',cap,rfl⟩:∃ ao n' cap,v' = .slice ao n' cap:=by
  rcases hown'.2 with ⟨hv,_⟩ | ⟨g,cap,cur,hv,_⟩
  ·exact ⟨_,_,_,hv⟩
  ·exact ⟨_,_,_,hv⟩
 go_wp2
 go_ret2
 refine ⟨by simp,?_,?_⟩
 ·exact Lib.BuilderAt.put (T:=47) (e:=5) hB hb2 (bs':=Lib.byteCells (l ++ s)) (by rw [Lib.byteCells_append]; simpa [Lib.strCells_eq,Lib.byteCells_length] using hown') (by decide)
 ·exact (hb1.grown hgrow (by have:=hb1.size; omega) (fun k hk => (hown.lt k hk).1)).setCell (p:=⟨b,1,none⟩) hB _
end
end Go.Proofs.YtanjncmokckjiaaGreatDoor
/- Plain facts on UTF-8: a sign by its bytes, a text by its signs. No program in sight. -/
namespace Go.Proofs.YtanjncmokckjiaaGreatDoor
open Go.RowKit Go.Lib
def utf (n:Nat):List UInt8 :=
 if 1114111 < n \/ (55296 <= n /\ n <= 57343) then []
 else if n < 128 then [byteOf n]
 else if n < 2048 then [byteOf (192 + n / 64),byteOf (128 + n % 64)]
 else if n < 65536 then [byteOf (224 + n / 4096),byteOf (128 + n / 64 % 64),byteOf (128 + n % 64)]
 else [byteOf (240 + n / 262144),byteOf (128 + n / 4096 % 64),byteOf (128 + n / 64 % 64),byteOf (128 + n % 64)]
def many (b:Nat):Nat × Nat :=
 if b < 128 then (1,b) else if 192 <= b /\ b <= 223 then (2,b % 32) else if 224 <= b /\ b <= 239 then (3,b % 16) else if 240 <= b /\ b <= 247 then (4,b % 8) else (0,0)
def sgnV (n:Nat) (l:List UInt8):Nat:=l.foldl (fun n b => n * 64 + b.toNat % 64) n
def sgn (l:List UInt8):Option (Nat × Nat) :=
 if l = [] \/ ((decodeL l).1 = 65533 /\ (decodeL l).2 = 1) then none else some (decodeL l)
theorem byteOf_eq {m:Nat} {b:UInt8}:byteOf m = b ↔ m % 256 = b.toNat:=by
 rw [<- UInt8.toNat_inj,zdZ]
theorem zb7 (b:Nat):(b < 128 /\ many b = (1,b)) \/ (192 <= b /\ b <= 223 /\ many b = (2,b % 32)) \/ (224 <= b /\ b <= 239 /\ many b = (3,b % 16)) \/ (240 <= b /\ b <= 247 /\ many b = (4,b % 8)) \/ ((128 <= b /\ b < 192 \/ 248 <= b) /\ many b = (0,0)):=by
 unfold many;by_cases h1:b < 128
 ·simp [h1]
 by_cases h2:192 <= b /\ b <= 223
 ·simp [h1,h2]
 by_cases h3:224 <= b /\ b <= 239
 ·rw [if_neg h1,if_neg h2,if_pos h3]; simp [h3]
 by_cases h4:240 <= b /\ b <= 247
 ·rw [if_neg h1,if_neg h2,if_neg h3,if_pos h4]; simp [h4]
 ·rw [if_neg h1,if_neg h2,if_neg h3,if_neg h4]; right; right; right; right; exact ⟨by omega,rfl⟩
theorem zcw {n b0 b1 b2 b3 v m:Nat} {u l:List UInt8} {p:Prop} [Decidable p] (hp:¬ p) (c:Prop)
  (hy:c -> decodeN n b0 b1 b2 b3 = (v,m) /\ ¬ (v = 65533 /\ m = 1) /\ u = l) (hn:¬ c -> decodeN n b0 b1 b2 b3 = (65533,1) /\ u ≠ l) :
  (if (decodeN n b0 b1 b2 b3).1 = 65533 /\ (decodeN n b0 b1 b2 b3).2 = 1 then none else some (decodeN n b0 b1 b2 b3)) = if p \/ u ≠ l then none else some (v,m):=by
 by_cases hc:c
 ·obtain ⟨h1,h2,h3⟩:=hy hc
  rw [h1,if_neg h2,if_neg]; intro h; rcases h with h | h
  ·exact hp h
  ·exact h h3
 ·obtain ⟨h1,h3⟩:=hn hc
  rw [h1,if_pos ⟨rfl,rfl⟩,if_pos (.inr h3)]
theorem za6 {n b0 b1 b2 b3:Nat} (hb:128 <= b0) (h:n < 2 \/ (n < 3 /\ 224 <= b0) \/ (n < 4 /\ 240 <= b0)):decodeN n b0 b1 b2 b3 = (65533,1):=by
 unfold decodeN; rw [if_neg (by omega),if_neg (by omega),if_neg (by omega),if_neg (by omega)]
theorem sgn_many (b0:UInt8) (t:List UInt8) :
  sgn (b0 :: t) = if ((many b0.toNat).1 = 0 \/ t.length + 1 < (many b0.toNat).1) \/ utf (sgnV (many b0.toNat).2 (t.take ((many b0.toNat).1 - 1))) ≠ (b0 :: t).take (many b0.toNat).1 then none
   else some (sgnV (many b0.toNat).2 (t.take ((many b0.toNat).1 - 1)),(many b0.toNat).1):=by
 have hb0:=b0.toNat_lt;unfold sgn;rw [decodeL_N];simp only [List.cons_ne_nil,false_or,List.length_cons,List.getD_cons_zero]
 rcases zb7 b0.toNat with ⟨h,e⟩ | ⟨h1,h2,e⟩ | ⟨h1,h2,e⟩ | ⟨h1,h2,e⟩ | ⟨h,e⟩
 ·rw [e]
  refine zcw (by simp) True (fun _ => ⟨?_,by simp [sgnV]; omega,?_⟩) (fun h => absurd trivial h)
  ·rw [decodeN_ascii _ _ _ _ _ h]; simp [sgnV]
  ·simp only [sgnV,List.take_zero,Nat.sub_self,List.foldl_nil,List.take_succ_cons]
   unfold utf; rw [if_neg (by omega),if_pos h,List.cons.injEq]; exact ⟨byteOf_eq.2 (by omega),rfl⟩
 ·rw [e]
  match t with
  | [] => rw [za6 (by omega) (by simp; try omega),if_pos ⟨rfl,rfl⟩,if_pos (by simp)]
  | b1 :: t =>
   have hb1:=b1.toNat_lt;simp only [List.getD_cons_succ,List.getD_cons_zero,sgnV,Nat.reduceSub,List.take_succ_cons,List.take_zero,List.foldl_cons,List.foldl_nil,List.length_cons];refine zcw (by omega) (b1.toNat / 64 = 2 /\ 128 <= b0.toNat % 32 * 64 + b1.toNat % 64) (fun hc => ⟨?_,by omega,?_⟩) (fun hc => ⟨?_,?_⟩)
   ·unfold decodeN; rw [if_neg (by omega),if_pos (by omega),if_pos (by omega)]
   ·unfold utf; rw [if_neg (by omega),if_neg (by omega),if_pos (by omega),List.cons.injEq,List.cons.injEq]
    exact ⟨byteOf_eq.2 (by omega),byteOf_eq.2 (by omega),rfl⟩
   ·unfold decodeN; rw [if_neg (by omega)]
    by_cases h:b1.toNat / 64 = 2
    ·rw [if_pos (by omega),if_neg (by omega)]
    ·rw [if_neg (by omega),if_neg (by omega),if_neg (by omega)]
   ·unfold utf; rw [if_neg (by omega)]
    by_cases h:128 <= b0.toNat % 32 * 64 + b1.toNat % 64
    ·rw [if_neg (by omega),if_pos (by omega)]
     intro he; simp only [List.cons.injEq,byteOf_eq,and_true] at he; omega
    ·rw [if_pos (by omega)]; simp
 ·rw [e]
  match t with
  | [] => rw [za6 (by omega) (by simp; try omega),if_pos ⟨rfl,rfl⟩,if_pos (by simp)]
  | [b1] => rw [za6 (by omega) (by simp; try omega),if_pos ⟨rfl,rfl⟩,if_pos (by simp)]
  | b1 :: b2 :: t =>
   have hb1:=b1.toNat_lt;have hb2:=b2.toNat_lt;simp only [List.getD_cons_succ,List.getD_cons_zero,sgnV,Nat.reduceSub,List.take_succ_cons,List.take_zero,List.foldl_cons,List.foldl_nil,List.length_cons];obtain ⟨v,hv⟩:∃ v,(b0.toNat % 16 * 64 + b1.toNat % 64) * 64 + b2.toNat % 64 = v:=⟨_,rfl⟩;refine zcw (by omega) (b1.toNat / 64 = 2 /\ b2.toNat / 64 = 2 /\ 2048 <= v /\ ¬ (55296 <= v /\ v <= 57343)) (fun hc => ⟨?_,by omega,?_⟩) (fun hc => ⟨?_,?_⟩)
   ·rw [hv]; unfold decodeN; rw [if_neg (by omega),if_neg (by omega),if_pos (by omega),if_pos (by omega)]; simp; omega
   ·rw [hv]; unfold utf; rw [if_neg (by omega),if_neg (by omega),if_neg (by omega),if_pos (by omega)]; simp only [List.cons.injEq,and_true]
    exact ⟨byteOf_eq.2 (by omega),byteOf_eq.2 (by omega),byteOf_eq.2 (by omega)⟩
   ·unfold decodeN; rw [if_neg (by omega),if_neg (by omega)]
    by_cases h:b1.toNat / 64 = 2 /\ b2.toNat / 64 = 2
    ·rw [if_pos (by omega),if_neg (by omega)]
    ·rw [if_neg (by omega),if_neg (by omega)]
   ·rw [hv]; unfold utf
    by_cases h:55296 <= v /\ v <= 57343
    ·rw [if_pos (by omega)]; simp
    by_cases h:2048 <= v
    ·rw [if_neg (by omega),if_neg (by omega),if_neg (by omega),if_pos (by omega)]
     intro he; simp only [List.cons.injEq,byteOf_eq,and_true] at he; omega
    ·rw [if_neg (by omega)]; split
     ·simp
     ·rw [if_pos (by omega)]; simp
 ·rw [e]
  match t with
  | [] => rw [za6 (by omega) (by simp; try omega),if_pos ⟨rfl,rfl⟩,if_pos (by simp)]
  | [b1] => rw [za6 (by omega) (by simp; try omega),if_pos ⟨rfl,rfl⟩,if_pos (by simp)]
  | [b1,b2] => rw [za6 (by omega) (by simp; try omega),if_pos ⟨rfl,rfl⟩,if_pos (by simp)]
  | b1 :: b2 :: b3 :: t =>
   have hb1:=b1.toNat_lt;have hb2:=b2.toNat_lt;have hb3:=b3.toNat_lt;simp only [List.getD_cons_succ,List.getD_cons_zero,sgnV,Nat.reduceSub,List.take_succ_cons,List.take_zero,List.foldl_cons,List.foldl_nil,List.length_cons];obtain ⟨v,hv⟩:∃ v,((b0.toNat % 8 * 64 + b1.toNat % 64) * 64 + b2.toNat % 64) * 64 + b3.toNat % 64 = v:=⟨_,rfl⟩;refine zcw (by omega) (b1.toNat / 64 = 2 /\ b2.toNat / 64 = 2 /\ b3.toNat / 64 = 2 /\ 65536 <= v /\ v <= 1114111) (fun hc => ⟨?_,by omega,?_⟩) (fun hc => ⟨?_,?_⟩)
   ·rw [hv]; unfold decodeN; rw [if_neg (by omega),if_neg (by omega),if_neg (by omega),if_pos (by omega),if_pos (by omega)]; simp; omega
   ·rw [hv]; unfold utf; rw [if_neg (by omega),if_neg (by omega),if_neg (by omega),if_neg (by omega)]; simp only [List.cons.injEq,and_true]
    exact ⟨byteOf_eq.2 (by omega),byteOf_eq.2 (by omega),byteOf_eq.2 (by omega),byteOf_eq.2 (by omega)⟩
   ·unfold decodeN; rw [if_neg (by omega),if_neg (by omega),if_neg (by omega)]
    by_cases h:b1.toNat / 64 = 2 /\ b2.toNat / 64 = 2 /\ b3.toNat / 64 = 2
    ·rw [if_pos (by omega),if_neg (by omega)]
    ·rw [if_neg (by omega)]
   ·rw [hv]; unfold utf
    by_cases h:1114111 < v \/ (55296 <= v /\ v <= 57343)
    ·rw [if_pos (by omega)]; simp
    by_cases h:65536 <= v
    ·rw [if_neg (by omega),if_neg (by omega),if_neg (by omega),if_neg (by omega)]
     intro he; simp only [List.cons.injEq,byteOf_eq,and_true] at he; omega
    ·rw [if_neg (by omega)]; split
     ·simp
     split
     ·simp
     ·rw [if_pos (by omega)]; simp
 ·rw [e,if_pos (by rw [decodeN_bad _ _ _ _ _ (by omega)]; simp),if_pos (by simp)]
theorem sgn_bd {l:List UInt8} {n m:Nat} (h:sgn l = some (n,m)):n <= 1114111 /\ 1 <= m /\ m <= l.length:=by
 unfold sgn at h; split at h
 ·cases h
 ·rename_i hc
  simp only [Option.some.injEq] at h;have h1:=decodeL_rune l; have h2:=decodeL_width l; have h3:=decodeL_le l (fun e => hc (.inl e))
  rw [h] at h1 h2 h3; exact ⟨h1,h2,h3⟩
theorem validD_sgn (l:List UInt8) (hne:l ≠ []):validD l = match sgn l with | none => false | some (_,m) => validD (l.drop m):=by
 rw [validD_step l hne]; unfold sgn
 by_cases h:(decodeL l).1 = 65533 /\ (decodeL l).2 = 1
 ·rw [if_pos h,if_pos (.inr h)]
 ·rw [if_neg h,if_neg (by simp [hne,h])]
theorem many_bd (b:Nat) (hb:b < 256):(many b).1 <= 4 /\ (many b).2 < 256:=by
 rcases zb7 b with ⟨_,e⟩ | ⟨_,_,e⟩ | ⟨_,_,e⟩ | ⟨_,_,e⟩ | ⟨_,e⟩ <;> rw [e] <;> simp <;> omega
theorem sgnV_snoc (v:Nat) (t:List UInt8) (j:Nat) (h:j < t.length):sgnV v (t.take (j + 1)) = sgnV v (t.take j) * 64 + t[j].toNat % 64:=by
 unfold sgnV; rw [take_snoc t j h,List.foldl_append]; rfl
theorem sgnV_lt (t:List UInt8):∀ v,sgnV v t < (v + 1) * 64 ^ t.length:=by
 induction t with
 | nil => intro v; simp [sgnV]
 | cons b t ih =>
  intro v;have h1:=ih (v * 64 + b.toNat % 64);have h2:(v * 64 + b.toNat % 64 + 1) <= (v + 1) * 64:=by omega
  have h3:=Nat.mul_le_mul_right (64 ^ t.length) h2;show sgnV (v * 64 + b.toNat % 64) t < _;rw [List.length_cons,Nat.pow_succ,Nat.mul_comm (64 ^ t.length) 64,<- Nat.mul_assoc]; omega
theorem sgnV_bd (v:Nat) (t:List UInt8) (j:Nat) (hv:v < 256) (hj:j <= 3):sgnV v (t.take j) < 67108864:=by
 have h1:=sgnV_lt (t.take j) v;have h2:(t.take j).length <= 3:=by rw [List.length_take]; omega
 have h3:64 ^ (t.take j).length <= 64 ^ 3:=Nat.pow_le_pow_right (by omega) h2;have h4:(v + 1) * 64 ^ (t.take j).length <= 256 * 64 ^ 3:=Nat.mul_le_mul (by omega) h3;omega
def signAt (l:List UInt8) (i:Int):Int × Int :=
 if 0 <= i /\ i < l.length then (match sgn (l.drop i.toNat) with | none => (-1,-1) | some (n,m) => ((n:Int),i + m)) else (-1,-1)
theorem signAt_far {l:List UInt8} {i:Int} (h:¬ (0 <= i /\ i < l.length)):signAt l i = (-1,-1):=by unfold signAt; rw [if_neg h]
theorem zbJ {l:List UInt8} {k:Nat} (h:sgn (l.drop k) = none):signAt l k = (-1,-1):=by
 unfold signAt; split
 ·rw [Int.toNat_natCast,h]
 ·rfl
theorem zcQ {l:List UInt8} {k n m:Nat} (hk:k < l.length) (h:sgn (l.drop k) = some (n,m)):signAt l k = ((n:Int),(k:Int) + m):=by
 unfold signAt; rw [if_pos (by omega),Int.toNat_natCast,h]
end Go.Proofs.YtanjncmokckjiaaGreatDoor
/- Masks of integers of 64 bits and of bytes, as remainders. No program in sight. -/
namespace Go.Proofs.YtanjncmokckjiaaGreatDoor
open Go.RowKit
theorem zbc (x:Int) (k:Nat) (hk:k <= 62) (m:Int) (hm:m = 2 ^ k - 1):bits .and .i64 x m = x % 2 ^ k:=by
 subst hm;have hp:(2:Nat) ^ k <= 2 ^ 62:=Nat.pow_le_pow_right (by omega) hk;have h0:(1:Nat) <= 2 ^ k:=Nat.one_le_two_pow;have e:((2:Int) ^ k - 1) = ((2 ^ k - 1:Nat):Int):=by rw [Int.natCast_sub h0]; simp
 have hm:(BitVec.ofInt 64 ((2:Int) ^ k - 1)).toNat = 2 ^ k - 1:=by
  rw [e,BitVec.ofInt_natCast,BitVec.toNat_ofNat]; exact Nat.mod_eq_of_lt (by omega)
 show IntKind.i64.wrap ((BitVec.ofInt 64 x &&& BitVec.ofInt 64 ((2:Int) ^ k - 1)).toNat:Int) = _;rw [BitVec.toNat_and,hm,Nat.and_two_pow_sub_one_eq_mod,BitVec.toNat_ofInt]
 have hd:((2 ^ k:Nat):Int) ∣ ((2 ^ 64:Nat):Int):=by
  have:(2:Nat) ^ k ∣ 2 ^ 64:=Nat.pow_dvd_pow 2 (by omega)
  exact Int.natCast_dvd_natCast.2 this
 have h1:(((x % ((2 ^ 64:Nat):Int)).toNat % 2 ^ k:Nat):Int) = x % ((2 ^ k:Nat):Int):=by
  rw [Int.natCast_emod,Int.toNat_of_nonneg (Int.emod_nonneg _ (by decide)),Int.emod_emod_of_dvd _ hd]
 rw [h1];have h2:((2 ^ k:Nat):Int) = (2:Int) ^ k:=by simp
 have h3:(0:Int) < ((2 ^ k:Nat):Int):=by omega
 have h4:=Int.emod_nonneg x (show ((2 ^ k:Nat):Int) ≠ 0 by omega);have h5:=Int.emod_lt_of_pos x h3;rw [<- h2,IntKind.wrap_i64];omega
theorem m1 (x:Int):bits .and .i64 x 1 = x % 2:=zbc x 1 (by decide) 1 (by decide)
theorem m7 (x:Int):bits .and .i64 x 7 = x % 8:=zbc x 3 (by decide) 7 (by decide)
theorem m15 (x:Int):bits .and .i64 x 15 = x % 16:=zbc x 4 (by decide) 15 (by decide)
theorem m31 (x:Int):bits .and .i64 x 31 = x % 32:=zbc x 5 (by decide) 31 (by decide)
theorem m63 (x:Int):bits .and .i64 x 63 = x % 64:=zbc x 6 (by decide) 63 (by decide)
theorem m127 (x:Int):bits .and .i64 x 127 = x % 128:=zbc x 7 (by decide) 127 (by decide)
theorem m255 (x:Int):bits .and .i64 x 255 = x % 256:=zbc x 8 (by decide) 255 (by decide)
attribute [go_sem] m1 m7 m15 m31 m63 m127 m255
end Go.Proofs.YtanjncmokckjiaaGreatDoor
/- Whether a text is right: the contracts of PutSign, GetSign, Signs and TextOk of the reference. -/
namespace Go.Proofs.YtanjncmokckjiaaGreatDoor
open Go.RowKit Go.Lib
set_option maxRecDepth 10000 in
theorem zeT (b:UInt8) (w:World) :
  Calls Tryz.prog 89 #[.int .i64 (b.toNat:Nat)] w fun e w' => e = .returned (.tuple #[.int .i64 ((many b.toNat).1:Nat),.int .i64 ((many b.toNat).2:Nat)]) /\ w = w':=by
 have hb:=b.toNat_lt;generalize b.toNat = n at *;have h0:(0:Int) <= n:=by omega
 rcases zb7 n with ⟨h,e⟩ | ⟨h1,h2,e⟩ | ⟨h1,h2,e⟩ | ⟨h1,h2,e⟩ | ⟨h,e⟩
 ·have H:=Lib.hid e; clear e
  have n1:((n:Int) < 128):=by omega
  go_enter Tryz.func89,Tryz.ntmps89
  go_wp2
  go_ret2
  rw [H.out]; exact ⟨rfl,rfl⟩
 ·have H:=Lib.hid e; clear e
  have r1:inR n 192 223 = true:=zat (by omega);have n1:¬ ((n:Int) < 128):=by omega
  clear h1 h2
  go_enter Tryz.func89,Tryz.ntmps89
  go_wp2_with (go_at_call 72; refine (zau _ _ _ _).mono ?_; rintro e w' ⟨rfl,rfl⟩)
  go_ret2
  rw [H.out]; exact ⟨rfl,rfl⟩
 ·have H:=Lib.hid e; clear e
  have r1:inR n 192 223 = false:=zaM (by omega);have r2:inR n 224 239 = true:=zat (by omega);have n1:¬ ((n:Int) < 128):=by omega
  clear h1 h2
  go_enter Tryz.func89,Tryz.ntmps89
  go_wp2_with (go_at_call 72; refine (zau _ _ _ _).mono ?_; rintro e w' ⟨rfl,rfl⟩)
  go_ret2
  rw [H.out]; exact ⟨rfl,rfl⟩
 ·have H:=Lib.hid e; clear e
  have r1:inR n 192 223 = false:=zaM (by omega);have r2:inR n 224 239 = false:=zaM (by omega);have r3:inR n 240 247 = true:=zat (by omega);have n1:¬ ((n:Int) < 128):=by omega
  clear h1 h2
  go_enter Tryz.func89,Tryz.ntmps89
  go_wp2_with (go_at_call 72; refine (zau _ _ _ _).mono ?_; rintro e w' ⟨rfl,rfl⟩)
  go_ret2
  rw [H.out]; exact ⟨rfl,rfl⟩
 ·have H:=Lib.hid e; clear e
  have r1:inR n 192 223 = false:=zaM (by omega);have r2:inR n 224 239 = false:=zaM (by omega);have r3:inR n 240 247 = false:=zaM (by omega);have n1:¬ ((n:Int) < 128):=by omega
  clear h
  go_enter Tryz.func89,Tryz.ntmps89
  go_wp2_with (go_at_call 72; refine (zau _ _ _ _).mono ?_; rintro e w' ⟨rfl,rfl⟩)
  go_ret2
  rw [H.out]; exact ⟨rfl,rfl⟩
def putSign (n:Int):List UInt8:=if n < 0 then [] else utf n.toNat
theorem zcR (n:Nat):putSign n = utf n:=by unfold putSign; rw [if_neg (by omega)]; simp
theorem zeU {n:Int} (h:¬ (0 <= n /\ n <= 1114111)):putSign n = []:=by
 unfold putSign; by_cases h0:n < 0
 ·rw [if_pos h0]
 ·rw [if_neg h0]; unfold utf; rw [if_pos (by omega)]
theorem zeV {n:Int} (h:55296 <= n /\ n <= 57343):putSign n = []:=by
 unfold putSign; rw [if_neg (by omega)]; unfold utf; rw [if_pos (by omega)]
set_option maxHeartbeats 400000 in
set_option maxRecDepth 10000 in
theorem zed (n:Int) (w:World) (hn:i64ok n) :
  Calls Tryz.prog 90 #[.int .i64 n] w fun e w' => e = .returned (.string ⟨(putSign n).toArray⟩) /\ Below w.heap.size w w':=by
 obtain ⟨hn1,hn2⟩:=hn;by_cases hr:0 <= n /\ n <= 1114111
 ·have r1:inR n 0 1114111 = true:=zat hr
  by_cases hs:55296 <= n /\ n <= 57343
  ·have r2:inR n 55296 57343 = true:=zat hs
   have H:=Lib.hid (zeV hs);clear hr hs
   go_enter Tryz.func90,Tryz.ntmps90
   go_wp2_with (go_at_call 72; refine (zau _ _ _ _).mono ?_; rintro e w' ⟨rfl,rfl⟩)
   go_ret;exact ⟨zbE H.out.symm,Below.refl _ _⟩
  ·have r2:inR n 55296 57343 = false:=zaM hs
   obtain ⟨hr1,hr2⟩:=hr;have hcv1:=fun b c w => conv1 (P:=Tryz.prog) Tryz.underlying22 Tryz.underlying5 Tryz.underlying9 b c w
   have hcv2:=fun b c w => conv2 (P:=Tryz.prog) Tryz.underlying22 Tryz.underlying5 Tryz.underlying9 b c w
   have hcv3:=fun b c w => conv3 (P:=Tryz.prog) Tryz.underlying22 Tryz.underlying5 Tryz.underlying9 b c w
   have hcv4:=fun b c w => conv4 (P:=Tryz.prog) Tryz.underlying22 Tryz.underlying5 Tryz.underlying9 b c w
   by_cases c1:n < 128
   ·have H:Hid (putSign n = [byteOf n.toNat]):=by
     show _ = _; unfold putSign; rw [if_neg (by omega)]; unfold utf; rw [if_neg (by omega),if_pos (by omega)]
    clear hs
    go_enter Tryz.func90,Tryz.ntmps90
    go_wp2_with (go_at_call 72; refine (zau _ _ _ _).mono ?_; rintro e w' ⟨rfl,rfl⟩)
    go_ret;exact ⟨zbE H.out.symm,(Below.refl _ _).alloc (Nat.le_refl _) _⟩
   ·by_cases c2:n < 2048
    ·have H:Hid (putSign n =  [byteOf (192 + n.toNat / 64),byteOf (128 + n.toNat % 64)]):=by
      show _ = _; unfold putSign; rw [if_neg (by omega)]; unfold utf; rw [if_neg (by omega),if_neg (by omega),if_pos (by omega)]
     clear hs
     go_enter Tryz.func90,Tryz.ntmps90
     go_wp2_with (go_at_call 72; refine (zau _ _ _ _).mono ?_; rintro e w' ⟨rfl,rfl⟩)
     go_ret;refine ⟨zbE ?_,(Below.refl _ _).alloc (Nat.le_refl _) _⟩;rw [H.out]; try rfl
     simp only [List.cons.injEq,and_true];exact ⟨congrArg byteOf (by omega),congrArg byteOf (by omega)⟩
    ·by_cases c3:n < 65536
     ·have H:Hid (putSign n = [byteOf (224 + n.toNat / 4096),byteOf (128 + n.toNat / 64 % 64),byteOf (128 + n.toNat % 64)]):=by
       show _ = _; unfold putSign; rw [if_neg (by omega)]; unfold utf; rw [if_neg (by omega),if_neg (by omega),if_neg (by omega),if_pos (by omega)]
      clear hs
      go_enter Tryz.func90,Tryz.ntmps90
      go_wp2_with (go_at_call 72; refine (zau _ _ _ _).mono ?_; rintro e w' ⟨rfl,rfl⟩)
      go_ret;refine ⟨zbE ?_,(Below.refl _ _).alloc (Nat.le_refl _) _⟩;rw [H.out]; try rfl
      simp only [List.cons.injEq,and_true];exact ⟨congrArg byteOf (by omega),congrArg byteOf (by omega),congrArg byteOf (by omega)⟩
     ·have H:Hid (putSign n = [byteOf (240 + n.toNat / 262144),byteOf (128 + n.toNat / 4096 % 64),byteOf (128 + n.toNat / 64 % 64),byteOf (128 + n.toNat % 64)]):=by
       show _ = _; unfold putSign; rw [if_neg (by omega)]; unfold utf; rw [if_neg (by omega),if_neg (by omega),if_neg (by omega),if_neg (by omega)]
      clear hs
      go_enter Tryz.func90,Tryz.ntmps90
      go_wp2_with (go_at_call 72; refine (zau _ _ _ _).mono ?_; rintro e w' ⟨rfl,rfl⟩)
      go_ret;refine ⟨zbE ?_,(Below.refl _ _).alloc (Nat.le_refl _) _⟩;rw [H.out]; try rfl
      simp only [List.cons.injEq,and_true];exact ⟨congrArg byteOf (by omega),congrArg byteOf (by omega),congrArg byteOf (by omega),congrArg byteOf (by omega)⟩
 ·have r1:inR n 0 1114111 = false:=zaM hr
  have H:=Lib.hid (zeU hr);clear hr
  go_enter Tryz.func90,Tryz.ntmps90
  go_wp2_with (go_at_call 72; refine (zau _ _ _ _).mono ?_; rintro e w' ⟨rfl,rfl⟩)
  go_ret;exact ⟨zbE H.out.symm,Below.refl _ _⟩
set_option maxHeartbeats 1000000 in
set_option maxRecDepth 10000 in
theorem zee (l:List UInt8) (i:Int) (w:World) (hi:i64ok i) (hl:l.length <= 4611686018427387904) :
  Calls Tryz.prog 69 #[.string ⟨l.toArray⟩,.int .i64 i] w fun e w' => e = .returned (.tuple #[.int .i64 (signAt l i).1,.int .i64 (signAt l i).2]) /\ Below w.heap.size w w':=by
 obtain ⟨hi1,hi2⟩:=hi;by_cases hr:0 <= i /\ i < l.length
 ·obtain ⟨k,rfl⟩:∃ k:Nat,i = k:=⟨i.toNat,by omega⟩
  have hk:k < l.length:=by omega
  have hk1:(0:Int) <= k:=by omega
  have hk2:(k:Int) < l.length:=by omega
  have hS:=sgn_many l[k] (l.drop (k + 1));rw [<- List.drop_eq_getElem_cons hk] at hS;have hbd:=many_bd l[k].toNat l[k].toNat_lt;obtain ⟨hbd1,hbd2⟩:=hbd;have HC:=Lib.hid (zeT l[k]);obtain ⟨m,hm⟩:∃ m,(many l[k].toNat).1 = m:=⟨_,rfl⟩;obtain ⟨v0,hv⟩:∃ v,(many l[k].toNat).2 = v:=⟨_,rfl⟩;rw [hm] at hbd1 hS;rw [hv] at hbd2 hS
  have HC:Hid (∀ w,Calls Tryz.prog 89 #[.int .i64 (l[k].toNat:Nat)] w fun e w' => e = .returned (.tuple #[.int .i64 (m:Nat),.int .i64 (v0:Nat)]) /\ w = w'):=by
   intro w; rw [<- hm,<- hv]; exact HC.out w
  clear hm hv hr;by_cases hA:m = 0 \/ (l.drop (k + 1)).length + 1 < m
  ·rw [if_pos (.inl hA)] at hS
   have H:=Lib.hid (zbJ hS);clear hS;rw [List.length_drop] at hA;by_cases hA0:m = 0
   ·subst hA0
    go_enter Tryz.func69,Tryz.ntmps69
    go_wp2_with (go_at_call 89; refine (HC.out _).mono ?_; rintro e w1 ⟨rfl,rfl⟩)
    go_ret2
    rw [H.out]; exact ⟨rfl,Below.refl _ _⟩
   ·have hA1:(l.length:Int) - k < m:=by omega
    have hA2:((m:Int) == 0) = false:=by simpa using hA0
    clear hA hA0
    go_enter Tryz.func69,Tryz.ntmps69
    go_wp2_with (go_at_call 89; refine (HC.out _).mono ?_; rintro e w1 ⟨rfl,rfl⟩)
    go_ret2
    rw [H.out]; exact ⟨rfl,Below.refl _ _⟩
  ·have hA0:1 <= m:=by omega
   have hA1:k + m <= l.length:=by rw [List.length_drop] at hA; omega
   have hA2:((m:Int) == 0) = false:=by simp; omega
   have hA3:¬ (l.length:Int) - k < m:=by omega
   have hle:((l.drop (k + 1)).length:Nat) = l.length - (k + 1):=List.length_drop;have HS:=Lib.hid hS;have HA:=Lib.hid hA;have HL:=Lib.hid hle;clear hA hS hle
   go_enter Tryz.func69,Tryz.ntmps69
   go_wp2_with (go_at_call 89; refine (HC.out _).mono ?_; rintro e w1 ⟨rfl,rfl⟩)
   go_loop [7,8] (fun x i => ∃ (j:Nat),j + 1 <= m /\ i = .int .i64 ((j + 1:Nat):Int) /\ x = .int .i64 (sgnV v0 ((l.drop (k + 1)).take j))) (fun _ i => 5 - (RowKit.intOf i).toNat)
   case atStart => exact ⟨0,by omega,rfl,by simp [sgnV]⟩
   case round =>
    obtain ⟨j,hj,rfl,rfl⟩:=hrel;by_cases hlt:j + 1 < m
    ·have hjl:j < (l.drop (k + 1)).length:=by have:=HL.out; omega
     have HN:=Lib.hid (sgnV_snoc v0 (l.drop (k + 1)) j hjl);have hb:=sgnV_bd v0 (l.drop (k + 1)) j hbd2 (by omega);have hget:(l.drop (k + 1))[j] = l[k + (j + 1)]'(by have:=HL.out; omega):=by rw [List.getElem_drop]; congr 1; omega
     rw [hget] at HN;have hk4:k + (j + 1) < l.length:=by omega
     have e1:((k:Int) + (j + 1:Nat)).toNat = k + (j + 1):=by omega
     obtain ⟨x,hx⟩:∃ x,sgnV v0 ((l.drop (k + 1)).take j) = x:=⟨_,rfl⟩;rw [hx] at HN hb ⊢;have HX:=Lib.hid hx; clear hx
     go_wp2
     go_round
     case rel =>
      refine ⟨j + 1,by omega,by go_num,?_⟩;rw [HN.out]; go_num
     case measure => simp [RowKit.intOf] <;> omega
    ·obtain rfl:m = j + 1:=by omega
     have hb:=sgnV_bd v0 (l.drop (k + 1)) j hbd2 (by omega);have HS2:=HS.out;have hpre:¬ ((j + 1 = 0) \/ (l.drop (k + 1)).length + 1 < j + 1):=HA.out;simp only [hpre,false_or,Nat.add_sub_cancel] at HS2;have HS2:=Lib.hid HS2;clear hpre;go_wp2;obtain ⟨x,hx⟩:∃ x,sgnV v0 ((l.drop (k + 1)).take j) = x:=⟨_,rfl⟩;rw [hx] at hb HS2;have HX:=Lib.hid hx;simp only [hx];clear hx HS;have hB:=Below.refl w.heap.size w;have z1:IntKind.i64.wrap ((k:Int) + (↑j + 1)) = (k:Int) + (↑j + 1):=IntWalk.i64_in _ (by omega);have z2:(0:Int) <= (k:Int) + (↑j + 1):=by omega
     have z3:(k:Int) <= (k:Int) + (↑j + 1):=by omega
     have z4:(k:Int) + (↑j + 1) <= l.length:=by omega
     have z5:((k:Int) + (↑j + 1)).toNat = k + (j + 1):=by omega
     have hxo:i64ok x:=⟨by omega,by omega⟩
     go_region_held3 (fun W => Below w.heap.size w W) (first | exact hB | exact hB.drew)
      (first | (go_at_call 90; refine (zed x _ hxo).mono ?_; rintro e w2 ⟨rfl,hb2⟩; replace hB:=zac (by first | exact hB | exact hB.drew) hb2 (Nat.le_refl _)))
     go_wp2
     ·have he:(!putSign ↑x == List.take (j + 1) (List.drop k l)) = true:=by assumption
      rw [zcR] at he;have h2:=HS2.out;rw [if_pos (by simpa using he)] at h2
      go_ret2
      rw [zbJ h2]; exact ⟨rfl,hB⟩
     ·have he:(!putSign ↑x == List.take (j + 1) (List.drop k l)) = false:=by assumption
      rw [zcR] at he;have h2:=HS2.out;rw [if_neg (by simpa using he)] at h2
      go_ret2
      rw [zcQ hk h2]; exact ⟨by simp,hB⟩
 ·have H:=Lib.hid (signAt_far hr)
  by_cases h0:i < 0
  ·clear hr
   go_enter Tryz.func69,Tryz.ntmps69
   go_wp2
   go_ret2
   rw [H.out]; exact ⟨rfl,Below.refl _ _⟩
  ·have h1:¬ i < l.length:=by omega
   clear hr
   go_enter Tryz.func69,Tryz.ntmps69
   go_wp2
   go_ret2
   rw [H.out]; exact ⟨rfl,Below.refl _ _⟩
end Go.Proofs.YtanjncmokckjiaaGreatDoor
namespace Go.Proofs.YtanjncmokckjiaaGreatDoor
open Go.RowKit
set_option maxHeartbeats 4000000
set_option maxRecDepth 100000
open List
section
open Go.RowKit Go.Lib
theorem tyI:ElemTy Tryz.prog 75 3 1 8:=ElemTy.mk' Tryz.underlying75 (z:=.int .i64 0) (by kernel_rfl) rfl (by decide)
theorem signAt_bd {l:L8} {k:Nat} (_:k <= l.length):-1 <= (signAt l k).1 /\ (signAt l k).1 <= 1114111 /\ -1 <= (signAt l k).2 /\ (signAt l k).2 <= l.length:=by
 unfold signAt; split
 ·rename_i h
  rw [Int.toNat_natCast]
  cases hs:sgn (l.drop k) with
  | none => simp; try omega
  | some r =>
   obtain ⟨n,m⟩:=r
   have:=sgn_bd hs
   simp [length_drop] at this ⊢; omega
 ·simp; try omega
theorem zeW {l:L8} {k:Nat} (hk:k < l.length):((signAt l k).2 < 0 /\ validD (l.drop k) = false) \/ (∃ m:Nat,(signAt l k).2 = (k + m:Nat) /\ 1 <= m /\ k + m <= l.length /\ validD (l.drop k) = validD (l.drop (k + m))):=by
 have hne:l.drop k ≠ []:=by simp; omega
 have hv:=validD_sgn (l.drop k) hne
 cases hs:sgn (l.drop k) with
 | none => rw [hs] at hv; left; rw [zbJ hs]; exact ⟨by simp,hv⟩
 | some r =>
  obtain ⟨n,m⟩:=r
  have:=sgn_bd hs
  rw [hs] at hv; right; rw [zcQ hk hs]; simp [length_drop,drop_drop] at this hv ⊢
  exact ⟨m,rfl,by omega,by omega,hv⟩
theorem signs_spec (l:L8) (w:World) (hl:l.length <= 4294967295) :
  Calls Tryz.prog 48 #[.string ⟨l.toArray⟩] w fun e w' => (∃ a n c,e = .returned (.slice a n c) /\ n <= 4294967295 /\ (l ≠ [] -> (decide (0 < n)) = validD l)) /\ Below w.heap.size w w':=by
 obtain ⟨ok,hok⟩:∃ ok,validD l = ok:=⟨_,rfl⟩;rw [hok]
 go_enter Tryz.func48,Tryz.ntmps48
 go_wp2
 go_loopw [3,4] (fun v i wr => ∃ (k:Nat) (xs:List Value),k <= l.length /\ i = .int .i64 k /\ OwnR wr w.heap.size 3 v xs /\ xs.length <= k /\ (0 < k -> 0 < xs.length) /\ validD (l.drop k) = ok /\ Below w.heap.size w wr) (fun _ i _ => l.length - (RowKit.intOf i).toNat)
 case atStart => exact ⟨0,[],Nat.zero_le _,rfl,OwnR.start,by simp,by simp,by simpa using hok,(Below.refl _ _).alloc lR _⟩
 case round =>
  obtain ⟨k,xs,hk,rfl,hown,hx1,hx2,hv,hbel⟩:=hrel;have HV:=Lib.hid hv; clear hv hok
  have hsz:=hbel.size;obtain ⟨a,c,rfl⟩:=hown.any;by_cases hlt:k < l.length
  ·have hki:i64ok k:=⟨by omega,by omega⟩
   have HB:=signAt_bd (l:=l) (k:=k) hk;have HS:=Lib.hid (zeW hlt);obtain ⟨p,hp⟩:∃ p,signAt l k = p:=⟨_,rfl⟩
   have HC:Hid (∀ w,Calls Tryz.prog 69 #[.string ⟨l.toArray⟩,.int .i64 k] w fun e w' => e = .returned (.tuple #[.int .i64 p.1,.int .i64 p.2]) /\ Below w.heap.size w w'):=by
    intro w; rw [<- hp]; exact zee l k w hki (by omega)
   rw [hp] at HB HS;clear hp;obtain ⟨p1,p2⟩:=p;simp only at HB HS HC;obtain ⟨HB1,HB2,HB3,HB4⟩:=HB;by_cases hneg:p2 < 0
   ·have hf:ok = false:=by
     rcases HS.out with ⟨_,h2⟩ | ⟨m,h1,_⟩
     ·rw [<- HV.out,h2]
     ·omega
    have HF:=Lib.hid hf;clear hf
    go_wp2_with (go_at_call 69; refine (HC.out _).mono ?_; rintro e w1 ⟨rfl,hb1⟩)
    go_ret;exact ⟨⟨_,_,_,rfl,by simp,fun _ => by rw [HF.out]; rfl⟩,(zac hbel hb1 lR).alloc (Nat.le_trans hsz hb1.size) _⟩
   ·obtain ⟨m,hm1,hm2,hm3,hm4⟩:∃ m:Nat,p2 = (k + m:Nat) /\ 1 <= m /\ k + m <= l.length /\ validD (l.drop k) = validD (l.drop (k + m)):=by
     rcases HS.out with ⟨h1,_⟩ | h
     ·omega
     ·exact h
    subst hm1;have HM:=Lib.hid hm4;clear hm4
    go_wp2_with (first | (go_at_call 69; refine (HC.out _).mono ?_; rintro e w1 ⟨rfl,hb1⟩) | (at_builtin; refine wp_appR (ys:=[.int .i64 p1]) tyI rfl rfl w.heap.size ((hown.below hb1).alloc _) rfl ⟨w1.heap.size,0,none⟩ 1 rfl (cell_one_new _ _ _) (by simp [Value.oneCell']) (by simp; omega) (by decide) (by have:=hb1.size; simp; omega) ?_))
    intro v' w2 hown1 hgr _;have hbel1:=OwnR.grown ((hown.below hb1).alloc _) ((zac hbel hb1 lR).alloc (Nat.le_trans hsz hb1.size) _) hgr (by have:=hb1.size; simp; omega);clear hown hbel;go_wp2;go_roundw
    case rel => exact ⟨k + m,_,hm3,by go_num,hown1,by simp; omega,by simp,by rw [<- HM.out]; exact HV.out,hbel1⟩
    case measure => simp [RowKit.intOf]; omega
  ·obtain rfl:k = l.length:=by omega
   have h1:=HV.out;rw [drop_length] at h1;have HF:=Lib.hid h1;clear h1;go_wp2;go_ret;exact ⟨⟨_,_,_,rfl,by omega,fun hne => by rw [<- HF.out,decide_eq_true (hx2 (length_pos_iff.2 hne))]; rfl⟩,hbel⟩
theorem zbK (l:L8) (w:World) (hl:l.length <= 4294967295) :
  Calls Tryz.prog 30 #[.string ⟨l.toArray⟩] w fun e w' => e = .returned (.bool (validD l)) /\ Below w.heap.size w w':=by
 by_cases h:l = []
 ·subst h
  go_enter Tryz.func30,Tryz.ntmps30
  go_wp2;go_ret;exact ⟨rfl,Below.refl _ _⟩
 ·have HC:=Lib.hid (signs_spec l w hl)
  have h1:l.isEmpty = false:=by simpa using h
  have HN:=Lib.hid h;clear h
  go_enter Tryz.func30,Tryz.ntmps30
  go_wp2_with (go_at_call 48; refine HC.out.mono ?_; rintro e w1 ⟨⟨a,n,c,rfl,hn,hv⟩,hb1⟩; have HV:=Lib.hid (hv HN.out); clear hv)
  go_ret;exact ⟨by rw [<- HV.out]; rfl,hb1⟩
end
section
open Go.Lib (validD)
def Tabs (w:World):Prop:=Lib.Utf8Tabs 0 1 w
theorem Tabs.below {w w':World} (h:Tabs w) (hb:Below w.heap.size w w'):Tabs w':=Utf8Tabs_below h hb
theorem Tabs.lt {w:World} (h:Tabs w):0 < w.heap.size /\ 1 < w.heap.size:=by
 have key:∀ {b o:Nat} {v:Value},w.cell? ⟨b,o,none⟩ = some v -> b < w.heap.size:=by
  intro b o v h; apply Classical.byContradiction; intro hn
  simp [World.cell?,Array.getElem?_eq_none (Nat.le_of_not_lt hn)] at h
 exact ⟨key (h.1 0 (by decide)),key (h.2 0 (by decide)).1⟩
theorem Tabs.below' {B:Nat} {w w':World} (h:Tabs w) (hb:Below B w w') (h1:0 < B) (h2:1 < B):Tabs w':=by
 refine ⟨fun c hc => ?_,fun i hi => ?_⟩
 ·rw [hb.cell (p:=⟨_,_,none⟩) h1]; exact h.1 c hc
 ·rw [hb.cell (p:=⟨_,_,none⟩) h2,hb.cell (p:=⟨_,_,none⟩) h2]; exact h.2 i hi
theorem zbL (l:L8) (w:World) (hl:l.length <= 4294967295) (hT:Tabs w) :
  Calls Tryz.prog 39 #[.string ⟨l.toArray⟩] w fun e w' => e = .returned (.bool (validD l)) /\ Below w.heap.size w w':=by
 have HC:=Lib.hid (Tryz.utf8_ValidString ⟨l.toArray⟩ w (by simp [ByteArray.size]; omega) hT)
 go_enter Tryz.func39,Tryz.ntmps39
 go_wp2_with (go_at_call 53; refine HC.out.mono ?_; rintro e w1 ⟨rfl,hb1⟩)
 go_ret;exact ⟨rfl,hb1⟩
end
section
def MaxCell (m:Int) (w:World):Prop:=w.cell? ⟨2,0,none⟩ = some (.int .i64 m)
theorem MaxCell.lt {m:Int} {w:World} (h:MaxCell m w):2 < w.heap.size:=zba h
theorem MaxCell.below {m:Int} {w w':World} (h:MaxCell m w) (hb:Below w.heap.size w w'):MaxCell m w':=by unfold MaxCell; rw [(zaI hb).1 _ _ h.lt]; exact h
end
section
open Go.Lib (validD)
theorem step1_any (s:L8) (w:World) (hl:s.length <= 4294967295) (hT:Tabs w) :
  Calls Tryz.prog 38 #[.string ⟨s.toArray⟩] w fun e w' => e = .returned (.bool (!stepOk s)) /\ Below w.heap.size w w':=by
 have HC:=Lib.hid (zbL s w hl hT);by_cases h20:s.length <= 2000
 ·have i4:¬ (2000:Int) < s.length:=by omega
  have HS:=Lib.hid (show stepOk s = validD s by unfold stepOk; rw [decide_eq_true h20,Bool.and_true]);obtain ⟨r,hr⟩:∃ r,validD s = r:=⟨_,rfl⟩;rw [HS.out];rw [hr] at HC ⊢;clear hr hT
  go_enter Tryz.func38,Tryz.ntmps38
  go_wp2_with (go_at_call 39; refine HC.out.mono ?_; rintro e1 w1 ⟨rfl,hb1⟩)
  go_ret;exact ⟨rfl,hb1⟩
 ·have i4:(2000:Int) < s.length:=by omega
  have HS:=Lib.hid (show stepOk s = false by unfold stepOk; rw [decide_eq_false h20,Bool.and_false]);rw [HS.out];clear hT HC
  go_enter Tryz.func38,Tryz.ntmps38
  go_wp2;go_ret;exact ⟨rfl,Below.refl _ _⟩
theorem stepIx_any (st:List (L8)) (va:Value) (w:World) (h:StrRow w va st) (hl:st.length <= 4294967295) (hs:∀ s ∈ st,s.length <= 4294967295) (hT:Tabs w) :
  Calls Tryz.prog 52 #[va,.func (.func 38) #[] #[]] w fun e w' => (∃ r:Int,e = .returned (.int .i64 r) /\ decide (0 <= r) = !st.all stepOk) /\ Below w.heap.size w w':=by
 obtain ⟨a,c,rfl,hg⟩:=h;obtain ⟨ok,hok⟩:∃ ok,st.all stepOk = ok:=⟨_,rfl⟩;rw [hok];have HOK:=Lib.hid hok; clear hok
 have HH:=fun s (h1:s.length <= 4294967295) W (hW:Below w.heap.size w W) => Lib.hid (step1_any s W h1 (hT.below hW))
 have HG:=Lib.hid hg; clear hg hT
 go_enter Tryz.func52,Tryz.ntmps52
 go_wp2
 go_loopw [8] (fun i wr => ∃ (k:Nat),k <= st.length /\ i = .int .i64 k /\ (st.take k).all stepOk = true /\ Below w.heap.size w wr) (fun i _ => st.length - (intOf i).toNat)
 case atStart => exact ⟨0,Nat.zero_le _,rfl,rfl,Below.refl _ _⟩
 case round =>
  obtain ⟨k,hk,rfl,hgd,hbel⟩:=hrel;have HGD:=Lib.hid hgd; clear hgd
  by_cases hlt:k < st.length
  ·obtain ⟨b,o,rfl,hcell⟩:=HG.out (by intro e; rw [e] at hlt; simp at hlt)
   have hd:=hcell k hlt;have hbb:=zba hd;rw [<- (zaI hbel).1 _ _ hbb] at hd;have hi1:(0:Int) <= k:=by omega
   have hi3:(k:Int) < st.length:=by omega
   have HSN:=Lib.hid (show (st.take (k + 1)).all stepOk = stepOk st[k] by rw [take_succ_eq_append_getElem hlt,all_append,HGD.out]; simp)
   have HNO:=Lib.hid (fun (h:stepOk st[k] = false) => show ok = false by
    rw [<- HOK.out,all_eq_false]; exact ⟨st[k],getElem_mem hlt,by rw [h]; decide⟩)
   have HC:=HH st[k] (hs _ (getElem_mem hlt)) _ hbel;obtain ⟨ob,hob⟩:∃ ob,stepOk st[k] = ob:=⟨_,rfl⟩;rw [hob] at HC HSN HNO;clear hcell hob
   cases ob with
   | true =>
    go_wp2_with (go_at_call 38; refine HC.out.mono ?_; rintro e1 w1 ⟨rfl,hb1⟩)
    go_roundw
    case rel => exact ⟨k + 1,by omega,by go_num,HSN.out,zac hbel hb1 lR⟩
    case measure => simp [intOf]; omega
   | false =>
    go_wp2_with (go_at_call 38; refine HC.out.mono ?_; rintro e1 w1 ⟨rfl,hb1⟩)
    go_ret;exact ⟨⟨_,rfl,by rw [show ok = false by first | exact HNO.out rfl | exact HNO.out trivial]; simp⟩,zac hbel hb1 lR⟩
  ·obtain rfl:k = st.length:=by omega
   have h1:=HGD.out;rw [take_length] at h1;have HF:=Lib.hid (show ok = true by rw [<- HOK.out]; exact h1);clear h1;go_wp2;go_ret;exact ⟨⟨_,rfl,by rw [HF.out]; rfl⟩,hbel⟩
theorem stepF_any (st:List (L8)) (va:Value) (w:World) (h:StrRow w va st) (hl:st.length <= 4294967295) (hs:∀ s ∈ st,s.length <= 4294967295) (hT:Tabs w) :
  Calls Tryz.prog 37 #[va,.func (.func 38) #[] #[]] w fun e w' => e = .returned (.bool (!st.all stepOk)) /\ Below w.heap.size w w':=by
 have HC:=Lib.hid (stepIx_any st va w h hl hs hT);obtain ⟨ok,hok⟩:∃ ok,st.all stepOk = ok:=⟨_,rfl⟩;rw [hok] at HC ⊢;clear h hok hT
 go_enter Tryz.func37,Tryz.ntmps37
 go_wp2_with (go_at_call 52; refine HC.out.mono ?_; rintro e1 w1 ⟨⟨r,rfl,hr⟩,hb1⟩; have HR:=Lib.hid hr; clear hr)
 go_ret;exact ⟨by rw [<- HR.out]; rfl,hb1⟩
def stepsOk (st:List (L8)):Bool:=decide (st.length <= 12) && st.all stepOk
theorem zcl (st:List (L8)) (va:Value) (w:World) (h:StrRow w va st) (hl:st.length <= 4294967295) (hs:∀ s ∈ st,s.length <= 4294967295) (hT:Tabs w) :
  Calls Tryz.prog 21 #[va] w fun e w' => e = .returned (.bool (stepsOk st)) /\ Below w.heap.size w w':=by
 have HC:=Lib.hid (stepF_any st va w h hl hs hT);obtain ⟨a,c,rfl,_⟩:=h;by_cases h12:st.length <= 12
 ·have i1:(st.length:Int) <= 12:=by omega
  have HF:=Lib.hid (show stepsOk st = st.all stepOk by unfold stepsOk; rw [decide_eq_true h12,Bool.true_and]);obtain ⟨ok,hok⟩:∃ ok,st.all stepOk = ok:=⟨_,rfl⟩;rw [HF.out];rw [hok] at HC ⊢;clear hok hT
  go_enter Tryz.func21,Tryz.ntmps21
  go_wp2_with (go_at_call 37; refine HC.out.mono ?_; rintro e1 w1 ⟨rfl,hb1⟩)
  go_ret;exact ⟨zal (by simp),hb1⟩
 ·have i1:¬ (st.length:Int) <= 12:=by omega
  have HF:=Lib.hid (show stepsOk st = false by unfold stepsOk; rw [decide_eq_false h12,Bool.false_and]);rw [HF.out];clear hT HC
  go_enter Tryz.func21,Tryz.ntmps21
  go_wp2;go_ret;exact ⟨rfl,Below.refl _ _⟩
theorem IsBuilder.below {T e B b:Nat} {bs:List Value} {w w':World} (h:Lib.IsBuilder T e B b bs w) (hb:Below w.heap.size w w'):Lib.IsBuilder T e B b bs w':=by
 have hone:∀ p,Lib.BuilderAt T e B b p bs w -> Lib.BuilderAt T e B b p bs w':=by
  rintro p ⟨h1,v,h2,h3,h4⟩;refine ⟨h1,v,by rw [hb.block b (zak h2)]; exact h2,?_,h4⟩;refine ⟨h3.1,h3.2.imp id ?_⟩;rintro ⟨g,cap,cur,hv,hg,hh,r⟩;exact ⟨g,cap,cur,hv,hg,by rw [hb.block g (zak hh)]; exact hh,r⟩
 exact h.imp (hone _) (hone _)
theorem zeX {w:World}:Lib.IsBuilder 47 5 w.heap.size w.heap.size (Lib.byteCells []) (w.alloc (.cells #[.pointer none,.slice none 0 0] 47)) :=
 .inl ⟨lR,.slice none 0 0,zap _ _,World.ownsRow_nil _ _ _ _,by simp [Value.ownBlock]⟩
theorem zcm (st:List (L8)) (va:Value) (M:Int) (w:World) (h:StrRow w va st) (hl:st.length <= 4294967295) (hs:∀ s ∈ st,s.length <= 4294967295) (hT:Tabs w) (hM:MaxCell M w) :
  Calls Tryz.prog 6 #[va] w fun e w' => e = .returned (.string ⟨(putPath st).toArray⟩) /\ Below w.heap.size w w':=by
 have HC:=Lib.hid (zcl st va w h hl hs hT);obtain ⟨a,c,rfl,hg⟩:=h;have HG:=Lib.hid hg; clear hg
 cases hso:stepsOk st with
 | false =>
  have HF:=Lib.hid (show putPath st = [] by
   unfold stepsOk at hso; unfold putPath
   rw [if_neg]; rintro ⟨h1,h2⟩; rw [decide_eq_true h1,h2] at hso; cases hso)
  rw [HF.out];rw [hso] at HC;clear hso hT
  go_enter Tryz.func6,Tryz.ntmps6
  go_wp2_with (go_at_call 21; refine HC.out.mono ?_; rintro e1 w1 ⟨rfl,hb1⟩)
  go_ret
  exact ⟨rfl,hb1⟩
 | true =>
  have hok:st.length <= 12 /\ st.all stepOk = true:=by unfold stepsOk at hso; simp only [Bool.and_eq_true,decide_eq_true_eq] at hso; exact hso
  have HF:=Lib.hid (show putPath st = pathL st by unfold putPath; rw [if_pos hok])
  have h20:∀ s ∈ st,s.length <= 2000:=by
   intro s hs1; have:=all_eq_true.1 hok.2 s hs1; unfold stepOk at this; simp only [Bool.and_eq_true,decide_eq_true_eq] at this; exact this.2
  have hl12:=hok.1
  have HALL:=Lib.hid (show ∀ j,(pathL (st.take j)).length <= 48012 by
   intro j;have h1:=za2 (st.take j) (by rw [all_eq_true]; intro s hs1; exact all_eq_true.1 hok.2 s (mem_of_mem_take hs1));rw [length_take] at h1; omega)
  have HM:=Lib.hid (show ∀ W,Below w.heap.size w W -> MaxCell M W from fun W hb => hM.below hb);rw [HF.out];rw [hso] at HC;clear hso hT hok hM
  go_enter Tryz.func6,Tryz.ntmps6
  go_wp2_with (go_at_call 21; refine HC.out.mono ?_; rintro e1 w1 ⟨rfl,hb1⟩)
  have hz1:=hb1.size;obtain ⟨W0,hW0⟩:∃ W0,W0 = w1.alloc (.cells #[.pointer none,.slice none 0 0] 47):=⟨_,rfl⟩;have hA0:Below w.heap.size w W0:=by rw [hW0]; exact hb1.alloc hz1 _
  have hb0:Lib.IsBuilder 47 5 w1.heap.size w1.heap.size (Lib.byteCells []) W0:=by rw [hW0]; exact zeX
  have hzW:w1.heap.size < W0.heap.size:=by rw [hW0]; simp
  rw [<- hW0];obtain ⟨bb,hbb⟩:∃ bb,bb = w1.heap.size:=⟨_,rfl⟩;rw [<- hbb] at hb0 ⊢;have hbw:w.heap.size <= bb:=by omega
  have hbW:bb < W0.heap.size:=by omega
  clear hW0 hb1 hzW hz1 hbb
  go_loopw [11] (fun i wr => ∃ j:Nat,j <= st.length /\ i = .int .i64 j /\ Lib.IsBuilder 47 5 bb bb (Lib.byteCells (pathL (st.take j))) wr /\ Below w.heap.size w wr /\ bb < wr.heap.size) (fun i _ => st.length - (intOf i).toNat)
  case atStart => exact ⟨0,Nat.zero_le _,rfl,by simpa [pathL] using hb0,hA0,hbW⟩
  case round =>
   obtain ⟨j,hj,rfl,hbu,hbel,hbs⟩:=hrel;have HBU:=Lib.hid hbu; clear hbu
   by_cases hlt:j < st.length
   ·have i1:(0:Int) <= j:=by omega
    have i2:(j:Int) < st.length:=by omega
    obtain ⟨b,o,rfl,hcell⟩:=HG.out (by intro e; rw [e] at hlt; simp at hlt);have hd:=hcell j hlt;have hdb:=zba hd;rw [<- (zaI hbel).1 _ _ hdb] at hd;obtain ⟨s,hsj⟩:∃ s,st[j] = s:=⟨_,rfl⟩;have hsl:s.length <= 2000:=by rw [<- hsj]; exact h20 _ (getElem_mem hlt)
    have HPT:=Lib.hid (show pathL (st.take (j + 1)) = pathL (st.take j) ++ (47 :: esc s) by rw [zdl st j hlt,hsj]);rw [hsj] at hd;have hpj:=HALL.out j;obtain ⟨pre,hpre⟩:∃ pre,pathL (st.take j) = pre:=⟨_,rfl⟩;rw [hpre] at HBU HPT hpj;obtain ⟨r1,hr1⟩:∃ r1,Lib.replaceAll s [126] [126,48] = r1:=⟨_,rfl⟩;have hr1l:r1.length <= 4000:=by rw [<- hr1]; have:=zdc s; omega
    obtain ⟨es,hes⟩:∃ es,esc s = es:=⟨_,rfl⟩;have hesl:es.length <= 4000:=by rw [<- hes]; have:=zbt s; omega
    rw [hes] at HPT;have hrr:Lib.replaceAll r1 [47] [126,49] = es:=by rw [<- hr1,esc_repl,hes]
    have hsz:∀ l:L8,(⟨l.toArray⟩:ByteArray).size = l.length:=fun l => by simp [ByteArray.size]
    have HR1:∀ W,Below w.heap.size w W -> Hid (Calls Tryz.prog 23 #[.string ⟨s.toArray⟩,.string ⟨#[126]⟩,.string ⟨#[126,48]⟩] W fun e w' => e = .returned (.string ⟨r1.toArray⟩) /\ Below W.heap.size W w'):=fun W hW => by
     rw [<- hr1]
     exact Lib.hid (Tryz.strings_ReplaceAll ⟨s.toArray⟩ ⟨#[126]⟩ ⟨#[126,48]⟩ M W (by rw [hsz]; omega) (HM.out W hW) (by decide) (by
      have h1:=Lib.countB_le ⟨#[126]⟩ (by decide) _ ⟨s.toArray⟩ lR;have h2:(⟨#[126,48]⟩:ByteArray).size = 2:=rfl;rw [hsz] at h1 ⊢; rw [h2]; omega))
    have HR2:∀ W,Below w.heap.size w W -> Hid (Calls Tryz.prog 23 #[.string ⟨r1.toArray⟩,.string ⟨#[47]⟩,.string ⟨#[126,49]⟩] W fun e w' => e = .returned (.string ⟨es.toArray⟩) /\ Below W.heap.size W w'):=fun W hW => by
     rw [<- hrr]
     exact Lib.hid (Tryz.strings_ReplaceAll ⟨r1.toArray⟩ ⟨#[47]⟩ ⟨#[126,49]⟩ M W (by rw [hsz]; omega) (HM.out W hW) (by decide) (by
      have h1:=Lib.countB_le ⟨#[47]⟩ (by decide) _ ⟨r1.toArray⟩ lR;have h2:(⟨#[126,49]⟩:ByteArray).size = 2:=rfl;rw [hsz] at h1 ⊢; rw [h2]; omega))
    have HWS:=fun W (hW:Below wr.heap.size wr W) => Lib.hid (zcP bb bb pre (47 :: es) W (IsBuilder.below HBU.out hW) (by simp; omega) (by have:=hW.size; omega))
    have L1:¬ 9223372036854775807 < 1 + es.length:=by omega
    have L2:¬ 9223372036854775807 < es.length + 1:=by omega
    clear hcell hsj hpre hr1 hes hrr hsz
    go_wp2_with (first
     | (go_at_call 23; with_reducible refine (HR1 _ hbel).out.mono ?_; rintro e1 w2 ⟨rfl,hb2⟩; have hbel2:=zac hbel hb2 lR)
     | (go_at_call 23; with_reducible refine (HR2 _ hbel2).out.mono ?_; rintro e1 w3 ⟨rfl,hb3⟩; have hbel3:=zac hbel2 hb3 lR; have hrr3:=zac hb2 hb3 lR)
     | (go_at_call 22; refine (HWS _ hrr3).out.mono ?_; rintro e1 w4 ⟨rfl,hbld,hb4⟩))
    have hz4:w3.heap.size <= w4.heap.size:=hb4.size;go_roundw
    case rel => exact ⟨j + 1,by omega,by go_num,by rw [HPT.out]; exact .inr hbld,hbel3.trans (hb4.mono hbw),by have:=hrr3.size; omega⟩
    case measure => simp [intOf]; omega
   ·obtain rfl:j = st.length:=by omega
    have hb5:=HBU.out;rw [take_length] at hb5;have HS:=Lib.hid (Tryz.Builder_String_any bb bb _ wr hb5 (by omega));have i2:¬ ((st.length:Int) < st.length):=by omega
    clear hb5
    go_wp2_with (go_at_call 24; refine HS.out.mono ?_; rintro e1 w2 ⟨rfl,hb2⟩)
    go_ret;exact ⟨rfl,hbel.trans (hb2.mono hbw)⟩
end
section
open Go.Lib (validD)
theorem OwnB.keep {w w':World} {B u8:Nat} {v:Value} {l:L8} (h:OwnB w B u8 v l) (hb:Below w.heap.size w w'):OwnB w' B u8 v l:=by
 refine ⟨h.1,?_⟩
 rcases h.2 with h2 | ⟨g,cap,cur,hv,hg,hh,r⟩
 ·exact .inl h2
 ·exact .inr ⟨g,cap,cur,hv,hg,by rw [hb.block g (zak hh)]; exact hh,r⟩
theorem tyBp:ElemTy Tryz.prog 22 5 1 1:=ElemTy.mk' (z:=.int .u8 0) Tryz.underlying22 (by kernel_rfl) rfl (by decide)
theorem zef (st:List (L8)) (v:Value) (w:World) (h:StrRow w v st) (hl:st.length <= 4294967295) (hs:∀ s ∈ st,s.length <= 4294967295) :
  Calls Tryz.prog 12 #[v] w fun e w' => e = .returned (.string ⟨(putPath st).toArray⟩) /\ Below w.heap.size w w':=by
 obtain ⟨a,c,rfl,hg⟩:=h;obtain ⟨tot,htot⟩:∃ tot,putPath st = tot:=⟨_,rfl⟩;rw [htot];have HTOT:=Lib.hid htot; clear htot
 have HG:=Lib.hid hg; clear hg
 go_enter Tryz.func12,Tryz.ntmps12
 go_wp2
 go_loopw [3,4] (fun v i wr => ∃ j:Nat,j <= st.length /\ i = .int .i64 j /\ OwnB wr w.heap.size 5 v (pathL (st.take j)) /\ v ≠ .slice none 0 0 /\ (st.take j).all stepOk = true /\ (0 < j -> st.length <= 12) /\ Below w.heap.size w wr) (fun _ i _ => st.length - (intOf i).toNat)
 case atStart => exact ⟨0,Nat.zero_le _,rfl,by simpa [pathL] using OwnB.start,by simp,rfl,by simp,(Below.refl _ _).alloc lR _⟩
 case round =>
  obtain ⟨j,hj,rfl,hown,hvn,hall,h12,hbel⟩:=hrel;obtain ⟨g,cp,rfl,hgB⟩:=hown.form' hvn;have hpl:=za2 _ hall;rw [length_take,Nat.min_eq_left hj] at hpl;obtain ⟨pre,hpre⟩:∃ pre,pathL (st.take j) = pre:=⟨_,rfl⟩;rw [hpre] at hown hpl ⊢;have HPRE:=Lib.hid hpre; clear hpre
  have HALL:=Lib.hid hall; clear hall
  have hzz:=hbel.size;by_cases hlt:j < st.length
  ·have i1:(0:Int) <= j:=by omega
   have i2:(j:Int) < st.length:=by omega
   obtain ⟨b,o,rfl,hcell⟩:=HG.out (by intro e; rw [e] at hlt; simp at hlt);have hd:=hcell j hlt;have hbb:=zba hd;have HCELL:=Lib.hid hd;rw [<- (zaI hbel).1 _ _ hbb] at hd;obtain ⟨s,hsj⟩:∃ s,st[j] = s:=⟨_,rfl⟩;have hsl:s.length <= 4294967295:=by rw [<- hsj]; exact hs _ (getElem_mem hlt)
   rw [hsj] at hd;have HSJ:=Lib.hid hsj;clear hcell hsj;by_cases hlen:st.length <= 12
   ·have i3:¬ (12:Int) < st.length:=by omega
    have HC:=Lib.hid (zbK s wr hsl)
    cases hv:validD s with
    | false =>
     have HF:=Lib.hid (show tot = [] by rw [<- HTOT.out]; exact zdm hlt (by rw [HSJ.out]; unfold stepOk; rw [hv]; rfl));rw [hv] at HC;clear hv
     go_wp2_with (go_at_call 30; refine HC.out.mono ?_; rintro e1 w1 ⟨rfl,hb1⟩)
     go_ret
     exact ⟨by rw [HF.out]; rfl,zac hbel hb1 lR⟩
    | true =>
     rw [hv] at HC;by_cases h20:s.length <= 2000
     ·have i4:¬ (2000:Int) < s.length:=by omega
      have HOK:=Lib.hid (show stepOk s = true by unfold stepOk; rw [hv,decide_eq_true h20]; rfl);have hjl:j <= 12:=by omega
      clear hv
      go_wp2_with (first | (go_at_call 30; refine HC.out.mono ?_; rintro e1 w1 ⟨rfl,hb1⟩; have hd1:=hd; rw [<- (zaI hb1).1 _ _ (Nat.lt_of_lt_of_le hbb hzz)] at hd1; have hown1:=hown.keep hb1; have hz1:=hb1.size) | (at_builtin; refine zdz (r:=[47]) tyBp rfl rfl w.heap.size (hown1.alloc _) rfl ⟨w1.heap.size,0,none⟩ 1 rfl (zbf (w:=w1) (news:=[.int .u8 47])) (by simp; omega) (by simp; omega) ?_))
      intro v' w2 hown2 hgr hvn2;have hbel2:=OwnB.below (hown1.alloc _) ((zac hbel hb1 lR).alloc (by omega) _) hgr (by simp; omega);have hvn3:v' ≠ .slice none 0 0:=fun e => by have:=hvn2 e; simp at this
      clear hvn2 hgr hown1 hown hd1 hd HC hvn;go_wp2
      go_loopw [3,5] (fun v i wr => ∃ k:Nat,k <= s.length /\ i = .int .i64 k /\ OwnB wr w.heap.size 5 v (pre ++ ([47] ++ esc (s.take k))) /\ v ≠ .slice none 0 0 /\ Below w.heap.size w wr) (fun _ i _ => s.length - (intOf i).toNat)
      case atStart => exact ⟨0,Nat.zero_le _,rfl,by simpa [esc] using hown2,hvn3,hbel2⟩
      case round =>
       obtain ⟨k,hk,rfl,hownk,hvnk,hbelk⟩:=hrel;obtain ⟨gk,ck,rfl,hgk⟩:=hownk.form' hvnk;obtain ⟨es,hes⟩:∃ es,esc (s.take k) = es:=⟨_,rfl⟩;have hel:es.length <= 4000:=by rw [<- hes]; have:=zbt (s.take k); rw [length_take] at this; omega
       rw [hes] at hownk ⊢;have HES:=Lib.hid hes; clear hes
       have hdk:wr.cell? ⟨b,o + j,none⟩ = some (.string ⟨s.toArray⟩):=by
        rw [(zaI hbelk).1 _ _ hbb,<- HSJ.out]; exact HCELL.out
       have hzk:=hbelk.size;have k1:(0:Int) <= k:=by omega
       by_cases hkl:k < s.length
       ·have k2:(k:Int) < s.length:=by omega
        have HS:=Lib.hid (esc_take s k hkl);obtain ⟨bt,hbt⟩:∃ bt,s[k] = bt:=⟨_,rfl⟩;rw [hbt] at HS
        rcases zbU bt with ⟨h1,h2⟩ | ⟨h0,h1,h2⟩ | ⟨h0,h1,h2⟩
        ·subst h1
         have HE:=Lib.hid (show pre ++ ([47] ++ esc (s.take (k + 1))) = pre ++ 47 :: (es ++ [126,48]) by rw [HS.out,HES.out,h2]; simp);clear h2
         go_wp2_with (at_builtin; refine zdz (r:=[126,48]) tyBp rfl rfl w.heap.size (hownk.alloc _) rfl ⟨wr.heap.size,0,none⟩ 2 rfl (zbf (w:=wr) (news:=[.int .u8 126,.int .u8 48])) (by simp; omega) (by simp; omega) ?_)
         intro v4 w4 hown4 hgr4 hvn4;have hbel4:=OwnB.below (hownk.alloc _) (hbelk.alloc (by omega) _) hgr4 (by simp; omega);go_wp2;go_roundw
         case rel => exact ⟨k + 1,by omega,by go_num,by rw [HE.out]; exact hown4,fun e => by have:=hvn4 e; simp at this,hbel4⟩
         case measure => simp [intOf]; omega
        ·subst h1
         have HE:=Lib.hid (show pre ++ ([47] ++ esc (s.take (k + 1))) = pre ++ 47 :: (es ++ [126,49]) by rw [HS.out,HES.out,h2]; simp);clear h2 h0
         go_wp2_with (at_builtin; refine zdz (r:=[126,49]) tyBp rfl rfl w.heap.size (hownk.alloc _) rfl ⟨wr.heap.size,0,none⟩ 2 rfl (zbf (w:=wr) (news:=[.int .u8 126,.int .u8 49])) (by simp; omega) (by simp; omega) ?_)
         intro v4 w4 hown4 hgr4 hvn4;have hbel4:=OwnB.below (hownk.alloc _) (hbelk.alloc (by omega) _) hgr4 (by simp; omega);go_wp2;go_roundw
         case rel => exact ⟨k + 1,by omega,by go_num,by rw [HE.out]; exact hown4,fun e => by have:=hvn4 e; simp at this,hbel4⟩
         case measure => simp [intOf]; omega
        ·have HE:=Lib.hid (show pre ++ ([47] ++ esc (s.take (k + 1))) = pre ++ 47 :: (es ++ [bt]) by rw [HS.out,HES.out,h2]; simp)
         have n1:((bt.toNat:Int) == 126) = false:=by
          have:bt.toNat ≠ 126:=fun e => h0 (UInt8.toNat_inj.1 e)
          simp; omega
         have n2:((bt.toNat:Int) == 47) = false:=by
          have:bt.toNat ≠ 47:=fun e => h1 (UInt8.toNat_inj.1 e)
          simp; omega
         clear h2 h0 h1
         go_wp2_with (at_builtin; refine zdz (r:=[bt]) tyBp rfl rfl w.heap.size (hownk.alloc _) rfl ⟨wr.heap.size,0,none⟩ 1 rfl (zbf (w:=wr) (news:=[.int .u8 (bt.toNat:Nat)])) (by simp; omega) (by simp; omega) ?_)
         intro v4 w4 hown4 hgr4 hvn4;have hbel4:=OwnB.below (hownk.alloc _) (hbelk.alloc (by omega) _) hgr4 (by simp; omega);go_wp2;go_roundw
         case rel => exact ⟨k + 1,by omega,by go_num,by rw [HE.out]; exact hown4,fun e => by have:=hvn4 e; simp at this,hbel4⟩
         case measure => simp [intOf]; omega
       ·obtain rfl:k = s.length:=by omega
        have hE:=HES.out;rw [take_length] at hE;have HP:=Lib.hid (show pathL (st.take (j + 1)) = pre ++ ([47] ++ es) by rw [zdl st j hlt,HPRE.out,HSJ.out,hE]; rfl);have HA:=Lib.hid (show (st.take (j + 1)).all stepOk = true by rw [take_succ_eq_append_getElem hlt,all_append,HALL.out,HSJ.out]; simp [HOK.out]);have k2:¬ ((s.length:Int) < s.length):=by omega
        clear hE;go_wp2;go_roundw
        case rel => exact ⟨j + 1,by omega,by go_num,by rw [HP.out]; exact hownk,by simp,HA.out,fun _ => hlen,hbelk⟩
        case measure => simp [intOf]; omega
     ·have i4:(2000:Int) < s.length:=by omega
      have HF:=Lib.hid (show tot = [] by rw [<- HTOT.out]; exact zdm hlt (by rw [HSJ.out]; unfold stepOk; rw [decide_eq_false h20,Bool.and_false]));clear hv
      go_wp2_with (go_at_call 30; refine HC.out.mono ?_; rintro e1 w1 ⟨rfl,hb1⟩; have hd1:=hd; rw [<- (zaI hb1).1 _ _ (Nat.lt_of_lt_of_le hbb hzz)] at hd1)
      go_ret;exact ⟨by rw [HF.out]; rfl,zac hbel hb1 lR⟩
   ·have i3:(12:Int) < st.length:=by omega
    have HF:=Lib.hid (show tot = [] by rw [<- HTOT.out]; exact zeb hlen);go_wp2;go_ret;exact ⟨by rw [HF.out]; rfl,hbel⟩
  ·obtain rfl:j = st.length:=by omega
   have hp:=HPRE.out;have ha:=HALL.out;rw [take_length] at hp ha
   have HF:=Lib.hid (show tot = pre by
    rw [<- HTOT.out,<- hp]; unfold putPath
    by_cases h0:st.length = 0
    ·have:=length_eq_zero_iff.1 h0; subst this; simp [pathL]
    ·rw [if_pos ⟨h12 (by omega),ha⟩])
   have hcv:=hown.str (P:=Tryz.prog) 22 Tryz.underlying22 Tryz.underlying5;have i2:¬ ((st.length:Int) < st.length):=by omega
   clear hp ha;go_wp2;go_ret;exact ⟨by rw [HF.out]; rfl,hbel⟩
end
section
section
variable {E:Env} {K:St -> Prop} {tm:Nat -> PV} {bx:LP PC} {nt d:Nat} {live:List Nat} {r:List MOpr}
theorem zaN {n p:Nat} {x:X} {g:Option (Nat × Bool)} {c:List X} {cs:List PC} (hg:gd g tm = some true) (hx:ev tm x = .ref p 0) (hb:bx[p]? = some cs) (hn:cs.length = n) (h:po E r K ⟨up d (.ag cs) tm,bx,nt,live⟩):po E (⟨some d,.load true n x,g,c⟩ :: r) K ⟨tm,bx,nt,live⟩:=by
 refine po_q hg ?_ h;simp only [qf,hx,hb,Nat.zero_add,drop_zero,ldv,hn,Nat.le_refl,if_true];rw [<- hn,take_length]
theorem zaC {n p:Nat} {a x:X} {c:List X} {cs z:List PC} (ha:ev tm a = .ref p 0) (hx:ev tm x = .ag cs) (hb:bx[p]? = some z) (hn:cs.length = n) (hz:z.length = n) (hc:c.all (apartX (ev tm) a) = true) (h:po E r K ⟨tm,bx.set p cs,nt,live⟩):po E (⟨none,.store n a x,none,c⟩ :: r) K ⟨tm,bx,nt,live⟩:=by
 have hs:spl z 0 cs = cs:=by
  unfold spl;rw [take_zero,nil_append,Nat.zero_add,hn,<- hz,drop_length,append_nil]
 have hx':pcells (ev tm x) = some cs:=by rw [hx]; rfl
 refine zaL ha hx' hb ⟨hn,by omega⟩ hc ?_;rw [hs]; exact h
end
end
section
section
variable {E:Env} {K:St -> Prop} {tm:Nat -> PV} {bx:LP PC} {nt d:Nat} {live:List Nat} {r:List MOpr} {g:Option (Nat × Bool)} {c:List X} {x y:X} {a b n:Int}
theorem zan (hg:gd g tm = some true) (hx:ev tm x = .d (pI a)) (hy:ev tm y = .d (pI b)) (hn:a + b = n) (h1:-9223372036854775808 <= n /\ n <= 9223372036854775807) (h:po E r K ⟨up d (.d (pI n)) tm,bx,nt,live⟩):po E (⟨some d,.bin .add false x y,g,c⟩ :: r) K ⟨tm,bx,nt,live⟩:=by
 refine po_q hg ?_ h;simp only [qf,hx,hy,pI];show some (PV.d (.v (.int .i64 (IntKind.wrap .i64 (a + b))))) = some (PV.d (.v (.int .i64 n)));have e:IntKind.wrap .i64 (a + b) = n:=by rw [hn,IntKind.wrap_i64]; omega
 rw [e]
theorem zbA (hg:gd g tm = some true) (hx:ev tm x = .d (pI a)) (hy:ev tm y = .d (pI b)) (hn:a - b = n) (h1:-9223372036854775808 <= n /\ n <= 9223372036854775807) (h:po E r K ⟨up d (.d (pI n)) tm,bx,nt,live⟩):po E (⟨some d,.bin .sub false x y,g,c⟩ :: r) K ⟨tm,bx,nt,live⟩:=by
 refine po_q hg ?_ h;simp only [qf,hx,hy,pI];show some (PV.d (.v (.int .i64 (IntKind.wrap .i64 (a - b))))) = some (PV.d (.v (.int .i64 n)));have e:IntKind.wrap .i64 (a - b) = n:=by rw [hn,IntKind.wrap_i64]; omega
 rw [e]
theorem po_mul (hg:gd g tm = some true) (hx:ev tm x = .d (pI a)) (hy:ev tm y = .d (pI b)) (hn:a * b = n) (h1:-9223372036854775808 <= n /\ n <= 9223372036854775807) (h:po E r K ⟨up d (.d (pI n)) tm,bx,nt,live⟩):po E (⟨some d,.bin .mul false x y,g,c⟩ :: r) K ⟨tm,bx,nt,live⟩:=by
 refine po_q hg ?_ h;simp only [qf,hx,hy,pI];show some (PV.d (.v (.int .i64 (IntKind.wrap .i64 (a * b))))) = some (PV.d (.v (.int .i64 n)));have e:IntKind.wrap .i64 (a * b) = n:=by rw [hn,IntKind.wrap_i64]; omega
 rw [e]
end
theorem zdn {E:Env} {K:St -> Prop} {tm:Nat -> PV} {bx:LP PC} {nt d:Nat} {live:List Nat} {r:List MOpr} {g:Option (Nat × Bool)} {c:List X} {x y:X} {la lb:L8} (hg:gd g tm = some true) (hx:ev tm x = .d (pS la)) (hy:ev tm y = .d (pS lb)) (hl:la.length + lb.length <= 9223372036854775807) (h:po E r K ⟨up d (.d (pS (la ++ lb))) tm,bx,nt,live⟩):po E (⟨some d,.bin .add false x y,g,c⟩ :: r) K ⟨tm,bx,nt,live⟩:=by
 refine po_q hg ?_ h;simp only [qf,hx,hy,pS];have e1:(⟨la.toArray⟩:ByteArray).size = la.length:=by simp [ByteArray.size]
 have e2:(⟨lb.toArray⟩:ByteArray).size = lb.length:=by simp [ByteArray.size]
 show Option.map _ (if (⟨la.toArray⟩:ByteArray).size + (⟨lb.toArray⟩:ByteArray).size <= 9223372036854775807 then some (Value.string ((⟨la.toArray⟩:ByteArray) ++ ⟨lb.toArray⟩)) else none) = _;rw [if_pos (by rw [e1,e2]; exact hl),zcf];rfl
theorem zbV {tm:Nat -> PV} {bx:LP PC} {nt:Nat} {live:List Nat} {n t p:Nat} {cs:List PC} (ht:tm t = .ref p 0) (hb:bx[p]? = some cs) (hn:cs.length = n):ressM ⟨tm,bx,nt,live⟩ [.cell true n t] = some [.ag cs]:=by
 simp only [ressM,resM,ht,hb,Nat.zero_add,drop_zero,ldv,hn,Nat.le_refl,if_true];rw [<- hn,take_length]
end
section
mutual
def PC.lw (n:Nat):PC -> Prop
 | .v _ => True
 | .bld p _ _ _ => p < n
 | .anyp => True
 | .row p _ _ => p < n
 | .sl _ es => lwLL n es
def lwL (n:Nat):List PC -> Prop
 | [] => True
 | c :: cs => PC.lw n c /\ lwL n cs
def lwLL (n:Nat):LP PC -> Prop
 | [] => True
 | l :: ls => lwL n l /\ lwLL n ls
end
mutual
def PV.lw (n:Nat):PV -> Prop
 | .d c => c.lw n
 | .ag cs => lwL n cs
 | .tup vs => lwVs n vs
 | .raw _ => True
 | .ref _ _ => False
 | .pt _ => False
 | .fn _ vs => lwVs n vs
def lwVs (n:Nat):List PV -> Prop
 | [] => True
 | v :: vs => PV.lw n v /\ lwVs n vs
end
theorem zdK {n:Nat}:∀ {cs:List PC} (j:Nat) (c:PC),lwL n cs -> cs[j]? = some c -> c.lw n
 | c :: cs,0,_,h,e => by simp at e; subst e; exact h.1
 | c :: cs,j + 1,_,h,e => zdK j _ h.2 (by simpa using e)
theorem zdL {n:Nat}:∀ {cs:LP PC} (j:Nat) (c:List PC),lwLL n cs -> cs[j]? = some c -> lwL n c
 | c :: cs,0,_,h,e => by simp at e; subst e; exact h.1
 | c :: cs,j + 1,_,h,e => zdL j _ h.2 (by simpa using e)
theorem zbu {n:Nat}:∀ {cs:List PV} (j:Nat) (c:PV),lwVs n cs -> cs[j]? = some c -> c.lw n
 | c :: cs,0,_,h,e => by simp at e; subst e; exact h.1
 | c :: cs,j + 1,_,h,e => zbu j _ h.2 (by simpa using e)
mutual
theorem owned_lw {n:Nat}:∀ {c:PC},c.owned = true -> c.lw n
 | .v _,_ => by simp only [PC.lw]
 | .bld _ _ _ _,ho => by simp [PC.owned] at ho
 | .anyp,_ => by simp only [PC.lw]
 | .row _ _ _,ho => by simp [PC.owned] at ho
 | .sl t es,ho => by
  simp only [PC.owned,Bool.and_eq_true,Bool.or_eq_true,decide_eq_true_eq] at ho;simp only [PC.lw]
  rcases ho.1 with h0 | h0
  ·exact ownedLL_lw ho.2
  ·rw [isEmpty_iff.1 h0]; simp only [lwLL]
theorem zcS {n:Nat}:∀ {c:List PC},ownedL c = true -> lwL n c
 | [],_ => by simp only [lwL]
 | c :: cs,ho => by
  simp only [ownedL,Bool.and_eq_true] at ho;simp only [lwL];exact ⟨owned_lw ho.1,zcS ho.2⟩
theorem ownedLL_lw {n:Nat}:∀ {c:LP PC},ownedLL c = true -> lwLL n c
 | [],_ => by simp only [lwLL]
 | c :: cs,ho => by
  simp only [ownedLL,Bool.and_eq_true] at ho;simp only [lwLL];exact ⟨zcS ho.1,ownedLL_lw ho.2⟩
end
def Cx.reb (C:Cx) (n:Nat) (f:Nat -> Nat):Cx:={ C with nb:=n,bx:=f }
theorem RpC.reb {C:Cx} {w:World} {n:Nat} {f:Nat -> Nat} {c:PC} {v:Value} (h:RpC C w c v):c.lw 0 -> RpC (C.reb n f) w c v:=by
 induction h with
 | v x h => intro _; exact .v x h
 | bld p T t U v h cs fz ht hv hU => intro hl; exact absurd hl (Nat.not_lt_zero p)
 | anyp a h => intro _; exact .anyp a h
 | row p l c h hl hc => intro hlw; exact absurd hlw (Nat.not_lt_zero p)
 | emp a c => intro _; exact .emp a c
 | nil => intro _; exact .nil
 | nilo t h2 ht hb => intro _; exact .nilo (C:=C.reb n f) t h2 ht hb
 | rd es b o k c u hl hc hr h ih =>
  intro hf;simp only [PC.lw] at hf
  exact .rd (C:=C.reb n f) es b o k c u hl hc ⟨hr.pos,hr.wid,hr.cell,hr.fix⟩ fun i j e y he hy => ih i j e y he hy (zdK j y (zdL i e hf he) hy)
 | own t es b u h2 ht hb hlen hl hc hr h ih =>
  intro hf;simp only [PC.lw] at hf;exact .own (C:=C.reb n f) t es b u h2 ht hb hlen hl hc ⟨hr.pos,hr.wid,hr.cell,hr.fix⟩ fun i j e y he hy => ih i j e y he hy (zdK j y (zdL i e hf he) hy)
theorem RpL.reb {C:Cx} {w:World} {n:Nat} {f:Nat -> Nat} {cs:List PC} {vs:List Value} (h:RpL C w cs vs) (hl:lwL 0 cs):RpL (C.reb n f) w cs vs:=⟨h.1,fun j c y h1 h2 => (h.2 j c y h1 h2).reb (zdK j c hl h1)⟩
theorem RpV.reb {C:Cx} {w:World} {n:Nat} {f:Nat -> Nat} {x:PV} {v:Value} (h:RpV C w x v):x.lw 0 -> RpV (C.reb n f) w x v:=by
 induction h with
 | d x v h => intro hl; exact .d x v (h.reb (by simpa only [PV.lw] using hl))
 | ag cs vs h => intro hl; exact .ag cs vs (h.reb (by simpa only [PV.lw] using hl))
 | tup xs vs hl _ ih => intro hf; simp only [PV.lw] at hf; exact .tup xs vs hl fun j x y h1 h2 => ih j x y h1 h2 (zbu j x hf h1)
 | ref p o h => intro hl; simp only [PV.lw] at hl
 | pt cs b o u hc hF h => intro hl; simp only [PV.lw] at hl
 | fn f xs vs hl h ih => intro hf; simp only [PV.lw] at hf; exact .fn f xs vs hl fun j x y h1 h2 => ih j x y h1 h2 (zbu j x hf h1)
 | raw v => intro _; exact .raw v
theorem FnG.lift1 {E:Env} {f:Nat} {args:List PV} {c:List PC} {nt:Nat} {live:List Nat} {R:PV -> List PC -> Nat -> List Nat -> Prop}
  (h:FnG E f (.ref 0 0 :: args) [c] nt live (fun x b n l => ∃ c' rest,b = c' :: rest /\ x.lw 0 /\ lwL 0 c' /\ R x c' n l)) (ha:lwVs 0 args) (hc:lwL 0 c) {bx:LP PC} {p:Nat} (hp:bx[p]? = some c) :
  FnG E f (.ref p 0 :: args) bx nt live (fun x b n l => ∃ c',b = bx.set p c' /\ R x c' n l):=by
 intro C w vs hI hnt hold hn2 hlen hv
 have hplt:p < bx.length:=by
  rcases Nat.lt_or_ge p bx.length with h' | h'
  ·exact h'
  ·rw [getElem?_eq_none h'] at hp; cases hp
 have hnb:=hI.nb
 have hI1:Inv E.NG E.T (C.reb 1 fun _ => C.bx p) [c] (· ∈ live) w:=by
  refine ⟨rfl,fun q cs hq => ?_,fun q _ => hI.boxF p hplt,fun q _ => hI.boxG p hplt,fun q r hq hr _ => ?_,fun t ht => ?_,hI.tinj,hI.fin,hI.ng,hI.t⟩
  ·match q with
   | 0 =>
    simp only [getElem?_cons_zero,sI] at hq; subst hq
    obtain ⟨vs,e,h1,h2⟩:=hI.box p _ hp
    exact ⟨vs,e,h1,h2.reb hc⟩
   | q + 1 => simp at hq
  ·simp only [length_singleton] at hq hr; omega
  ·obtain ⟨a1,a2,a3⟩:=hI.tok t ht
   refine ⟨a1,a2,a3.imp id ?_⟩;rintro ⟨b,cur,e,c1,c2,c3,c4,c5,c6,c7,c8,c9,c10⟩;exact ⟨b,cur,e,c1,c2,c3,c4,c5,c6,c7,c8,c9,fun q _ => c10 p hplt⟩
 have hv1:∀ (j:Nat) (x:PV) (y:Value),(PV.ref 0 0 :: args)[j]? = some x -> vs[j]? = some y -> RpV (C.reb 1 fun _ => C.bx p) w x y:=by
  intro j x y hx hy
  match j with
  | 0 =>
   simp only [getElem?_cons_zero,sI] at hx; subst hx
   have:=hv 0 _ y rfl hy
   cases this
   exact RpV.ref (C:=C.reb 1 fun _ => C.bx p) 0 0 (by show 0 < 1; omega)
  | j + 1 =>
   rw [getElem?_cons_succ] at hx;exact (hv (j + 1) x y (by rw [getElem?_cons_succ]; exact hx) hy).reb (zbu j x ha hx)
 refine (h (C.reb 1 fun _ => C.bx p) w vs hI1 hnt hold hn2 (by simpa using hlen) hv1).mono ?_;rintro e w' ⟨u,x,b,n,l,C1,rfl,⟨c',rest,rfl,k1,k2,k3⟩,I1,hn,E1,hx⟩;have hb0:C1.bx 0 = C.bx p:=E1.bx.2 0 (by show 0 < 1; omega);have hle:CxLe C (C1.reb C.nb C.bx):=⟨E1.F,lR,fun _ _ => rfl,E1.tk.1,E1.tk.2⟩;have hF:Fix C w w':=E1.fix
 have hnotok:∀ q,q < bx.length -> ∀ t,t ∈ live -> C.tk t ≠ some (C.bx q):=by
  intro q hq t ht he;obtain ⟨_,_,⟨z,_⟩ | ⟨b,cur,e,c1,c2,c3,c4,c5,c6,c7,c8,c9,c10⟩⟩:=hI.tok t ht
  ·rw [he] at z; cases z
  ·rw [he] at c1; simp only [sI] at c1; subst c1; exact c10 q hq rfl
 have hold2:∀ t,(C.reb 1 fun _ => C.bx p).old t -> t ∈ live:=fun t ht => by
  have:C.old t:=ht
  rw [hold] at this; exact this
 refine ⟨u,x,bx.set p c',n,l,C1.reb C.nb C.bx,rfl,⟨c',rfl,k3⟩,?_,hn,?_,hx.reb k1⟩
 ·refine ⟨by rw [length_set]; exact hnb,fun q cs hq => ?_,fun q hq o hFo => ?_,by rw [length_set]; exact hI.boxG,by rw [length_set]; exact hI.inj,fun t ht => ?_,I1.tinj,I1.fin,I1.ng,I1.t⟩
  ·by_cases hqp:q = p
   ·subst hqp
    rw [getElem?_set_self hplt] at hq;simp only [sI] at hq; subst hq
    obtain ⟨vs,e,h1,h2⟩:=I1.box 0 c' rfl;rw [hb0] at h1;exact ⟨vs,e,h1,h2.reb k2⟩
   ·rw [getElem?_set_ne (fun h => hqp h.symm)] at hq
    have hqlt:q < bx.length:=by
     rcases Nat.lt_or_ge q bx.length with h' | h'
     ·exact h'
     ·rw [getElem?_eq_none h'] at hq; cases hq
    obtain ⟨vs,e,h1,h2⟩:=hI.box q cs hq;refine ⟨vs,e,(E1.block (C.bx q) (zak h1) (fun r _ he => hqp (hI.inj q p hqlt hplt he.symm)) (fun t ht he => hnotok q hqlt t (hold2 t ht) he)).trans h1,h2.frame hle hF⟩
  ·rw [length_set] at hq
   rcases E1.newF (C.bx q) o hFo with h1 | h1 | ⟨s,h1,h2⟩
   ·exact hI.boxF q hq o h1
   ·have:=hI.lt hq; omega
   ·exact hnotok q hq s (hold2 s h1) h2
  ·obtain ⟨a1,a2,a3⟩:=I1.tok t ht
   refine ⟨a1,a2,a3.imp id ?_⟩;rintro ⟨b,cur,e,c1,c2,c3,c4,c5,c6,c7,c8,c9,c10⟩;refine ⟨b,cur,e,c1,c2,c3,c4,c5,c6,c7,c8,c9,fun q hq he => ?_⟩;rw [length_set] at hq;have he:C.bx q = b:=he
   rcases E1.newT t b ht c1 with h1 | ⟨s,h1,h2⟩
   ·have:=hI.lt hq; omega
   ·exact hnotok q hq s (hold2 s h1) (by rw [he]; exact h2)
 ·exact ⟨E1.os,E1.tape,E1.output,E1.size,E1.F,E1.fix,fun k hk hne ho => E1.block k hk (fun r _ => hne p (by omega)) ho,⟨lR,fun _ _ => rfl⟩,E1.newF,E1.newT,fun q hq hq2 => by rw [length_set] at hq2; omega,E1.tk⟩
/-! ### trees -/
/-! ### steps -/
def MO.plain:MO -> Bool
 | .mv _ | .load .. | .fld .. | .field .. | .ext .. | .nilc _ | .not _ | .build .. | .lens _ | .b2s _ | .litq .. | .mkfn .. | .pick .. => true
 | _ => false
section
variable {E:Env} {K:St -> Prop} {tm:Nat -> PV} {bx:LP PC} {nt d:Nat} {live:List Nat} {r:List MOpr} {g:Option (Nat × Bool)} {c:List X} {o:MO} {x y:X}
theorem po_s {v:PV} (_ho:o.plain = true) (hg:gd g tm = some true) (hq:qf (ev tm) bx o = some v) (h:po E r K ⟨up d v tm,bx,nt,live⟩):po E (⟨some d,o,g,c⟩ :: r) K ⟨tm,bx,nt,live⟩:=po_q hg hq h
theorem zaq {e:Bool} (hg:gd g tm = some true) (hq:qf (ev tm) bx o = some (.d (.v (.bool e)))) (he:e = false) (h:po E r K ⟨up d (.d (.v (.bool false))) tm,bx,nt,live⟩):po E (⟨some d,o,g,c⟩ :: r) K ⟨tm,bx,nt,live⟩:=by subst he; exact po_q hg hq h
theorem zah {e:Bool} (hg:gd g tm = some true) (hq:qf (ev tm) bx o = some (.d (.v (.bool e)))) (he:e = true) (h:po E r K ⟨up d (.d (.v (.bool true))) tm,bx,nt,live⟩):po E (⟨some d,o,g,c⟩ :: r) K ⟨tm,bx,nt,live⟩:=by subst he; exact po_q hg hq h
theorem zaK {t n:Nat} {es:LP PC} (hg:gd g tm = some true) (hx:ev tm x = .d (.sl t es)) (hn:es.length = n) (h:po E r K ⟨up d (.d (pI n)) tm,bx,nt,live⟩):po E (⟨some d,.len x,g,c⟩ :: r) K ⟨tm,bx,nt,live⟩:=by
 refine po_q hg ?_ h;simp only [qf,hx,hn]; rfl
theorem po_cv {k kk:IntKind} {a n:Int} (hg:gd g tm = some true) (hx:ev tm x = .d (.v (.int kk a))) (hn:k.wrap a = n) (h:po E r K ⟨up d (.d (.v (.int k n))) tm,bx,nt,live⟩):po E (⟨some d,.conv k x,g,c⟩ :: r) K ⟨tm,bx,nt,live⟩:=by
 refine po_q hg ?_ h;simp only [qf,hx,hn]
theorem po_mv {v:PV} (hg:gd g tm = some true) (hx:ev tm x = v) (h:po E r K ⟨up d v tm,bx,nt,live⟩):po E (⟨some d,.mv x,g,c⟩ :: r) K ⟨tm,bx,nt,live⟩:=by
 subst hx; exact po_q hg rfl h
theorem pm {v:PV} (h:po E r K ⟨up d v tm,bx,nt,live⟩) (hg:gd g tm = some true:=by exact rfl) (hx:ev tm x = v:=by conv => lhs; whnf):po E (⟨some d,.mv x,g,c⟩ :: r) K ⟨tm,bx,nt,live⟩:=po_mv hg hx h
theorem pq {v:PV} (h:po E r K ⟨up d v tm,bx,nt,live⟩) (ho:o.plain = true:=by exact rfl) (hg:gd g tm = some true:=by exact rfl) (hq:qf (ev tm) bx o = some v:=by exact rfl):po E (⟨some d,o,g,c⟩ :: r) K ⟨tm,bx,nt,live⟩:=po_s ho hg hq h
theorem px {cs:List PC} (h:po E r K ⟨up d (.ref bx.length 0) tm,bx ++ [cs],nt,live⟩) (hq:pcells (ev tm x) = some cs:=by exact rfl):po E (⟨some d,.box x,none,[]⟩ :: r) K ⟨tm,bx,nt,live⟩:=zby hq h
theorem po_ixs {l:L8} {j:Int} {k:Nat} {b:UInt8} {kk:IntKind} (hg:gd g tm = some true) (hx:ev tm x = .d (pS l)) (hi:ev tm y = .d (.v (.int kk j))) (hj:j = k) (hb:l[k]? = some b) (h:po E r K ⟨up d (.d (.v (.int .u8 b.toNat))) tm,bx,nt,live⟩):po E (⟨some d,.ixs x y,g,c⟩ :: r) K ⟨tm,bx,nt,live⟩:=by
 refine po_q hg ?_ h;subst hj;simp only [qf,hx,hi,pS];rw [if_pos (by omega)];simp [hb]
theorem zb8 {l rs:L8} {lo hi:Option X} {a b:Nat} (hg:gd g tm = some true) (hx:ev tm x = .d (pS l)) (hlo:bound (ev tm) 0 lo = some a) (hhi:bound (ev tm) l.length hi = some b) (hle:a <= b /\ b <= l.length) (hr:(l.drop a).take (b - a) = rs) (h:po E r K ⟨up d (.d (pS rs)) tm,bx,nt,live⟩):po E (⟨some d,.slcs x lo hi,g,c⟩ :: r) K ⟨tm,bx,nt,live⟩:=by
 refine po_q hg ?_ h;subst hr;simp only [qf,hx,pS];rw [hlo,hhi];simp only;rw [if_pos hle]
theorem zaS {e:X -> PV} {dft k:Nat} {x:X} {kk:IntKind} {i:Int} (h:e x = .d (.v (.int kk i))) (hi:i = k):bound e dft (some x) = some k:=by
 subst hi;simp only [bound,h]; rw [if_pos (by omega)]; simp
end
theorem zbM {E:Env} {B:Base} {Q:Exit -> St -> Prop} {s:St} {x:X} {a b:M} {t:Bool} {p:Prop} [Decidable p] (ht:t = decide p) (hx:ev s.tm x = .d (.v (.bool t))) (h1:p -> t = true -> mw E B a Q s) (h2:¬ p -> t = false -> mw E B b Q s):mw E B (.cond x a b) Q s :=
 zdG hx (fun h => h1 (of_decide_eq_true (ht.symm.trans h)) h) (fun h => h2 (of_decide_eq_false (ht.symm.trans h)) h)
theorem zeg {E:Env} {B:Base} {Q:Exit -> St -> Prop} {s:St} {x:X} {a b:M} {p:Prop} [Decidable p] (hx:ev s.tm x = .d (.v (.bool (decide p)))) (h1:p -> mw E B a Q s) (h2:¬ p -> mw E B b Q s):mw E B (.cond x a b) Q s :=
 zdG hx (fun h => h1 (of_decide_eq_true h)) (fun h => h2 (of_decide_eq_false h))
end
section
section
variable {E:Env} {K:St -> Prop} {tm:Nat -> PV} {bx:LP PC} {nt d:Nat} {live:List Nat} {r:List MOpr} {g:Option (Nat × Bool)} {c:List X} {x y:X}
theorem zcT {la lb:L8} {f:Bool} {e:Bool} (hg:gd g tm = some true) (hx:ev tm x = .d (pS la)) (hy:ev tm y = .d (pS lb)) (he:decide (la ≠ lb) = e) (h:po E r K ⟨up d (.d (pB e)) tm,bx,nt,live⟩):po E (⟨some d,.bin .neq f x y,g,c⟩ :: r) K ⟨tm,bx,nt,live⟩:=by
 refine po_q hg ?_ h;subst he;simp only [qf,hx,hy,pS];show some (PV.d (.v (.bool (!((ByteArray.mk la.toArray).toList == (ByteArray.mk lb.toArray).toList))))) = _;rw [ByteArray.toList_eq,ByteArray.toList_eq];show some (PV.d (.v (.bool (!(la == lb))))) = some (PV.d (.v (.bool (decide (la ≠ lb)))));have e:(!(la == lb)) = decide (la ≠ lb):=by by_cases h:la = lb <;> simp [h]
 rw [e]
end
section
variable {E:Env} {K:St -> Prop} {tm:Nat -> PV} {bx:LP PC} {nt d:Nat} {live:List Nat} {r:List MOpr} {g:Option (Nat × Bool)} {c:List X} {x y:X}
end
theorem po_eqs {E:Env} {K:St -> Prop} {tm:Nat -> PV} {bx:LP PC} {nt d:Nat} {live:List Nat} {r:List MOpr} {g:Option (Nat × Bool)} {c:List X} {x y:X} {la lb:L8} {f:Bool} (hg:gd g tm = some true) (hx:ev tm x = .d (pS la)) (hy:ev tm y = .d (pS lb)) (h:po E r K ⟨up d (.d (pB (decide (la = lb)))) tm,bx,nt,live⟩):po E (⟨some d,.bin .eql f x y,g,c⟩ :: r) K ⟨tm,bx,nt,live⟩:=by
 refine po_q hg ?_ h;simp only [qf,hx,hy,pS];show some (PV.d (.v (.bool ((ByteArray.mk la.toArray).toList == (ByteArray.mk lb.toArray).toList)))) = _;rw [ByteArray.toList_eq,ByteArray.toList_eq];show some (PV.d (.v (.bool (la == lb)))) = _;by_cases h:la = lb
 ·subst h; simp [pB]
 ·simp [h,pB]
theorem rw_one {z cells:List PC} {m i:Nat} (hc:cells = z.take m) (hi:i < cells.length):(z.drop i).take 1 = [cells[i]]:=by
 subst hc;rw [length_take] at hi;rw [getElem_take,drop_eq_getElem_cons (by omega)]; rfl
end
section
theorem FnG.lift0 {E:Env} {f:Nat} {args:List PV} {nt:Nat} {live:List Nat} {R:PV -> Nat -> List Nat -> Prop}
  (h:FnG E f args [] nt live (fun x _ n l => x.lw 0 /\ R x n l)) (ha:lwVs 0 args) {bx:LP PC} :
  FnG E f args bx nt live (fun x b n l => b = bx /\ R x n l):=by
 intro C w vs hI hnt hold hn2 hlen hv;have hnb:=hI.nb
 have hI1:Inv E.NG E.T (C.reb 0 fun _ => 0) [] (· ∈ live) w:=by
  refine ⟨rfl,fun q cs hq => by simp at hq,fun q hq => by simp at hq,fun q hq => by simp at hq,fun q r hq => by simp at hq,fun t ht => ?_,hI.tinj,hI.fin,hI.ng,hI.t⟩;obtain ⟨a1,a2,a3⟩:=hI.tok t ht;refine ⟨a1,a2,a3.imp id ?_⟩;rintro ⟨b,cur,e,c1,c2,c3,c4,c5,c6,c7,c8,c9,c10⟩;exact ⟨b,cur,e,c1,c2,c3,c4,c5,c6,c7,c8,c9,fun q hq => by simp at hq⟩
 have hv1:∀ (j:Nat) (x:PV) (y:Value),args[j]? = some x -> vs[j]? = some y -> RpV (C.reb 0 fun _ => 0) w x y:=fun j x y hx hy => (hv j x y hx hy).reb (zbu j x ha hx)
 refine (h (C.reb 0 fun _ => 0) w vs hI1 hnt hold hn2 hlen hv1).mono ?_;rintro e w' ⟨u,x,b,n,l,C1,rfl,⟨k1,k3⟩,I1,hn,E1,hx⟩;have hle:CxLe C (C1.reb C.nb C.bx):=⟨E1.F,lR,fun _ _ => rfl,E1.tk.1,E1.tk.2⟩;have hF:Fix C w w':=E1.fix
 have hnotok:∀ q,q < bx.length -> ∀ t,t ∈ live -> C.tk t ≠ some (C.bx q):=by
  intro q hq t ht he;obtain ⟨_,_,⟨z,_⟩ | ⟨b,cur,e,c1,c2,c3,c4,c5,c6,c7,c8,c9,c10⟩⟩:=hI.tok t ht
  ·rw [he] at z; cases z
  ·rw [he] at c1; simp only [sI] at c1; subst c1; exact c10 q hq rfl
 have hold2:∀ t,(C.reb 0 fun _ => 0).old t -> t ∈ live:=fun t ht => by
  have:C.old t:=ht
  rw [hold] at this; exact this
 refine ⟨u,x,bx,n,l,C1.reb C.nb C.bx,rfl,⟨rfl,k3⟩,?_,hn,?_,hx.reb k1⟩
 ·refine ⟨hnb,fun q cs hq => ?_,fun q hq o hFo => ?_,hI.boxG,hI.inj,fun t ht => ?_,I1.tinj,I1.fin,I1.ng,I1.t⟩
  ·have hqlt:q < bx.length:=by
    rcases Nat.lt_or_ge q bx.length with h' | h'
    ·exact h'
    ·rw [getElem?_eq_none h'] at hq; cases hq
   obtain ⟨vs,e,h1,h2⟩:=hI.box q cs hq;exact ⟨vs,e,(E1.block (C.bx q) (zak h1) (fun r hr => by simp [Cx.reb] at hr) (fun t ht he => hnotok q hqlt t (hold2 t ht) he)).trans h1,h2.frame hle hF⟩
  ·rcases E1.newF (C.bx q) o hFo with h1 | h1 | ⟨s,h1,h2⟩
   ·exact hI.boxF q hq o h1
   ·have:=hI.lt hq; omega
   ·exact hnotok q hq s (hold2 s h1) h2
  ·obtain ⟨a1,a2,a3⟩:=I1.tok t ht
   refine ⟨a1,a2,a3.imp id ?_⟩;rintro ⟨b,cur,e,c1,c2,c3,c4,c5,c6,c7,c8,c9,c10⟩;refine ⟨b,cur,e,c1,c2,c3,c4,c5,c6,c7,c8,c9,fun q hq he => ?_⟩;have he:C.bx q = b:=he
   rcases E1.newT t b ht c1 with h1 | ⟨s,h1,h2⟩
   ·have:=hI.lt hq; omega
   ·exact hnotok q hq s (hold2 s h1) (by rw [he]; exact h2)
 ·exact ⟨E1.os,E1.tape,E1.output,E1.size,E1.F,E1.fix,fun k hk hne ho => E1.block k hk (fun r hr => by simp [Cx.reb] at hr) ho,⟨lR,fun _ _ => rfl⟩,E1.newF,E1.newT,fun q hq hq2 => by omega,E1.tk⟩
section
variable {E:Env} {d:Nat} {r:List MOpr} {K:St -> Prop} {tm:Nat -> PV} {bx:LP PC} {nt:Nat} {live:List Nat}
theorem zb9 {α:Type} (l:List α) (x:α):(l ++ [x])[l.length]? = some x:=by rw [getElem?_append_right lR,Nat.sub_self]; rfl
theorem po_nw {n:Nat} {z:List Value} {x:X} {cs:List PC} {c:List X} (hx:pcells (ev (up d (.ref bx.length 0) tm) x) = some cs) (hn:cs.length = n) (hz:z.length = n) (hc:c.all (apartX (ev (up d (.ref bx.length 0) tm)) (.t d)) = true)
  (h:po E r K ⟨up d (.ref bx.length 0) tm,bx ++ [cs],nt,live⟩):po E (⟨some d,.zero z,none,[]⟩ :: ⟨none,.store n (.t d) x,none,c⟩ :: r) K ⟨tm,bx,nt,live⟩:=by
 refine zbH ?_;have hz0:(bx ++ [z.map ofC])[bx.length]? = some (z.map ofC):=zb9 _ _
 have ha:ev (up d (.ref bx.length 0) tm) (.t d) = .ref bx.length 0:=by
  show up d (.ref bx.length 0) tm d = _;rw [<- up_eq]; exact if_pos rfl
 refine zaL ha hx hz0 ⟨hn,by rw [length_map]; omega⟩ hc ?_
 have e1:spl (z.map ofC) 0 cs = cs:=by
  unfold spl;rw [take_zero,nil_append,drop_of_length_le (by rw [length_map]; omega),append_nil]
 have e2:(bx ++ [z.map ofC]).set bx.length cs = bx ++ [cs]:=by
  rw [set_append_right _ _ lR,Nat.sub_self]; rfl
 rw [e1,e2]; exact h
theorem za7 {ag:Bool} {n p o:Nat} {x:X} {c:List X} {g:Option (Nat × Bool)} {cs:List PC} {v:PV} (hg:gd g tm = some true) (hx:ev tm x = .ref p o) (hb:bx[p]? = some cs) (hn:o + n <= cs.length) (hv:ldv ag ((cs.drop o).take n) = some v)
  (h:po E r K ⟨up d v tm,bx,nt,live⟩):po E (⟨some d,.load ag n x,g,c⟩ :: r) K ⟨tm,bx,nt,live⟩:=by
 refine po_q hg ?_ h;simp only [qf,hx,hb,if_pos hn,hv]
end
end
section
def okB:PC -> Prop
 | .row _ _ _ => True
 | c => c.lw 0
theorem okB_of {c:PC} (h:c.lw 0):okB c:=by
 cases c with
 | row p l c => trivial
 | _ => exact h
open Classical in
noncomputable def PC.shB (k:Nat) (c:PC):PC:=if okB c then (match c with | .row p l c => .row (p + k) l c | c => c) else .anyp
theorem shB_id {k:Nat} {c:PC} (h:c.lw 0):c.shB k = c:=by
 unfold PC.shB;rw [if_pos (okB_of h)]
 cases c with
 | row p l c => exact absurd h (Nat.not_lt_zero p)
 | _ => rfl
theorem shB_idL {k:Nat}:∀ {cs:List PC},lwL 0 cs -> cs.map (PC.shB k) = cs
 | [],_ => rfl
 | c :: cs,h => by rw [map_cons,shB_id h.1,shB_idL h.2]
mutual
noncomputable def PV.shB (k:Nat):PV -> PV
 | .d c => .d (c.shB k)
 | .ag cs => .ag (cs.map (PC.shB k))
 | .tup vs => .tup (shBs k vs)
 | .ref p o => .ref (p + k) o
 | .pt cs => .pt (cs.map (PC.shB k))
 | .fn f vs => .fn f (shBs k vs)
 | .raw v => .raw v
noncomputable def shBs (k:Nat):List PV -> List PV
 | [] => []
 | v :: vs => PV.shB k v :: shBs k vs
end
theorem zcx (k:Nat):∀ vs:List PV,shBs k vs = vs.map (PV.shB k)
 | [] => rfl
 | v :: vs => by simp only [shBs,map_cons,zcx k vs]
section
variable {C:Cx} {w:World} {k n:Nat} {f:Nat -> Nat}
theorem rp_shB {c:PC} {v:Value} (h:RpC C w c v) (hf:∀ p,p < C.nb -> p + k < n /\ f (p + k) = C.bx p):RpC (C.reb n f) w (c.shB k) v:=by
 unfold PC.shB;by_cases ho:okB c
 ·rw [if_pos ho]
  cases c with
  | row p l c => cases h with
   | row _ _ _ h1 h2 h3 =>
    obtain ⟨a1,a2⟩:=hf p h1
    have:=RpC.row (C:=C.reb n f) (w:=w) (p + k) l c a1 h2 h3
    rw [show (C.reb n f).bx (p + k) = C.bx p from a2] at this; exact this
  | v x => exact RpC.reb (c:=.v x) h ho
  | sl t es => exact RpC.reb (c:=.sl t es) h ho
  | anyp => exact RpC.reb (c:=.anyp) h ho
  | bld p T t U => exact absurd ho (Nat.not_lt_zero p)
 ·rw [if_neg ho]; exact .anyp v h.one
theorem rpL_shB {cs:List PC} {vs:List Value} (h:RpL C w cs vs) (hf:∀ p,p < C.nb -> p + k < n /\ f (p + k) = C.bx p):RpL (C.reb n f) w (cs.map (PC.shB k)) vs:=by
 refine ⟨by rw [length_map]; exact h.1,fun j c y h1 h2 => ?_⟩;rw [getElem?_map] at h1
 cases hj:cs[j]? with
 | none => rw [hj] at h1; cases h1
 | some c0 =>
  rw [hj] at h1; simp only [Option.map_some,sI] at h1; subst h1
  exact rp_shB (h.2 j c0 y hj h2) hf
theorem rpV_shB {x:PV} {v:Value} (h:RpV C w x v) (hf:∀ p,p < C.nb -> p + k < n /\ f (p + k) = C.bx p):RpV (C.reb n f) w (x.shB k) v:=by
 have conv:∀ (xs:List PV) (vs:List Value),(∀ (j:Nat) (x:PV) (y:Value),xs[j]? = some x -> vs[j]? = some y -> RpV (C.reb n f) w (x.shB k) y) -> ∀ (j:Nat) (x:PV) (y:Value),(shBs k xs)[j]? = some x -> vs[j]? = some y -> RpV (C.reb n f) w x y:=by
  intro xs vs ih j x y h1 h2;rw [zcx,getElem?_map] at h1
  cases hj:xs[j]? with
  | none => rw [hj] at h1; cases h1
  | some c0 =>
   rw [hj] at h1; simp only [Option.map_some,sI] at h1; subst h1
   exact ih j c0 y hj h2
 induction h with
 | d x v h => exact .d _ v (rp_shB h hf)
 | ag cs vs h => exact .ag _ vs (rpL_shB h hf)
 | tup xs vs hl _ ih => exact .tup _ vs (by rw [zcx,length_map]; exact hl) (conv xs vs ih)
 | raw v => exact .raw v
 | ref p o h =>
  obtain ⟨a1,a2⟩:=hf p h
  have:=RpV.ref (C:=C.reb n f) (w:=w) (p + k) o a1
  rw [show (C.reb n f).bx (p + k) = C.bx p from a2] at this; exact this
 | pt cs b o u hc hF h =>
  refine .pt _ b o u (fun j hj => hc j (by simpa using hj)) (fun j hj => hF j (by simpa using hj)) fun j c hj => ?_
  rw [getElem?_map] at hj
  cases hh:cs[j]? with
  | none => rw [hh] at hj; cases hj
  | some c0 =>
   rw [hh] at hj; simp only [Option.map_some,sI] at hj; subst hj
   exact rp_shB (h j c0 hh) hf
 | fn f xs vs hl h ih => exact .fn f _ vs (by rw [zcx,length_map]; exact hl) (conv xs vs ih)
end
theorem FnG.liftR {E:Env} {f:Nat} {args:List PV} {nt:Nat} {live:List Nat} {R:PV -> LP PC -> Nat -> List Nat -> Prop}
  (h:FnG E f args [] nt live R) (ha:lwVs 0 args) {bx:LP PC} :
  FnG E f args bx nt live (fun x b n l => ∃ x0 b0,x = x0.shB bx.length /\ b = bx ++ b0.map (·.map (PC.shB bx.length)) /\ R x0 b0 n l):=by
 intro C w vs hI hnt hold hn2 hlen hv;have hnb:=hI.nb
 have hI1:Inv E.NG E.T (C.reb 0 fun _ => 0) [] (· ∈ live) w:=by
  refine ⟨rfl,fun q cs hq => by simp at hq,fun q hq => by simp at hq,fun q hq => by simp at hq,fun q r hq => by simp at hq,fun t ht => ?_,hI.tinj,hI.fin,hI.ng,hI.t⟩;obtain ⟨a1,a2,a3⟩:=hI.tok t ht;refine ⟨a1,a2,a3.imp id ?_⟩;rintro ⟨b,cur,e,c1,c2,c3,c4,c5,c6,c7,c8,c9,c10⟩;exact ⟨b,cur,e,c1,c2,c3,c4,c5,c6,c7,c8,c9,fun q hq => by simp at hq⟩
 have hv1:∀ (j:Nat) (x:PV) (y:Value),args[j]? = some x -> vs[j]? = some y -> RpV (C.reb 0 fun _ => 0) w x y:=fun j x y hx hy => (hv j x y hx hy).reb (zbu j x ha hx)
 refine (h (C.reb 0 fun _ => 0) w vs hI1 hnt hold hn2 hlen hv1).mono ?_;rintro e w' ⟨u,x,b,n,l,C1,rfl,k3,I1,hn,E1,hx⟩;have hn1:=I1.nb;obtain ⟨g,hg⟩:∃ g:Nat -> Nat,g = fun p => if p < bx.length then C.bx p else C1.bx (p - bx.length):=⟨_,rfl⟩
 have g0:∀ p,p < bx.length -> g p = C.bx p:=fun p hp => by rw [hg]; exact if_pos hp
 have g1:∀ p,g (p + bx.length) = C1.bx p:=fun p => by rw [hg]; show (if p + bx.length < bx.length then _ else _) = _; rw [if_neg (by omega),Nat.add_sub_cancel]
 have hle:CxLe C (C1.reb (bx.length + b.length) g):=⟨E1.F,by show C.nb <= bx.length + b.length; omega,fun p hp => g0 p (by omega),E1.tk.1,E1.tk.2⟩;have hF:Fix C w w':=E1.fix;have hsh:∀ p,p < C1.nb -> p + bx.length < bx.length + b.length /\ g (p + bx.length) = C1.bx p:=fun p hp => ⟨by omega,g1 p⟩
 have hnotok:∀ q,q < bx.length -> ∀ t,t ∈ live -> C.tk t ≠ some (C.bx q):=by
  intro q hq t ht he;obtain ⟨_,_,⟨z,_⟩ | ⟨b,cur,e,c1,c2,c3,c4,c5,c6,c7,c8,c9,c10⟩⟩:=hI.tok t ht
  ·rw [he] at z; cases z
  ·rw [he] at c1; simp only [sI] at c1; subst c1; exact c10 q hq rfl
 have hold2:∀ t,(C.reb 0 fun _ => 0).old t -> t ∈ live:=fun t ht => by
  have:C.old t:=ht
  rw [hold] at this; exact this
 have hnewB:∀ p,p < b.length -> w.heap.size <= C1.bx p:=fun p hp => E1.newB p (Nat.zero_le _) hp
 have split:∀ q,q < (bx ++ b.map (·.map (PC.shB bx.length))).length -> q < bx.length \/ ∃ p,p < b.length /\ q = p + bx.length:=fun q hq => by
  rw [length_append,length_map] at hq
  rcases Nat.lt_or_ge q bx.length with h' | h'
  ·exact .inl h'
  ·exact .inr ⟨q - bx.length,by omega,by omega⟩
 refine ⟨u,x.shB bx.length,bx ++ b.map (·.map (PC.shB bx.length)),n,l,C1.reb (bx.length + b.length) g,rfl,⟨x,b,rfl,rfl,k3⟩,?_,hn,?_,rpV_shB hx hsh⟩
 ·refine ⟨by rw [length_append,length_map]; rfl,fun q cs hq => ?_,fun q hq o hFo => ?_,fun q hq => ?_,fun p q hp hq he => ?_,fun t ht => ?_,I1.tinj,I1.fin,I1.ng,I1.t⟩
  ·have hlt:q < (bx ++ b.map (·.map (PC.shB bx.length))).length:=by
    rcases Nat.lt_or_ge q (bx ++ b.map (·.map (PC.shB bx.length))).length with h' | h'
    ·exact h'
    ·rw [getElem?_eq_none h'] at hq; cases hq
   rcases split q hlt with hql | ⟨p,hp,rfl⟩
   ·rw [getElem?_append_left hql] at hq
    obtain ⟨vs,e,h1,h2⟩:=hI.box q cs hq;refine ⟨vs,e,?_,h2.frame hle hF⟩;show w'.heap[g q]? = _;rw [g0 q hql];exact (E1.block (C.bx q) (zak h1) (fun r hr => by simp [Cx.reb] at hr) (fun t ht he => hnotok q hql t (hold2 t ht) he)).trans h1
   ·rw [getElem?_append_right (by omega),Nat.add_sub_cancel,getElem?_map] at hq
    cases hb:b[p]? with
    | none => rw [hb] at hq; cases hq
    | some c0 =>
     rw [hb] at hq; simp only [Option.map_some,sI] at hq; subst hq
     obtain ⟨vs,e,h1,h2⟩:=I1.box p c0 hb;refine ⟨vs,e,?_,rpL_shB h2 hsh⟩;show w'.heap[g (p + bx.length)]? = _;rw [g1]; exact h1
  ·have hFo:C1.F (g q) o:=hFo
   rcases split q hq with hql | ⟨p,hp,rfl⟩
   ·rw [g0 q hql] at hFo
    rcases E1.newF (C.bx q) o hFo with h1 | h1 | ⟨s,h1,h2⟩
    ·exact hI.boxF q hql o h1
    ·have:=hI.lt hql; omega
    ·exact hnotok q hql s (hold2 s h1) h2
   ·rw [g1] at hFo; exact I1.boxF p hp o hFo
  ·show E.NG <= g q
   rcases split q hq with hql | ⟨p,hp,rfl⟩
   ·rw [g0 q hql]; exact hI.boxG q hql
   ·rw [g1]; exact I1.boxG p hp
  ·have he:g p = g q:=he
   rcases split p hp with hpl | ⟨p',hp',rfl⟩ <;> rcases split q hq with hql | ⟨q',hq',rfl⟩
   ·rw [g0 p hpl,g0 q hql] at he; exact hI.inj p q hpl hql he
   ·rw [g0 p hpl,g1] at he; have:=hI.lt hpl; have:=hnewB q' hq'; omega
   ·rw [g0 q hql,g1] at he; have:=hI.lt hql; have:=hnewB p' hp'; omega
   ·rw [g1,g1] at he; rw [I1.inj p' q' hp' hq' he]
  ·obtain ⟨a1,a2,a3⟩:=I1.tok t ht
   refine ⟨a1,a2,a3.imp id ?_⟩;rintro ⟨b',cur,e,c1,c2,c3,c4,c5,c6,c7,c8,c9,c10⟩;refine ⟨b',cur,e,c1,c2,c3,c4,c5,c6,c7,c8,c9,fun q hq he => ?_⟩;have he:g q = b':=he
   rcases split q hq with hql | ⟨p,hp,rfl⟩
   ·rw [g0 q hql] at he
    rcases E1.newT t b' ht c1 with h1 | ⟨s,h1,h2⟩
    ·have:=hI.lt hql; omega
    ·exact hnotok q hql s (hold2 s h1) (by rw [he]; exact h2)
   ·rw [g1] at he; exact c10 p hp he
 ·refine ⟨E1.os,E1.tape,E1.output,E1.size,E1.F,E1.fix,fun k hk hne ho => E1.block k hk (fun r hr => by simp [Cx.reb] at hr) ho,⟨hle.nb,hle.bx⟩,E1.newF,E1.newT,fun q hq hq2 => ?_,E1.tk⟩
  rcases split q hq2 with hql | ⟨p,hp,rfl⟩
  ·omega
  ·show w.heap.size <= g (p + bx.length)
   rw [g1]; exact hnewB p hp
def RwAt (n lo:Nat) (live:List Nat) (c:PC) (bx:LP PC) (cells:List PC):Prop :=
 lo <= bx.length /\ ((∃ t,c = .sl t [] /\ (t = 1 \/ t ∈ live) /\ cells = []) \/ ∃ p len cap z,c = .row p len cap /\ lo <= p /\ bx[p]? = some z /\ z.length = n * cap /\ len <= cap /\ cells = z.take (n * len))
theorem RwAt.row {n lo:Nat} {live:List Nat} {c:PC} {bx:LP PC} {cells:List PC} (h:RwAt n lo live c bx cells) (hne:cells ≠ []):∃ p len cap z,c = .row p len cap /\ lo <= p /\ bx[p]? = some z /\ z.length = n * cap /\ len <= cap /\ cells = z.take (n * len) /\ cells.length = n * len:=by
 rcases h.2 with ⟨t,_,_,h⟩ | ⟨p,len,cap,z,h1,h2,h3,h4,h5,h6⟩
 ·exact absurd h hne
 ·exact ⟨p,len,cap,z,h1,h2,h3,h4,h5,h6,by rw [h6,length_take,h4]; exact Nat.min_eq_left (Nat.mul_le_mul_left _ h5)⟩
theorem RwAt.mono {n lo:Nat} {live live':List Nat} {c:PC} {bx:LP PC} {cells:List PC} (h:RwAt n lo live c bx cells) (hl:∀ t ∈ live,t ∈ live'):RwAt n lo live' c bx cells :=
 ⟨h.1,h.2.imp (fun ⟨t,a,b,c⟩ => ⟨t,a,b.imp id (hl t),c⟩) id⟩
theorem RwAt.app {n lo len cap p p' cap':Nat} {live:List Nat} {z:List PC} {bx bx':LP PC} {ds:LP PC} (hp:lo <= p) (hlo:lo <= bx.length) (hz:bx[p]? = some z /\ z.length = n * cap /\ len <= cap \/ p = bx.length /\ z = [] /\ len = 0 /\ cap = 0) (hds:∀ e ∈ ds,e.length = n) (hd0:ds ≠ [])
  (h:AppB n len cap z ds p bx p' cap' bx'):RwAt n lo live (.row p' (len + ds.length) cap') bx' (z.take (n * len) ++ ds.flatten) /\ ∀ q,q < lo -> bx'[q]? = bx[q]?:=by
 have hfl:ds.flatten.length = n * ds.length:=zbo hds
 have hpos:0 < ds.length:=by
  rcases Nat.eq_zero_or_pos ds.length with h | h
  ·exact absurd (eq_nil_of_length_eq_zero h) hd0
  ·exact h
 have htk:(z.take (n * len)).length = n * len:=by
  rw [length_take]
  rcases hz with ⟨_,h1,h2⟩ | ⟨_,rfl,rfl,_⟩
  ·rw [h1]; exact Nat.min_eq_left (Nat.mul_le_mul_left _ h2)
  ·simp
 have hlen:(z.take (n * len) ++ ds.flatten).length = n * (len + ds.length):=by rw [length_append,htk,hfl,Nat.mul_add]
 rcases h with ⟨rfl,rfl,h3,rfl⟩ | ⟨rfl,h3,r,hr,rfl⟩
 ·rcases hz with ⟨h1,h2,h4⟩ | ⟨_,_,h5,h6⟩
  ·have hplt:p' < bx.length:=by
    rcases Nat.lt_or_ge p' bx.length with h' | h'
    ·exact h'
    ·rw [getElem?_eq_none h'] at h1; cases h1
   have hfit:n * len + n * ds.length <= z.length:=by rw [h2,<- Nat.mul_add]; exact Nat.mul_le_mul_left _ h3
   have hspl:spl z (n * len) ds.flatten = z.take (n * len) ++ ds.flatten ++ z.drop (n * len + ds.flatten.length):=rfl;refine ⟨⟨by rw [length_set]; exact hlo,.inr ⟨p',_,cap',spl z (n * len) ds.flatten,rfl,hp,getElem?_set_self hplt,by rw [spl_len (by rw [hfl]; exact hfit)]; exact h2,h3,?_⟩⟩,fun q hq => getElem?_set_ne (by omega)⟩;rw [hspl]; exact (take_left' hlen).symm
  ·omega
 ·refine ⟨⟨by rw [length_append]; omega,.inr ⟨bx.length,_,cap',_,rfl,hlo,zb9 _ _,?_,h3,?_⟩⟩,fun q hq => getElem?_append_left (by omega)⟩
  ·rw [length_append,hlen,hr,<- Nat.mul_add]; congr 1; omega
  ·exact (take_left' hlen).symm
section
variable {E:Env} {K:St -> Prop} {tm:Nat -> PV} {bx:LP PC} {nt d:Nat} {live:List Nat} {r:List MOpr} {g:Option (Nat × Bool)} {cc:List X} {x y:X} {n lo:Nat} {c:PC} {cells:List PC} {lv:List Nat}
theorem zeY {k:Nat} (hR:RwAt n lo lv c bx cells) (hn:cells.length = n * k) (hpos:0 < n) (hg:gd g tm = some true) (hx:ev tm x = .d c) (h:po E r K ⟨up d (.d (pI k)) tm,bx,nt,live⟩):po E (⟨some d,.len x,g,cc⟩ :: r) K ⟨tm,bx,nt,live⟩:=by
 refine po_q hg ?_ h
 rcases hR.2 with ⟨t,rfl,_,rfl⟩ | ⟨p,len,cap,z,rfl,h2,h3,h4,h5,h6⟩
 ·have:k = 0:=by
   rcases Nat.eq_zero_or_pos k with h | h
   ·exact h
   ·have:=Nat.mul_pos hpos h; simp at hn; omega
  subst this;simp only [qf,hx]; rfl
 ·have:n * len = n * k:=by rw [<- hn,h6,length_take,h4]; exact (Nat.min_eq_left (Nat.mul_le_mul_left _ h5)).symm
  have:len = k:=Nat.eq_of_mul_eq_mul_left hpos this
  subst this;simp only [qf,hx]; rfl
theorem po_ixR {kk:IntKind} {j:Int} {i:Nat} (hR:RwAt n lo lv c bx cells) (_hpos:0 < n) (hj:j = i) (hi:n * i < cells.length) (hg:gd g tm = some true) (hx:ev tm x = .d c) (hy:ev tm y = .d (.v (.int kk j)))
  (h:∀ p len cap z,c = .row p len cap -> lo <= p -> bx[p]? = some z -> z.length = n * cap -> len <= cap -> cells = z.take (n * len) -> i < len -> n * i + n <= z.length -> po E r K ⟨up d (.ref p (n * i)) tm,bx,nt,live⟩):po E (⟨some d,.ix n x y,g,cc⟩ :: r) K ⟨tm,bx,nt,live⟩:=by
 subst hj;obtain ⟨p,len,cap,z,e1,h2,h3,h4,h5,h6,h7⟩:=hR.row (fun h => by rw [h] at hi; simp at hi);have hil:i < len:=by rw [h7] at hi; exact Nat.lt_of_mul_lt_mul_left hi
 refine po_q hg ?_ (h p len cap z e1 h2 h3 h4 h5 h6 hil (by rw [h4,<- Nat.mul_succ]; exact Nat.mul_le_mul_left _ (by omega)));simp only [qf,hx,e1,hy];rw [if_pos ⟨by omega,by rw [Int.toNat_natCast]; exact hil⟩,Int.toNat_natCast]
theorem po_appR {k t' m:Nat} {ds:LP PC} (hR:RwAt n lo live c bx cells) (hd0:ds ≠ []) (hn:cells.length = n * m) (hpos:0 < n) (hl:m + ds.length <= 4294967296) (hd:∀ e ∈ ds,e.length = n) (hx:ev tm x = .d c) (hy:ev tm y = .d (.sl t' ds))
  (h:∀ c' bx',RwAt n lo live c' bx' (cells ++ ds.flatten) -> (∀ q,q < lo -> bx'[q]? = bx[q]?) -> po E r K ⟨up d (.d c') tm,bx',nt,live⟩):po E (⟨some d,.app n x y,none,[.f k]⟩ :: r) K ⟨tm,bx,nt,live⟩:=by
 rcases hR.2 with ⟨t,rfl,h1,rfl⟩ | ⟨p,len,cap,z,rfl,h2,h3,h4,h5,h6⟩
 ·refine po_appN hx hy h1 hd0 (by omega) hd fun p' cap' bx' hA => ?_
  obtain ⟨a1,a2⟩:=RwAt.app (live:=live) hR.1 hR.1 (.inr ⟨rfl,rfl,rfl,rfl⟩) hd hd0 hA;rw [Nat.mul_zero,take_zero] at a1;exact h _ _ a1 a2
 ·have:n * len = n * m:=by rw [<- hn,h6,length_take,h4]; exact (Nat.min_eq_left (Nat.mul_le_mul_left _ h5)).symm
  have:len = m:=Nat.eq_of_mul_eq_mul_left hpos this
  refine po_appB hx hy h3 h4 hd0 (by omega) hd fun p' cap' bx' hA => ?_
  obtain ⟨a1,a2⟩:=RwAt.app (live:=live) h2 hR.1 (.inl ⟨h3,h4,h5⟩) hd hd0 hA;rw [<- h6] at a1;exact h _ _ a1 a2
end
theorem RwAt.set {n lo p len cap o:Nat} {live:List Nat} {z:List PC} {bx:LP PC} {v:PC} (hlo:lo <= bx.length) (hp:lo <= p) (hz:bx[p]? = some z) (hl:z.length = n * cap) (hlc:len <= cap) (ho:o < n * len) :
  RwAt n lo live (.row p len cap) (bx.set p (spl z o [v])) ((z.take (n * len)).set o v):=by
 have hplt:p < bx.length:=by
  rcases Nat.lt_or_ge p bx.length with h' | h'
  ·exact h'
  ·rw [getElem?_eq_none h'] at hz; cases hz
 have hle:n * len <= n * cap:=Nat.mul_le_mul_left _ hlc;refine ⟨by rw [length_set]; exact hlo,.inr ⟨p,len,cap,_,rfl,hp,getElem?_set_self hplt,by rw [spl_len (by rw [length_singleton]; omega)]; exact hl,hlc,?_⟩⟩
 have:spl z o [v] = z.set o v:=by
  unfold spl;rw [length_singleton,set_eq_take_append_cons_drop,if_pos (by omega)]; simp
 rw [this,take_set]
end
section
def lgA:Nat:=6364136223846793005
def lgC:Nat:=1442695040888963407
def lgN (x:Nat):Nat:=lgA * x + lgC
def lgI:Nat -> Nat -> Nat
 | 0,x => x
 | n + 1,x => lgI n (lgN x)
theorem zeZ:∀ (a b x:Nat),lgI (a + b) x = lgI b (lgI a x)
 | 0,b,x => by rw [Nat.zero_add]; rfl
 | a + 1,b,x => by rw [Nat.add_right_comm]; show lgI (a + b) (lgN x) = lgI b (lgI a (lgN x)); exact zeZ a b _
theorem lg_pow:∀ k:Nat,∃ m c:Nat,∀ z,lgI (2 ^ k) z = z + 2 ^ k * (4 * (m * z) + (2 * c + 1))
 | 0 => ⟨1591034055961698251,721347520444481703,fun z => by show lgA * z + lgC = _; unfold lgA lgC; omega⟩
 | k + 1 => by
  obtain ⟨m,c,h⟩:=lg_pow k;refine ⟨m + 2 * (2 ^ k * (m * m)),c + 2 ^ k * m * (2 * c + 1),fun z => ?_⟩;rw [show (2:Nat) ^ (k + 1) = 2 ^ k + 2 ^ k by rw [Nat.pow_succ]; omega,zeZ,h,h];generalize 2 ^ k = q
  grind
theorem lg_flip (k z:Nat):lgI (2 ^ k) z % 2 ^ (k + 1) = (z + 2 ^ k) % 2 ^ (k + 1):=by
 obtain ⟨m,c,h⟩:=lg_pow k;rw [h,Nat.pow_succ]
 have:z + 2 ^ k * (4 * (m * z) + (2 * c + 1)) = z + 2 ^ k + 2 ^ k * 2 * (2 * (m * z) + c):=by generalize 2 ^ k = q; grind
 rw [this,Nat.add_mul_mod_self_left]
theorem lg_reach (x y:Nat):∀ k:Nat,∃ j,j < 2 ^ k /\ lgI j x % 2 ^ k = y % 2 ^ k
 | 0 => ⟨0,by decide,by rw [Nat.pow_zero,Nat.mod_one,Nat.mod_one]⟩
 | k + 1 => by
  obtain ⟨j,hj,h⟩:=lg_reach x y k;have e:(2:Nat) ^ (k + 1) = 2 ^ k + 2 ^ k:=by rw [Nat.pow_succ]; omega
  by_cases hh:lgI j x % 2 ^ (k + 1) = y % 2 ^ (k + 1)
  ·exact ⟨j,by omega,hh⟩
  ·refine ⟨j + 2 ^ k,by omega,?_⟩
   rw [zeZ,lg_flip];have hp:0 < 2 ^ k:=Nat.two_pow_pos k;have h1:=Nat.mod_pow_succ (x:=lgI j x) (b:=2) (k:=k);have h2:=Nat.mod_pow_succ (x:=y) (b:=2) (k:=k);have b1:lgI j x / 2 ^ k % 2 < 2:=Nat.mod_lt _ (by decide);have b2:y / 2 ^ k % 2 < 2:=Nat.mod_lt _ (by decide);rw [h] at h1;rw [h1,h2] at hh;rw [Nat.add_mod,h1,Nat.mod_eq_of_lt (a:=2 ^ k) (by omega),h2];have hlt:y % 2 ^ k < 2 ^ k:=Nat.mod_lt _ hp;generalize y % 2 ^ k = r at *;generalize lgI j x / 2 ^ k % 2 = u at *;generalize y / 2 ^ k % 2 = v at *;generalize 2 ^ k = q at *;rw [e];have hu:u = 0 \/ u = 1:=by omega
   have hv:v = 0 \/ v = 1:=by omega
   rcases hu with rfl | rfl <;> rcases hv with rfl | rfl <;> simp only [Nat.mul_one,Nat.mul_zero,Nat.add_zero] at hh ⊢
   ·exact absurd trivial hh
   ·rw [Nat.mod_eq_of_lt (by omega)]
   ·rw [show r + q + q = r + (q + q) by omega,Nat.add_mod_right,Nat.mod_eq_of_lt (by omega)]
   ·exact absurd trivial hh
end
end Go.Proofs.YtanjncmokckjiaaGreatDoor
