/- Part 5 of a proof: PvH4, PvRow, ReadHead3, PutHead, ReadFrame, Dec, PvI5, PvI2, PvI3, PvBl, BuildC, PvBld, PvH2, PvH3, PvI4, PvH5, PvH6, PvGotU, PvH7, PvH8, PvI6, PvI7, StLM, TabsLow, PvTop, Laid, Tabs, Ten -/
import Derived.Test.YtanlnhkagepniaaGreatDoorSb4
import Derived.Deep.RegionHeld3
import Derived.Lib.AppendIntMem
import Derived.Lib.LaidTab
import Derived.WalkSmall
import Derived.OwnWalk
import Derived.Test.YtanlnhkagepniaaGreatDoorRows
import Derived.IntWalk
import Derived.Deep.RegionWith
import Derived.Deep.DeepMust
import Derived.Lib.Builder
import Derived.Lib.AppendStr
import Derived.Lib.UnsafeStr
import Derived.Laws.Externs
import Derived.Deep.LoopGhost
import Derived.Test.YtanlnhkagepniaaGreatDoorChecked
import Derived.KernelRfl
import GoSem.Claims
import Derived.ProofKit
import Derived.HandedShaped
import Derived.Shelf.Vars
import Derived.Lay
import Derived.LaidMore
import Derived.Stop.Joined
import Derived.Lib.LaidU8T
namespace Go.Proofs.YtanlnhkagepniaaGreatDoor
open Go.RowKit
/- PvH4 -/
section
variable {T:World -> Prop} {hT:Low ngl T}
attribute [local irreducible] po mw pt
theorem FnV.oldT {E:Env} {f:Nat} {args:List PV} {a b:Value} (ha:a.oneCell' = true) (hb1:b.oneCell' = true) (h:∀ (w:World) (C:Cx) (vs:List Value),(∀ b o,C.F b o -> b < w.heap.size) -> E.NG <= w.heap.size -> E.T w -> vs.length = args.length -> (∀ (j:Nat) (x:PV) (y:Value),args[j]? = some x -> vs[j]? = some y -> RpV C w x y) ->
  Calls E.P f vs.toArray w fun e w' => e = .returned (.tuple #[a,b]) /\ Below w.heap.size w w'):FnV E f args (.tup [.d (.v a),.d (.v b)]):=by
 intro C w vs hI hnt hold hl hv;refine (h w C vs hI.fin hI.ng hI.t hl hv).mono ?_;rintro e w' ⟨rfl,hb⟩;have hF:Fix C w w':=.of (fun b o hF => World.cell?_of_block (a:=⟨b,o,none⟩) (hb.block b (hI.fin b o hF))) hb.block
 refine ⟨_,.tup [.d (.v a),.d (.v b)],[],fun _ => False,C,rfl,rfl,⟨hI.nb,fun p cs hp => by simp at hp,fun p hp => by simp at hp,fun p hp => by simp at hp,fun p q hp => by simp at hp,fun t ht => ht.elim,fun t s b ht => ht.elim,fun b o h => Nat.lt_of_lt_of_le (hI.fin b o h) hb.size,Nat.le_trans hI.ng hb.size,E.low w w' hI.t hb.size (fun k hk => hb.block k (Nat.lt_of_lt_of_le hk hI.ng))⟩,
  ⟨hb.os,hb.tape,hb.output,hb.size,fun _ _ h => h,hF,fun k hk _ _ => hb.block k hk,⟨Nat.le_refl _,fun _ _ => rfl⟩,fun _ _ h => .inl h,fun t b ht => ht.elim,(fun p hp hp2 => by simp at hp2),⟨Nat.le_refl _,fun _ _ => ⟨rfl,rfl,rfl,rfl⟩⟩⟩,.tup _ [a,b] rfl ?_⟩
 intro j x y hx hy
 match j with
 | 0 => simp at hx hy; subst hx; subst hy; exact .d _ _ (.v a ha)
 | 1 => simp at hx hy; subst hx; subst hy; exact .d _ _ (.v b hb1)
 | j + 2 => simp at hx
theorem getwI_fn (s:List UInt8) (i k:Nat) (hk:1 <= k /\ k <= 8) (hi:i <= s.length) (hl:s.length <= 4611686018427387904):FnV (env T hT) 166 [.d (pS s),.d (pI i),.d (pI k)] (.tup [.d (pI (gwz s i k)),.d (pB (decide (i + k <= s.length)))]):=by
 have key:FnV (env T hT) 166 [.d (pS s),.d (pI i),.d (pI k)] (.tup [.d (.v (.int .i64 (gwz s i k))),.d (.v (.bool (decide (i + k <= s.length))))]):=by
  refine FnV.oldT rfl rfl fun w C vs hF _ _ hlen hv => ?_
  match vs,hlen with
  | [x,y,z],_ =>
   have h1:=pS_inv (hv 0 _ _ rfl rfl); have h2:=zbK (hv 1 _ _ rfl rfl); have h3:=zbK (hv 2 _ _ rfl rfl)
   subst h1; subst h2; subst h3
   refine (zfc s i k w hk hi (by omega)).mono ?_;rintro e w' ⟨rfl,hb⟩;refine ⟨?_,hb⟩;unfold gwz gwN;by_cases h:i + k <= s.length
   ·rw [if_pos h,if_pos h,decide_eq_true h]
   ·rw [if_neg h,if_neg h,decide_eq_false h]
 exact key
def uC (s:List UInt8) (at_ cnt:Nat) (bad:Bool):List PC:=[pS s,pI at_,pI cnt,pB bad]
theorem zcq (s:List UInt8) (a c:Nat) (b:Bool):lwL 0 (uC s a c b):=⟨trivial,trivial,trivial,trivial,trivial⟩
def WideR (s:List UInt8) (a k cnt:Nat) (bad:Bool) (nt:Nat) (live:List Nat) (x:PV) (c':List PC) (n:Nat) (l:List Nat):Prop:=n = nt /\ l = live /\ ((bad = false /\ a + k <= s.length /\ c' = uC s (a + k) cnt false /\ x = .d (pI (gwN s a k))) \/ ((bad = true \/ ¬ a + k <= s.length) /\ c' = uC s a cnt true /\ x = .d (pI 0)))
theorem zc8 (s:List UInt8) (a k cnt:Nat) (bad:Bool) (hk:1 <= k /\ k <= 8) (ha:a <= s.length) (hs:s.length <= 2147483647) (nt:Nat) (live:List Nat) :
  FnG (env T hT) 167 [.ref 0 0,.d (pI k)] [uC s a cnt bad] nt live (fun x b n l => ∃ c' rest,b = c' :: rest /\ x.lw 0 /\ lwL 0 c' /\ WideR s a k cnt bad nt live x c' n l):=by
 refine za1 (zag zfF) (by show 2 <= 40; decide) fun B hB => ?_
 unfold m_i_unpacker_wide;refine mP ?_;refine mO ?_;(iterate 9 refine mS ?_);refine zaf (args:=[.d (pS s),.d (pI a),.d (pI k)]) rfl (getwI_fn s a k hk ha (by omega)) ?_;refine mN ?_;refine zaa ?_;refine zaq (fun st => has st.tm [(0,.ref 0 0),(1,.d (pI k)),(5,.d (pI (gwz s a k))),(27,.d (pB (bad || !decide (a + k <= s.length))))] /\ st.bx = [uC s a cnt bad] /\ st.nt = nt /\ st.live = live) ?_ ?_
 ·refine zad ?_
  (iterate 5 refine mS ?_)
  cases bad with
  | true =>
   iterate 2 (refine zah rfl ?_)
   refine mN ?_
   exact ⟨⟨rfl,rfl,rfl,rfl,trivial⟩,rfl,rfl,rfl⟩
  | false =>
   refine mN ?_;exact ⟨⟨rfl,rfl,rfl,rfl,trivial⟩,rfl,rfl,rfl⟩
 rintro tm bx n1 l1 ⟨ht,rfl,rfl,rfl⟩;obtain ⟨tm0,rfl⟩:=zaj ht;refine zbw (t:=bad || !decide (a + k <= s.length)) rfl (fun hc => ?_) (fun hc => ?_)
 ·refine mO ?_
  (iterate 3 refine mS ?_);refine zap (p:=0) (o':=3) (cs:=[pB true]) (z:=uC s a cnt bad) rfl rfl rfl ⟨rfl,Nat.le_of_ble_eq_true rfl⟩ rfl ?_;refine zac ?_;refine mP ?_;refine zab ⟨.inr rfl,[.d (pI 0)],rfl,uC s a cnt true,_,rfl,trivial,zcq _ _ _ _,rfl,rfl,.inr ⟨?_,rfl,rfl⟩⟩;simp only [Bool.or_eq_true,Bool.not_eq_true',decide_eq_false_iff_not] at hc;exact hc
 ·simp only [Bool.or_eq_false_iff,Bool.not_eq_false',decide_eq_true_eq] at hc
  obtain ⟨rfl,hle⟩:=hc;refine zae ?_;refine mO ?_;(iterate 5 refine mS ?_);refine zau (n:=((a + k:Nat):Int)) rfl rfl rfl (by omega) (by omega) ?_;(iterate 2 refine mS ?_);refine zap (p:=0) (o':=1) (cs:=[pI ((a + k:Nat):Int)]) (z:=uC s a cnt false) rfl rfl rfl ⟨rfl,Nat.le_of_ble_eq_true rfl⟩ rfl ?_;refine zac ?_;refine mP ?_;exact zab ⟨.inr rfl,[.d (pI (gwz s a k))],rfl,uC s (a + k) cnt false,_,rfl,trivial,zcq _ _ _ _,rfl,rfl,.inl ⟨rfl,hle,rfl,by rw [zf9 hle]; rfl⟩⟩
def TextR (s:List UInt8) (a k cnt:Nat) (bad:Bool) (nt:Nat) (live:List Nat) (x:PV) (c':List PC) (n:Nat) (l:List Nat):Prop:=n = nt /\ l = live /\ ((bad = false /\ a + k <= s.length /\ c' = uC s (a + k) cnt false /\ x = .d (pS ((s.drop a).take k))) \/ ((bad = true \/ ¬ a + k <= s.length) /\ c' = uC s a cnt true /\ x = .d (pS [])))
theorem zjA (s:List UInt8) (a k cnt:Nat) (bad:Bool) (hk:k <= 65536) (ha:a <= s.length) (hs:s.length <= 2147483647) (nt:Nat) (live:List Nat) :
  FnG (env T hT) 169 [.ref 0 0,.d (pI k)] [uC s a cnt bad] nt live (fun x b n l => ∃ c' rest,b = c' :: rest /\ x.lw 0 /\ lwL 0 c' /\ TextR s a k cnt bad nt live x c' n l):=by
 refine za1 (zag zfH) (by show 2 <= 49; decide) fun B hB => ?_
 unfold m_i_unpacker_text;refine mP ?_;refine zaa ?_;refine zaq (fun st => has st.tm [(0,.ref 0 0),(1,.d (pI k)),(22,.d (pB (bad || !decide (a + k <= s.length))))] /\ st.bx = [uC s a cnt bad] /\ st.nt = nt /\ st.live = live) ?_ ?_
 ·refine zad ?_
  (iterate 5 refine mS ?_)
  cases bad with
  | true =>
   iterate 12 (refine zah rfl ?_)
   refine mN ?_
   exact ⟨⟨rfl,rfl,rfl,trivial⟩,rfl,rfl,rfl⟩
  | false =>
   (iterate 5 refine mS ?_);refine po_q (v:=.d (pI s.length)) rfl rfl ?_;(iterate 4 refine mS ?_);refine zaJ (n:=(s.length:Int) - a) rfl rfl rfl rfl (by omega) ?_;refine po_b rfl rfl (fun b hb => ?_);refine mN ?_
   have:(!decide (a + k <= s.length)) = b:=by
    rw [hb];by_cases h:a + k <= s.length
    ·rw [decide_eq_true h,decide_eq_false (by omega)]; rfl
    ·rw [decide_eq_false h,decide_eq_true (by omega)]; rfl
   exact ⟨⟨rfl,rfl,by rw [Bool.false_or,this]; rfl,trivial⟩,rfl,rfl,rfl⟩
 rintro tm bx n1 l1 ⟨ht,rfl,rfl,rfl⟩;obtain ⟨tm0,rfl⟩:=zaj ht;refine zbw (t:=bad || !decide (a + k <= s.length)) rfl (fun hc => ?_) (fun hc => ?_)
 ·refine mO ?_
  (iterate 3 refine mS ?_);refine zap (p:=0) (o':=3) (cs:=[pB true]) (z:=uC s a cnt bad) rfl rfl rfl ⟨rfl,Nat.le_of_ble_eq_true rfl⟩ rfl ?_;refine zac ?_;refine mP ?_;refine zab ⟨.inr rfl,[.d (pS [])],rfl,uC s a cnt true,_,rfl,trivial,zcq _ _ _ _,rfl,rfl,.inr ⟨?_,rfl,rfl⟩⟩;simp only [Bool.or_eq_true,Bool.not_eq_true',decide_eq_false_iff_not] at hc;exact hc
 ·simp only [Bool.or_eq_false_iff,Bool.not_eq_false',decide_eq_true_eq] at hc
  obtain ⟨rfl,hle⟩:=hc;refine zae ?_;refine mO ?_;(iterate 5 refine mS ?_);refine zau (n:=((a + k:Nat):Int)) rfl rfl rfl (by omega) (by omega) ?_;(iterate 2 refine mS ?_);refine zap (p:=0) (o':=1) (cs:=[pI ((a + k:Nat):Int)]) (z:=uC s a cnt false) rfl rfl rfl ⟨rfl,Nat.le_of_ble_eq_true rfl⟩ rfl ?_;refine zac ?_;refine mO ?_;(iterate 9 refine mS ?_);refine zaJ (n:=(a:Int)) rfl rfl rfl (by omega) (by omega) ?_;(iterate 4 refine mS ?_);refine zaU (a:=a) (b:=a + k) (rs:=(s.drop a).take k) rfl rfl (zax rfl rfl) (zax rfl rfl) (by omega) (by rw [Nat.add_sub_cancel_left]) ?_;refine mN ?_;exact zab ⟨.inr rfl,[.d (pS ((s.drop a).take k))],rfl,uC s (a + k) cnt false,_,rfl,trivial,zcq _ _ _ _,rfl,rfl,.inl ⟨rfl,hle,rfl,rfl⟩⟩
end
/- PvRow -/
section
def okB:PC -> Prop
 | .row _ _ _ => True
 | c => c.lw 0
theorem okB_of {c:PC} (h:c.lw 0):okB c:=by
 cases c with
 | row p l c => trivial
 | _ => exact h
open Classical in
noncomputable def PC.shB (k:Nat) (c:PC):PC:=if okB c then (match c with | .row p l c => .row (p + k) l c | c => c) else .anyp
theorem zff (k p l c:Nat):PC.shB k (.row p l c) = .row (p + k) l c:=if_pos trivial
theorem zbe {k:Nat} {c:PC} (h:c.lw 0):c.shB k = c:=by
 unfold PC.shB;rw [if_pos (okB_of h)]
 cases c with
 | row p l c => exact absurd h (Nat.not_lt_zero p)
 | _ => rfl
theorem shB_idL {k:Nat}:∀ {cs:List PC},lwL 0 cs -> cs.map (PC.shB k) = cs
 | [],_ => rfl
 | c :: cs,h => by rw [List.map_cons,zbe h.1,shB_idL h.2]
mutual
noncomputable def PV.shB (k:Nat):PV -> PV
 | .d c => .d (c.shB k)
 | .ag cs => .ag (cs.map (PC.shB k))
 | .tup vs => .tup (shBs k vs)
 | .ref p o => .ref (p + k) o
 | .pt cs => .pt (cs.map (PC.shB k))
 | .fn f vs => .fn f (shBs k vs)
 | .raw v => .raw v
noncomputable def shBs (k:Nat):List PV -> List PV
 | [] => []
 | v :: vs => PV.shB k v :: shBs k vs
end
theorem zgl (k:Nat):∀ vs:List PV,shBs k vs = vs.map (PV.shB k)
 | [] => rfl
 | v :: vs => by simp only [shBs,List.map_cons,zgl k vs]
section
variable {C:Cx} {w:World} {k n:Nat} {f:Nat -> Nat}
theorem rp_shB {c:PC} {v:Value} (h:RpC C w c v) (hf:∀ p,p < C.nb -> p + k < n /\ f (p + k) = C.bx p):RpC (C.reb n f) w (c.shB k) v:=by
 unfold PC.shB;by_cases ho:okB c
 ·rw [if_pos ho]
  cases c with
  | row p l c => cases h with
   | row _ _ _ h1 h2 h3 =>
    obtain ⟨a1,a2⟩:=hf p h1
    have:=RpC.row (C:=C.reb n f) (w:=w) (p + k) l c a1 h2 h3
    rw [show (C.reb n f).bx (p + k) = C.bx p from a2] at this; exact this
  | v x => exact RpC.reb (c:=.v x) h ho
  | sl t es => exact RpC.reb (c:=.sl t es) h ho
  | anyp => exact RpC.reb (c:=.anyp) h ho
  | bld p T t U => exact absurd ho (Nat.not_lt_zero p)
 ·rw [if_neg ho]; exact .anyp v h.one
theorem rpL_shB {cs:List PC} {vs:List Value} (h:RpL C w cs vs) (hf:∀ p,p < C.nb -> p + k < n /\ f (p + k) = C.bx p):RpL (C.reb n f) w (cs.map (PC.shB k)) vs:=by
 refine ⟨by rw [List.length_map]; exact h.1,fun j c y h1 h2 => ?_⟩;rw [List.getElem?_map] at h1
 cases hj:cs[j]? with
 | none => rw [hj] at h1; cases h1
 | some c0 =>
  rw [hj] at h1; simp only [Option.map_some,Option.some.injEq] at h1; subst h1
  exact rp_shB (h.2 j c0 y hj h2) hf
theorem rpV_shB {x:PV} {v:Value} (h:RpV C w x v) (hf:∀ p,p < C.nb -> p + k < n /\ f (p + k) = C.bx p):RpV (C.reb n f) w (x.shB k) v:=by
 have conv:∀ (xs:List PV) (vs:List Value),(∀ (j:Nat) (x:PV) (y:Value),xs[j]? = some x -> vs[j]? = some y -> RpV (C.reb n f) w (x.shB k) y) -> ∀ (j:Nat) (x:PV) (y:Value),(shBs k xs)[j]? = some x -> vs[j]? = some y -> RpV (C.reb n f) w x y:=by
  intro xs vs ih j x y h1 h2;rw [zgl,List.getElem?_map] at h1
  cases hj:xs[j]? with
  | none => rw [hj] at h1; cases h1
  | some c0 =>
   rw [hj] at h1; simp only [Option.map_some,Option.some.injEq] at h1; subst h1
   exact ih j c0 y hj h2
 induction h with
 | d x v h => exact .d _ v (rp_shB h hf)
 | ag cs vs h => exact .ag _ vs (rpL_shB h hf)
 | tup xs vs hl _ ih => exact .tup _ vs (by rw [zgl,List.length_map]; exact hl) (conv xs vs ih)
 | raw v => exact .raw v
 | ref p o h =>
  obtain ⟨a1,a2⟩:=hf p h
  have:=RpV.ref (C:=C.reb n f) (w:=w) (p + k) o a1
  rw [show (C.reb n f).bx (p + k) = C.bx p from a2] at this; exact this
 | pt cs b o u hc hF h =>
  refine .pt _ b o u (fun j hj => hc j (by simpa using hj)) (fun j hj => hF j (by simpa using hj)) fun j c hj => ?_
  rw [List.getElem?_map] at hj
  cases hh:cs[j]? with
  | none => rw [hh] at hj; cases hj
  | some c0 =>
   rw [hh] at hj; simp only [Option.map_some,Option.some.injEq] at hj; subst hj
   exact rp_shB (h j c0 hh) hf
 | fn f xs vs hl h ih => exact .fn f _ vs (by rw [zgl,List.length_map]; exact hl) (conv xs vs ih)
end
theorem FnG.liftR {E:Env} {f:Nat} {args:List PV} {nt:Nat} {live:List Nat} {R:PV -> List (List PC) -> Nat -> List Nat -> Prop}
  (h:FnG E f args [] nt live R) (ha:lwVs 0 args) {bx:List (List PC)} :
  FnG E f args bx nt live (fun x b n l => ∃ x0 b0,x = x0.shB bx.length /\ b = bx ++ b0.map (·.map (PC.shB bx.length)) /\ R x0 b0 n l):=by
 intro C w vs hI hnt hold hn2 hlen hv;have hnb:=hI.nb
 have hI1:Inv E.NG E.T (C.reb 0 fun _ => 0) [] (· ∈ live) w:=by
  refine ⟨rfl,fun q cs hq => by simp at hq,fun q hq => by simp at hq,fun q hq => by simp at hq,fun q r hq => by simp at hq,fun t ht => ?_,hI.tinj,hI.fin,hI.ng,hI.t⟩;obtain ⟨a1,a2,a3⟩:=hI.tok t ht;refine ⟨a1,a2,a3.imp id ?_⟩;rintro ⟨b,cur,e,c1,c2,c3,c4,c5,c6,c7,c8,c9,c10⟩;exact ⟨b,cur,e,c1,c2,c3,c4,c5,c6,c7,c8,c9,fun q hq => by simp at hq⟩
 have hv1:∀ (j:Nat) (x:PV) (y:Value),args[j]? = some x -> vs[j]? = some y -> RpV (C.reb 0 fun _ => 0) w x y:=fun j x y hx hy => (hv j x y hx hy).reb (zeW j x ha hx)
 refine (h (C.reb 0 fun _ => 0) w vs hI1 hnt hold hn2 hlen hv1).mono ?_;rintro e w' ⟨u,x,b,n,l,C1,rfl,k3,I1,hn,E1,hx⟩;have hn1:=I1.nb;obtain ⟨g,hg⟩:∃ g:Nat -> Nat,g = fun p => if p < bx.length then C.bx p else C1.bx (p - bx.length):=⟨_,rfl⟩
 have g0:∀ p,p < bx.length -> g p = C.bx p:=fun p hp => by rw [hg]; exact if_pos hp
 have g1:∀ p,g (p + bx.length) = C1.bx p:=fun p => by rw [hg]; show (if p + bx.length < bx.length then _ else _) = _; rw [if_neg (by omega),Nat.add_sub_cancel]
 have hle:CxLe C (C1.reb (bx.length + b.length) g):=⟨E1.F,by show C.nb <= bx.length + b.length; omega,fun p hp => g0 p (by omega),E1.tk.1,E1.tk.2⟩;have hF:Fix C w w':=E1.fix;have hsh:∀ p,p < C1.nb -> p + bx.length < bx.length + b.length /\ g (p + bx.length) = C1.bx p:=fun p hp => ⟨by omega,g1 p⟩
 have hnotok:∀ q,q < bx.length -> ∀ t,t ∈ live -> C.tk t ≠ some (C.bx q):=by
  intro q hq t ht he;obtain ⟨_,_,⟨z,_⟩ | ⟨b,cur,e,c1,c2,c3,c4,c5,c6,c7,c8,c9,c10⟩⟩:=hI.tok t ht
  ·rw [he] at z; cases z
  ·rw [he] at c1; simp only [Option.some.injEq] at c1; subst c1; exact c10 q hq rfl
 have hold2:∀ t,(C.reb 0 fun _ => 0).old t -> t ∈ live:=fun t ht => by
  have:C.old t:=ht
  rw [hold] at this; exact this
 have hnewB:∀ p,p < b.length -> w.heap.size <= C1.bx p:=fun p hp => E1.newB p (Nat.zero_le _) hp
 have split:∀ q,q < (bx ++ b.map (·.map (PC.shB bx.length))).length -> q < bx.length \/ ∃ p,p < b.length /\ q = p + bx.length:=fun q hq => by
  rw [List.length_append,List.length_map] at hq
  rcases Nat.lt_or_ge q bx.length with h' | h'
  ·exact .inl h'
  ·exact .inr ⟨q - bx.length,by omega,by omega⟩
 refine ⟨u,x.shB bx.length,bx ++ b.map (·.map (PC.shB bx.length)),n,l,C1.reb (bx.length + b.length) g,rfl,⟨x,b,rfl,rfl,k3⟩,?_,hn,?_,rpV_shB hx hsh⟩
 ·refine ⟨by rw [List.length_append,List.length_map]; rfl,fun q cs hq => ?_,fun q hq o hFo => ?_,fun q hq => ?_,fun p q hp hq he => ?_,fun t ht => ?_,I1.tinj,I1.fin,I1.ng,I1.t⟩
  ·have hlt:q < (bx ++ b.map (·.map (PC.shB bx.length))).length:=by
    rcases Nat.lt_or_ge q (bx ++ b.map (·.map (PC.shB bx.length))).length with h' | h'
    ·exact h'
    ·rw [List.getElem?_eq_none h'] at hq; cases hq
   rcases split q hlt with hql | ⟨p,hp,rfl⟩
   ·rw [List.getElem?_append_left hql] at hq
    obtain ⟨vs,e,h1,h2⟩:=hI.box q cs hq;refine ⟨vs,e,?_,h2.frame hle hF⟩;show w'.heap[g q]? = _;rw [g0 q hql];exact (E1.block (C.bx q) (za6 h1) (fun r hr => by simp [Cx.reb] at hr) (fun t ht he => hnotok q hql t (hold2 t ht) he)).trans h1
   ·rw [List.getElem?_append_right (by omega),Nat.add_sub_cancel,List.getElem?_map] at hq
    cases hb:b[p]? with
    | none => rw [hb] at hq; cases hq
    | some c0 =>
     rw [hb] at hq; simp only [Option.map_some,Option.some.injEq] at hq; subst hq
     obtain ⟨vs,e,h1,h2⟩:=I1.box p c0 hb;refine ⟨vs,e,?_,rpL_shB h2 hsh⟩;show w'.heap[g (p + bx.length)]? = _;rw [g1]; exact h1
  ·have hFo:C1.F (g q) o:=hFo
   rcases split q hq with hql | ⟨p,hp,rfl⟩
   ·rw [g0 q hql] at hFo
    rcases E1.newF (C.bx q) o hFo with h1 | h1 | ⟨s,h1,h2⟩
    ·exact hI.boxF q hql o h1
    ·have:=hI.lt hql; omega
    ·exact hnotok q hql s (hold2 s h1) h2
   ·rw [g1] at hFo; exact I1.boxF p hp o hFo
  ·show E.NG <= g q
   rcases split q hq with hql | ⟨p,hp,rfl⟩
   ·rw [g0 q hql]; exact hI.boxG q hql
   ·rw [g1]; exact I1.boxG p hp
  ·have he:g p = g q:=he
   rcases split p hp with hpl | ⟨p',hp',rfl⟩ <;> rcases split q hq with hql | ⟨q',hq',rfl⟩
   ·rw [g0 p hpl,g0 q hql] at he; exact hI.inj p q hpl hql he
   ·rw [g0 p hpl,g1] at he; have:=hI.lt hpl; have:=hnewB q' hq'; omega
   ·rw [g0 q hql,g1] at he; have:=hI.lt hql; have:=hnewB p' hp'; omega
   ·rw [g1,g1] at he; rw [I1.inj p' q' hp' hq' he]
  ·obtain ⟨a1,a2,a3⟩:=I1.tok t ht
   refine ⟨a1,a2,a3.imp id ?_⟩;rintro ⟨b',cur,e,c1,c2,c3,c4,c5,c6,c7,c8,c9,c10⟩;refine ⟨b',cur,e,c1,c2,c3,c4,c5,c6,c7,c8,c9,fun q hq he => ?_⟩;have he:g q = b':=he
   rcases split q hq with hql | ⟨p,hp,rfl⟩
   ·rw [g0 q hql] at he
    rcases E1.newT t b' ht c1 with h1 | ⟨s,h1,h2⟩
    ·have:=hI.lt hql; omega
    ·exact hnotok q hql s (hold2 s h1) (by rw [he]; exact h2)
   ·rw [g1] at he; exact c10 p hp he
 ·refine ⟨E1.os,E1.tape,E1.output,E1.size,E1.F,E1.fix,fun k hk hne ho => E1.block k hk (fun r hr => by simp [Cx.reb] at hr) ho,⟨hle.nb,hle.bx⟩,E1.newF,E1.newT,fun q hq hq2 => ?_,E1.tk⟩
  rcases split q hq2 with hql | ⟨p,hp,rfl⟩
  ·omega
  ·show w.heap.size <= g (p + bx.length)
   rw [g1]; exact hnewB p hp
def RwAt (n lo:Nat) (live:List Nat) (c:PC) (bx:List (List PC)) (cells:List PC):Prop :=
 lo <= bx.length /\ ((∃ t,c = .sl t [] /\ (t = 1 \/ t ∈ live) /\ cells = []) \/ ∃ p len cap z,c = .row p len cap /\ lo <= p /\ bx[p]? = some z /\ z.length = n * cap /\ len <= cap /\ cells = z.take (n * len))
theorem RwAt.row {n lo:Nat} {live:List Nat} {c:PC} {bx:List (List PC)} {cells:List PC} (h:RwAt n lo live c bx cells) (hne:cells ≠ []):∃ p len cap z,c = .row p len cap /\ lo <= p /\ bx[p]? = some z /\ z.length = n * cap /\ len <= cap /\ cells = z.take (n * len) /\ cells.length = n * len:=by
 rcases h.2 with ⟨t,_,_,h⟩ | ⟨p,len,cap,z,h1,h2,h3,h4,h5,h6⟩
 ·exact absurd h hne
 ·exact ⟨p,len,cap,z,h1,h2,h3,h4,h5,h6,by rw [h6,List.length_take,h4]; exact Nat.min_eq_left (Nat.mul_le_mul_left _ h5)⟩
theorem RwAt.mono {n lo:Nat} {live live':List Nat} {c:PC} {bx:List (List PC)} {cells:List PC} (h:RwAt n lo live c bx cells) (hl:∀ t ∈ live,t ∈ live'):RwAt n lo live' c bx cells :=
 ⟨h.1,h.2.imp (fun ⟨t,a,b,c⟩ => ⟨t,a,b.imp id (hl t),c⟩) id⟩
theorem RwAt.cong {n lo:Nat} {live:List Nat} {c:PC} {bx bx':List (List PC)} {cells:List PC} (h:RwAt n lo live c bx cells) (h1:bx.length <= bx'.length) (hb:∀ q,lo <= q -> q < bx.length -> bx'[q]? = bx[q]?):RwAt n lo live c bx' cells :=
 ⟨Nat.le_trans h.1 h1,h.2.imp id fun ⟨p,len,cap,z,a1,a2,a3,a4⟩ => ⟨p,len,cap,z,a1,a2,by
  rw [hb p a2 (by
   rcases Nat.lt_or_ge p bx.length with h' | h'
   ·exact h'
   ·rw [List.getElem?_eq_none h'] at a3; cases a3)]; exact a3,a4⟩⟩
theorem RwAt.shB {n lo k:Nat} {live:List Nat} {c:PC} {b bx:List (List PC)} {cells:List PC} (h:RwAt n lo live c b cells) (hl:lwL 0 cells) (hk:bx.length = k):RwAt n (lo + k) live (c.shB k) (bx ++ b.map (·.map (PC.shB k))) cells:=by
 refine ⟨by rw [List.length_append,List.length_map]; have:=h.1; omega,?_⟩
 rcases h.2 with ⟨t,rfl,h1,h2⟩ | ⟨p,len,cap,z,rfl,h2,h3,h4,h5,h6⟩
 ·exact .inl ⟨t,zbe (by show lwLL 0 []; trivial),h1,h2⟩
 ·refine .inr ⟨p + k,len,cap,z.map (PC.shB k),zff _ _ _ _,by omega,?_,by rw [List.length_map]; exact h4,h5,?_⟩
  ·rw [List.getElem?_append_right (by omega),hk,Nat.add_sub_cancel,List.getElem?_map,h3]; rfl
  ·rw [<- List.map_take,<- h6,shB_idL hl]
theorem RwAt.app {n lo len cap p p' cap':Nat} {live:List Nat} {z:List PC} {bx bx':List (List PC)} {ds:List (List PC)} (hp:lo <= p) (hlo:lo <= bx.length) (hz:bx[p]? = some z /\ z.length = n * cap /\ len <= cap \/ p = bx.length /\ z = [] /\ len = 0 /\ cap = 0) (hds:∀ e ∈ ds,e.length = n) (hd0:ds ≠ [])
  (h:AppB n len cap z ds p bx p' cap' bx'):RwAt n lo live (.row p' (len + ds.length) cap') bx' (z.take (n * len) ++ ds.flatten) /\ ∀ q,q < lo -> bx'[q]? = bx[q]?:=by
 have hfl:ds.flatten.length = n * ds.length:=zeS hds
 have hpos:0 < ds.length:=by
  rcases Nat.eq_zero_or_pos ds.length with h | h
  ·exact absurd (List.eq_nil_of_length_eq_zero h) hd0
  ·exact h
 have htk:(z.take (n * len)).length = n * len:=by
  rw [List.length_take]
  rcases hz with ⟨_,h1,h2⟩ | ⟨_,rfl,rfl,_⟩
  ·rw [h1]; exact Nat.min_eq_left (Nat.mul_le_mul_left _ h2)
  ·simp
 have hlen:(z.take (n * len) ++ ds.flatten).length = n * (len + ds.length):=by rw [List.length_append,htk,hfl,Nat.mul_add]
 rcases h with ⟨rfl,rfl,h3,rfl⟩ | ⟨rfl,h3,r,hr,rfl⟩
 ·rcases hz with ⟨h1,h2,h4⟩ | ⟨_,_,h5,h6⟩
  ·have hplt:p' < bx.length:=by
    rcases Nat.lt_or_ge p' bx.length with h' | h'
    ·exact h'
    ·rw [List.getElem?_eq_none h'] at h1; cases h1
   have hfit:n * len + n * ds.length <= z.length:=by rw [h2,<- Nat.mul_add]; exact Nat.mul_le_mul_left _ h3
   have hspl:spl z (n * len) ds.flatten = z.take (n * len) ++ ds.flatten ++ z.drop (n * len + ds.flatten.length):=rfl;refine ⟨⟨by rw [List.length_set]; exact hlo,.inr ⟨p',_,cap',spl z (n * len) ds.flatten,rfl,hp,List.getElem?_set_self hplt,by rw [spl_len (by rw [hfl]; exact hfit)]; exact h2,h3,?_⟩⟩,fun q hq => List.getElem?_set_ne (by omega)⟩;rw [hspl]; exact (List.take_left' hlen).symm
  ·omega
 ·refine ⟨⟨by rw [List.length_append]; omega,.inr ⟨bx.length,_,cap',_,rfl,hlo,zbf _ _,?_,h3,?_⟩⟩,fun q hq => List.getElem?_append_left (by omega)⟩
  ·rw [List.length_append,hlen,hr,<- Nat.mul_add]; congr 1; omega
  ·exact (List.take_left' hlen).symm
section
variable {E:Env} {K:St -> Prop} {tm:Nat -> PV} {bx:List (List PC)} {nt d:Nat} {live:List Nat} {r:List MOpr} {g:Option (Nat × Bool)} {cc:List X} {x y:X} {n lo:Nat} {c:PC} {cells:List PC} {lv:List Nat}
theorem zb0 {k:Nat} (hR:RwAt n lo lv c bx cells) (hn:cells.length = n * k) (hpos:0 < n) (hg:gd g tm = some true) (hx:ev tm x = .d c) (h:po E r K ⟨up d (.d (pI k)) tm,bx,nt,live⟩):po E (⟨some d,.len x,g,cc⟩ :: r) K ⟨tm,bx,nt,live⟩:=by
 refine po_q hg ?_ h
 rcases hR.2 with ⟨t,rfl,_,rfl⟩ | ⟨p,len,cap,z,rfl,h2,h3,h4,h5,h6⟩
 ·have:k = 0:=by
   rcases Nat.eq_zero_or_pos k with h | h
   ·exact h
   ·have:=Nat.mul_pos hpos h; simp at hn; omega
  subst this;simp only [qf,hx]; rfl
 ·have:n * len = n * k:=by rw [<- hn,h6,List.length_take,h4]; exact (Nat.min_eq_left (Nat.mul_le_mul_left _ h5)).symm
  have:len = k:=Nat.eq_of_mul_eq_mul_left hpos this
  subst this;simp only [qf,hx]; rfl
theorem zbU {kk:IntKind} {j:Int} {i:Nat} (hR:RwAt n lo lv c bx cells) (_hpos:0 < n) (hj:j = i) (hi:n * i < cells.length) (hg:gd g tm = some true) (hx:ev tm x = .d c) (hy:ev tm y = .d (.v (.int kk j)))
  (h:∀ p len cap z,c = .row p len cap -> lo <= p -> bx[p]? = some z -> z.length = n * cap -> len <= cap -> cells = z.take (n * len) -> i < len -> n * i + n <= z.length -> po E r K ⟨up d (.ref p (n * i)) tm,bx,nt,live⟩):po E (⟨some d,.ix n x y,g,cc⟩ :: r) K ⟨tm,bx,nt,live⟩:=by
 subst hj;obtain ⟨p,len,cap,z,e1,h2,h3,h4,h5,h6,h7⟩:=hR.row (fun h => by rw [h] at hi; simp at hi);have hil:i < len:=by rw [h7] at hi; exact Nat.lt_of_mul_lt_mul_left hi
 refine po_q hg ?_ (h p len cap z e1 h2 h3 h4 h5 h6 hil (by rw [h4,<- Nat.mul_succ]; exact Nat.mul_le_mul_left _ (by omega)));simp only [qf,hx,e1,hy];rw [if_pos ⟨by omega,by rw [Int.toNat_natCast]; exact hil⟩,Int.toNat_natCast]
theorem zdp {k t' m:Nat} {ds:List (List PC)} (hR:RwAt n lo live c bx cells) (hd0:ds ≠ []) (hn:cells.length = n * m) (hpos:0 < n) (hl:m + ds.length <= 4294967296) (hd:∀ e ∈ ds,e.length = n) (hx:ev tm x = .d c) (hy:ev tm y = .d (.sl t' ds))
  (h:∀ c' bx',RwAt n lo live c' bx' (cells ++ ds.flatten) -> (∀ q,q < lo -> bx'[q]? = bx[q]?) -> po E r K ⟨up d (.d c') tm,bx',nt,live⟩):po E (⟨some d,.app n x y,none,[.f k]⟩ :: r) K ⟨tm,bx,nt,live⟩:=by
 rcases hR.2 with ⟨t,rfl,h1,rfl⟩ | ⟨p,len,cap,z,rfl,h2,h3,h4,h5,h6⟩
 ·refine po_appN hx hy h1 hd0 (by omega) hd fun p' cap' bx' hA => ?_
  obtain ⟨a1,a2⟩:=RwAt.app (live:=live) hR.1 hR.1 (.inr ⟨rfl,rfl,rfl,rfl⟩) hd hd0 hA;rw [Nat.mul_zero,List.take_zero] at a1;exact h _ _ a1 a2
 ·have:n * len = n * m:=by rw [<- hn,h6,List.length_take,h4]; exact (Nat.min_eq_left (Nat.mul_le_mul_left _ h5)).symm
  have:len = m:=Nat.eq_of_mul_eq_mul_left hpos this
  refine po_appB hx hy h3 h4 hd0 (by omega) hd fun p' cap' bx' hA => ?_
  obtain ⟨a1,a2⟩:=RwAt.app (live:=live) h2 hR.1 (.inl ⟨h3,h4,h5⟩) hd hd0 hA;rw [<- h6] at a1;exact h _ _ a1 a2
end
theorem RwAt.set {n lo p len cap o:Nat} {live:List Nat} {z:List PC} {bx:List (List PC)} {v:PC} (hlo:lo <= bx.length) (hp:lo <= p) (hz:bx[p]? = some z) (hl:z.length = n * cap) (hlc:len <= cap) (ho:o < n * len) :
  RwAt n lo live (.row p len cap) (bx.set p (spl z o [v])) ((z.take (n * len)).set o v):=by
 have hplt:p < bx.length:=by
  rcases Nat.lt_or_ge p bx.length with h' | h'
  ·exact h'
  ·rw [List.getElem?_eq_none h'] at hz; cases hz
 have hle:n * len <= n * cap:=Nat.mul_le_mul_left _ hlc;refine ⟨by rw [List.length_set]; exact hlo,.inr ⟨p,len,cap,_,rfl,hp,List.getElem?_set_self hplt,by rw [spl_len (by rw [List.length_singleton]; omega)]; exact hl,hlc,?_⟩⟩
 have:spl z o [v] = z.set o v:=by
  unfold spl;rw [List.length_singleton,List.set_eq_take_append_cons_drop,if_pos (by omega)]; simp
 rw [this,List.take_set]
theorem zfg {b0:List PC} {bx rest:List (List PC)} (h:∀ q,q < 1 -> bx[q]? = (b0 :: rest)[q]?):∃ rest',bx = b0 :: rest':=by
 have:=h 0 (by omega)
 match bx,this with
 | b :: r,e => simp at e; subst e; exact ⟨r,rfl⟩
end
/- ReadHead3 -/
section
theorem u64_back {v:Nat} (h:v < 18446744073709551616):IntKind.u64.wrap (wrap64 (v:Nat)) = (v:Nat):=by
 have:IntKind.u64.wrap (wrap64 (v:Nat)) = wrap64 (v:Nat) % 18446744073709551616:=by simp [IntKind.wrap,IntKind.bits,IntKind.signed]
 rw [this]; unfold wrap64; omega
set_option maxHeartbeats 2000000 in
theorem zgR (l:List UInt8) (i:Int) (w:World) (hi:i64ok i) (hl:l.length <= 9223372036854775000) :
  Calls Tryz.prog 125 #[.string ⟨l.toArray⟩,.int .i64 i] w fun e w' => e = .returned (.tuple #[.int .i64 (hM (anyAt l i)),.int .u64 (hN (anyAt l i)),.int .i64 (hX (anyAt l i))]) /\ Below w.heap.size w w':=by
 by_cases h0:0 <= i /\ i <= (l.length:Int) - 1
 ·have hin:inR i 0 ((l.length:Int) - 1) = true:=zbi h0
  obtain ⟨j,rfl⟩:=Int.eq_ofNat_of_zero_le h0.1;have hj:j < l.length:=by omega
  have HR:=Lib.hid (show anyAt l (j:Nat) = anyHd l j by unfold anyAt; rw [if_neg (by omega)]; rfl);rw [HR.out];clear h0;have hb:=l[j].toNat_lt;have p1:(0:Int) <= j:=by omega
  have p2:(j:Int) < l.length:=by omega
  by_cases h24:l[j].toNat % 32 < 24
  ·have H:=Lib.hid (anyHd_lt hj h24)
   rw [H.out];generalize hq:l[j].toNat = q at *;have ha:=u8_and31 (x:=(q:Int)) (by omega) (by omega)
   go_enter Tryz.func125,Tryz.ntmps125
   go_wp2_with (go_at_call 126; refine (zbV _ _ _ _).mono ?_; rintro e w' ⟨rfl,rfl⟩)
   go_quiet (fail)
   go_wp2
   go_ret3
   exact ⟨by simp [hM,hN,hX],Go.below_drewN (Below.refl _ _) _⟩
  ·by_cases h27:27 < l[j].toNat % 32
   ·have H:=Lib.hid (anyHd_gt hj h27)
    rw [H.out];generalize hq:l[j].toNat = q at *;have ha:=u8_and31 (x:=(q:Int)) (by omega) (by omega)
    go_enter Tryz.func125,Tryz.ntmps125
    go_wp2_with (go_at_call 126; refine (zbV _ _ _ _).mono ?_; rintro e w' ⟨rfl,rfl⟩)
    go_quiet (fail)
    go_wp2
    go_ret3
    exact ⟨by simp [hM,hN,hX],Go.below_drewN (Below.refl _ _) _⟩
   ·obtain ⟨k,hk,hk3⟩:∃ k,l[j].toNat % 32 = 24 + k /\ k <= 3:=⟨l[j].toNat % 32 - 24,by omega,by omega⟩
    have hp:2 ^ k <= 8 /\ 1 <= 2 ^ k:=by
     have:k = 0 \/ k = 1 \/ k = 2 \/ k = 3:=by omega
     rcases this with rfl | rfl | rfl | rfl <;> decide
    obtain ⟨m,hm⟩:∃ m,m = 2 ^ k:=⟨_,rfl⟩
    have hw1:wrap64 (2 ^ k) = (m:Int):=by
     rw [hm]
     have:k = 0 \/ k = 1 \/ k = 2 \/ k = 3:=by omega
     rcases this with rfl | rfl | rfl | rfl <;> (unfold wrap64; decide)
    have hk2:l[j].toNat % 32 - 24 = k:=by omega
    rw [<- hm] at hp;obtain ⟨hp1,hp2⟩:=hp;by_cases hs:j + 1 + m <= l.length
    ·have H:=Lib.hid (zhp hj hk hk3 (by rw [<- hm]; exact hs))
     rw [H.out,<- hm];have HM:=Lib.hid hm;clear hm;generalize hq:l[j].toNat = q at *;have ha:=u8_and31 (x:=(q:Int)) (by omega) (by omega)
     go_enter Tryz.func125,Tryz.ntmps125
     go_wp2_with (go_at_call 126; refine (zbV _ _ _ _).mono ?_; rintro e w' ⟨rfl,rfl⟩)
     go_quiet (fail)
     have HW:=Lib.hid hw1;have HK2:=Lib.hid hk2;clear hw1 hk2
     go_wp2_with fail
     simp only [HK2.out,HW.out];rw [show ((j:Int) + 1) = ((j + 1:Nat):Int) from by omega];refine (zfc l (j + 1) m _ ⟨hp2,hp1⟩ (by omega) hl).mono ?_;rw [if_pos hs];rintro e w2 ⟨rfl,hb2⟩;have hv64:valBE ((l.drop (j + 1)).take m) < 18446744073709551616:=Nat.lt_of_lt_of_le (zfy _) (Nat.le_trans (Nat.pow_le_pow_right (by decide) (show _ <= 8 by rw [List.length_take]; omega)) (by decide));have HV:=Lib.hid hv64;clear hv64;go_wp2
     go_ret3
     refine ⟨?_,zaW (Go.below_drewN (Below.refl _ _) _) hb2 (Nat.le_refl _)⟩;simp [hM,hN,hX];exact u64_back HV.out
    ·have H:=Lib.hid (zgN hj hk hk3 (by rw [<- hm]; omega))
     rw [H.out];have HM:=Lib.hid hm;clear hm;generalize hq:l[j].toNat = q at *;have ha:=u8_and31 (x:=(q:Int)) (by omega) (by omega)
     go_enter Tryz.func125,Tryz.ntmps125
     go_wp2_with (go_at_call 126; refine (zbV _ _ _ _).mono ?_; rintro e w' ⟨rfl,rfl⟩)
     go_quiet (fail)
     have HW:=Lib.hid hw1;have HK2:=Lib.hid hk2;clear hw1 hk2
     go_wp2_with fail
     simp only [HK2.out,HW.out];rw [show ((j:Int) + 1) = ((j + 1:Nat):Int) from by omega];refine (zfc l (j + 1) m _ ⟨hp2,hp1⟩ (by omega) hl).mono ?_;rw [if_neg hs];rintro e w2 ⟨rfl,hb2⟩;go_wp2
     go_ret3
     exact ⟨by simp [hM,hN,hX],zaW (Go.below_drewN (Below.refl _ _) _) hb2 (Nat.le_refl _)⟩
 ·have hin:inR i 0 ((l.length:Int) - 1) = false:=zcS h0
  have H:=Lib.hid (show anyAt l i = none by
   unfold anyAt; split
   ·rfl
   ·unfold anyHd; rw [List.getElem?_eq_none (by omega)])
  rw [H.out]
  go_enter Tryz.func125,Tryz.ntmps125
  go_wp2_with (go_at_call 126; refine (zbV _ _ _ _).mono ?_; rintro e w' ⟨rfl,rfl⟩)
  go_ret3
  exact ⟨rfl,Below.refl _ _⟩
theorem zfI (a b x:Nat):((a:Int) != (x:Int) - (b:Int)) = !decide (b + a = x):=by
 rw [Bool.eq_iff_iff]; simp; omega
set_option maxHeartbeats 800000 in
theorem zd9 (l:List UInt8) (i:Int) (w:World) (hi:i64ok i) (hl:l.length <= 9223372036854775000) :
  Calls Tryz.prog 124 #[.string ⟨l.toArray⟩,.int .i64 i] w fun e w' => e = .returned (.tuple #[.int .i64 (hM (getAt l i)),.int .u64 (hN (getAt l i)),.int .i64 (hX (getAt l i))]) /\ Below w.heap.size w w':=by
 have hg:=ziD l i
 cases ha:anyAt l i with
 | none =>
  rw [ha] at hg;have HG:=Lib.hid hg;rw [HG.out]
  go_enter Tryz.func124,Tryz.ntmps124
  go_wp2_with (go_at_call 125; refine (zgR l i _ hi hl).mono ?_; rw [ha]; simp only [hM,hN,hX]; rintro e w1 ⟨rfl,hb1⟩)
  go_ret3
  exact ⟨rfl,hb1⟩
 | some r =>
  obtain ⟨m,n,x⟩:=r;rw [ha] at hg;simp only at hg;have hi0:¬ i < 0:=by intro h; unfold anyAt at ha; rw [if_pos h] at ha; cases ha
  have haa:anyHd l i.toNat = some (m,n,x):=by unfold anyAt at ha; rw [if_neg hi0] at ha; exact ha
  obtain ⟨h1,h2,h3,h4,h5,_,h7⟩:=zfQ haa;obtain ⟨j,rfl⟩:=Int.eq_ofNat_of_zero_le (show 0 <= i by omega);simp only [Int.toNat_natCast] at *;have p1:(0:Int) <= x:=by omega
  have p2:(j:Int) <= x:=by omega
  have p3:(x:Int) <= l.length:=by omega
  have HA:=Lib.hid ha;have HG:=Lib.hid hg;have hhl:=(zcm m n).1;clear ha haa hi0 hg h7;have pd:decide ((x:Int) < 0) = false:=by simp
  have q1:(0:Int) <= m /\ (m:Int) <= 7:=by omega
  have q2:(0:Int) <= n /\ (n:Int) <= 18446744073709551615:=by omega
  go_enter Tryz.func124,Tryz.ntmps124
  go_wp2_with (first | (go_at_call 125; refine (zgR l j _ hi hl).mono ?_; rw [HA.out]; simp only [hM,hN,hX]; rintro e w1 ⟨rfl,hb1⟩) | (go_at_call 132; refine (zeC _ _ _ q1 q2).mono ?_; rintro e w2 ⟨rfl,hb2⟩))
  ·have hne:(((hd m n).length:Int) != (x:Int) - (j:Int)) = true:=by assumption
   have hne':¬ (j + (hd m n).length = x):=by rw [zfI] at hne; simpa using hne
   have hg:=HG.out;rw [if_neg hne'] at hg
   go_ret3
   exact ⟨by rw [hg]; rfl,zaW hb1 hb2 (Nat.le_refl _)⟩
  ·have hne:(((hd m n).length:Int) != (x:Int) - (j:Int)) = false:=by assumption
   have hne':j + (hd m n).length = x:=by rw [zfI] at hne; simpa using hne
   have hg:=HG.out;rw [if_pos hne'] at hg
   go_ret3
   exact ⟨by rw [hg]; rfl,zaW hb1 hb2 (Nat.le_refl _)⟩
end
/- PutHead -/
section
end
/- ReadFrame -/
section
theorem zhs {l:List UInt8} {i:Int} {m n x:Nat} (h:getAt l i = some (m,n,x)):∃ j:Nat,i = j /\ j < x /\ x <= l.length /\ m <= 7 /\ n < 18446744073709551616 /\ hd m n = (l.drop j).take (x - j):=by
 unfold getAt at h
 split at h
 ·cases h
 ·obtain ⟨h1,h2,h3,h4,h5,h6⟩:=zb1 h
  exact ⟨i.toNat,by omega,h2,h3,h4,h5,h6⟩
theorem zht {l:List UInt8} {i:Int} (h:getAt l i = none):getFr l i = none:=by unfold getFr; rw [h]
theorem getFr_of {l:List UInt8} {i:Int} {m n x:Nat} (h:getAt l i = some (m,n,x)):getFr l i =
  if m = 2 /\ n <= 100000 /\ x + n + 4 <= l.length /\ (l.drop (x + n)).take 4 = be 4 (crc ((l.drop x).take n)) then some ((l.drop x).take n,x + n + 4) else none:=by unfold getFr; rw [h]
set_option maxHeartbeats 800000 in
theorem zcO (l:List UInt8) (i:Int) (w:World) (hi:i64ok i) (hl:l.length <= 9223372036854775000) :
  Calls Tryz.prog 203 #[.string ⟨l.toArray⟩,.int .i64 i] w fun e w' => e = .returned (.tuple #[.string ⟨(fC (getFr l i)).toArray⟩,.int .i64 (fX (getFr l i))]) /\ Below w.heap.size w w':=by
 cases hg:getAt l i with
 | none =>
  have HF:=Lib.hid (zht hg);rw [HF.out]
  go_enter Tryz.func203,Tryz.ntmps203
  go_wp2_with (go_at_call 124; refine (zd9 l i _ hi hl).mono ?_; rw [hg]; simp only [hM,hN,hX]; rintro e w1 ⟨rfl,hb1⟩)
  go_ret2
  exact ⟨rfl,hb1⟩
 | some r =>
  obtain ⟨m,n,x⟩:=r;obtain ⟨j,rfl,h2,h3,h4,h5,_⟩:=zhs hg;have HF:=Lib.hid (getFr_of hg);have HA:=Lib.hid hg;clear hg;by_cases hc:m = 2 /\ n <= 100000 /\ x + n + 4 <= l.length
  ·obtain ⟨rfl,hc2,hc3⟩:=hc
   have q0:(0:Int) <= x:=by omega
   have q1:(x:Int) + ↑n <= l.length:=by omega
   have q2:(x:Int) + ↑n + 4 <= l.length:=by omega
   have q3:(x:Int) <= x + ↑n:=by omega
   have hcl:=crc_lt ((l.drop x).take n);have hct:((l.drop x).take n).length <= maxLen:=by rw [List.length_take]; unfold maxLen; omega
   have HC:=Lib.hid hct;clear hct
   go_enter Tryz.func203,Tryz.ntmps203
   go_wp2_with (first | (go_at_call 124; refine (zd9 l j _ hi hl).mono ?_; rw [HA.out]; simp only [hM,hN,hX]; rintro e w1 ⟨rfl,hb1⟩))
   have hB:=hb1;have q5:(0:Int) <= (crc ((l.drop x).take n):Nat) /\ ((crc ((l.drop x).take n):Nat):Int) <= 4294967295:=by omega
   have Q5:=Lib.hid q5;clear q5 hcl;have z1:IntKind.i64.wrap ((x:Int) + n + 4) = (x:Int) + n + 4:=IntWalk.i64_in _ (by omega);have z2:(0:Int) <= (x:Int) + n + 4:=by omega
   have z3:(0:Int) <= (x:Int) + n:=by omega
   have z4:(x:Int) + n <= (x:Int) + n + 4:=by omega
   have z5:((x:Int) + n + 4).toNat = x + n + 4:=by omega
   have z6:((x:Int) + n).toNat = x + n:=by omega
   go_region_held3 (fun W => Below w.heap.size w W) (first | exact hB | exact hB.drew)
    (first | (go_at_call 157; refine (crc_impl _ _ HC.out).mono ?_; rintro e w2 ⟨rfl,rfl⟩) | (go_at_call 156; refine (zf7 _ _ Q5.out).mono ?_; rintro e w2 ⟨rfl,hb2⟩; replace hB:=zaW (by first | exact hB | exact hB.drew) hb2 (Nat.le_refl _)))
   go_wp2
   ·have he:(be 4 (crc ((l.drop x).take n)) == List.take 4 (List.drop (x + n) l)) = true:=by assumption
    have hF:=HF.out;rw [if_pos ⟨by trivial,hc2,hc3,by simpa using (by simpa using he:be 4 (crc ((l.drop x).take n)) = _).symm⟩] at hF
    go_ret2
    exact ⟨by rw [hF]; simp [fC,fX],hB⟩
   ·have he:(be 4 (crc ((l.drop x).take n)) == List.take 4 (List.drop (x + n) l)) = false:=by assumption
    have hF:=HF.out;rw [if_neg (fun e => by rw [e.2.2.2] at he; simp at he)] at hF
    go_ret2
    exact ⟨by rw [hF]; rfl,hB⟩
  ·have hF:getFr l j = none:=by rw [HF.out,if_neg (fun e => hc ⟨e.1,e.2.1,e.2.2.1⟩)]
   rw [hF];clear hF
   go_enter Tryz.func203,Tryz.ntmps203
   go_wp2_with (go_at_call 124; refine (zd9 l j _ hi hl).mono ?_; rw [HA.out]; simp only [hM,hN,hX]; rintro e w1 ⟨rfl,hb1⟩)
   all_goals
    go_ret2
    exact ⟨rfl,hb1⟩
theorem frame_eq {l:List UInt8} {j n x:Nat} (hj:j < x) (hn:n <= 100000) (hx:x + n + 4 <= l.length) (hh:hd 2 n = (l.drop j).take (x - j)) :
  frame ((l.drop x).take n) = (l.drop j).take (x + n + 4 - j) ↔ (l.drop (x + n)).take 4 = be 4 (crc ((l.drop x).take n)):=by
 have hl:((l.drop x).take n).length = n:=by rw [List.length_take,List.length_drop]; omega
 have hs:(l.drop j).take (x + n + 4 - j) = (l.drop j).take (x - j) ++ ((l.drop x).take n ++ (l.drop (x + n)).take 4):=by
  rw [show x + n + 4 - j = (x - j) + (n + 4) by omega,List.take_add,List.drop_drop,show j + (x - j) = x by omega,List.take_add,List.drop_drop]
 unfold frame;rw [hl,if_pos hn,hs,<- hh,List.append_assoc,List.append_cancel_left_eq,List.append_cancel_left_eq];exact eq_comm
set_option maxHeartbeats 800000 in
theorem zcP (l:List UInt8) (i:Int) (w:World) (hi:i64ok i) (hl:l.length <= 9223372036854775000) :
  Calls Tryz.prog 151 #[.string ⟨l.toArray⟩,.int .i64 i] w fun e w' => e = .returned (.tuple #[.string ⟨(fC (getFr l i)).toArray⟩,.int .i64 (fX (getFr l i))]) /\ Below w.heap.size w w':=by
 cases hg:getAt l i with
 | none =>
  have HF:=Lib.hid (zht hg);rw [HF.out]
  go_enter Tryz.func151,Tryz.ntmps151
  go_wp2_with (go_at_call 118; refine (zd7 l i _ hi hl).mono ?_; rw [hg]; simp only [hM,hN,hX]; rintro e w1 ⟨rfl,hb1⟩)
  go_ret2
  exact ⟨rfl,hb1⟩
 | some r =>
  obtain ⟨m,n,x⟩:=r;obtain ⟨j,rfl,h2,h3,h4,h5,h6⟩:=zhs hg;have HF:=Lib.hid (getFr_of hg);have HA:=Lib.hid hg;clear hg;by_cases hc:m = 2 /\ n <= 100000 /\ x + n + 4 <= l.length
  ·obtain ⟨rfl,hc2,hc3⟩:=hc
   have HE:=Lib.hid (frame_eq h2 hc2 hc3 h6);clear h6;have q0:(0:Int) <= x:=by omega
   have q00:(0:Int) <= j:=by omega
   have q1:(x:Int) + ↑n <= l.length:=by omega
   have q2:(x:Int) + ↑n + 4 <= l.length:=by omega
   have q3:(x:Int) <= x + ↑n:=by omega
   have HT:=Lib.hid (show ((l.drop x).take n).length <= 9223372036854775807 by rw [List.length_take]; omega)
   go_enter Tryz.func151,Tryz.ntmps151
   go_wp2_with (first | (go_at_call 118; refine (zd7 l j _ hi hl).mono ?_; rw [HA.out]; simp only [hM,hN,hX]; rintro e w1 ⟨rfl,hb1⟩))
   have hB:=hb1;have z1:IntKind.i64.wrap ((x:Int) + n + 4) = (x:Int) + n + 4:=IntWalk.i64_in _ (by omega);have z2:(0:Int) <= (x:Int) + n + 4:=by omega
   have z3:(0:Int) <= (x:Int) + n:=by omega
   have z4:(j:Int) <= (x:Int) + n + 4:=by omega
   have z5:((x:Int) + n + 4).toNat = x + n + 4:=by omega
   have z6:((x:Int) + n).toNat = x + n:=by omega
   go_region_held3 (fun W => Below w.heap.size w W) (first | exact hB | exact hB.drew)
    (first | (go_at_call 108; refine (zfv _ _ HT.out).mono ?_; rintro e w2 ⟨rfl,hb2⟩; replace hB:=zaW (by first | exact hB | exact hB.drew) hb2 (Nat.le_refl _)))
   go_wp2
   ·have he:(!frame ((l.drop x).take n) == (l.drop j).take (x + n + 4 - j)) = true:=by assumption
    have hF:=HF.out;rw [if_neg (fun e => by have h:=HE.out.2 e.2.2.2; rw [h] at he; simp at he)] at hF
    go_ret2
    exact ⟨by rw [hF]; rfl,hB⟩
   ·have he:(!frame ((l.drop x).take n) == (l.drop j).take (x + n + 4 - j)) = false:=by assumption
    have hF:=HF.out;rw [if_pos ⟨by trivial,hc2,hc3,HE.out.1 (by simpa using he)⟩] at hF
    go_ret2
    exact ⟨by rw [hF]; simp [fC,fX],hB⟩
  ·have hF:getFr l j = none:=by rw [HF.out,if_neg (fun e => hc ⟨e.1,e.2.1,e.2.2.1⟩)]
   rw [hF];clear hF h6
   go_enter Tryz.func151,Tryz.ntmps151
   go_wp2_with (go_at_call 118; refine (zd7 l j _ hi hl).mono ?_; rw [HA.out]; simp only [hM,hN,hX]; rintro e w1 ⟨rfl,hb1⟩)
   all_goals
    go_ret2
    exact ⟨rfl,hb1⟩
end
/- Dec -/
section
set_option maxHeartbeats 800000 in
set_option maxRecDepth 10000 in
theorem zcZ (n:Int) (w:World) (hn:i64ok n) :
  Calls Tryz.prog 109 #[.int .i64 n] w fun e w' => e = .returned (.string ⟨(Lib.itoa n).toArray⟩) /\ Below w.heap.size w w':=by
 obtain ⟨h1,h2⟩:=hn;by_cases h0:n = 0
 ·subst h0
  have HZ:=Lib.hid (show Lib.itoa 0 = [48] by rw [show (0:Int) = ((0:Nat):Int) from rfl,Lib.itoa_nonneg,Lib.decDigits_one (by decide)]; rfl)
  go_enter Tryz.func109,Tryz.ntmps109
  go_wp2;go_ret;exact ⟨zdC HZ.out.symm,Below.refl _ _⟩
 have g0:(n == 0) = false:=by simpa using h0
 obtain ⟨res,hres⟩:∃ res,Lib.decDigits n.natAbs = res:=⟨_,rfl⟩;have hrl:res.length <= 20:=by rw [<- hres]; exact zgQ (by omega)
 go_enter Tryz.func109,Tryz.ntmps109
 go_wp2
 go_loopw [3,4,5] (fun o m d wr => ∃ (l:List UInt8) (q:Int),o = .string ⟨l.toArray⟩ /\ m = .int .i64 q /\ -9223372036854775808 <= q /\ q <= 9223372036854775807 /\ decOn q.natAbs l = res /\ (0 <= n -> 0 <= q) /\ (n <= 0 -> q <= 0) /\ wr = w) (fun _ m _ _ => (intOf m).natAbs)
 case atStart => exact ⟨[],n,rfl,rfl,h1,h2,by unfold decOn; rw [if_neg (by omega),hres]; simp,fun h => h,fun h => h,rfl⟩
 case round =>
  obtain ⟨l,q,rfl,rfl,hq1,hq2,hd,hs1,hs2,rfl⟩:=hrel;have HD:=Lib.hid hd;by_cases hq:q = 0
  ·subst hq
   have hl:l = res:=by rw [<- hd]; rfl
   subst hl;clear hd;by_cases hneg:n < 0
   ·have HR:=Lib.hid (show Lib.itoa n = 45 :: l by unfold Lib.itoa; rw [if_pos hneg]; exact congrArg _ hres)
    go_wp2;go_ret;exact ⟨by rw [HR.out]; rfl,Below.refl _ _⟩
   ·have HR:=Lib.hid (show Lib.itoa n = l by unfold Lib.itoa; rw [if_neg hneg,show n.toNat = n.natAbs by omega]; exact hres)
    go_wp2;go_ret;exact ⟨by rw [HR.out]; rfl,Below.refl _ _⟩
  ·have gq:(q != 0) = true:=by simpa using hq
   have hu:q.natAbs ≠ 0:=by omega
   have ll:l.length <= 20:=by
    have:=congrArg List.length hd; unfold decOn at this; rw [if_neg hu,List.length_append] at this; omega
   have st:=decOn_step hu l;rw [hd] at st;clear hd;have ta:=tdivAbs q;have tm:=tmodAbs q;have hb1:-9223372036854775808 <= Int.tdiv q 10:=by omega
   have hb2:Int.tdiv q 10 <= 9223372036854775807:=by omega
   obtain ⟨r,hr⟩:∃ r,Int.tmod q 10 = r:=⟨_,rfl⟩;obtain ⟨t,ht⟩:∃ t,Int.tdiv q 10 = t:=⟨_,rfl⟩;have hz1:0 <= q -> 0 <= t:=fun h => by rw [<- ht]; exact Int.tdiv_nonneg h (by decide)
   have hz2:q <= 0 -> t <= 0:=fun h => by rw [<- ht]; (have hh:=Int.tdiv_nonneg (a:=-q) (b:=10) (by omega) (by decide); rw [Int.neg_tdiv] at hh; omega)
   rw [hr] at tm;rw [ht] at ta hb1 hb2;have hd10:r.natAbs < 10:=by omega
   have P:=digs_at hd10;rw [<- ta,<- tm] at st;have HST:=Lib.hid st;have hmeas:t.natAbs < q.natAbs:=by omega
   clear st tm ta;by_cases hr0:r < 0
   ·obtain ⟨d,rfl⟩:∃ d:Nat,r = -(d:Int):=⟨r.natAbs,by omega⟩
    have e1:(-(d:Int)).natAbs = d:=by omega
    rw [e1] at P hd10 HST;have i1:(0:Int) <= d:=by omega
    have i2:(d:Int) + 1 <= 10:=by omega
    go_wp2;go_roundw
    case rel => exact ⟨_,t,rfl,rfl,hb1,hb2,by simpa using HST.out,fun h => hz1 (hs1 h),fun h => hz2 (hs2 h),by first | rfl | trivial⟩
    case measure => simp only [intOf]; exact hmeas
   ·obtain ⟨d,rfl⟩:∃ d:Nat,r = (d:Int):=⟨r.natAbs,by omega⟩
    have e1:((d:Int)).natAbs = d:=by omega
    rw [e1] at P hd10 HST;have i1:(0:Int) <= d:=by omega
    have i2:(d:Int) + 1 <= 10:=by omega
    go_wp2;go_roundw
    case rel => exact ⟨_,t,rfl,rfl,hb1,hb2,by simpa using HST.out,fun h => hz1 (hs1 h),fun h => hz2 (hs2 h),by first | rfl | trivial⟩
    case measure => simp only [intOf]; exact hmeas
def TenTab (w : World) : Prop := Lib.TabIs Tryz.prog w "internal/strconv.uint64pow10" .u64 Lib.pow10Tab
theorem tenG : Tryz.prog.globalNamed "internal/strconv.uint64pow10" = some 2 := by kernel_rfl
theorem TenTab.lt {w:World} (h:TenTab w):2 < w.heap.size:=zhF (Lib.TabIs.cell h tenG 0 (by decide))
theorem TenTab.below' {B:Nat} {w w':World} (h:TenTab w) (hb:Below B w w') (hB:2 < B):TenTab w':=var?_below hb tenG hB h
theorem TenTab.below {w w':World} (h:TenTab w) (hb:Below w.heap.size w w'):TenTab w':=h.below' hb h.lt
set_option maxHeartbeats 400000 in
theorem ziP (n:Int) (w:World) (hn:i64ok n) (hT:TenTab w) :
  Calls Tryz.prog 112 #[.int .i64 n] w fun e w' => e = .returned (.string ⟨(Lib.itoa n).toArray⟩) /\ Below w.heap.size w w':=by
 have H:=Lib.hid (Tryz.strconv_Itoa n hn.1 hn.2 w hT)
 go_enter Tryz.func112,Tryz.ntmps112
 go_wp2_with (go_at_call 158; refine H.out.mono ?_; rintro e w' ⟨rfl,k,os,rfl⟩)
 go_ret;exact ⟨rfl,Lib.below_grow _ _ (Nat.le_refl _) _ _⟩
end
/- PvI5 -/
section
variable {T:World -> Prop} {hT:Low ngl T}
attribute [local irreducible] po mw pt
theorem gheadI_fn (s:List UInt8) (i:Int) (hi:i64ok i) (hs:s.length <= 2147483647):FnV (env T hT) 124 [.d (pS s),.d (pI i)] (hdV (getAt s i)):=by
 refine FnV.oldT3 rfl rfl rfl fun w C vs hF _ _ hlen hv => ?_
 match vs,hlen with
 | [x,y],_ =>
  have h1:=zbM (hv 0 _ _ rfl rfl); have h2:=zbK (hv 1 _ _ rfl rfl)
  subst h1; subst h2
  exact zd9 s i w hi (by omega)
def deC (s:List UInt8) (p:Nat) (bad:Bool):List PC:=[pS s,pI p,pB false,pI 0,pB bad]
theorem zga (s:List UInt8) (p:Nat) (b:Bool):lwL 0 (deC s p b):=⟨trivial,trivial,trivial,trivial,trivial,trivial⟩
def HeadR (s:List UInt8) (p:Nat) (bad:Bool) (nt:Nat) (live:List Nat) (x:PV) (c':List PC) (n:Nat) (l:List Nat):Prop:=n = nt /\ l = live /\
 (((bad = true \/ getHd s p = none) /\ c' = deC s p true /\ x = .tup [.d (pI (-1)),.d (.v (.int .u64 0))]) \/
  ∃ m n y:Nat,bad = false /\ getHd s p = some (m,n,y) /\ c' = deC s y false /\ x = .tup [.d (pI m),.d (.v (.int .u64 (n:Nat)))])
set_option maxHeartbeats 1000000 in
theorem zhW (s:List UInt8) (p:Nat) (bad:Bool) (hp:p <= s.length) (hs:s.length <= 2147483647) (nt:Nat) (live:List Nat) :
  FnG (env T hT) 65 [.ref 0 0] [deC s p bad] nt live (fun x b n l => ∃ c' rest,b = c' :: rest /\ x.lw 0 /\ lwL 0 c' /\ HeadR s p bad nt live x c' n l):=by
 have hg:=gheadI_fn (T:=T) (hT:=hT) s p (by unfold i64ok; omega) hs;rw [zgP] at hg;refine za1 (zag zfR) (by show 1 <= 43; decide) fun B hB => ?_
 unfold m_i_decoder_head;refine mP ?_;refine mP ?_;refine zaa (zaa (zad ?_));refine mN ?_;refine mwF ?_;refine zae ?_;refine mO ?_;(iterate 9 refine mS ?_);refine po_v (f:=124) (cap:=[]) (args:=[.d (pS s),.d (pI p)]) rfl (by kernel_rfl) rfl hg ?_;refine mN ?_;refine zaa ?_
 have hbad:(bad = true \/ getHd s p = none) -> ∃ c' rest,([deC s p bad].set 0 (spl (deC s p bad) 4 [pB true])) = c' :: rest /\ PV.lw 0 (.tup [.d (pI (-1)),.d (.v (.int .u64 0))]) /\ lwL 0 c' /\ HeadR s p bad nt live (.tup [.d (pI (-1)),.d (.v (.int .u64 0))]) c' nt live:=fun h =>
  ⟨deC s p true,[],rfl,⟨trivial,trivial,trivial⟩,zga _ _ _,rfl,rfl,.inl ⟨h,rfl,rfl⟩⟩
 cases bad with
 | true =>
  refine mO ?_;(iterate 5 refine mS ?_)
  iterate 2 (refine zah rfl ?_)
  refine mN ?_;refine mwT ?_;refine mO ?_;(iterate 3 refine mS ?_);refine zap (p:=0) (o':=4) (cs:=[pB true]) (z:=deC s p true) rfl rfl rfl ⟨rfl,Nat.le_of_ble_eq_true rfl⟩ rfl ?_;refine zac ?_;refine mP ?_
  exact zab ⟨.inr rfl,[.d (pI (-1)),.d (.v (.int .u64 0))],rfl,hbad (.inl rfl)⟩
 | false =>
 cases hr:getHd s p with
 | none =>
  refine mO ?_;(iterate 6 refine mS ?_);refine zak rfl rfl rfl ?_;refine mN ?_;refine mwT ?_;refine mO ?_;(iterate 3 refine mS ?_);refine zap (p:=0) (o':=4) (cs:=[pB true]) (z:=deC s p false) rfl rfl rfl ⟨rfl,Nat.le_of_ble_eq_true rfl⟩ rfl ?_;refine zac ?_;refine mP ?_
  exact zab ⟨.inr rfl,[.d (pI (-1)),.d (.v (.int .u64 0))],rfl,hbad (.inr hr)⟩
 | some r =>
  obtain ⟨m,n,y⟩:=r;obtain ⟨g1,g2,g3,g4,g5,g6⟩:=zb1 hr;refine mO ?_;(iterate 6 refine mS ?_);refine zam rfl rfl (decide_eq_false (show ¬ ((y:Nat):Int) < 0 by omega)) ?_;refine mN ?_;refine mwF ?_;refine zae ?_;refine mO ?_;(iterate 4 refine mS ?_);refine zap (p:=0) (o':=1) (cs:=[pI ((y:Nat):Int)]) (z:=deC s p false) rfl rfl rfl ⟨rfl,Nat.le_of_ble_eq_true rfl⟩ rfl ?_;refine zac ?_;refine mP ?_;exact zab ⟨.inr rfl,[.d (pI m),.d (.v (.int .u64 (n:Nat)))],rfl,deC s y false,[],rfl,⟨trivial,trivial,trivial⟩,zga _ _ _,rfl,rfl,.inr ⟨m,n,y,rfl,hr,rfl,rfl⟩⟩
def BytesR (s:List UInt8) (p k:Nat) (bad:Bool) (nt:Nat) (live:List Nat) (x:PV) (c':List PC) (n:Nat) (l:List Nat):Prop:=n = nt /\ l = live /\
 ((bad = false /\ p + k <= s.length /\ c' = deC s (p + k) false /\ x = .d (pS ((s.drop p).take k))) \/ ((bad = true \/ ¬ p + k <= s.length) /\ c' = deC s p true /\ x = .d (pS [])))
set_option maxHeartbeats 1000000 in
theorem deBytes_g (s:List UInt8) (p k:Nat) (bad:Bool) (hk:k < 18446744073709551616) (hp:p <= s.length) (hs:s.length <= 2147483647) (nt:Nat) (live:List Nat) :
  FnG (env T hT) 66 [.ref 0 0,.d (.v (.int .u64 (k:Nat)))] [deC s p bad] nt live (fun x b n l => ∃ c' rest,b = c' :: rest /\ x.lw 0 /\ lwL 0 c' /\ BytesR s p k bad nt live x c' n l):=by
 refine za1 (zag zfE) (by show 2 <= 51; decide) fun B hB => ?_
 unfold m_i_decoder_bytes;refine mP ?_;refine zaa ?_;refine zaq (fun st => has st.tm [(0,.ref 0 0),(1,.d (.v (.int .u64 (k:Nat)))),(24,.d (pB (bad || !decide (p + k <= s.length))))] /\ st.bx = [deC s p bad] /\ st.nt = nt /\ st.live = live) ?_ ?_
 ·refine zad ?_
  (iterate 5 refine mS ?_)
  cases bad with
  | true =>
   iterate 13 (refine zah rfl ?_)
   refine mN ?_
   exact ⟨⟨rfl,rfl,rfl,trivial⟩,rfl,rfl,rfl⟩
  | false =>
   (iterate 5 refine mS ?_);refine po_q (v:=.d (pI s.length)) rfl rfl ?_;(iterate 4 refine mS ?_);refine zaJ (n:=(s.length:Int) - p) rfl rfl rfl rfl (by omega) ?_;refine zcn (n:=(s.length:Int) - p) rfl rfl (by rw [IntKind.wrap_u64]; omega) ?_;refine po_b rfl rfl (fun b hb => ?_);refine mN ?_
   have:(!decide (p + k <= s.length)) = b:=by
    rw [hb];by_cases h:p + k <= s.length
    ·rw [decide_eq_true h,decide_eq_false (by omega)]; rfl
    ·rw [decide_eq_false h,decide_eq_true (by omega)]; rfl
   exact ⟨⟨rfl,rfl,by rw [Bool.false_or,this]; rfl,trivial⟩,rfl,rfl,rfl⟩
 rintro tm bx n1 l1 ⟨ht,rfl,rfl,rfl⟩;obtain ⟨tm0,rfl⟩:=zaj ht;refine zbw (t:=bad || !decide (p + k <= s.length)) rfl (fun hc => ?_) (fun hc => ?_)
 ·simp only [Bool.or_eq_true,Bool.not_eq_true',decide_eq_false_iff_not] at hc
  refine mO ?_;(iterate 3 refine mS ?_);refine zap (p:=0) (o':=4) (cs:=[pB true]) (z:=deC s p bad) rfl rfl rfl ⟨rfl,Nat.le_of_ble_eq_true rfl⟩ rfl ?_;refine zac ?_;refine mP ?_;exact zab ⟨.inr rfl,[.d (pS [])],rfl,deC s p true,[],rfl,trivial,zga _ _ _,rfl,rfl,.inr ⟨hc,rfl,rfl⟩⟩
 ·simp only [Bool.or_eq_false_iff,Bool.not_eq_false',decide_eq_true_eq] at hc
  obtain ⟨rfl,hle⟩:=hc;refine zae ?_;refine mP ?_;refine mO ?_;(iterate 5 refine mS ?_);refine zcn (n:=(k:Int)) rfl rfl (by show IntKind.wrap .i64 ((k:Nat):Int) = _; rw [IntKind.wrap_i64]; omega) ?_;refine zau (n:=((p + k:Nat):Int)) rfl rfl rfl (by omega) (by omega) ?_;(iterate 2 refine mS ?_);refine zap (p:=0) (o':=1) (cs:=[pI ((p + k:Nat):Int)]) (z:=deC s p false) rfl rfl rfl ⟨rfl,Nat.le_of_ble_eq_true rfl⟩ rfl ?_;refine zac ?_;refine mO ?_;(iterate 9 refine mS ?_);refine zaU (a:=p) (b:=p + k) (rs:=(s.drop p).take k) rfl rfl (zax rfl rfl) (zax rfl rfl) (by omega) (by rw [show p + k - p = k by omega]) ?_;refine mN ?_;exact zab ⟨.inr rfl,[.d (pS ((s.drop p).take k))],rfl,deC s (p + k) false,[],rfl,trivial,zga _ _ _,rfl,rfl,.inl ⟨rfl,hle,rfl,rfl⟩⟩
end
/- PvI2 -/
section
variable {T:World -> Prop} {hT:Low ngl T}
attribute [local irreducible] po mw pt
theorem isRef_fn (v:V) (x:V) (hx:v.kids = [x]):FnV (env T hT) 176 [.ag (vC v)] (.d (pB (decide (x.kind = 3 /\ x.num ≥ 0)))):=by
 have hget:(vK v.kids)[(0:Int).toNat]? = some (vC x):=by rw [hx]; rw [zei]; rfl
 refine zaC (zag lk_i_isRef) (by show 1 <= 17; decide) fun B hB => ?_
 unfold m_i_isRef;refine mP ?_;refine mO ?_;(iterate 2 refine mS ?_);refine za3 (es:=vK v.kids) (e:=vC x) rfl rfl rfl ⟨by omega,hget⟩ rfl ?_;(iterate 2 refine mS ?_);by_cases h3:x.kind = 3
 ·refine zak rfl rfl (decide_eq_true h3) ?_
  (iterate 3 refine mS ?_);refine za3 (es:=vK v.kids) (e:=vC x) rfl rfl rfl ⟨by omega,hget⟩ rfl ?_;(iterate 2 refine mS ?_);refine po_b rfl rfl (fun b hb => ?_);refine mN ?_
  have:decide (x.kind = 3 /\ x.num ≥ 0) = b:=by rw [hb]; exact decide_eq_decide.2 ⟨fun h => h.2,fun h => ⟨h3,h⟩⟩
  rw [this];exact zab ⟨.inr rfl,_,rfl,rfl⟩
 ·refine zam rfl rfl (decide_eq_false h3) ?_
  refine mS ?_
  iterate 6 (refine zah rfl ?_)
  refine mN ?_;rw [decide_eq_false (fun h => h3 h.1)];exact zab ⟨.inr rfl,_,rfl,rfl⟩
theorem refOf_one {v x:V} (h9:v.kind = 9 /\ v.num = 6) (hx:v.kids = [x]):refOf v = if x.kind = 3 /\ 0 <= x.num then x.num else -1:=by unfold refOf; rw [if_pos h9,hx]
theorem gl_set {α:Type} {l:List α} {p q:Nat} {x y:α} (h:l[q]? = some y) (hne:p ≠ q):(l.set p x)[q]? = some y:=by rw [List.getElem?_set_ne hne]; exact h
theorem zdu {α:Type} {l r:List α} {p:Nat} {x:α} (h:l[p]? = some x):(l ++ r)[p]? = some x:=by
 rw [List.getElem?_append_left]; exact h
 rcases Nat.lt_or_ge p l.length with h' | h'
 ·exact h'
 ·rw [List.getElem?_eq_none h'] at h; cases h
theorem zfS {α:Type} {l:List α} {p:Nat} {x:α} (h:l[p]? = some x):p < l.length:=by
 rcases Nat.lt_or_ge p l.length with h' | h'
 ·exact h'
 ·rw [List.getElem?_eq_none h'] at h; cases h
theorem set_app {α:Type} {l r:List α} {p:Nat} {x y:α} (h:l[p]? = some y):(l ++ r).set p x = l.set p x ++ r:=List.set_append_left _ _ (zfS h)
theorem set_same {α:Type} {l:List α} {p:Nat} {x:α} (h:l[p]? = some x):l.set p x = l:=by
 refine List.ext_getElem? fun j => ?_
 by_cases hj:p = j
 ·subst hj; rw [List.getElem?_set_self (zfS h),h]
 ·rw [List.getElem?_set_ne hj]
def AhB (p:Nat) (a:Bool) (bx b:List (List PC)):Prop:=∃ rest,b = bx.set p [pB a] ++ rest
set_option maxHeartbeats 1000000 in
theorem ahClo_g (v:V) (hk:v.ok = true) (a:Bool) (i:Int) {bx:List (List PC)} {p q nt:Nat} {live:List Nat} (hp:bx[p]? = some [pB a]) (hq:bx[q]? = some [pI i]) :
  FnG (env T hT) 175 [.ag (vC v),.ref p 0,.ref q 0] bx nt live (fun _ b n l => AhB p (a && ownA i v) bx b /\ n = nt /\ l = live):=by
 refine za1 (zag zg4) (by show 3 <= 26; decide) fun B hB => ?_
 unfold m_i_TableOk_1;refine mP ?_;have hlb:(bx ++ [vC v])[bx.length]? = some (vC v):=zbf bx (vC v);have hp':(bx ++ [vC v])[p]? = some [pB a]:=zdu hp;have hq':(bx ++ [vC v])[q]? = some [pI i]:=zdu hq;have hplt:=zfS hp;have hset:∀ c:Bool,(bx ++ [vC v]).set p [pB c] = bx.set p [pB c] ++ [vC v]:=fun c => set_app hp
 have hid:AhB p (a && true) bx (bx ++ [vC v]):=⟨[vC v],by rw [Bool.and_true]; congr 1; exact (set_same hp).symm⟩;refine mQ ?_;refine za7 (cs:=vC v) (v:=.d (pI v.kind)) rfl rfl hlb (Nat.le_of_ble_eq_true rfl) rfl ?_;by_cases h9:v.kind = 9
 case neg =>
  refine zam rfl rfl (decide_eq_false h9) ?_;refine mS ?_
  iterate 3 (refine zah rfl ?_)
  refine mN ?_;refine mwF ?_;refine zae ?_;refine ⟨.inl rfl,[],rfl,?_,rfl,rfl⟩
  have:ownA i v = true:=by unfold ownA; rw [if_neg (fun h => h9 h.1)]
  rw [this]; exact hid
 refine zak rfl rfl (decide_eq_true h9) ?_;(iterate 2 refine mS ?_);refine za7 (cs:=vC v) (v:=.d (pI v.num)) rfl rfl hlb (Nat.le_of_ble_eq_true rfl) rfl ?_;by_cases h6:v.num = 6
 case neg =>
  refine zam rfl rfl (decide_eq_false h6) ?_;refine mN ?_;refine mwF ?_;refine zae ?_;refine ⟨.inl rfl,[],rfl,?_,rfl,rfl⟩
  have:ownA i v = true:=by unfold ownA; rw [if_neg (fun h => h6 h.2)]
  rw [this]; exact hid
 refine zak rfl rfl (decide_eq_true h6) ?_;refine mN ?_;refine mwT ?_;obtain ⟨x,hx⟩:∃ x,v.kids = [x]:=List.length_eq_one_iff.1 (V.ok_one hk h9);have hget:(vK v.kids)[(0:Int).toNat]? = some (vC x):=by rw [hx]; rw [zei]; rfl
 have hR:=refOf_one ⟨h9,h6⟩ hx;have hO:ownA i v = (decide (0 <= refOf v) && decide (refOf v < i)):=by unfold ownA; rw [if_pos ⟨h9,h6⟩]
 rw [hO];refine zad ?_;refine za7 (cs:=[pB a]) (v:=.d (pB a)) rfl rfl hp' (Nat.le_of_ble_eq_true rfl) rfl ?_;refine mS ?_
 cases a with
 | false =>
  iterate 2 (refine zah rfl ?_)
  (iterate 2 refine mS ?_)
  iterate 7 (refine zah rfl ?_)
  refine mS ?_;refine zap (p:=p) (o':=0) (cs:=[pB false]) (z:=[pB false]) rfl rfl hp' ⟨rfl,Nat.le_of_ble_eq_true rfl⟩ rfl ?_;refine zac ?_
  exact ⟨.inl rfl,[],rfl,⟨[vC v],hset false⟩,rfl,rfl⟩
 | true =>
 refine za7 (cs:=vC v) (v:=.ag (vC v)) rfl rfl hlb (Nat.le_of_ble_eq_true rfl) rfl ?_;refine zaD (b:=true) (args:=[.ag (vC v)]) rfl (fun _ => zfs v) (fun _ => isRef_fn v x hx) ?_;(iterate 2 refine mS ?_);by_cases hc:x.kind = 3 /\ x.num ≥ 0
 case neg =>
  rw [decide_eq_false hc];rw [if_neg (fun h => hc ⟨h.1,h.2⟩)] at hR
  iterate 7 (refine zah rfl ?_)
  refine mS ?_;refine zap (p:=p) (o':=0) (cs:=[pB false]) (z:=[pB true]) rfl rfl hp' ⟨rfl,Nat.le_of_ble_eq_true rfl⟩ rfl ?_;refine zac ?_;refine ⟨.inl rfl,[],rfl,⟨[vC v],?_⟩,rfl,rfl⟩;rw [hR]; exact hset false
 rw [decide_eq_true hc];rw [if_pos ⟨hc.1,hc.2⟩] at hR;refine mS ?_;refine za7 (cs:=vC v) (v:=.d (.sl 0 (vK v.kids))) rfl rfl hlb (Nat.le_of_ble_eq_true rfl) rfl ?_;refine za3 (es:=vK v.kids) (e:=vC x) rfl rfl rfl ⟨by omega,hget⟩ rfl ?_;(iterate 2 refine mS ?_);refine za7 (cs:=[pI i]) (v:=.d (pI i)) rfl rfl hq' (Nat.le_of_ble_eq_true rfl) rfl ?_;refine po_b rfl rfl (fun b hb => ?_);refine mS ?_;refine zap (p:=p) (o':=0) (cs:=[pB b]) (z:=[pB true]) rfl rfl hp' ⟨rfl,Nat.le_of_ble_eq_true rfl⟩ rfl ?_;refine zac ?_;refine ⟨.inl rfl,[],rfl,⟨[vC v],?_⟩,rfl,rfl⟩
 have:(true && (decide (0 <= refOf v) && decide (refOf v < i))) = b:=by rw [hR,hb,decide_eq_true (show (0:Int) <= x.num by omega)]; rfl
 rw [this]; exact hset b
end
/- PvI3 -/
section
variable {T:World -> Prop} {hT:Low ngl T}
attribute [local irreducible] po mw pt
theorem AhB.trans {p:Nat} {a1 a2:Bool} {bx b c:List (List PC)} {z:List PC} (hp:bx[p]? = some z) (h:AhB p a1 bx b) (k:AhB p a2 b c):AhB p a2 bx c:=by
 obtain ⟨r1,rfl⟩:=h;obtain ⟨r2,rfl⟩:=k;have hlt:=zfS hp;refine ⟨r1 ++ r2,?_⟩;rw [List.set_append_left _ _ (by rw [List.length_set]; exact hlt),List.set_set,List.append_assoc]
theorem AhB.push {p:Nat} {a:Bool} {bx b:List (List PC)} (h:AhB p a bx b) (x:List PC):AhB p a bx (b ++ [x]):=by
 obtain ⟨r,rfl⟩:=h;exact ⟨r ++ [x],by rw [List.append_assoc]⟩
theorem AhB.self {p:Nat} {a:Bool} {bx:List (List PC)} (h:bx[p]? = some [pB a]):AhB p a bx bx:=⟨[],by rw [List.append_nil,set_same h]⟩
theorem AhB.at {p:Nat} {a:Bool} {bx b:List (List PC)} {z:List PC} (h:AhB p a bx b) (hp:bx[p]? = some z):b[p]? = some [pB a]:=by
 obtain ⟨r,rfl⟩:=h;exact zdu (List.getElem?_set_self (zfS hp))
theorem AhB.other {p q:Nat} {a:Bool} {bx b:List (List PC)} {z:List PC} (h:AhB p a bx b) (hq:bx[q]? = some z) (hne:p ≠ q):b[q]? = some z:=by
 obtain ⟨r,rfl⟩:=h;exact zdu (gl_set hq hne)
theorem po_nw2 {E:Env} {K:St -> Prop} {tm:Nat -> PV} {bx:List (List PC)} {nt d1 d2 n1 n2:Nat} {live:List Nat} {r:List MOpr} {z1 z2:List Value} {x1 x2:X} {cs1 cs2:List PC} {c1 c2:List X}
  (hx1:pcells (ev (up d2 (.ref (bx.length + 1) 0) (up d1 (.ref bx.length 0) tm)) x1) = some cs1) (hx2:pcells (ev (up d2 (.ref (bx.length + 1) 0) (up d1 (.ref bx.length 0) tm)) x2) = some cs2) (hn1:cs1.length = n1) (hz1:z1.length = n1) (hn2:cs2.length = n2) (hz2:z2.length = n2)
  (hc1:c1.all (apartX (ev (up d2 (.ref (bx.length + 1) 0) (up d1 (.ref bx.length 0) tm))) (.t d1)) = true) (hc2:c2.all (apartX (ev (up d2 (.ref (bx.length + 1) 0) (up d1 (.ref bx.length 0) tm))) (.t d2)) = true) (ha1:ev (up d2 (.ref (bx.length + 1) 0) (up d1 (.ref bx.length 0) tm)) (.t d1) = .ref bx.length 0)
  (h:po E r K ⟨up d2 (.ref (bx.length + 1) 0) (up d1 (.ref bx.length 0) tm),bx ++ [cs1] ++ [cs2],nt,live⟩) :
  po E (⟨some d1,.zero z1,none,[]⟩ :: ⟨some d2,.zero z2,none,[]⟩ :: ⟨none,.store n1 (.t d1) x1,none,c1⟩ :: ⟨none,.store n2 (.t d2) x2,none,c2⟩ :: r) K ⟨tm,bx,nt,live⟩:=by
 refine ze9 ?_;refine ze9 ?_;have hl:(bx ++ [z1.map ofC]).length = bx.length + 1:=by simp
 rw [hl];have hb0:(bx ++ [z1.map ofC] ++ [z2.map ofC])[bx.length]? = some (z1.map ofC):=zdu (zbf _ _)
 have ha2:ev (up d2 (.ref (bx.length + 1) 0) (up d1 (.ref bx.length 0) tm)) (.t d2) = .ref (bx.length + 1) 0:=by
  show up d2 (.ref (bx.length + 1) 0) (up d1 (.ref bx.length 0) tm) d2 = _;rw [<- up_eq]; exact if_pos rfl
 have spl_all:∀ (z:List Value) (cs:List PC) (n:Nat),cs.length = n -> z.length = n -> spl (z.map ofC) 0 cs = cs:=fun z cs n h1 h2 => by
  unfold spl;rw [List.take_zero,List.nil_append,List.drop_of_length_le (by rw [List.length_map]; omega),List.append_nil]
 refine zap ha1 hx1 hb0 ⟨hn1,by rw [List.length_map]; omega⟩ hc1 ?_
 have e2:(bx ++ [z1.map ofC] ++ [z2.map ofC]).set bx.length cs1 = bx ++ [cs1] ++ [z2.map ofC]:=by
  rw [List.set_append_left _ _ (by simp),List.set_append_right _ _ (Nat.le_refl _),Nat.sub_self]; rfl
 rw [spl_all z1 cs1 n1 hn1 hz1,e2]
 have hb1:(bx ++ [cs1] ++ [z2.map ofC])[bx.length + 1]? = some (z2.map ofC):=by
  have:=zbf (bx ++ [cs1]) (z2.map ofC)
  rwa [show (bx ++ [cs1]).length = bx.length + 1 by simp] at this
 refine zap ha2 hx2 hb1 ⟨hn2,by rw [List.length_map]; omega⟩ hc2 ?_
 have e3:(bx ++ [cs1] ++ [z2.map ofC]).set (bx.length + 1) cs2 = bx ++ [cs1] ++ [cs2]:=by
  rw [List.set_append_right _ _ (by simp),show bx.length + 1 - (bx ++ [cs1]).length = 0 by simp]; rfl
 rw [spl_all z2 cs2 n2 hn2 hz2,e3];exact h
def WkP (T:World -> Prop) (hT:Low ngl T) (N:Nat):Prop:=∀ (v:V) (i:Int) (a:Bool) (bx:List (List PC)) (p q nt:Nat) (live:List Nat),v.nodes <= N -> v.ok = true -> bx[p]? = some [pB a] -> bx[q]? = some [pI i] -> p ≠ q ->
 FnG (env T hT) 174 [.ag (vC v),.fn 175 [.ref p 0,.ref q 0]] bx nt live (fun _ b n l => AhB p (a && v.ahW i) bx b /\ n = nt /\ l = live)
def WkI (v:V) (i:Int) (a:Bool) (bx:List (List PC)) (p q nt:Nat) (live:List Nat) (m:Nat) (s:St):Prop:=∃ j:Nat,j <= v.kids.length /\ m = v.kids.length - j /\ has s.tm [(1,.fn 175 [.ref p 0,.ref q 0]),(10,.d (.sl 0 (vK v.kids))),(11,.d (pI v.kids.length)),(12,.d (pI j))] /\ AhB p (a && (ownA i v && V.ahWs i (v.kids.take j))) bx s.bx /\ s.nt = nt /\ s.live = live
set_option maxHeartbeats 1000000 in
theorem walk_step {N:Nat} (hS:WkP T hT N) (v:V) (i:Int) (a:Bool) (bx:List (List PC)) (p q nt:Nat) (live:List Nat) (hn:v.nodes <= N + 1) (hk:v.ok = true) (hp:bx[p]? = some [pB a]) (hq:bx[q]? = some [pI i]) (hne:p ≠ q) :
  FnG (env T hT) 174 [.ag (vC v),.fn 175 [.ref p 0,.ref q 0]] bx nt live (fun _ b n l => AhB p (a && v.ahW i) bx b /\ n = nt /\ l = live):=by
 have hkl:=V.ok_len hk;have hplt:=zfS hp;refine za1 (zag lk_i_walk) (by show 2 <= 20; decide) fun B hB => ?_
 unfold m_i_walk;refine mP ?_;refine mQ ?_;refine za7 (cs:=vC v) (v:=.ag (vC v)) rfl rfl (zbf bx (vC v)) (Nat.le_of_ble_eq_true rfl) rfl ?_;refine po_vg (f:=175) (cap:=[.ref p 0,.ref q 0]) rfl (by kernel_rfl) rfl (ahClo_g v hk a i (zdu hp) (zdu hq)) ?_;rintro y b1 n1 l1 ⟨hA,rfl,rfl⟩;refine zac ?_;have hA1:AhB p (a && ownA i v) bx b1:=AhB.trans hp ((AhB.self hp).push (vC v)) hA;have hv1:b1[bx.length]? = some (vC v):=hA.other (zbf bx (vC v)) (by omega);refine mQ ?_;refine za7 (cs:=vC v) (v:=.d (.sl 0 (vK v.kids))) rfl rfl hv1 (Nat.le_of_ble_eq_true rfl) rfl ?_;refine zaB (n:=v.kids.length) rfl rfl (zdv _) ?_;refine mN ?_;refine zai ?_;refine zav (WkI v i a bx p q n1 l1) v.kids.length ⟨0,Nat.zero_le _,rfl,⟨rfl,rfl,rfl,rfl,trivial⟩,by rw [List.take_zero]; show AhB p (a && (ownA i v && true)) bx b1; rw [Bool.and_true]; exact hA1,rfl,rfl⟩ ?_
 rintro m tm bx2 nt2 live2 ⟨j,hj,rfl,ht,hB2,hnn,hll⟩;obtain ⟨tm0,rfl⟩:=zaj ht;simp only at hB2 hnn hll
 subst hnn; subst hll
 clear ht;refine mO ?_;refine po_b rfl rfl (fun b hb => ?_);refine zac ?_;refine zaa ?_;refine zb4 (p:=(j:Int) < v.kids.length) hb rfl (fun h _ => ?_) (fun h _ => ?_)
 ·have hjl:j < v.kids.length:=by omega
  refine zae ?_;refine zaa (zai (zaa (zad ?_)));refine za3 (es:=vK v.kids) (e:=vC v.kids[j]) rfl rfl rfl ⟨by omega,by rw [Int.toNat_natCast]; exact zfr hjl⟩ rfl ?_;refine po_q (v:=.ag (vC v.kids[j])) rfl rfl ?_;refine zco (cs:=vC v.kids[j]) rfl rfl rfl rfl ?_;refine zac ?_;refine zad ?_;refine za7 (cs:=vC v.kids[j]) (v:=.ag (vC v.kids[j])) rfl rfl (zbf bx2 (vC v.kids[j])) (Nat.le_of_ble_eq_true rfl) rfl ?_;refine mS ?_;have hB3:=hB2.push (vC v.kids[j]);refine po_g rfl (hS v.kids[j] i _ _ p q nt2 live2 (V.nodes_kid hn j hjl) (V.ok_kid hk j hjl) (hB3.at hp) (hB3.other hq hne) hne) ?_;rintro y b4 n4 l4 ⟨hB4,rfl,rfl⟩;refine zac ?_;refine zad ?_;refine zau (n:=((j + 1:Nat):Int)) rfl rfl rfl (by omega) (by omega) ?_;refine mN ?_;refine ⟨v.kids.length - (j + 1),by omega,j + 1,hjl,rfl,⟨rfl,rfl,rfl,rfl,trivial⟩,?_,rfl,rfl⟩
  have e:(a && (ownA i v && V.ahWs i (v.kids.take (j + 1)))) = ((a && (ownA i v && V.ahWs i (v.kids.take j))) && v.kids[j].ahW i):=by
   rw [List.take_succ_eq_append_getElem hjl,V.ahWs_app];simp only [V.ahWs,Bool.and_true,Bool.and_assoc]
  rw [e];exact AhB.trans hp hB3 hB4
 ·refine zaH ?_
  have:j = v.kids.length:=by omega
  subst this;refine ⟨.inl rfl,[],rfl,?_,rfl,rfl⟩;rw [List.take_length] at hB2;rw [V.ahW_eq]; exact hB2
theorem walk_g:∀ (N:Nat),WkP T hT N
 | 0,v,i,a,bx,p,q,nt,live,hn,_,_,_,_ => by obtain ⟨k,n,e,s,kids⟩:=v; simp only [V.nodes] at hn; omega
 | N + 1,v,i,a,bx,p,q,nt,live,hn,hk,hp,hq,hne => walk_step (walk_g N) v i a bx p q nt live hn hk hp hq hne
def TiI (vs:List V) (m:Nat) (st:St):Prop:=∃ i:Nat,i <= vs.length /\ m = vs.length - i /\ has st.tm [(9,.d (.sl 0 (vK vs))),(10,.d (pI vs.length)),(11,.d (pI i))] /\ allN i (fun i => (vs.getD i (.mk 0 0 0 [] [])).ok && (vs.getD i (.mk 0 0 0 [] [])).ahead i) = true
set_option maxHeartbeats 1000000 in
theorem zjB (hTab:∀ w,T w -> Tabs w) (vs:List V) (hl:vs.length <= 4294967295) (hw:∀ v ∈ vs,v.wf) (hb':∀ v ∈ vs,v.bulk <= 4294967295):FnV (env T hT) 130 [.d (.sl 0 (vK vs))] (.d (pB (tabB vs))):=by
 refine zaC (zag ziH) (by show 1 <= 25; decide) fun B hB => ?_
 unfold m_i_TableOk;refine mP ?_;refine zaa (zaa (zad ?_));refine mS ?_;refine zaB (n:=vs.length) rfl rfl (zdv _) ?_;refine po_b rfl rfl (fun b60 hb60 => ?_);refine zac ?_;refine zb4 (p:=(vs.length:Int) > 60) hb60 rfl (fun h60 _ => ?_) (fun h60 _ => ?_)
 ·have hF:tabB vs = false:=by unfold tabB; rw [decide_eq_false (by omega)]; rfl
  refine mP ?_;rw [hF];exact zab ⟨.inr rfl,_,rfl,rfl⟩
 refine zae ?_;refine zaq (fun s => tabB vs = true) ?_ ?_
 ·refine mQ ?_
  refine zaB (n:=vs.length) rfl rfl (zdv _) ?_;refine mN ?_;refine zai ?_;refine zav (TiI vs) vs.length ⟨0,Nat.zero_le _,rfl,⟨rfl,rfl,rfl,trivial⟩,rfl⟩ ?_;rintro m tm bx nt live ⟨i,hi,rfl,ht,hall⟩;obtain ⟨tm0,rfl⟩:=zaj ht;refine mO ?_;refine po_b rfl rfl (fun b hb => ?_);refine zac ?_;refine zaa ?_;refine zb4 (p:=(i:Int) < vs.length) hb rfl (fun h _ => ?_) (fun h _ => ?_)
  ·have hil:i < vs.length:=by omega
   have hg:=za2 hil (.mk 0 0 0 [] []);have hno:=tabB_no hil;rw [hg] at hno;have hmem:=List.getElem_mem hil;have hvk:=voki_fn (T:=T) (hT:=hT) hTab vs[i] (hw _ hmem) (hb' _ hmem);refine zae ?_;refine zaa (zai (zaa (zad ?_)));refine mS ?_;refine za3 (es:=vK vs) (e:=vC vs[i]) rfl rfl rfl ⟨by omega,by rw [Int.toNat_natCast]; exact zfr hil⟩ rfl ?_;refine po_q (v:=.ag (vC vs[i])) rfl rfl ?_;refine po_nw2 (cs1:=[pI i]) (cs2:=vC vs[i]) rfl rfl rfl rfl rfl rfl rfl rfl rfl ?_;refine zac ?_
   have hb1:(bx ++ [[pI i]] ++ [vC vs[i]])[bx.length + 1]? = some (vC vs[i]):=by
    have:=zbf (bx ++ [[pI i]]) (vC vs[i])
    rwa [show (bx ++ [[pI i]]).length = bx.length + 1 by simp] at this
   have hb0:(bx ++ [[pI i]] ++ [vC vs[i]])[bx.length]? = some [pI i]:=zdu (zbf _ _);refine zaa (zaa (zad ?_));refine za7 (cs:=vC vs[i]) (v:=.ag (vC vs[i])) rfl rfl hb1 (Nat.le_of_ble_eq_true rfl) rfl ?_;refine zaf (zfs vs[i]) hvk ?_;refine mN ?_
   cases hv:vs[i].ok with
   | false =>
    have hF:=hno (by rw [hv]; rfl);refine mwT ?_;refine mP ?_;rw [hF]
    exact zab ⟨.inr rfl,_,rfl,rfl⟩
   | true =>
   refine mwF ?_;refine zae ?_;refine mO ?_;refine zco (cs:=[pB true]) rfl rfl rfl rfl ?_;refine zac ?_;refine mO ?_;refine za7 (cs:=vC vs[i]) (v:=.ag (vC vs[i])) rfl rfl (zdu hb1) (Nat.le_of_ble_eq_true rfl) rfl ?_;refine mS ?_;have hP:=zbf (bx ++ [[pI i]] ++ [vC vs[i]]) [pB true];refine po_g rfl (walk_g vs[i].nodes vs[i] i true (bx ++ [[pI i]] ++ [vC vs[i]] ++ [[pB true]]) (bx ++ [[pI i]] ++ [vC vs[i]]).length bx.length nt live (Nat.le_refl _) hv hP (zdu hb0) (by simp)) ?_;rintro y b4 n4 l4 ⟨hB4,rfl,rfl⟩;refine zac ?_;rw [zix i _ vs[i] (Nat.le_refl _) hv,Bool.true_and] at hB4;refine mO ?_;refine za7 (cs:=[pB (vs[i].ahead i)]) (v:=.d (pB (vs[i].ahead i))) rfl rfl (hB4.at hP) (Nat.le_of_ble_eq_true rfl) rfl ?_;refine mN ?_;refine zbw (t:=!vs[i].ahead i) rfl (fun hc => ?_) (fun hc => ?_)
   ·have hF:=hno (by rw [hv]; simpa using hc)
    refine mP ?_;rw [hF];exact zab ⟨.inr rfl,_,rfl,rfl⟩
   ·refine zae ?_
    refine zad ?_;refine zau (n:=((i + 1:Nat):Int)) rfl rfl rfl (by omega) (by omega) ?_;refine mN ?_;exact ⟨vs.length - (i + 1),by omega,i + 1,hil,rfl,⟨rfl,rfl,rfl,trivial⟩,zeF hall (by rw [hg,hv]; simpa using hc)⟩
  ·refine zaH ?_
   have:i = vs.length:=by omega
   subst this;show tabB vs = true;unfold tabB;rw [hall,decide_eq_true (by omega)]; rfl
 intro tm bx nt live hF;refine mP ?_;rw [hF];exact zab ⟨.inr rfl,_,rfl,rfl⟩
end
/- PvBl -/
section
section
variable {P:Program} {NG:Nat} {T:World -> Prop}
theorem zed {w:World} {ops:Array Oper} {rest:List Oper} {o:Oper} {a:Act} {Q:Exit -> Act -> World -> Prop} (hgd:o.guard = none) (sl x:Operand) (t u:TypeId)
  (ho:o.op = .call { callee:=.builtin .append,args:=#[sl,x],argTypes:=#[t,u] }) (v y v':Value) (w':World) (hs:a.eval sl = v) (hx:a.eval x = y) (hr:(Builtin.append_ #[t,u] o.type #[v,y]).run P w = .ok v' w') (h:wpList P ops Q rest (a.put o.dst v') w'):wpList P ops Q (o :: rest) a w:=by
 refine wpList_plain hgd fun K hK => ?_
 unfold Oper.wp execOp;simp only [ho,resolve,invoke,builtin,Sem.run_bind,Sem.run_pure,Result.andThen_ok,List.map_toArray,List.map_cons,List.map_nil,hs,hx,hr];exact hK _ _ h
theorem Inv.alloc (hL:Low NG T) {C:Cx} {bx:List (List PC)} {live:Nat -> Prop} {w:World} (h:Inv NG T C bx live w) (o:Obj):Inv NG T C bx live (w.alloc o):=by
 have hold:∀ k,k < w.heap.size -> (w.alloc o).heap[k]? = w.heap[k]?:=fun k hk => heap_alloc_old w o hk
 have hfix:=zfm h.fin o;have hs:w.heap.size <= (w.alloc o).heap.size:=by simp
 refine ⟨h.nb,fun p cs hp => ?_,h.boxF,h.boxG,h.inj,fun t ht => ?_,h.tinj,fun b o' hF => Nat.lt_of_lt_of_le (h.fin b o' hF) hs,Nat.le_trans h.ng hs,hL w _ h.t hs fun k hk => hold k (Nat.lt_of_lt_of_le hk h.ng)⟩
 ·obtain ⟨vs,e,h1,h2⟩:=h.box p cs hp
  exact ⟨vs,e,(hold _ (za6 h1)).trans h1,h2.frame (CxLe.refl C) hfix⟩
 ·obtain ⟨a1,a2,a3⟩:=h.tok t ht
  refine ⟨a1,a2,a3.imp id ?_⟩;rintro ⟨b,cur,e,c1,c2,c3,c4⟩;exact ⟨b,cur,e,c1,c2,(hold _ (za6 c3)).trans c3,c4⟩
theorem Inv.drewn (hL:Low NG T) {C:Cx} {bx:List (List PC)} {live:Nat -> Prop} {w:World} (h:Inv NG T C bx live w) (n:Nat):Inv NG T C bx live { w with drawn:=n } /\ Fix C w { w with drawn:=n }:=by
 have hF:Fix C w { w with drawn:=n }:=⟨fun _ _ _ => rfl,fun _ _ cs fz h => ⟨cs,fz,h⟩⟩;refine ⟨⟨h.nb,fun p cs hp => ?_,h.boxF,h.boxG,h.inj,h.tok,h.tinj,h.fin,h.ng,hL w _ h.t (Nat.le_refl _) (fun _ _ => rfl)⟩,hF⟩;obtain ⟨vs,e,hh,hl⟩:=h.box p cs hp;exact ⟨vs,e,hh,hl.frame (CxLe.refl C) hF⟩
theorem Ext.start {C:Cx} {bx:List (List PC)} {live:List Nat} {w:World} (h:Inv NG T C bx (· ∈ live) w) (hold:C.old = (· ∈ live)):Ext C w C bx.length (· ∈ live) w :=
 ⟨rfl,rfl,rfl,Nat.le_refl _,fun _ _ h => h,Fix.refl C w,fun _ _ _ _ => rfl,⟨Nat.le_refl _,fun _ _ => rfl⟩,fun _ _ h => .inl h,(fun t b ht hb => .inr ⟨t,by rw [hold]; exact ht,hb⟩),(fun p hp hp2 => by have h1:=h.nb; omega),⟨Nat.le_refl _,fun _ _ => ⟨rfl,rfl,rfl,rfl⟩⟩⟩
theorem set_self {bx:List (List PC)} {p:Nat} {cs:List PC} (h:bx[p]? = some cs):bx.set p cs = bx:=by
 apply List.ext_getElem?
 intro q;by_cases hq:p = q
 ·subst hq
  have hlt:p < bx.length:=by
   rcases Nat.lt_or_ge p bx.length with h' | h'
   ·exact h'
   ·rw [List.getElem?_eq_none h'] at h; cases h
  rw [List.getElem?_set_self hlt,h]
 ·rw [List.getElem?_set_ne hq]
theorem zjC {C:Cx} {bx:List (List PC)} {live:Nat -> Prop} {w:World} (hI:Inv NG T C bx live w) {p t:Nat} {TT U:TypeId} {es:List (List PC)} (hp:bx[p]? = some [.bld p TT t U,.sl t es]) :
  ∃ v0 v1,w.heap[C.bx p]? = some (.cells #[v0,v1] TT (0,0)) /\ (v0 = .pointer none \/ v0 = .pointer (some ⟨C.bx p,0,none⟩)) /\ RpC C w (.sl t es) v1 /\ (t = 1 \/ 2 <= t /\ t < C.nt /\ ∀ b,C.tk t = some b -> ∃ cs fz,w.heap[b]? = some (.cells cs U fz)):=by
 obtain ⟨vs,e,hh,hl⟩:=hI.box p _ hp;obtain ⟨v0,vr,rfl,h0,h1⟩:=hl.inv1;obtain ⟨v1,vr,rfl,k1,k2⟩:=h1.inv1
 obtain rfl:=k2.inv0
 cases h0 with
 | bld _ _ _ _ _ h cs fz ht hv hU =>
  rw [ht] at hh;simp only [Option.some.injEq,Obj.cells.injEq] at hh;obtain ⟨rfl,rfl,rfl⟩:=hh;exact ⟨v0,v1,ht,hv,k1,hU⟩
theorem Inv.froze (hL:Low NG T) {C:Cx} {bx:List (List PC)} {live:List Nat} {w:World} (h:Inv NG T C bx (· ∈ live) w) {t g n:Nat} (ht:t ∈ live) (hg:C.tk t = some g) :
  Inv NG T C bx (· ∈ live.filter (· != t)) (w.freeze ⟨g,0,none⟩ n) /\ Fix C w (w.freeze ⟨g,0,none⟩ n) /\ (w.freeze ⟨g,0,none⟩ n).os = w.os /\ (w.freeze ⟨g,0,none⟩ n).tape = w.tape /\ (w.freeze ⟨g,0,none⟩ n).output = w.output /\ (w.freeze ⟨g,0,none⟩ n).heap.size = w.heap.size /\ ∀ k,k ≠ g -> (w.freeze ⟨g,0,none⟩ n).heap[k]? = w.heap[k]?:=by
 obtain ⟨_,_,⟨z,_⟩ | ⟨g',cur,e,c1,c2,c3,c4,c5,c6,c7,c8,c9,c10⟩⟩:=h.tok t ht
 ·rw [hg] at z; cases z
 rw [hg] at c1; simp only [Option.some.injEq] at c1; subst c1
 have other:∀ k,k ≠ g -> (w.freeze ⟨g,0,none⟩ n).heap[k]? = w.heap[k]?:=by
  intro k hk;have hk':g ≠ k:=fun h => hk h.symm
  unfold World.freeze;split
  ·rfl
  ·simp [Array.getElem?_modify,hk']
 have hat:∃ fz,(w.freeze ⟨g,0,none⟩ n).heap[g]? = some (.cells cur e fz):=by
  unfold World.freeze;split
  ·exact ⟨_,c3⟩
  ·simp [Array.getElem?_modify,c3]
 obtain ⟨fz0,hat⟩:=hat
 have hcell:∀ b o,(w.freeze ⟨g,0,none⟩ n).cell? ⟨b,o,none⟩ = w.cell? ⟨b,o,none⟩:=by
  intro b o;by_cases hb:b = g
  ·subst hb; simp [World.cell?,hat,c3]
  ·exact World.cell?_of_block (a:=⟨b,o,none⟩) (other b hb)
 have hs:(w.freeze ⟨g,0,none⟩ n).heap.size = w.heap.size:=by
  unfold World.freeze; split <;> simp
 have o1:(w.freeze ⟨g,0,none⟩ n).os = w.os:=by unfold World.freeze; split <;> rfl
 have o2:(w.freeze ⟨g,0,none⟩ n).tape = w.tape:=by unfold World.freeze; split <;> rfl
 have o3:(w.freeze ⟨g,0,none⟩ n).output = w.output:=by unfold World.freeze; split <;> rfl
 have hF:Fix C w (w.freeze ⟨g,0,none⟩ n):=⟨fun b o _ => hcell b o,fun k T cs fz hh => by
  by_cases hk:k = g
  ·subst hk; rw [c3] at hh; simp only [Option.some.injEq,Obj.cells.injEq] at hh; obtain ⟨_,rfl,_⟩:=hh; exact ⟨_,_,hat⟩
  ·exact ⟨cs,fz,(other k hk).trans hh⟩⟩
 refine ⟨⟨h.nb,fun p cs hp => ?_,h.boxF,h.boxG,h.inj,fun s hs' => ?_,fun a b c ha hb => h.tinj a b c (List.mem_filter.1 ha).1 (List.mem_filter.1 hb).1,by rw [hs]; exact h.fin,by rw [hs]; exact h.ng,hL w _ h.t (by rw [hs]; exact Nat.le_refl _) fun k hk => other k (by omega)⟩,hF,o1,o2,o3,hs,other⟩
 ·obtain ⟨vs,e',h1,h2⟩:=h.box p cs hp
  have hlt:p < bx.length:=by
   rcases Nat.lt_or_ge p bx.length with h' | h'
   ·exact h'
   ·rw [List.getElem?_eq_none h'] at hp; cases hp
  exact ⟨vs,e',(other _ (c10 p hlt)).trans h1,h2.frame (CxLe.refl C) hF⟩
 ·obtain ⟨m1,m2⟩:=List.mem_filter.1 hs'
  obtain ⟨a1,a2,a3⟩:=h.tok s m1;refine ⟨a1,a2,a3.imp id ?_⟩;rintro ⟨b,cur',e',d1,d2,d3,d4⟩;refine ⟨b,cur',e',d1,d2,(other b fun hb => ?_).trans d3,d4⟩;subst hb
  have:=h.tinj s t b m1 ht d1 hg
  subst this; simp at m2
end
end
/- BuildC -/
section
theorem sizeBld:(Tryz.prog.info? 152).map (·.size) = some 2:=by kernel_rfl
theorem liesBld:liesAt Tryz.prog Tryz.prog.depth 152 (2 / Tryz.prog.cellsOf 152) 0 152 1 = true:=by kernel_rfl
theorem ziQ:(Tryz.prog.info? 5).map (fun i => (i.zero,i.size,i.bytes)) = some (some (.int .u8 0),1,1):=by kernel_rfl
set_option maxHeartbeats 1000000 in
set_option maxRecDepth 100000 in
theorem zg7 (b:Nat) (w:World) (h0:w.cell? ⟨b,0,none⟩ = some (.pointer (some ⟨b,0,none⟩))) :
  Calls Tryz.prog 177 #[.pointer (some ⟨b,0,none⟩)] w fun e w' => e = .returned (.tuple #[]) /\ w' = w:=by
 obtain ⟨j,hj,_⟩:=Option.map_eq_some_iff.1 sizeBld
 go_enter Tryz.func177,Tryz.ntmps177
 go_wp2;rw [Lib.run_neq_ptr_same w _ Tryz.underlying149 hj];go_wp2
 go_end0
 exact ⟨rfl,rfl⟩
set_option maxHeartbeats 1000000 in
set_option maxRecDepth 100000 in
theorem zgS (b:Nat) (w:World) (h0:w.cell? ⟨b,0,none⟩ = some (.pointer none)) (hsh:w.shape? b = some (152,2)) (hfz:w.frozen? ⟨b,0,none⟩ = false) :
  Calls Tryz.prog 177 #[.pointer (some ⟨b,0,none⟩)] w fun e w' => e = .returned (.tuple #[]) /\ w' = w.setCell ⟨b,0,none⟩ (.pointer (some ⟨b,0,none⟩)):=by
 obtain ⟨j,hj,hjs⟩:=Option.map_eq_some_iff.1 sizeBld
 go_enter Tryz.func177,Tryz.ntmps177
 go_wp2;rw [Lib.run_to_unsafe w ⟨b,0,none⟩ Tryz.underlying149 Tryz.underlying216 hj (by rw [hjs]; decide) hsh (Nat.zero_lt_succ 1)];simp only [Result.andThen];rw [Oper.upon_value];go_wp2;rw [run_callFunc_extern Tryz.func217 (by kernel_rfl) (by kernel_rfl) (by kernel_rfl) (e:=Extern.AbiNoEscape.same) (by kernel_rfl)];rw [Lib.run_noEscape];simp only [Result.andThen];rw [Oper.upon_value];go_wp2;rw [Lib.run_from_unsafe w ⟨b,0,none⟩ Tryz.underlying216 Tryz.underlying149 hj hsh liesBld];simp only [Result.andThen];rw [Oper.upon_value];go_wp2
 go_end0
 exact ⟨rfl,rfl⟩
end
/- PvBld -/
section
variable {T:World -> Prop} {hT:Low ngl T}
def bldC (p t:Nat) (l:List UInt8):List PC:=[.bld p 152 t 5,.sl t (pcB l)]
def CcP (C:Cx) (w:World) (bx:List (List PC)) (live:List Nat) (T:World -> Prop) (b:Nat) (v1:Value) (w':World):Prop :=
 Inv ngl T C bx (· ∈ live) w' /\ Fix C w w' /\ w'.os = w.os /\ w'.tape = w.tape /\ w'.output = w.output /\ w'.heap.size = w.heap.size /\ (∀ k,k ≠ b -> w'.heap[k]? = w.heap[k]?) /\ w'.heap[b]? = some (.cells #[.pointer (some ⟨b,0,none⟩),v1] 152 (0,0))
theorem ccheck {C:Cx} {bx:List (List PC)} {live:List Nat} {w:World} (hI:Inv ngl T C bx (· ∈ live) w) {p t:Nat} {l:List UInt8} (hp:bx[p]? = some (bldC p t l)) (hL:Low ngl T) :
  ∃ v1,Calls Tryz.prog 177 #[.pointer (some ⟨C.bx p,0,none⟩)] w (fun e w' => e = .returned (.tuple #[]) /\ CcP C w bx live T (C.bx p) v1 w') /\ RpC C w (.sl t (pcB l)) v1:=by
 obtain ⟨v0,v1,hh,hv,h1,hU⟩:=zjC hI hp
 have hlt:p < bx.length:=by
  rcases Nat.lt_or_ge p bx.length with h' | h'
  ·exact h'
  ·rw [List.getElem?_eq_none h'] at hp; cases hp
 have c0:w.cell? ⟨C.bx p,0,none⟩ = some v0:=by rw [Lib.cell_of_heap hh]; rfl
 refine ⟨v1,?_,h1⟩
 rcases hv with rfl | rfl
 ·refine (zgS (C.bx p) w c0 (by simp [World.shape?,hh]) (Lib.frozen_of_heap hh 0)).mono ?_
  rintro e w' ⟨rfl,rfl⟩
  have hnew:(w.setCell ⟨C.bx p,0,none⟩ (.pointer (some ⟨C.bx p,0,none⟩))).heap[C.bx p]? = some (.cells #[.pointer (some ⟨C.bx p,0,none⟩),v1] 152 (0,0)):=by
   simp [World.setCell,Array.getElem?_modify,hh]
  have hother:∀ k,k ≠ C.bx p -> (w.setCell ⟨C.bx p,0,none⟩ (.pointer (some ⟨C.bx p,0,none⟩))).heap[k]? = w.heap[k]?:=by
   intro k hk;have hk':C.bx p ≠ k:=fun h => hk h.symm
   simp [World.setCell,Array.getElem?_modify,hk']
  have hsz:w.heap.size = (w.setCell ⟨C.bx p,0,none⟩ (.pointer (some ⟨C.bx p,0,none⟩))).heap.size:=by simp [World.setCell]
  obtain ⟨k1,k2⟩:=hI.write hL hlt (us:=[.pointer (some ⟨C.bx p,0,none⟩),v1]) (cs:=bldC p t l) (e:=152) hnew (.cons (.bld _ _ _ _ _ (by rw [hI.nb]; exact hlt) _ _ hh (.inr rfl) hU) (.cons h1 .nil)) (fun T cs0 h0 => by rw [hh] at h0; simp only [Option.some.injEq,Obj.cells.injEq] at h0; exact h0.2.1) hsz hother;rw [set_self hp] at k1;exact ⟨rfl,⟨k1,k2,rfl,rfl,rfl,hsz.symm,hother,hnew⟩⟩
 ·refine (zg7 (C.bx p) w c0).mono ?_
  rintro e w' ⟨rfl,rfl⟩;exact ⟨rfl,⟨hI,Fix.refl _ _,rfl,rfl,rfl,rfl,fun _ _ => rfl,hh⟩⟩
def WrP (C:Cx) (w:World) (bx:List (List PC)) (live:List Nat) (T:World -> Prop) (p t:Nat) (l:List UInt8) (w':World):Prop :=
 ∃ C',Inv ngl T C' (bx.set p (bldC p C.nt l)) (· ∈ C.nt :: live.filter (· != t)) w' /\ C'.nt = C.nt + 1 /\ Ext C w C' (bx.set p (bldC p C.nt l)).length (· ∈ C.nt :: live.filter (· != t)) w'
theorem bld_done (hL:Low ngl T) {C:Cx} {bx:List (List PC)} {live:List Nat} {w w1 w2 w':World} (hI:Inv ngl T C bx (· ∈ live) w1) (hE:Ext C w C bx.length (· ∈ live) w1) (hn2:2 <= C.nt) {p t:Nat} {l l':List UInt8} (hp:bx[p]? = some (bldC p t l)) {u self:Value} {g:Option Nat} {cap:Nat}
  (k2:Inv ngl T (C.tok g cap (pcB l').length 1) bx (· ∈ C.nt :: live.filter (· != t)) w2) (k3:Fix C w1 w2) (k4:RpC (C.tok g cap (pcB l').length 1) w2 (.sl C.nt (pcB l')) u) (k5:w2.os = w1.os) (k6:w2.tape = w1.tape) (k7:w2.output = w1.output) (k8:w1.heap.size <= w2.heap.size)
  (k9:∀ k,k < w1.heap.size -> g ≠ some k -> w2.heap[k]? = w1.heap[k]?) (k10:∀ b,g = some b -> (w1.heap.size <= b /\ ∃ cs,w2.heap[b]? = some (.cells cs 5 (0,0))) \/ (t ∈ live /\ C.tk t = some b))
  (hs:self = .pointer (some ⟨C.bx p,0,none⟩)) (hw2:∃ v1,w2.heap[C.bx p]? = some (.cells #[self,v1] 152 (0,0)))
  (hw:w' = w2.setCell ⟨C.bx p,1,none⟩ u):WrP C w bx live T p t l' w':=by
 obtain ⟨v1,hw2⟩:=hw2;subst hw
 have hlt:p < bx.length:=by
  rcases Nat.lt_or_ge p bx.length with h' | h'
  ·exact h'
  ·rw [List.getElem?_eq_none h'] at hp; cases hp
 have hbx:(C.tok g cap (pcB l').length 1).bx p = C.bx p:=rfl
 have hnew:(w2.setCell ⟨C.bx p,1,none⟩ u).heap[C.bx p]? = some (.cells #[self,u] 152 (0,0)):=by
  simp [World.setCell,Array.getElem?_modify,hw2]
 have hother:∀ k,k ≠ C.bx p -> (w2.setCell ⟨C.bx p,1,none⟩ u).heap[k]? = w2.heap[k]?:=by
  intro k hk;have hk':C.bx p ≠ k:=fun h => hk h.symm
  simp [World.setCell,Array.getElem?_modify,hk']
 have hsz:w2.heap.size = (w2.setCell ⟨C.bx p,1,none⟩ u).heap.size:=by simp [World.setCell]
 obtain ⟨v0',v1',hh1,_,_,hU⟩:=zjC hI hp;have htok:=(Cx.tok_new C g cap (pcB l').length 1).1
 have hgw:∀ b,g = some b -> w.heap.size <= b \/ ∃ s,C.old s /\ C.tk s = some b:=by
  intro b hb
  rcases k10 b hb with ⟨h,_⟩ | ⟨h,h'⟩
  ·have:=hE.size; exact .inl (by omega)
  ·exact hE.newT t b h h'
 obtain ⟨q1,q2⟩:=k2.write hL hlt (us:=[self,u]) (cs:=bldC p C.nt l') (e:=152) hnew (.cons (.bld _ _ _ _ _ (by show p < C.nb; rw [hI.nb]; exact hlt) _ _ hw2 (.inr hs) (.inr ⟨hn2,by simp [Cx.tok],fun b hb => by
   rw [htok] at hb
   rcases k10 b hb with ⟨_,cs,h⟩ | ⟨h,h'⟩
   ·exact ⟨cs,_,h⟩
   ·rcases hU with rfl | ⟨_,_,h3⟩
    ·have:=(hI.tok 1 h).1; omega
    ·obtain ⟨cs,fz,h4⟩:=h3 b h'
     exact k3.2 _ _ _ _ h4⟩)) (.cons k4 .nil)) (fun T cs0 h0 => by rw [hbx,hw2] at h0; simp only [Option.some.injEq,Obj.cells.injEq] at h0; exact h0.2.1) hsz hother
 refine ⟨_,q1,by simp [Cx.tok],?_⟩
 have hE2:Ext C w (C.tok g cap (pcB l').length 1) bx.length (· ∈ C.nt :: live.filter (· != t)) w2:=by
  refine hE.step (Cx.tok_le _ _ _ _ _) k3 k5 k6 k7 k8 (fun k hk _ ho => k9 k (by have:=hE.size; omega) (fun hgk => by
   rcases hgw k hgk with h | ⟨t,h1,h2⟩
   ·omega
   ·exact ho t h1 h2)) ?_ ?_ (fun p hp hp2 => hE.newB p hp hp2)
  ·rintro b o (hb | ⟨hb,_⟩)
   ·exact .inl hb
   ·exact .inr (hgw b hb)
  ·intro s b htl hb
   simp only [List.mem_cons,List.mem_filter] at htl;by_cases htn:s = C.nt
   ·subst htn; rw [htok] at hb; exact hgw b hb
   ·have hm:s ∈ live:=(htl.resolve_left htn).1
    rw [((Cx.tok_le C _ _ _ _).tk s (hI.tok s hm).2.1).1] at hb; exact hE.newT s b hm hb
 have hE3:=hE2.step (C':=C.tok g cap (pcB l').length 1) (nb':=bx.length) (live':=(· ∈ C.nt :: live.filter (· != t))) (CxLe.refl _) q2 rfl rfl rfl (by omega) (fun k hk hne _ => hother k fun hkp => hne p (by rw [hI.nb]; exact hlt) hkp.symm) (fun b o x => .inl x) hE2.newT hE2.newB;rw [List.length_set]; exact hE3
set_option maxHeartbeats 400000 in
set_option maxRecDepth 100000 in
theorem zdq {bx:List (List PC)} {nt p t:Nat} {live:List Nat} {l:List UInt8} (s:List UInt8) (hp:bx[p]? = some (bldC p t l)) (ht:t = 1 \/ t ∈ live) (hlen:l.length + s.length <= 4294967296) :
  FnG (env T hT) 131 [.ref p 0,.d (pS s)] bx nt live (fun _ bx' nt' live' => bx' = bx.set p (bldC p nt (l ++ s)) /\ nt' = nt + 1 /\ live' = nt :: live.filter (· != t)):=by
 intro C w vs hI hnt hold hn2 hl hv
 match vs,hl with
 | [a0,a1],_ =>
  have g0:=hv 0 _ _ rfl rfl; have g1:=hv 1 _ _ rfl rfl
  have e1:a1 = .string ⟨s.toArray⟩:=by
   cases g1 with
   | d _ _ h => cases h; rfl
  have e0:a0 = .pointer (some ⟨C.bx p,0,none⟩):=by
   cases g0; rfl
  subst e0; subst e1
  obtain ⟨i0,hi,hz0,hz1,hz2⟩:=info_parts ziQ;obtain ⟨v1,hc,hr1⟩:=ccheck hI hp hT;have HC:=Lib.hid hc; clear hc
  have hE0:=Ext.start hI hold
  have HF:=Lib.hid (fun w' (h:WrP C w bx live T p t (l ++ s) w') => show ∃ u x bx' nt' live' C',Ending.returned (.tuple #[.int .i64 s.length,.nilIface]) = .returned u /\ (bx' = bx.set p (bldC p nt (l ++ s)) /\ nt' = nt + 1 /\ live' = nt :: live.filter (· != t)) /\ Inv ngl T C' bx' (· ∈ live') w' /\ C'.nt = nt' /\ Ext C w C' bx'.length (· ∈ live') w' /\ RpV C' w' x u by
   obtain ⟨C',h1,h2,h3⟩:=h;rw [hnt] at h1 h2 h3;exact ⟨_,.raw _,_,_,_,C',rfl,⟨rfl,rfl,rfl⟩,h1,h2,h3,.raw _⟩)
  have HD:=Lib.hid (fun w1 w2 w' u self g cap hI1 hE1 => bld_done (C:=C) (w:=w) (w1:=w1) (w2:=w2) (w':=w') (u:=u) (self:=self) (g:=g) (cap:=cap) (l:=l) (l':=l ++ s) (bx:=bx) (live:=live) hT hI1 hE1 (by omega) hp);obtain ⟨b,hb⟩:∃ b,b = C.bx p:=⟨_,rfl⟩;rw [<- hb] at HC HD ⊢;have HB:=Lib.hid hb; clear hb
  show Calls Tryz.prog 131 #[.pointer (some ⟨b,0,none⟩),.string ⟨s.toArray⟩] w _
  go_enter Tryz.func131,Tryz.ntmps131
  go_wp2_with (go_at_call 177; refine HC.out.mono ?_)
  rintro e1 w1 rfl ⟨hI1,hF1,o1,o2,o3,o4,o5,hbk⟩;have hE1:Ext C w C bx.length (· ∈ live) w1:=hE0.step (CxLe.refl C) hF1 o1 o2 o3 (by omega) (fun k _ hne _ => o5 k fun h => hne p (by rw [hI.nb]; rcases Nat.lt_or_ge p bx.length with h' | h'; exact h'; rw [List.getElem?_eq_none h'] at hp; cases hp) (by rw [h]; exact HB.out.symm)) (fun b o x => .inl x) hE0.newT hE0.newB;have c0:w1.cell? ⟨b,0,none⟩ = some (.pointer (some ⟨b,0,none⟩)):=by rw [Lib.cell_of_heap hbk]; rfl
  have c1:w1.cell? ⟨b,1,none⟩ = some v1:=by rw [Lib.cell_of_heap hbk]; rfl
  obtain ⟨u,w2,g,cap,k1,k2,k3,k4,k5,k6,k7,k8,k9,k10⟩:=apps_run (P:=Tryz.prog) hT hI1 (by omega) (t:=150) (t':=9) (e:=5) (i:=i0) Tryz.underlying150 Tryz.underlying9 hi hz0 hz1 hz2 (hr1.frame (CxLe.refl C) hF1) ht s (by rw [zeg]; exact hlen) (zgp l) 150;have hcat:pcB l ++ pcB s = pcB (l ++ s):=by simp [pcB]
  rw [hcat] at k2 k4
  have hne:g ≠ some b:=fun h => by
   rcases k10 b h with ⟨h1,_⟩ | ⟨h1,h2⟩
   ·have:=za6 hbk; omega
   ·obtain ⟨_,_,⟨z,_⟩ | ⟨b',cur,e',d1,_,d3,_,_,_,_,_,_,d9⟩⟩:=hI1.tok t h1
    ·rw [z] at h2; cases h2
    ·rw [h2] at d1; simp only [Option.some.injEq] at d1; subst d1
     exact d9 p (by rcases Nat.lt_or_ge p bx.length with h' | h'; exact h'; rw [List.getElem?_eq_none h'] at hp; cases hp) HB.out.symm
  have hb2:w2.heap[b]? = some (.cells #[.pointer (some ⟨b,0,none⟩),v1] 152 (0,0)):=(k9 b (za6 hbk) hne).trans hbk;have HW:=Lib.hid (HD.out w1 _ _ _ _ _ _ hI1 hE1 k2 k3 k4 k5 k6 k7 k8 k9 k10 rfl ⟨v1,hb2⟩ rfl);have d0:w2.cell? ⟨b,0,none⟩ = some (.pointer (some ⟨b,0,none⟩)):=by rw [Lib.cell_of_heap hb2]; rfl
  have d1:w2.cell? ⟨b,1,none⟩ = some v1:=by rw [Lib.cell_of_heap hb2]; rfl
  have f1:w2.frozen? ⟨b,1,none⟩ = false:=Lib.frozen_of_heap hb2 1;obtain ⟨ao,cp,rfl,_⟩:=sl_form k4;clear k2 k3 k4 k5 k6 k7 k8 k9 k10 hI hI1 hE0 hE1 hF1 HD o1 o2 o3 o4 o5 hr1
  go_wp2_with (at_builtin; refine zed rfl _ _ 150 9 rfl _ _ _ _ rfl rfl k1 ?_)
  go_wp2
  go_ret2
  exact HF.out _ HW.out
set_option maxHeartbeats 400000 in
set_option maxRecDepth 100000 in
theorem zhX {bx:List (List PC)} {nt p t:Nat} {live:List Nat} {l:List UInt8} (s:UInt8) (hp:bx[p]? = some (bldC p t l)) (ht:t = 1 \/ t ∈ live) (hlen:l.length + 1 <= 4294967296) :
  FnG (env T hT) 179 [.ref p 0,.d (.v (.int .u8 s.toNat))] bx nt live (fun _ bx' nt' live' => bx' = bx.set p (bldC p nt (l ++ [s])) /\ nt' = nt + 1 /\ live' = nt :: live.filter (· != t)):=by
 intro C w vs hI hnt hold hn2 hl hv
 match vs,hl with
 | [a0,a1],_ =>
  have g0:=hv 0 _ _ rfl rfl; have g1:=hv 1 _ _ rfl rfl
  have e1:a1 = .int .u8 s.toNat:=by
   cases g1 with
   | d _ _ h => cases h; rfl
  have e0:a0 = .pointer (some ⟨C.bx p,0,none⟩):=by
   cases g0; rfl
  subst e0; subst e1
  obtain ⟨i0,hi,hz0,hz1,hz2⟩:=info_parts ziQ;obtain ⟨v1,hc,hr1⟩:=ccheck hI hp hT;have HC:=Lib.hid hc; clear hc
  have hE0:=Ext.start hI hold
  have HF:=Lib.hid (fun w' (h:WrP C w bx live T p t (l ++ [s]) w') => show ∃ u x bx' nt' live' C',Ending.returned (.nilIface) = .returned u /\ (bx' = bx.set p (bldC p nt (l ++ [s])) /\ nt' = nt + 1 /\ live' = nt :: live.filter (· != t)) /\ Inv ngl T C' bx' (· ∈ live') w' /\ C'.nt = nt' /\ Ext C w C' bx'.length (· ∈ live') w' /\ RpV C' w' x u by
   obtain ⟨C',h1,h2,h3⟩:=h;rw [hnt] at h1 h2 h3;exact ⟨_,.raw _,_,_,_,C',rfl,⟨rfl,rfl,rfl⟩,h1,h2,h3,.raw _⟩)
  have HD:=Lib.hid (fun w1 w2 w' u self g cap hI1 hE1 => bld_done (C:=C) (w:=w) (w1:=w1) (w2:=w2) (w':=w') (u:=u) (self:=self) (g:=g) (cap:=cap) (l:=l) (l':=l ++ [s]) (bx:=bx) (live:=live) hT hI1 hE1 (by omega) hp);obtain ⟨b,hb⟩:∃ b,b = C.bx p:=⟨_,rfl⟩;rw [<- hb] at HC HD ⊢;have HB:=Lib.hid hb; clear hb
  show Calls Tryz.prog 179 #[.pointer (some ⟨b,0,none⟩),.int .u8 s.toNat] w _
  go_enter Tryz.func179,Tryz.ntmps179
  go_wp2_with (go_at_call 177; refine HC.out.mono ?_)
  rintro e1 w0 rfl ⟨hI1,hF1,o1,o2,o3,o4,o5,hbk⟩
  have hplt:p < bx.length:=by
   rcases Nat.lt_or_ge p bx.length with h' | h'
   ·exact h'
   ·rw [List.getElem?_eq_none h'] at hp; cases hp
  have hE1:Ext C w C bx.length (· ∈ live) w0:=hE0.step (CxLe.refl C) hF1 o1 o2 o3 (by omega) (fun k _ hne _ => o5 k fun h => hne p (by rw [hI.nb]; exact hplt) (by rw [h]; exact HB.out.symm)) (fun b o x => .inl x) hE0.newT hE0.newB;obtain ⟨w1,hw1⟩:∃ w1,w1 = w0.alloc (.cells #[.int .u8 s.toNat] 5):=⟨_,rfl⟩;have hI2:Inv ngl T C bx (· ∈ live) w1:=by rw [hw1]; exact hI1.alloc hT _
  have hF2:Fix C w0 w1:=by rw [hw1]; exact zfm hI1.fin _
  have hE2:Ext C w C bx.length (· ∈ live) w1:=hE1.step (CxLe.refl C) hF2 (by rw [hw1]; rfl) (by rw [hw1]; rfl) (by rw [hw1]; rfl) (by rw [hw1]; simp) (fun k hk _ _ => by rw [hw1]; exact heap_alloc_old w0 _ (by have:=hE1.size; omega)) (fun b o x => .inl x) hE1.newT hE1.newB;have hcell:w1.cell? ⟨w0.heap.size,0,none⟩ = some (.int .u8 s.toNat):=by rw [hw1,Lib.cell_of_heap (zbR w0 _)]; rfl
  have hbk1:w1.heap[b]? = some (.cells #[.pointer (some ⟨b,0,none⟩),v1] 152 (0,0)):=by rw [hw1]; exact (heap_alloc_old w0 _ (za6 hbk)).trans hbk
  have c0:w1.cell? ⟨b,0,none⟩ = some (.pointer (some ⟨b,0,none⟩)):=by rw [Lib.cell_of_heap hbk1]; rfl
  have c1:w1.cell? ⟨b,1,none⟩ = some v1:=by rw [Lib.cell_of_heap hbk1]; rfl
  have c2:w0.cell? ⟨b,1,none⟩ = some v1:=by rw [Lib.cell_of_heap hbk]; rfl
  obtain ⟨u,w2,g,cap,k1,k2,k3,k4,k5,k6,k7,k8,k9,k10⟩:=appc_run (P:=Tryz.prog) hT hI2 (by omega) (t:=150) (e:=5) (i:=i0) Tryz.underlying150 hi hz0 hz1 hz2 ((hr1.frame (CxLe.refl C) hF1).frame (CxLe.refl C) hF2) ht s (cy:=1) hcell (by rw [zeg]; exact hlen) (zgp l) 150;have hcat:pcB l ++ pcB [s] = pcB (l ++ [s]):=by simp [pcB]
  rw [hcat] at k2 k4
  have hne:g ≠ some b:=fun h => by
   rcases k10 b h with ⟨h1,_⟩ | ⟨h1,h2⟩
   ·have:=za6 hbk1; omega
   ·obtain ⟨_,_,⟨z,_⟩ | ⟨b',cur,e',d1,_,d3,_,_,_,_,_,_,d9⟩⟩:=hI2.tok t h1
    ·rw [z] at h2; cases h2
    ·rw [h2] at d1; simp only [Option.some.injEq] at d1; subst d1
     exact d9 p hplt HB.out.symm
  have hb2:w2.heap[b]? = some (.cells #[.pointer (some ⟨b,0,none⟩),v1] 152 (0,0)):=(k9 b (za6 hbk1) hne).trans hbk1;have HW:=Lib.hid (HD.out w1 _ _ _ _ _ _ hI2 hE2 k2 k3 k4 k5 k6 k7 k8 k9 k10 rfl ⟨v1,hb2⟩ rfl);have d0:w2.cell? ⟨b,0,none⟩ = some (.pointer (some ⟨b,0,none⟩)):=by rw [Lib.cell_of_heap hb2]; rfl
  have d1:w2.cell? ⟨b,1,none⟩ = some v1:=by rw [Lib.cell_of_heap hb2]; rfl
  have f1:w2.frozen? ⟨b,1,none⟩ = false:=Lib.frozen_of_heap hb2 1;obtain ⟨ao,cp,rfl,_⟩:=sl_form k4;clear k2 k3 k4 k5 k6 k7 k8 k9 k10 hI hI1 hI2 hE0 hE1 hE2 hF1 hF2 HD o1 o2 o3 o4 o5 hr1;subst hw1
  go_wp2_with (at_builtin; refine zed rfl _ _ 150 150 rfl _ _ _ _ rfl rfl k1 ?_)
  go_wp2;go_ret;exact HF.out _ HW.out
theorem cellsByteB:(Tryz.prog.cellsOf 5) = 1:=by kernel_rfl
set_option maxHeartbeats 400000 in
set_option maxRecDepth 100000 in
theorem bstr_fn {bx:List (List PC)} {nt p t:Nat} {live:List Nat} {l:List UInt8} (hl0:l ≠ []) (hp:bx[p]? = some (bldC p t l)) (ht:t = 1 \/ t ∈ live) :
  FnG (env T hT) 134 [.ref p 0] bx nt live (fun x bx' nt' live' => x = .d (pS l) /\ bx' = bx /\ nt' = nt /\ live' = live.filter (· != t)):=by
 intro C w vs hI hnt hold hn2 hl hv
 match vs,hl with
 | [a0],_ =>
  have g0:=hv 0 _ _ rfl rfl
  have e0:a0 = .pointer (some ⟨C.bx p,0,none⟩):=by
   cases g0; rfl
  subst e0;obtain ⟨v0,v1,hh,hv0,h1,hU⟩:=zjC hI hp;have hE0:=Ext.start hI hold;have hne:pcB l ≠ []:=by simpa [pcB] using hl0
  have hpl:0 < l.length:=by cases l with | nil => exact absurd rfl hl0 | cons => simp
  obtain ⟨g,cap,cur,rfl,htl,htk,hg,hcp,hcm,hcs,hcell⟩:∃ g cap cur,v1 = .slice (some ⟨g,0,none⟩) l.length cap /\ t ∈ live /\ C.tk t = some g /\ w.heap[g]? = some (.cells cur 5 (0,0)) /\ l.length <= cap /\ cap <= maxLen /\ l.length <= cur.size /\ ∀ j x,l[j]? = some x -> w.cell? ((⟨g,0,none⟩:Addr).add j) = some (.int .u8 x.toNat):=by
   generalize hes:pcB l = es at h1 hne
   cases h1 with
   | emp => exact absurd rfl hne
   | nil => exact absurd rfl hne
   | nilo => exact absurd rfl hne
   | rd es b o n c u hl hc hr h =>
    rcases ht with h0 | h0
    ·cases h0
    ·have:=(hI.tok 0 h0).1; omega
   | own t es b u h2 hlt hb hlen hcl hc hr h =>
    have htl:t ∈ live:=ht.resolve_left (by omega);subst hes;obtain ⟨_,_,⟨z,_⟩ | ⟨b',cur,e',d1,_,d3,d4,d5,d6,d7,_,_,_⟩⟩:=hI.tok t htl
    ·rw [hb] at z; cases z
    rw [hb] at d1; simp only [Option.some.injEq] at d1; subst d1
    obtain ⟨_,_,h3⟩:=hU.resolve_left (by omega);obtain ⟨cs,fz,h4⟩:=h3 b hb;rw [d3] at h4; simp only [Option.some.injEq,Obj.cells.injEq] at h4
    obtain ⟨_,rfl,_⟩:=h4
    have hn1:C.tn t = 1:=by
     obtain ⟨d,hd⟩:=List.exists_mem_of_ne_nil _ hne;rw [<- hr.wid d hd,zgp l d hd]
    rw [hn1] at d4;rw [zeg] at hcl ⊢;refine ⟨b,C.cp t,cur,rfl,htl,hb,d3,hcl,hc,by omega,fun j x hx => ?_⟩
    have hj:j < l.length:=by
     rcases Nat.lt_or_ge j l.length with h' | h'
     ·exact h'
     ·rw [List.getElem?_eq_none h'] at hx; cases hx
    have q1:=hr.cell j 0 (by rw [zeg]; exact hj) (by omega);have q2:=h j 0 [.v (.int .u8 x.toNat)] _ (by simp [pcB,hx]) rfl;rw [hn1,Nat.one_mul,Nat.add_zero,Nat.zero_add] at q1;rw [zb2,Nat.zero_add,q1];generalize u j 0 = y at q2
    cases q2; rfl
  obtain ⟨b,hb⟩:∃ b,b = C.bx p:=⟨_,rfl⟩;obtain ⟨hId,hFd⟩:=hI.drewn hT (w.drawn + 1);obtain ⟨q1,q2,q3,q4,q5,q6,q7⟩:=hId.froze hT (n:=l.length) htl htk;have hE1:Ext C w C bx.length (· ∈ live) { w with drawn:=w.drawn + 1 }:=hE0.step (CxLe.refl C) hFd rfl rfl rfl (Nat.le_refl _) (fun _ _ _ _ => rfl) (fun b o x => .inl x) hE0.newT hE0.newB;have hE2:=hE1.step (CxLe.refl C) (live':=(· ∈ live.filter (· != t))) (nb':=bx.length) q2 q3 q4 q5 (by omega) (fun k hk hne ho => q7 k fun h => ho t (by rw [hold]; exact htl) (by rw [htk,h])) (fun b o x => .inl x) (fun s b hs hb => hE1.newT s b (List.mem_filter.1 hs).1 hb) hE1.newB;have HF:=Lib.hid (show ∃ u x bx' nt' live' C',Ending.returned (.string ⟨l.toArray⟩) = .returned u /\ (x = .d (pS l) /\ bx' = bx /\ nt' = nt /\ live' = live.filter (· != t)) /\ Inv ngl T C' bx' (· ∈ live') (w.drew.freeze ⟨g,0,none⟩ l.length) /\ C'.nt = nt' /\ Ext C w C' bx'.length (· ∈ live') (w.drew.freeze ⟨g,0,none⟩ l.length) /\ RpV C' (w.drew.freeze ⟨g,0,none⟩ l.length) x u from ⟨_,_,bx,nt,_,C,rfl,⟨rfl,rfl,rfl,rfl⟩,q1,hnt,hE2,.d _ _ (.v _ rfl)⟩)
  rw [<- hb] at hh hv0 ⊢;clear hb
  have c1:w.drew.cell? ⟨b,1,none⟩ = some (.slice (some ⟨g,0,none⟩) l.length cap):=by
   have:w.drew.heap[b]? = some (.cells #[v0,.slice (some ⟨g,0,none⟩) l.length cap] 152 (0,0)):=hh
   rw [Lib.cell_of_heap this]; rfl
  have hSD:(Builtin.unsafeSliceData_ #[150] 201 #[.slice (some ⟨g,0,none⟩) l.length cap]).run Tryz.prog w.drew = .ok (.pointer (some ⟨g,0,none⟩)) w.drew :=
   Lib.run_unsafeSliceData_row _ _ _ _ _ _ (by omega)
  have hUS:(Builtin.unsafeString_ #[201,3] 9 #[.pointer (some ⟨g,0,none⟩),.int .i64 l.length]).run Tryz.prog w.drew = .ok (.string ⟨l.toArray⟩) (w.drew.freeze ⟨g,0,none⟩ l.length):=by
   refine Lib.run_unsafeString_row w.drew 201 3 9 5 Tryz.underlying201 cellsByteB g cur.size (by have hg':w.drew.heap[g]? = some (.cells cur 5 (0,0)):=hg; simp [World.shape?,hg']) l hl0 (by omega) (by unfold maxLen at hcm; omega) ?_;intro j x hx;exact hcell j x hx
  clear q1 q2 q3 q4 q5 q6 q7 hE1 hE2 hE0 hI hId hFd hcell h1 hU hcs;show Calls Tryz.prog 134 #[.pointer (some ⟨b,0,none⟩)] w _
  go_enter Tryz.func134,Tryz.ntmps134
  go_wp2
  go_region
  all_goals (go_wp2; go_ret; exact HF.out)
end
/- PvH2 -/
section
variable {T:World -> Prop} {hT:Low ngl T}
attribute [local irreducible] po mw pt
def WrN (t:Nat) (live:List Nat) (nt:Nat) (t' nt':Nat) (live':List Nat):Prop:=(t' = 1 \/ t' ∈ live') /\ nt <= nt' /\ (∀ s ∈ live,s < nt -> s ≠ t -> s ∈ live') /\ (t' = t \/ nt <= t')
theorem WrN.step {t nt n1:Nat} {live l1:List Nat} (hn:nt <= n1) (hl:∀ s ∈ live,s ∈ l1):WrN t live nt n1 (n1 + 1) (n1 :: l1.filter (· != t)) :=
 ⟨.inr (List.mem_cons_self ..),by omega,fun s hs _ hne => List.mem_cons_of_mem _ (List.mem_filter.2 ⟨hl s hs,by simpa using hne⟩),.inr hn⟩
theorem WrN.trans {t t1 t2 nt n1 n2:Nat} {live l1 l2:List Nat} (h:WrN t live nt t1 n1 l1) (k:WrN t1 l1 n1 t2 n2 l2):WrN t live nt t2 n2 l2:=by
 obtain ⟨_,h2,h3,h4⟩:=h;obtain ⟨k1,k2,k3,k4⟩:=k;exact ⟨k1,by omega,fun s hs hlt hne => k3 s (h3 s hs hlt hne) (by omega) (by omega),by omega⟩
theorem WrN.refl {t nt:Nat} {live:List Nat} (h:t = 1 \/ t ∈ live):WrN t live nt t nt live:=⟨h,Nat.le_refl _,fun _ hs _ _ => hs,.inl rfl⟩
mutual
theorem er_lw:∀ {c:PC},c.er = c -> c.lw 0
 | .v _,_ => by simp only [PC.lw]
 | .bld _ _ _ _,h => by simp [PC.er] at h
 | .anyp,_ => by simp only [PC.lw]
 | .row _ _ _,h => by simp [PC.er] at h
 | .sl t es,h => by
  simp only [PC.er,PC.sl.injEq] at h;simp only [PC.lw];exact erLL_lw h.2
theorem erL_lw:∀ {c:List PC},erL c = c -> lwL 0 c
 | [],_ => by simp only [lwL]
 | c :: cs,h => by
  simp only [erL,List.cons.injEq] at h;simp only [lwL];exact ⟨er_lw h.1,erL_lw h.2⟩
theorem erLL_lw:∀ {c:List (List PC)},erLL c = c -> lwLL 0 c
 | [],_ => by simp only [lwLL]
 | c :: cs,h => by
  simp only [erLL,List.cons.injEq] at h;simp only [lwLL];exact ⟨erL_lw h.1,erLL_lw h.2⟩
end
theorem lw_vC (v:V):lwL 0 (vC v):=erL_lw (zi2 v)
theorem V.wf_num {v:V} (h:v.wf):i64ok v.num:=by obtain ⟨k,n,e,s,kids⟩:=v; exact h.2.1
theorem V.wf_exp {v:V} (h:v.wf):i64ok v.exp:=by obtain ⟨k,n,e,s,kids⟩:=v; exact h.2.2.1
theorem zhY (t:Nat) (l:List UInt8):∀ y ∈ bldC 0 t l,okC0 y:=by
 intro y hy;simp only [bldC,List.mem_cons,List.mem_nil_iff,or_false] at hy
 rcases hy with rfl | rfl
 ·rfl
 ·show PC.lw 0 (.sl t (pcB l))
  simp only [PC.lw];unfold pcB
  induction l with
  | nil => simp [lwLL]
  | cons b l ih => simp only [List.map_cons,lwLL,lwL,PC.lw,true_and]; exact ih
theorem V.ok_kind9 {v:V} (h:v.ok = true) (h0:¬ v.kind = 0) (h1:¬ v.kind = 1) (h2:¬ v.kind = 2) (h3:¬ v.kind = 3) (h4:¬ v.kind = 4) (h5:¬ v.kind = 5) (h6:¬ v.kind = 6) (h7:¬ v.kind = 7) (h8:¬ v.kind = 8):v.kind = 9:=by
 obtain ⟨k,n,e,s,kids⟩:=v;unfold V.ok at h;simp only [V.rightBy,Bool.and_eq_true,decide_eq_true_eq] at h;have h2':=h.1.2.2;simp only [V.kind] at *;simp only [V.selfBy] at h2';rw [if_neg (by omega)] at h2';simp only [h3,h4,h5,h6,h7,h8,if_false] at h2'
 split at h2'
 ·assumption
 ·cases h2'
def PmG (T:World -> Prop) (hT:Low ngl T) (v:V):Prop:=∀ (t nt:Nat) (live:List Nat) (l:List UInt8),(t = 1 \/ t ∈ live) -> l.length + (msg v).length <= 4294967296 ->
 FnG (env T hT) 133 [.ref 0 0,.ag (vC v)] [bldC 0 t l] nt live (fun x b n l' => ∃ c' rest,b = c' :: rest /\ x.lw 0 /\ (∀ y ∈ c',okC0 y) /\ ∃ t',c' = bldC 0 t' (l ++ msg v) /\ WrN t live nt t' n l')
def PmL (v:V) (l:List UInt8) (t nt:Nat) (live:List Nat) (m:Nat) (s:St):Prop:=∃ i:Nat,i <= v.kids.length /\ m = v.kids.length - i /\ has s.tm [(0,.ref 0 0),(91,.d (.sl 0 (vK v.kids))),(92,.d (pI v.kids.length)),(93,.d (pI i))] /\
 ∃ t' rest,s.bx = bldC 0 t' (l ++ (msgHd v ++ msgs (v.kids.take i))) :: vC v :: rest /\ WrN t live nt t' s.nt s.live
set_option maxHeartbeats 4000000 in
theorem pm_step {v:V} (hw:v.wf) (hk:v.ok = true) (hkid:∀ (i:Nat) (h:i < v.kids.length),PmG T hT v.kids[i]):PmG T hT v:=by
 intro t nt live l ht htot;obtain ⟨hml,htl⟩:=V.ok_msg hk;have hvlen:(vK v.kids).length = v.kids.length:=zdv _;have hkl:=V.ok_len hk;have mm:=zdo;have wnum:i64ok v.num:=V.wf_num hw;have wexp:i64ok v.exp:=V.wf_exp hw;have hnum:=putNum_fn (T:=T) (hT:=hT) v.num wnum;have hwide:=fun x k h hx => zjy (T:=T) (hT:=hT) x k h hx
 have hlen5:=fun n a b c d h1 h2 h3 => putLen_fn (T:=T) (hT:=hT) n a b c d h1 h2 h3
 have hM:(msg v).length = (msgHd v).length + (msgs v.kids).length:=by rw [zgB,List.length_append]
 have ht2:t = 1 \/ t ∈ nt :: live:=ht.imp id fun h => List.mem_cons_of_mem _ h
 refine za1 (zag zjw) (by show 2 <= 101; decide) fun B hB => ?_
 unfold m_i_putMsg;refine mO ?_;refine zaQ rfl ?_;refine zac ?_;refine zaq (fun s => has s.tm [(0,.ref 0 0),(3,.ref 1 0)] /\ ∃ t',s.bx = [bldC 0 t' (l ++ msgHd v),vC v] /\ WrN t live nt t' s.nt s.live) ?_ ?_
 ·refine mO ?_
  (iterate 2 refine mS ?_);refine zac ?_;refine zai (zaa (zad ?_));by_cases h0:v.kind = 0
  ·refine zak rfl rfl (decide_eq_true h0) ?_
   refine mN ?_;refine mwT ?_;have e:msgHd v = [192]:=by unfold msgHd; simp [h0]
   have hlen:1 <= (msg v).length:=by rw [hM,e]; exact Nat.le_add_right 1 _
   refine zad ?_;refine mS ?_;refine po_g rfl (zhX 192 (l:=l) (t:=t) rfl ht (by omega)) ?_;rintro x _ _ _ ⟨rfl,rfl,rfl⟩;refine zac ?_;exact ⟨⟨rfl,rfl,trivial⟩,nt,by rw [e]; rfl,WrN.step (Nat.le_refl _) fun _ h => h⟩
  refine zam rfl rfl (decide_eq_false h0) ?_;refine mN ?_;refine mwF ?_;refine mO ?_;by_cases h1:v.kind = 1
  ·refine zak rfl rfl (decide_eq_true h1) ?_
   refine mN ?_;refine mwT ?_;have e:msgHd v = [194]:=by unfold msgHd; simp [h1]
   have hlen:1 <= (msg v).length:=by rw [hM,e]; exact Nat.le_add_right 1 _
   refine zad ?_;refine mS ?_;refine po_g rfl (zhX 194 (l:=l) (t:=t) rfl ht (by omega)) ?_;rintro x _ _ _ ⟨rfl,rfl,rfl⟩;refine zac ?_;exact ⟨⟨rfl,rfl,trivial⟩,nt,by rw [e]; rfl,WrN.step (Nat.le_refl _) fun _ h => h⟩
  refine zam rfl rfl (decide_eq_false h1) ?_;refine mN ?_;refine mwF ?_;refine mO ?_;by_cases h2:v.kind = 2
  ·refine zak rfl rfl (decide_eq_true h2) ?_
   refine mN ?_;refine mwT ?_;have e:msgHd v = [195]:=by unfold msgHd; simp [h2]
   have hlen:1 <= (msg v).length:=by rw [hM,e]; exact Nat.le_add_right 1 _
   refine zad ?_;refine mS ?_;refine po_g rfl (zhX 195 (l:=l) (t:=t) rfl ht (by omega)) ?_;rintro x _ _ _ ⟨rfl,rfl,rfl⟩;refine zac ?_;exact ⟨⟨rfl,rfl,trivial⟩,nt,by rw [e]; rfl,WrN.step (Nat.le_refl _) fun _ h => h⟩
  refine zam rfl rfl (decide_eq_false h2) ?_;refine mN ?_;refine mwF ?_;refine mO ?_;by_cases h3:v.kind = 3
  ·refine zak rfl rfl (decide_eq_true h3) ?_
   refine mN ?_;refine mwT ?_;have e:msgHd v = msgInt v.num:=by unfold msgHd; simp [h3]
   have hlen:(msgInt v.num).length <= (msg v).length:=by rw [hM,e]; exact Nat.le_add_right _ _
   refine zad ?_;(iterate 3 refine mS ?_);refine zaf rfl hnum ?_;refine po_g rfl (zdq (msgInt v.num) (l:=l) (t:=t) rfl ht (by omega)) ?_;rintro x _ _ _ ⟨rfl,rfl,rfl⟩;refine zac ?_;exact ⟨⟨rfl,rfl,trivial⟩,nt,by rw [e]; rfl,WrN.step (Nat.le_refl _) (fun _ h => h)⟩
  refine zam rfl rfl (decide_eq_false h3) ?_;refine mN ?_;refine mwF ?_;refine mO ?_;by_cases h5:v.kind = 5
  ·refine zak rfl rfl (decide_eq_true h5) ?_
   refine mN ?_;refine mwT ?_;have e:msgHd v = msgMany v.text.length 32 160 217 218 ++ v.text:=by unfold msgHd; simp [h5]
   have hlen:(msgMany v.text.length 32 160 217 218 ++ v.text).length <= (msg v).length:=by rw [hM,e]; exact Nat.le_add_right _ _
   refine zad ?_;(iterate 4 refine mS ?_);(iterate 2 refine mS ?_);refine zaf (args:=[.d (pI v.text.length),.d (pI 160),.d (pI 32),.d (pI 217),.d (pI 218)]) rfl (hlen5 v.text.length 32 160 217 218 (by omega) (by omega) (by omega)) ?_;refine zaX (lb:=v.text) rfl rfl rfl (by have:=mm v.text.length 32 160 217 218; omega) ?_;refine po_g rfl (zdq (msgMany v.text.length 32 160 217 218 ++ v.text) (l:=l) (t:=t) rfl ht (by omega)) ?_;rintro x _ _ _ ⟨rfl,rfl,rfl⟩;refine zac ?_;exact ⟨⟨rfl,rfl,trivial⟩,nt,by rw [e]; rfl,WrN.step (Nat.le_refl _) (fun _ h => h)⟩
  refine zam rfl rfl (decide_eq_false h5) ?_;refine mN ?_;refine mwF ?_;refine mO ?_;by_cases h6:v.kind = 6
  ·refine zak rfl rfl (decide_eq_true h6) ?_
   refine mN ?_;refine mwT ?_;have e:msgHd v = msgMany v.text.length 0 0 196 197 ++ v.text:=by unfold msgHd; simp [h6]
   have hlen:(msgMany v.text.length 0 0 196 197 ++ v.text).length <= (msg v).length:=by rw [hM,e]; exact Nat.le_add_right _ _
   refine zad ?_;(iterate 4 refine mS ?_);(iterate 2 refine mS ?_);refine zaf (args:=[.d (pI v.text.length),.d (pI 0),.d (pI 0),.d (pI 196),.d (pI 197)]) rfl (hlen5 v.text.length 0 0 196 197 (by omega) (by omega) (by omega)) ?_;refine zaX (lb:=v.text) rfl rfl rfl (by have:=mm v.text.length 0 0 196 197; omega) ?_;refine po_g rfl (zdq (msgMany v.text.length 0 0 196 197 ++ v.text) (l:=l) (t:=t) rfl ht (by omega)) ?_;rintro x _ _ _ ⟨rfl,rfl,rfl⟩;refine zac ?_;exact ⟨⟨rfl,rfl,trivial⟩,nt,by rw [e]; rfl,WrN.step (Nat.le_refl _) (fun _ h => h)⟩
  refine zam rfl rfl (decide_eq_false h6) ?_;refine mN ?_;refine mwF ?_;refine mO ?_;by_cases h7:v.kind = 7
  ·refine zak rfl rfl (decide_eq_true h7) ?_
   refine mN ?_;refine mwT ?_;have e:msgHd v = msgMany v.kids.length 16 144 0 220:=by unfold msgHd; simp [h7]
   have hlen:(msgMany v.kids.length 16 144 0 220).length <= (msg v).length:=by rw [hM,e]; exact Nat.le_add_right _ _
   refine zad ?_;(iterate 3 refine mS ?_);refine zaB (n:=v.kids.length) rfl rfl hvlen ?_;refine zaf (args:=[.d (pI v.kids.length),.d (pI 144),.d (pI 16),.d (pI 0),.d (pI 220)]) rfl (hlen5 v.kids.length 16 144 0 220 (by omega) (by omega) (by omega)) ?_;refine po_g rfl (zdq (msgMany v.kids.length 16 144 0 220) (l:=l) (t:=t) rfl ht (by omega)) ?_;rintro x _ _ _ ⟨rfl,rfl,rfl⟩;refine zac ?_;exact ⟨⟨rfl,rfl,trivial⟩,nt,by rw [e]; rfl,WrN.step (Nat.le_refl _) (fun _ h => h)⟩
  refine zam rfl rfl (decide_eq_false h7) ?_;refine mN ?_;refine mwF ?_;refine mO ?_;by_cases h8:v.kind = 8
  ·refine zak rfl rfl (decide_eq_true h8) ?_
   refine mN ?_;refine mwT ?_;have e:msgHd v = msgMany ((v.kids.length / 2:Nat):Int) 16 128 0 222:=by unfold msgHd; simp [h8]
   have hlen:(msgMany ((v.kids.length / 2:Nat):Int) 16 128 0 222).length <= (msg v).length:=by rw [hM,e]; exact Nat.le_add_right _ _
   refine zad ?_;(iterate 3 refine mS ?_);refine zaB (n:=v.kids.length) rfl rfl hvlen ?_;refine po_q (v:=.d (pI ((v.kids.length / 2:Nat):Int))) rfl (by show some (PV.d (.v (.int .i64 (IntKind.wrap .i64 (((v.kids.length:Nat):Int).tdiv 2))))) = _; rw [show IntKind.wrap .i64 (((v.kids.length:Nat):Int).tdiv 2) = ((v.kids.length / 2:Nat):Int) by rw [IntKind.wrap_i64,Int.tdiv_eq_ediv_of_nonneg (by omega)]; omega]; rfl) ?_;refine zaf (args:=[.d (pI ((v.kids.length / 2:Nat):Int)),.d (pI 128),.d (pI 16),.d (pI 0),.d (pI 222)]) rfl (hlen5 ((v.kids.length / 2:Nat):Int) 16 128 0 222 (by omega) (by omega) (by omega)) ?_;refine po_g rfl (zdq (msgMany ((v.kids.length / 2:Nat):Int) 16 128 0 222) (l:=l) (t:=t) rfl ht (by omega)) ?_;rintro x _ _ _ ⟨rfl,rfl,rfl⟩;refine zac ?_;exact ⟨⟨rfl,rfl,trivial⟩,nt,by rw [e]; rfl,WrN.step (Nat.le_refl _) (fun _ h => h)⟩
  refine zam rfl rfl (decide_eq_false h8) ?_;refine mN ?_;refine mwF ?_;refine mO ?_;by_cases h4:v.kind = 4
  ·refine zak rfl rfl (decide_eq_true h4) ?_
   refine mN ?_;refine mwT ?_;have e:msgHd v = [199,9,4] ++ be 1 (lo64 v.exp) ++ be 8 (lo64 v.num):=by unfold msgHd; simp [h4]
   have hlen:([199,9,4] ++ be 1 (lo64 v.exp) ++ be 8 (lo64 v.num)).length <= (msg v).length:=by rw [hM,e]; exact Nat.le_add_right _ _
   refine zdn ?_;refine zaw ?_;refine mS ?_;refine mS ?_;refine mS ?_;refine mS ?_;refine mS ?_;refine zac ?_;refine zaS ?_;refine zaV ?_ ?_
   ·refine zat (es:=[[.v (.int .u8 199)],[.v (.int .u8 9)],[.v (.int .u8 4)]]) rfl ?_
    refine zac ?_;refine zaw ?_;refine mS ?_;refine zac ?_;refine zaS ?_;refine zaV ?_ zaR;refine zaf rfl (hwide v.exp 1 (by omega) wexp) ?_;refine zac ?_;refine zaw ?_;refine zaX (la:=[199,9,4]) (lb:=be 1 (lo64 v.exp)) rfl rfl rfl (by rw [zal]; simp) ?_;refine zac ?_;refine zaS ?_;refine zaV ?_ zaR;refine zaf rfl (hwide v.num 8 (by omega) wnum) ?_;refine zac ?_;refine zaw ?_;refine zaX (la:=[199,9,4] ++ be 1 (lo64 v.exp)) (lb:=be 8 (lo64 v.num)) rfl rfl rfl (by rw [List.length_append,zal,zal]; simp) ?_;refine zac ?_;refine zaS ?_;refine zaV ?_ zaR;refine po_g rfl (zdq ([199,9,4] ++ be 1 (lo64 v.exp) ++ be 8 (lo64 v.num)) (l:=l) (t:=t) rfl ht2 (by omega)) ?_;rintro x _ _ _ ⟨rfl,rfl,rfl⟩;refine zac ?_;refine zaw ?_;refine zac ?_;refine zbx ?_;exact ⟨⟨rfl,rfl,trivial⟩,nt + 1,by rw [e]; rfl,WrN.step (Nat.le_succ _) fun _ h => List.mem_cons_of_mem _ h⟩
   refine zaV ?_ zaR;refine zaf rfl (hwide v.exp 1 (by omega) wexp) ?_;refine zac ?_;refine zaw ?_;refine zac ?_;refine zaS ?_;refine zaV ?_ ?_
   ·refine zat (es:=[[.v (.int .u8 199)],[.v (.int .u8 9)],[.v (.int .u8 4)]]) rfl ?_
    refine zac ?_;refine zaw ?_;refine mS ?_;refine zaX (la:=[199,9,4]) (lb:=be 1 (lo64 v.exp)) rfl rfl rfl (by rw [zal]; simp) ?_;refine zac ?_;refine zaS ?_;refine zaV ?_ zaR;refine zaf rfl (hwide v.num 8 (by omega) wnum) ?_;refine zac ?_;refine zaw ?_;refine zaX (la:=[199,9,4] ++ be 1 (lo64 v.exp)) (lb:=be 8 (lo64 v.num)) rfl rfl rfl (by rw [List.length_append,zal,zal]; simp) ?_;refine zac ?_;refine zaS ?_;refine zaV ?_ zaR;refine po_g rfl (zdq ([199,9,4] ++ be 1 (lo64 v.exp) ++ be 8 (lo64 v.num)) (l:=l) (t:=t) rfl ht2 (by omega)) ?_;rintro x _ _ _ ⟨rfl,rfl,rfl⟩;refine zac ?_;refine zaw ?_;refine zac ?_;refine zbx ?_;exact ⟨⟨rfl,rfl,trivial⟩,nt + 1,by rw [e]; rfl,WrN.step (Nat.le_succ _) fun _ h => List.mem_cons_of_mem _ h⟩
   refine zaV ?_ zaR;refine zaf rfl (hwide v.num 8 (by omega) wnum) ?_;refine zac ?_;refine zaw ?_;refine zac ?_;refine zaS ?_;refine zaV ?_ zaR;refine zat (es:=[[.v (.int .u8 199)],[.v (.int .u8 9)],[.v (.int .u8 4)]]) rfl ?_;refine zac ?_;refine zaw ?_;refine mS ?_;refine zaX (la:=[199,9,4]) (lb:=be 1 (lo64 v.exp)) rfl rfl rfl (by rw [zal]; simp) ?_;refine zaX (la:=[199,9,4] ++ be 1 (lo64 v.exp)) (lb:=be 8 (lo64 v.num)) rfl rfl rfl (by rw [List.length_append,zal,zal]; simp) ?_;refine zac ?_;refine zaS ?_;refine zaV ?_ zaR;refine po_g rfl (zdq ([199,9,4] ++ be 1 (lo64 v.exp) ++ be 8 (lo64 v.num)) (l:=l) (t:=t) rfl ht2 (by omega)) ?_;rintro x _ _ _ ⟨rfl,rfl,rfl⟩;refine zac ?_;refine zaw ?_;refine zac ?_;refine zbx ?_;exact ⟨⟨rfl,rfl,trivial⟩,nt + 1,by rw [e]; rfl,WrN.step (Nat.le_succ _) fun _ h => List.mem_cons_of_mem _ h⟩
  refine zam rfl rfl (decide_eq_false h4) ?_;refine mN ?_;refine mwF ?_;refine mO ?_;have h9:v.kind = 9:=V.ok_kind9 hk h0 h1 h2 h3 h4 h5 h6 h7 h8;refine zak rfl rfl (decide_eq_true h9) ?_;refine mN ?_;refine mwT ?_;have e:msgHd v = [199,4,6] ++ be 4 (lo64 v.num):=by unfold msgHd; simp [h9]
  have hlen:([199,4,6] ++ be 4 (lo64 v.num)).length <= (msg v).length:=by rw [hM,e]; exact Nat.le_add_right _ _
  refine zdn ?_;refine zaw ?_;refine mS ?_;refine mS ?_;refine mS ?_;refine zac ?_;refine zaS ?_;refine zaV ?_ ?_
  ·refine zat (es:=[[.v (.int .u8 199)],[.v (.int .u8 4)],[.v (.int .u8 6)]]) rfl ?_
   refine zac ?_;refine zaw ?_;refine mS ?_;refine zac ?_;refine zaS ?_;refine zaV ?_ zaR;refine zaf rfl (hwide v.num 4 (by omega) wnum) ?_;refine zac ?_;refine zaw ?_;refine zaX (la:=[199,4,6]) (lb:=be 4 (lo64 v.num)) rfl rfl rfl (by rw [zal]; simp) ?_;refine zac ?_;refine zaS ?_;refine zaV ?_ zaR;refine po_g rfl (zdq ([199,4,6] ++ be 4 (lo64 v.num)) (l:=l) (t:=t) rfl ht2 (by omega)) ?_;rintro x _ _ _ ⟨rfl,rfl,rfl⟩;refine zac ?_;refine zaw ?_;refine zac ?_;refine zbx ?_;exact ⟨⟨rfl,rfl,trivial⟩,nt + 1,by rw [e]; rfl,WrN.step (Nat.le_succ _) fun _ h => List.mem_cons_of_mem _ h⟩
  refine zaV ?_ zaR;refine zaf rfl (hwide v.num 4 (by omega) wnum) ?_;refine zac ?_;refine zaw ?_;refine zac ?_;refine zaS ?_;refine zaV ?_ zaR;refine zat (es:=[[.v (.int .u8 199)],[.v (.int .u8 4)],[.v (.int .u8 6)]]) rfl ?_;refine zac ?_;refine zaw ?_;refine mS ?_;refine zaX (la:=[199,4,6]) (lb:=be 4 (lo64 v.num)) rfl rfl rfl (by rw [zal]; simp) ?_;refine zac ?_;refine zaS ?_;refine zaV ?_ zaR;refine po_g rfl (zdq ([199,4,6] ++ be 4 (lo64 v.num)) (l:=l) (t:=t) rfl ht2 (by omega)) ?_;rintro x _ _ _ ⟨rfl,rfl,rfl⟩;refine zac ?_;refine zaw ?_;refine zac ?_;refine zbx ?_;exact ⟨⟨rfl,rfl,trivial⟩,nt + 1,by rw [e]; rfl,WrN.step (Nat.le_succ _) fun _ h => List.mem_cons_of_mem _ h⟩
 rintro tm bx nt1 live1 ⟨ht0,t1,hbx,hW⟩;obtain ⟨tm0,rfl⟩:=zaj ht0;simp only at hbx hW; subst hbx
 clear ht0;refine mO ?_;(iterate 2 refine mS ?_);refine zaB (n:=v.kids.length) rfl rfl hvlen ?_;refine mN ?_;refine zai ?_;refine zav (PmL v l t nt live) v.kids.length ⟨0,Nat.zero_le _,by simp,⟨rfl,rfl,rfl,rfl,trivial⟩,t1,[],by rw [List.take_zero]; show [bldC 0 t1 (l ++ msgHd v),vC v] = [bldC 0 t1 (l ++ (msgHd v ++ [])),vC v]; rw [List.append_nil],hW⟩ ?_;rintro m tm bx n2 live2 ⟨i,hi,rfl,ht0,t2,rest,hbx,hV⟩;obtain ⟨tm0,rfl⟩:=zaj ht0;simp only at hbx hV; subst hbx
 clear ht0;refine mO ?_;refine po_b rfl rfl (fun b hb => ?_);refine zac ?_;refine zaa ?_;refine zb4 (p:=(i:Int) < (v.kids.length:Int)) hb rfl (fun h _ => ?_) (fun h _ => ?_)
 ·have hil:i < v.kids.length:=by omega
  have hT1:=zij hil;have hL:=zfw (i + 1) v.kids;rw [hT1,List.length_append] at hL;refine zae ?_;refine zaa (zai (zaa (zad ?_)));refine za3 (es:=vK v.kids) (e:=vC v.kids[i]) rfl rfl rfl ⟨by omega,by rw [Int.toNat_natCast]; exact zfr hil⟩ rfl ?_;refine mS ?_;refine zco (cs:=vC v.kids[i]) rfl rfl rfl rfl ?_;refine zac ?_;refine zad ?_;refine mS ?_;refine za7 (cs:=vC v.kids[i]) (v:=.ag (vC v.kids[i])) rfl rfl (zbf (bldC 0 t2 (l ++ (msgHd v ++ msgs (v.kids.take i))) :: vC v :: rest) _) (Nat.le_refl 5) rfl ?_;refine po_g rfl (FnG.liftM (p:=0) (hkid i hil t2 n2 live2 (l ++ (msgHd v ++ msgs (v.kids.take i))) hV.1 (by simp only [List.length_append] at *; omega)) ⟨lw_vC _,trivial⟩ (zhY _ _) rfl) ?_;rintro x _ n3 live3 ⟨c',rfl,t3,rfl,hW2⟩;refine zac ?_;refine zad ?_;refine zau (n:=((i + 1:Nat):Int)) rfl rfl rfl (by omega) (by omega) ?_
  refine mN ?_;refine ⟨v.kids.length - (i + 1),by omega,i + 1,hil,rfl,⟨rfl,rfl,rfl,rfl,trivial⟩,t3,rest ++ [vC v.kids[i]],?_,hV.trans hW2⟩;rw [hT1]; simp only [List.append_assoc]; rfl
 ·refine zaH ?_
  have hie:i = v.kids.length:=by omega
  subst hie;refine ⟨.inl rfl,[],rfl,_,_,rfl,?_,zhY t2 _,t2,?_,hV⟩
  ·trivial
  ·rw [List.take_length,zgB]
end
/- PvH3 -/
section
variable {T:World -> Prop} {hT:Low ngl T}
attribute [local irreducible] po mw pt
theorem pm_all:∀ (N:Nat) (v:V),v.nodes <= N -> v.wf -> v.ok = true -> PmG T hT v
 | 0,v,hn,_,_ => by obtain ⟨k,n,e,s,kids⟩:=v; simp only [V.nodes] at hn; omega
 | N + 1,v,hn,hw,hk => pm_step hw hk fun i h => pm_all N v.kids[i] (V.nodes_kid hn i h) (V.wf_kid hw i h) (V.ok_kid hk i h)
theorem V.ok_right {v:V} (h:v.ok = true):v.rightBy pairsOk 12 = true:=by
 unfold V.ok at h; simp only [Bool.and_eq_true] at h; exact h.1
theorem msg_ne {v:V} (hw:v.wf) (h:v.ok = true):msg v ≠ []:=by
 obtain ⟨b,t,_,_,e⟩:=zgJ (V.ok_right h) (V.ok_len h) (V.wf_num hw);rw [e]; exact fun h => by cases h
theorem putMsgI_fn (hTab:∀ w,T w -> Tabs w) (v:V) (hw:v.wf) (hb:v.bulk <= 4294967295):FnV (env T hT) 128 [.ag (vC v)] (.d (pS (msgTop v))):=by
 have hvok:=voki_fn (T:=T) (hT:=hT) hTab v hw hb;have hpm:=fun hk => pm_all (T:=T) (hT:=hT) v.nodes v (Nat.le_refl _) hw hk
 refine zaC (zag zjv) (by show 1 <= 10; decide) fun B hB => ?_
 unfold m_i_PutMsg;refine mP ?_;refine zaa (zaa (zad ?_));refine mS ?_;refine zaf (zfs v) hvok ?_;refine mN ?_;unfold msgTop;by_cases hk:v.ok = true
 ·rw [if_pos hk,hk]
  refine mwF ?_;refine zae ?_;refine mO ?_;refine po_zbld ?_;refine zac ?_;refine mQ ?_;have hml:=V.ok_msg hk;refine po_g rfl (FnG.liftM (p:=1) (hpm hk 1 _ _ [] (.inl rfl) (by rw [zgB,List.length_append]; simp only [List.length_nil]; omega)) ⟨lw_vC _,trivial⟩ (zhY 1 []) rfl) ?_;rintro x _ n1 live1 ⟨c',rfl,t1,rfl,hW⟩;refine zac ?_;refine mO ?_;refine po_g rfl (bstr_fn (p:=1) (t:=t1) (l:=[] ++ msg v) (msg_ne hw hk) rfl hW.1) ?_;rintro x _ _ _ ⟨rfl,rfl,rfl,rfl⟩;refine mN ?_;exact zab ⟨.inr rfl,_,rfl,rfl⟩
 ·have hk':v.ok = false:=by simpa using hk
  rw [if_neg hk,hk'];refine mwT ?_;refine mP ?_;exact zab ⟨.inr rfl,_,rfl,rfl⟩
end
/- PvI4 -/
section
variable {T:World -> Prop} {hT:Low ngl T}
attribute [local irreducible] po mw pt
theorem headI_fn (m n:Int) (hm:0 <= m /\ m <= 7) (hn:0 <= n /\ n <= 18446744073709551615):FnV (env T hT) 132 [.d (pI m),.d (.v (.int .u64 n))] (.d (pS (hd m.toNat n.toNat))):=by
 refine FnV.old rfl fun w C vs hF _ _ hlen hv => ?_
 match vs,hlen with
 | [x,y],_ =>
  have h1:=zbK (hv 0 _ _ rfl rfl); have h2:=zbK (hv 1 _ _ rfl rfl)
  subst h1; subst h2
  exact zeC m n w hm hn
def DnI (ns:List (List UInt8)) (vs:List V) (m:Nat) (s:St):Prop:=∃ i t:Nat,i <= ns.length /\ m = ns.length - i /\ has s.tm [(1,.ref 0 0),(3,.ref 1 0),(15,.d (pSs ns)),(16,.d (pI ns.length)),(17,.d (pI i))] /\ s.bx = [dC ns vs,bldC 1 t (hd 4 ns.length ++ nmsT (ns.take i))] /\ (t = 1 \/ t ∈ s.live)
def DvI (ns:List (List UInt8)) (vs:List V) (m:Nat) (s:St):Prop:=∃ (i t:Nat) (rest:List (List PC)),i <= vs.length /\ m = vs.length - i /\ has s.tm [(3,.ref 1 0),(36,.d (.sl 0 (vK vs))),(37,.d (pI vs.length)),(38,.d (pI i))] /\ s.bx = dC ns vs :: bldC 1 t (hd 4 ns.length ++ nmsT ns ++ hd 4 vs.length ++ msgs (vs.take i)) :: rest /\ (t = 1 \/ t ∈ s.live)
set_option maxHeartbeats 2000000 in
theorem zfh (ns:List (List UInt8)) (vs:List V) (hn:nmsB ns = true) (hv:tabB vs = true) (d4:∀ v ∈ vs,v.wf):FnV (env T hT) 69 [.ag (dC ns vs)] (.d (pS (dictT ns vs))):=by
 have hhd:=fun (m n:Nat) (h:m <= 7 /\ n <= 18446744073709551615) => headI_fn (T:=T) (hT:=hT) m n (by omega) (by omega)
 obtain ⟨n1,n2⟩:=zhT hn;obtain ⟨v1,v2⟩:=zhS hv;have hd4:=zcm 4 ns.length;have hd4v:=zcm 4 vs.length;have ht0:=zeY hn;have hm0:=zhl hv;have htN:=zeY hn ns.length;rw [List.take_length] at htN;refine zaC (zag ziF) (by show 1 <= 46; decide) fun B hB => ?_
 unfold m_i_putDict;refine mP ?_;refine mO ?_;refine po_zbld ?_;refine zac ?_;refine mO ?_;(iterate 2 refine mS ?_);refine zaB (n:=ns.length) rfl rfl (za0 ns) ?_;refine zcn (n:=(ns.length:Int)) rfl rfl (by rw [IntKind.wrap_u64]; omega) ?_;refine zaf (args:=[.d (pI (4:Nat)),.d (.v (.int .u64 (ns.length:Nat)))]) rfl (hhd 4 ns.length (by omega)) ?_;refine po_g rfl (zdq (hd 4 ns.length) (p:=1) (l:=[]) (t:=1) rfl (.inl rfl) (by simp only [List.length_nil]; omega)) ?_;rintro x b2 nt2 l2 ⟨rfl,rfl,rfl⟩;refine zac ?_;refine zaq (fun s => has s.tm [(1,.ref 0 0),(3,.ref 1 0)] /\ ∃ t,s.bx = [dC ns vs,bldC 1 t (hd 4 ns.length ++ nmsT ns)] /\ (t = 1 \/ t ∈ s.live)) ?_ ?_
 ·refine mO ?_
  (iterate 2 refine mS ?_);refine zaB (n:=ns.length) rfl rfl (za0 ns) ?_;refine mN ?_;refine zai ?_;refine zav (DnI ns vs) ns.length ⟨0,_,Nat.zero_le _,rfl,⟨rfl,rfl,rfl,rfl,rfl,trivial⟩,by rw [List.take_zero]; show _ = [dC ns vs,bldC 1 _ (hd 4 ns.length ++ [])]; rw [List.append_nil]; rfl,.inr (List.mem_cons_self ..)⟩ ?_;rintro m tm bx nt live ⟨i,t,hi,rfl,ht,hbx,htl⟩;obtain ⟨tm0,rfl⟩:=zaj ht;simp only at hbx htl; subst hbx
  refine mO ?_;refine po_b rfl rfl (fun b hb => ?_);refine zac ?_;refine zaa ?_;refine zb4 (p:=(i:Int) < ns.length) hb rfl (fun h _ => ?_) (fun h _ => ?_)
  ·have hil:i < ns.length:=by omega
   have hnl:=n2 _ (List.getElem_mem hil);have hh3:=zcm 3 ns[i].length;have hti:=ht0 i;refine zae ?_;refine zaa (zai (zaa (zad ?_)));refine za3 (es:=pSr ns) (e:=[pS ns[i]]) rfl rfl rfl ⟨by omega,by rw [Int.toNat_natCast]; exact zcc hil⟩ rfl ?_;refine mN ?_;refine zad ?_;refine mS ?_;refine po_q (v:=.d (pI ns[i].length)) rfl rfl ?_;refine zcn (n:=(ns[i].length:Int)) rfl rfl (by rw [IntKind.wrap_u64]; omega) ?_;refine zaf (args:=[.d (pI (3:Nat)),.d (.v (.int .u64 (ns[i].length:Nat)))]) rfl (hhd 3 ns[i].length (by omega)) ?_;refine mS ?_;refine zaX (la:=hd 3 ns[i].length) (lb:=ns[i]) rfl rfl rfl (by omega) ?_;refine po_g rfl (zdq (hd 3 ns[i].length ++ ns[i]) (p:=1) (l:=hd 4 ns.length ++ nmsT (ns.take i)) (t:=t) rfl htl (by simp only [List.length_append]; omega)) ?_;rintro x b3 nt3 l3 ⟨rfl,rfl,rfl⟩;refine zac ?_;refine zad ?_;refine zau (n:=((i + 1:Nat):Int)) rfl rfl rfl (by omega) (by omega) ?_
   refine mN ?_;exact ⟨ns.length - (i + 1),by omega,i + 1,_,hil,rfl,⟨rfl,rfl,rfl,rfl,rfl,trivial⟩,by rw [show hd 4 ns.length ++ nmsT (ns.take (i + 1)) = hd 4 ns.length ++ nmsT (ns.take i) ++ (hd 3 ns[i].length ++ ns[i]) by rw [ziy hil,List.append_assoc]]; rfl,.inr (List.mem_cons_self ..)⟩
  ·refine zaH ?_
   have:i = ns.length:=by omega
   subst this;exact ⟨⟨rfl,rfl,trivial⟩,t,by rw [List.take_length],htl⟩
 rintro tm bx nt live ⟨ht,t,hbx,htl⟩;obtain ⟨tm0,rfl⟩:=zaj ht;simp only at hbx htl; subst hbx
 clear ht;refine mO ?_;(iterate 2 refine mS ?_);refine zaB (n:=vs.length) rfl rfl (zdv vs) ?_;refine zcn (n:=(vs.length:Int)) rfl rfl (by rw [IntKind.wrap_u64]; omega) ?_;refine zaf (args:=[.d (pI (4:Nat)),.d (.v (.int .u64 (vs.length:Nat)))]) rfl (hhd 4 vs.length (by omega)) ?_;refine po_g rfl (zdq (hd 4 vs.length) (p:=1) (l:=hd 4 ns.length ++ nmsT ns) (t:=t) rfl htl (by simp only [List.length_append]; omega)) ?_;rintro x b2 nt2 l2 ⟨rfl,rfl,rfl⟩;refine zac ?_;refine zaq (fun s => has s.tm [(3,.ref 1 0)] /\ ∃ t rest,s.bx = dC ns vs :: bldC 1 t (dictT ns vs) :: rest /\ (t = 1 \/ t ∈ s.live)) ?_ ?_
 ·refine mO ?_
  (iterate 2 refine mS ?_);refine zaB (n:=vs.length) rfl rfl (zdv vs) ?_;refine mN ?_;refine zai ?_;refine zav (DvI ns vs) vs.length ⟨0,_,[],Nat.zero_le _,rfl,⟨rfl,rfl,rfl,rfl,trivial⟩,by rw [List.take_zero]; show _ = [dC ns vs,bldC 1 _ (hd 4 ns.length ++ nmsT ns ++ hd 4 vs.length ++ [])]; rw [List.append_nil]; rfl,.inr (List.mem_cons_self ..)⟩ ?_;rintro m tm bx nt live ⟨i,t,rest,hi,rfl,ht,hbx,htl⟩;obtain ⟨tm0,rfl⟩:=zaj ht;simp only at hbx htl; subst hbx
  refine mO ?_;refine po_b rfl rfl (fun b hb => ?_);refine zac ?_;refine zaa ?_;refine zb4 (p:=(i:Int) < vs.length) hb rfl (fun h _ => ?_) (fun h _ => ?_)
  ·have hil:i < vs.length:=by omega
   have hmem:=List.getElem_mem hil;have hok:=v2 _ hmem;have hmi:=hm0 i;have hml:=zgK hok;have hpm:=pm_all (T:=T) (hT:=hT) vs[i].nodes vs[i] (Nat.le_refl _) (d4 _ hmem) hok;refine zae ?_;refine zaa (zai (zaa (zad ?_)));refine za3 (es:=vK vs) (e:=vC vs[i]) rfl rfl rfl ⟨by omega,by rw [Int.toNat_natCast]; exact zfr hil⟩ rfl ?_;refine po_q (v:=.ag (vC vs[i])) rfl rfl ?_;refine zco (cs:=vC vs[i]) rfl rfl rfl rfl ?_;refine zac ?_;refine zad ?_;refine za7 (cs:=vC vs[i]) (v:=.ag (vC vs[i])) rfl rfl (zbf (dC ns vs :: bldC 1 t (hd 4 ns.length ++ nmsT ns ++ hd 4 vs.length ++ msgs (vs.take i)) :: rest) _) (Nat.le_of_ble_eq_true rfl) rfl ?_;refine po_g rfl (FnG.liftM (p:=1) (hpm t nt live (hd 4 ns.length ++ nmsT ns ++ hd 4 vs.length ++ msgs (vs.take i)) htl (by simp only [List.length_append]; omega)) ⟨lw_vC _,trivial⟩ (zhY _ _) rfl) ?_;rintro x b3 nt3 l3 ⟨c',rfl,t3,rfl,hW2⟩
   refine zac ?_;refine zad ?_;refine zau (n:=((i + 1:Nat):Int)) rfl rfl rfl (by omega) (by omega) ?_;refine mN ?_;exact ⟨vs.length - (i + 1),by omega,i + 1,t3,rest ++ [vC vs[i]],hil,rfl,⟨rfl,rfl,rfl,rfl,trivial⟩,by rw [zhj hil,<- List.append_assoc]; rfl,hW2.1⟩
  ·refine zaH ?_
   have:i = vs.length:=by omega
   subst this;exact ⟨⟨rfl,trivial⟩,t,rest,by rw [List.take_length]; rfl,htl⟩
 rintro tm bx nt live ⟨ht,t,rest,hbx,htl⟩;obtain ⟨tm0,rfl⟩:=zaj ht;simp only at hbx htl; subst hbx
 have hne:dictT ns vs ≠ []:=fun h => by have:=ziz ns vs; rw [h] at this; simp at this
 refine mO ?_;refine po_g rfl (bstr_fn (p:=1) (t:=t) (l:=dictT ns vs) hne rfl htl) ?_;rintro x _ _ _ ⟨rfl,rfl,rfl,rfl⟩;refine mN ?_;exact zab ⟨.inr rfl,_,rfl,rfl⟩
theorem dats_d {ns:List (List UInt8)} {vs:List V} {cs:List PC} {a:PV} (ha:a = .ag cs) (he:erL cs = dC ns vs):PV.dats [a] = some [.ag (dC ns vs)]:=by subst ha; exact zg3 he
theorem zhu (hTab:∀ w,T w -> Tabs w) (ns:List (List UInt8)) (vs:List V) (hD:DSm ns vs):FnV (env T hT) 68 [.ag (dC ns vs)] (.d (pB (dictB ns vs))):=by
 obtain ⟨d1,d2,d3,d4,d5⟩:=hD;have hnm:=zju (T:=T) (hT:=hT) hTab ns d1 d2;have htb:=zjB (T:=T) (hT:=hT) hTab vs d3 d4 d5;refine zaC (zag zjr) (by show 1 <= 17; decide) fun B hB => ?_
 unfold m_i_DictOk;refine mP ?_;refine mO ?_;(iterate 2 refine mS ?_);refine zaf (nms_arg ns) hnm ?_;refine mS ?_;unfold dictB
 cases hn:nmsB ns with
 | false =>
  iterate 3 (refine zah rfl ?_)
  (iterate 2 refine mS ?_)
  iterate 4 (refine zah rfl ?_)
  refine mN ?_
  exact zab ⟨.inr rfl,_,rfl,rfl⟩
 | true =>
 (iterate 2 refine mS ?_);refine zaD (b:=true) (args:=[.d (.sl 0 (vK vs))]) rfl (fun _ => dats_tab rfl) (fun _ => htb) ?_;(iterate 2 refine mS ?_)
 cases hv:tabB vs with
 | false =>
  iterate 4 (refine zah rfl ?_)
  refine mN ?_
  exact zab ⟨.inr rfl,_,rfl,rfl⟩
 | true =>
 refine za7 (p:=0) (cs:=dC ns vs) (v:=.ag (dC ns vs)) rfl rfl rfl (Nat.le_of_ble_eq_true rfl) rfl ?_;refine zaD (b:=true) (args:=[.ag (dC ns vs)]) rfl (fun _ => dats_d rfl (dC_er ns vs)) (fun _ => zfh ns vs hn hv d4) ?_;refine po_q (v:=.d (pI (dictT ns vs).length)) rfl rfl ?_;refine po_b rfl rfl (fun b hb => ?_);refine mN ?_
 have:(true && true && decide ((dictT ns vs).length <= 60000)) = b:=by rw [hb]; simp only [Bool.true_and]; exact decide_eq_decide.2 (by omega)
 rw [this];exact zab ⟨.inr rfl,_,rfl,rfl⟩
end
/- PvH5 -/
section
variable {T:World -> Prop} {hT:Low ngl T}
attribute [local irreducible] po mw pt
def GotU (s:List UInt8) (d:Int) (a cnt:Nat) (bad:Bool) (nt:Nat) (live:List Nat) (x:PV) (a' cnt':Nat) (bad':Bool) (nt':Nat) (live':List Nat):Prop :=
 ∃ cs:List PC,x = .ag cs /\ cs.length = 5 /\ NewL nt nt' cs /\ (∀ t ∈ toksL cs,t ∈ live') /\ (∀ t ∈ live,2 <= t -> t < nt -> t ∈ live') /\ nt <= nt' /\ (a <= a' /\ a' <= s.length /\ cnt' <= 301) /\ (bad = true -> bad' = true) /\
 (bad' = false -> cnt' <= 300 /\ ∃ u:V,erL cs = vC u /\ u.wf /\ a < a' /\ u.bulk + 1 <= 2 * (a' - a)) /\
 (bad = false -> ∀ v:V,v.wf -> v.rightBy pairsOk (12 - d) = true -> cnt + v.nodes <= 300 -> At s a (msg v) -> bad' = false /\ a' = a + (msg v).length /\ erL cs = vC v /\ cnt' = cnt + v.nodes)
def ValU (T:World -> Prop) (hT:Low ngl T) (s:List UInt8) (d:Int):Prop:=∀ (a cnt:Nat) (bad:Bool) (nt:Nat) (live:List Nat),a <= s.length -> cnt <= 300 -> 2 <= nt ->
 FnG (env T hT) 127 [.ref 0 0,.d (pI d)] [uC s a cnt bad] nt live (fun x b n l => ∃ c' rest,b = c' :: rest /\ x.lw 0 /\ lwL 0 c' /\ ∃ a' cnt' bad',c' = uC s a' cnt' bad' /\ GotU s d a cnt bad nt live x a' cnt' bad' n l)
def GotM (s:List UInt8) (d many:Int) (a cnt:Nat) (bad:Bool) (nt:Nat) (live:List Nat) (x:PV) (a' cnt':Nat) (bad':Bool) (nt':Nat) (live':List Nat):Prop :=
 ∃ (tk:Nat) (rows:List (List PC)),x = .d (.sl tk rows) /\ NewL nt nt' [.sl tk rows] /\ (∀ t ∈ toksL [.sl tk rows],t ∈ live') /\ (∀ t ∈ live,2 <= t -> t < nt -> t ∈ live') /\ nt <= nt' /\ (a <= a' /\ a' <= s.length /\ cnt' <= 301) /\ (bad = true -> bad' = true) /\
 (bad' = false -> cnt' <= 300 /\ ∃ vs:List V,erLL rows = vK vs /\ V.wfs vs /\ (vs.length:Int) = many /\ V.bulks vs + vs.length <= 2 * (a' - a)) /\
 (bad = false -> ∀ us:List V,V.wfs us -> V.rightsBy pairsOk (12 - d) us = true -> cnt + V.nodess us <= 300 -> (us.length:Int) = many -> At s a (msgs us) -> bad' = false /\ a' = a + (msgs us).length /\ erLL rows = vK us /\ cnt' = cnt + V.nodess us)
def MnP (s:List UInt8) (d many:Int) (a cnt:Nat) (bad:Bool) (k:Nat) (rows:List (List PC)) (a1 cnt1:Nat) (bad1:Bool):Prop :=
 rows.length = k /\ (∀ e ∈ rows,e.length = 5) /\ (a <= a1 /\ a1 <= s.length /\ cnt1 <= 301) /\ (bad = true -> bad1 = true) /\
 (bad1 = false -> cnt1 <= 300 /\ ∃ vs:List V,erLL rows = vK vs /\ V.wfs vs /\ V.bulks vs + vs.length <= 2 * (a1 - a)) /\
 (bad = false -> ∀ us:List V,V.wfs us -> V.rightsBy pairsOk (12 - d) us = true -> cnt + V.nodess us <= 300 -> (us.length:Int) = many -> At s a (msgs us) -> bad1 = false /\ erLL rows = vK (us.take k) /\ a1 = a + (msgs (us.take k)).length /\ cnt1 = cnt + V.nodess (us.take k))
def MnI (s:List UInt8) (d many:Int) (a cnt:Nat) (bad:Bool) (nt:Nat) (live:List Nat) (m:Nat) (st:St):Prop:=∃ (k tk:Nat) (rows:List (List PC)) (a1 cnt1:Nat) (bad1:Bool),(k:Int) <= many /\ (m:Int) = many - k /\
 has st.tm [(0,.ref 0 0),(1,.d (pI (many - k))),(2,.d (pI d)),(7,.d (.sl tk rows))] /\ st.bx = [uC s a1 cnt1 bad1] /\ 2 <= tk /\ OwnL st.nt st.live ([] ++ .sl tk rows :: []) /\ (∀ t ∈ toksL [.sl tk rows],nt <= t) /\ nt <= st.nt /\ (∀ t ∈ live,2 <= t -> t < nt -> t ∈ st.live) /\ MnP s d many a cnt bad k rows a1 cnt1 bad1
set_option maxHeartbeats 2000000 in
theorem many_g {s:List UInt8} (_hs:s.length <= 2147483647) {d:Int} (hV:ValU T hT s d) (many:Int) (hm:0 <= many /\ many <= 131072) (a cnt:Nat) (bad:Bool) (nt:Nat) (live:List Nat) (ha:a <= s.length) (hcnt:cnt <= 300) (hnt:2 <= nt) :
  FnG (env T hT) 168 [.ref 0 0,.d (pI many),.d (pI d)] [uC s a cnt bad] nt live (fun x b n l => ∃ c' rest,b = c' :: rest /\ x.lw 0 /\ lwL 0 c' /\ ∃ a' cnt' bad',c' = uC s a' cnt' bad' /\ GotM s d many a cnt bad nt live x a' cnt' bad' n l):=by
 refine za1 (zag zfG) (by show 3 <= 27; decide) fun B hB => ?_
 unfold m_i_unpacker_many;refine mP ?_;refine mO ?_;refine zat (es:=[]) rfl ?_;refine mN ?_;refine zaq (fun st => ∃ (tk:Nat) (rows:List (List PC)) (a1 cnt1:Nat) (bad1:Bool),has st.tm [(0,.ref 0 0),(7,.d (.sl tk rows))] /\ st.bx = [uC s a1 cnt1 bad1] /\ GotM s d many a cnt bad nt live (.d (.sl tk rows)) a1 cnt1 bad1 st.nt st.live) ?_ ?_
 ·refine zai ?_
  refine zav (MnI s d many a cnt bad nt live) many.toNat ⟨0,nt,[],a,cnt,bad,hm.1,by omega,⟨rfl,by rw [show many - ((0:Nat):Int) = many by omega]; rfl,rfl,rfl,trivial⟩,rfl,hnt,⟨by simp [ownedL,PC.owned,ownedLL],by simp [toksL,zaE hnt,toksLL],fun t ht => by
    have:t = nt:=by simpa [toksL,zaE hnt,toksLL] using ht
    subst this; exact ⟨List.mem_cons_self ..,Nat.lt_succ_self _⟩⟩,(fun t ht => by
    have:t = nt:=by simpa [toksL,zaE hnt,toksLL] using ht
    omega),Nat.le_succ _,fun t ht _ _ => List.mem_cons_of_mem _ ht,rfl,(fun e he => by cases he),⟨Nat.le_refl _,ha,by omega⟩,fun h => h,fun _ => ⟨hcnt,[],rfl,trivial,by simp [V.bulks]⟩,fun hb us _ _ _ _ _ => ⟨hb,by simp [erLL,vK],by simp [msgs],by simp [V.nodess]⟩⟩ ?_
  rintro m tm bx n1 l1 ⟨k,tk,rows,a1,cnt1,bad1,hk,hmk,ht,hbx,htk2,hown,hge,hn1,hlv,hrl,hrw,⟨haa,has1,hc1⟩,hbb,hgood,hcp⟩;obtain ⟨tm0,rfl⟩:=zaj ht;simp only at hbx hown hn1 hlv; subst hbx
  clear ht
  have hdone:∀ (hx:bad1 = true \/ (k:Int) = many),∃ (tk':Nat) (rows':List (List PC)) (a1' cnt1':Nat) (bad1':Bool),tk' = tk /\ rows' = rows /\ a1' = a1 /\ cnt1' = cnt1 /\ bad1' = bad1 /\ GotM s d many a cnt bad nt live (.d (.sl tk rows)) a1 cnt1 bad1 n1 l1:=fun hx =>
   ⟨tk,rows,a1,cnt1,bad1,rfl,rfl,rfl,rfl,rfl,tk,rows,rfl,⟨hown.own,hown.nd,fun t ht => ⟨hge t ht,(hown.mem t ht).2⟩⟩,fun t ht => (hown.mem t ht).1,hlv,hn1,⟨haa,has1,hc1⟩,hbb,(fun hb => by
    obtain ⟨q1,vs,q2,q3,q4⟩:=hgood hb
    have:vs.length = rows.length:=by have:=zdt q2; rw [zdv] at this; omega
    exact ⟨q1,vs,q2,q3,by rcases hx with hx | hx; (rw [hb] at hx; cases hx); omega,q4⟩),fun hb us h1 h2 h3 h4 h5 => by
    obtain ⟨e1,e2,e3,e4⟩:=hcp hb us h1 h2 h3 h4 h5
    have hkm:(k:Int) = many:=by
     rcases hx with hx | hx
     ·rw [hx] at e1; cases e1
     ·exact hx
    have:us.take k = us:=List.take_of_length_le (by omega)
    rw [this] at e2 e3 e4;exact ⟨e1,e3,e2,e4⟩⟩
  refine zaa ?_;refine zaq (fun st => has st.tm [(0,.ref 0 0),(1,.d (pI (many - k))),(2,.d (pI d)),(7,.d (.sl tk rows)),(17,.d (pB (decide ((k:Int) < many) && !bad1)))] /\ st.bx = [uC s a1 cnt1 bad1] /\ st.nt = n1 /\ st.live = l1) ?_ ?_
  ·refine zad ?_
   refine mS ?_;by_cases hlt:(k:Int) < many
   ·refine zak rfl rfl (decide_eq_true (show many - (k:Int) > 0 by omega)) ?_
    refine mN ?_;exact ⟨⟨rfl,rfl,rfl,rfl,by rw [decide_eq_true hlt]; rfl,trivial⟩,rfl,rfl,rfl⟩
   ·refine zam rfl rfl (decide_eq_false (show ¬ many - (k:Int) > 0 by omega)) ?_
    refine mS ?_
    iterate 5 (refine zah rfl ?_)
    refine mN ?_;exact ⟨⟨rfl,rfl,rfl,rfl,by rw [decide_eq_false hlt]; rfl,trivial⟩,rfl,rfl,rfl⟩
  rintro tm bx n1' l1' ⟨ht,hb',hn',hl'⟩;simp only at hb' hn' hl'; subst hb'; subst n1'; subst l1'
  obtain ⟨tm1,rfl⟩:=zaj ht;clear ht;refine zbw (t:=decide ((k:Int) < many) && !bad1) rfl (fun hc => ?_) (fun hc => ?_)
  ·simp only [Bool.and_eq_true,decide_eq_true_eq,Bool.not_eq_true'] at hc
   obtain ⟨hlt,rfl⟩:=hc;clear hdone;obtain ⟨hc300,vs,hvr,hvw,hvb⟩:=hgood rfl;clear hgood;have hb0:bad = false:=by cases bad with | false => rfl | true => cases hbb rfl
   refine zae ?_;refine zaa (zai (zad ?_));(iterate 3 refine mS ?_);refine po_g rfl (FnG.lift1 (p:=0) (hV a1 cnt1 false n1 l1 has1 hc300 (by omega)) (args:=[.d (pI d)]) ⟨trivial,trivial⟩ (zcq _ _ _ _) rfl) ?_;rintro x _ n2 l2 ⟨c',rfl,a2,cnt2,bad2,rfl,cs,rfl,hc5,hnew,hctk,hlv2,hn2,⟨ha2,ha2s,hc2⟩,_,hg2,hcomp⟩
   refine zat (es:=[cs]) (by
    show (if cs.length = 5 then some [cs] else none) = some [cs];rw [if_pos hc5]) ?_
   have hmem:tk ∈ l2:=by
    have h1:=(hown.mem tk (by simp [toksL,zaE htk2]));exact hlv2 tk h1.1 htk2 h1.2
   refine zbP (t:=tk) (t':=n2) (es:=rows) (ds:=[cs]) rfl rfl (.inr (List.mem_cons_of_mem _ hmem)) (by simp only [List.length_singleton]; omega) (fun e he => by simp only [List.mem_singleton] at he; subst he; exact hc5) hrw ?_;refine mN ?_;refine zad ?_;refine mS ?_;refine zaJ (n:=many - ((k + 1:Nat):Int)) rfl rfl rfl (by omega) (by omega) ?_;refine mN ?_;have h0:OwnL n1 (l1.filter (fun t => decide (t < n1))) ([] ++ .sl tk rows :: []):=⟨hown.own,hown.nd,fun t ht => ⟨List.mem_filter.2 ⟨(hown.mem t ht).1,decide_eq_true (hown.mem t ht).2⟩,(hown.mem t ht).2⟩⟩
   have hpush:OwnL (n2 + 2) ((n2 + 1) :: (n2 :: l2).filter (· != tk)) ([] ++ .sl (n2 + 1) (rows ++ [cs]) :: []):=by
    have:=h0.pushA (nt':=n2 + 1) (e:=cs) (.inr htk2) (by omega) hnew.own hnew.nd (fun t ht => by have:=hnew.mem t ht; omega) (by omega)
    refine this.mono2 (by omega) fun t ht h22 hlt => ?_
    rcases List.mem_cons.1 ht with rfl | ht
    ·exact List.mem_cons_self ..
    ·obtain ⟨m1,m2⟩:=List.mem_filter.1 ht
     refine List.mem_cons_of_mem _ (List.mem_filter.2 ⟨?_,m2⟩)
     rcases List.mem_append.1 m1 with m1 | m1
     ·exact List.mem_cons_of_mem _ (hctk t m1)
     ·obtain ⟨m3,m4⟩:=List.mem_filter.1 m1
      exact List.mem_cons_of_mem _ (hlv2 t m3 h22 (of_decide_eq_true m4))
   have htkn:nt <= tk:=hge tk (by simp [toksL,zaE htk2]);refine ⟨m - 1,by omega,k + 1,n2 + 1,rows ++ [cs],a2,cnt2,bad2,by omega,by omega,⟨rfl,rfl,rfl,rfl,trivial⟩,rfl,by omega,hpush,?_,(show nt <= n2 + 2 by omega),?_,by simp [hrl],?_,⟨by omega,ha2s,hc2⟩,(fun h => by rw [hb0] at h; cases h),?_,?_⟩
   ·intro t ht
    have ht:t ∈ PC.toks (.sl (n2 + 1) (rows ++ [cs])):=by simpa [toksL] using ht
    rw [zaE (by omega),zbh] at ht
    rcases List.mem_cons.1 ht with rfl | ht
    ·omega
    ·rcases List.mem_append.1 ht with ht | ht
     ·exact hge t (by simp [toksL,zaE htk2,ht])
     ·have ht:t ∈ toksL cs:=by simpa [toksLL] using ht
      have:=hnew.mem t ht; omega
   ·intro t ht h22 hlt
    refine List.mem_cons_of_mem _ (List.mem_filter.2 ⟨List.mem_cons_of_mem _ (hlv2 t (hlv t ht h22 hlt) h22 (by omega)),?_⟩);simp only [bne_iff_ne,ne_eq]; omega
   ·intro e he
    rcases List.mem_append.1 he with he | he
    ·exact hrw e he
    ·simp only [List.mem_singleton] at he; subst he; exact hc5
   ·intro hb2
    obtain ⟨r1,u,r2,r3,r4,r5⟩:=hg2 hb2;refine ⟨r1,vs ++ [u],?_,V.wfs_app hvw ⟨r3,trivial⟩,?_⟩
    ·rw [zdR,hvr,zei,zei,List.map_append]; simp only [erLL,r2]; rfl
    ·rw [V.bulks_app,List.length_append]; simp only [V.bulks,List.length_singleton]; omega
   ·intro _ us h3 h4 h5 h6 h8
    obtain ⟨_,e1,e2,e3⟩:=hcp hb0 us h3 h4 h5 h6 h8;have hku:k < us.length:=by omega
    have hA:=zjp h8 k hku;rw [<- e2] at hA;have hnd:=nodess_take us k hku;have h4':=h4;rw [V.rightsBy_all,List.all_eq_true] at h4';obtain ⟨q1,q2,q3,q4⟩:=hcomp rfl us[k] (V.wfs_get h3 k hku) (h4' _ (List.getElem_mem hku)) (by omega) hA;refine ⟨q1,?_,?_,?_⟩
    ·rw [zdR,e1,List.take_succ_eq_append_getElem hku,zei,zei,List.map_append]; simp only [erLL,q3]; rfl
    ·rw [List.take_succ_eq_append_getElem hku,zfu,List.length_append]; omega
    ·rw [List.take_succ_eq_append_getElem hku,V.nodess_app]; simp only [V.nodess]; omega
  ·refine zaH ?_
   obtain ⟨_,_,_,_,_,rfl,rfl,rfl,rfl,rfl,hG⟩:=hdone (by
    simp only [Bool.and_eq_false_iff,decide_eq_false_iff_not,Bool.not_eq_false'] at hc
    rcases hc with hc | hc
    ·exact .inr (by omega)
    ·exact .inl hc)
   exact ⟨_,_,_,_,_,⟨rfl,rfl,trivial⟩,rfl,hG⟩
 rintro tm bx n1 l1 ⟨tk,rows,a1,cnt1,bad1,ht,rfl,hG⟩;obtain ⟨tm0,rfl⟩:=zaj ht;refine mP ?_
 have hlw:PV.lw 0 (.d (.sl tk rows)):=by
  obtain ⟨tk',rows',e,hN,_⟩:=hG;simp only [PV.d.injEq] at e;rw [<- e] at hN;exact (zaZ hN.own).1
 exact zab ⟨.inr rfl,[.d (.sl tk rows)],rfl,_,_,rfl,hlw,zcq _ _ _ _,a1,cnt1,bad1,rfl,hG⟩
end
/- PvH6 -/
section
variable {T:World -> Prop} {hT:Low ngl T}
attribute [local irreducible] po mw pt
def GotXU (s:List UInt8) (d:Int) (p cnt:Nat) (bad:Bool) (nt:Nat) (live:List Nat) (x:PV) (a' cnt':Nat) (bad':Bool) (nt':Nat) (live':List Nat):Prop :=
 ∃ cs:List PC,x = .ag cs /\ cs.length = 5 /\ NewL nt nt' cs /\ (∀ t ∈ toksL cs,t ∈ live') /\ (∀ t ∈ live,2 <= t -> t < nt -> t ∈ live') /\ nt <= nt' /\ (p <= a' /\ a' <= s.length /\ cnt' <= 301) /\ (bad = true -> bad' = true) /\
 (bad' = false -> cnt' <= 300 /\ ∃ u:V,erL cs = vC u /\ u.wf /\ u.bulk <= 1 + 2 * (a' - p)) /\
 (bad = false -> ∀ (v:V) (t0:List UInt8),v.wf -> v.rightBy pairsOk (12 - d) = true -> cnt + v.nodes <= 301 -> MsgTop v 199 t0 -> At s p t0 -> bad' = false /\ a' = p + t0.length /\ erL cs = vC v /\ cnt' + 1 = cnt + v.nodes)
theorem zfT {s:List UInt8} {d:Int} {p cnt a':Nat} {bad:Bool} {nt nt':Nat} {live live':List Nat} (hn:nt <= nt') (hlv:∀ t ∈ live,2 <= t -> t < nt -> t ∈ live') (ha:p <= a' /\ a' <= s.length) (hc:cnt <= 301) (h:bad = false -> ∀ (v:V) (t0:List UInt8),v.wf -> v.rightBy pairsOk (12 - d) = true -> MsgTop v 199 t0 -> ¬ At s p t0) (k n e:Int) (t:List UInt8) :
  GotXU s d p cnt bad nt live (.ag (fV k n e t)) a' cnt true nt' live' :=
 ⟨_,rfl,rfl,zcs _ _ _ _ _ _,(fun t ht => by rw [zdH] at ht; cases ht),hlv,hn,⟨ha.1,ha.2,hc⟩,fun _ => rfl,(fun hb => by cases hb),fun hb v t0 a b c d e => absurd e (h hb v t0 a b d)⟩
theorem row_new {a b:Nat} {cs:List PC} (h:NewL a b cs) (hab:a <= b) (h2:2 <= b) (x0 x1 x2 x3:Value):NewL a (b + 1) [.v x0,.v x1,.v x2,.v x3,.sl b [cs]]:=by
 refine ⟨?_,?_,?_⟩
 ·have:=h.own
  simp [ownedL,PC.owned,ownedLL,this]; omega
 ·simp only [toksL,PC.toks,List.nil_append,if_pos h2,toksLL,List.append_nil]
  refine List.nodup_cons.2 ⟨fun hb => by have:=h.mem b hb; omega,h.nd⟩
 ·intro t ht
  simp only [toksL,PC.toks,List.nil_append,if_pos h2,toksLL,List.append_nil] at ht
  rcases List.mem_cons.1 ht with rfl | ht
  ·omega
  ·have:=h.mem t ht; omega
set_option maxHeartbeats 2000000 in
theorem extU_g {s:List UInt8} (hs:s.length <= 2147483647) {d:Int} (hd:0 <= d /\ d <= 12) (hV:ValU T hT s (d + 1)) (p cnt:Nat) (bad:Bool) (nt:Nat) (live:List Nat) (hp:p <= s.length) (hcnt:cnt <= 300) (hnt:2 <= nt) :
  FnG (env T hT) 171 [.ref 0 0,.d (pI d)] [uC s p cnt bad] nt live (fun x b n l => ∃ c' rest,b = c' :: rest /\ x.lw 0 /\ lwL 0 c' /\ ∃ a' cnt' bad',c' = uC s a' cnt' bad' /\ GotXU s d p cnt bad nt live x a' cnt' bad' n l):=by
 refine za1 (zag zes) (by show 2 <= 47; decide) fun B hB => ?_
 unfold m_i_unpacker_extended;have live0:∀ t ∈ live,2 <= t -> t < nt -> t ∈ live:=fun t ht _ _ => ht
 refine mP ?_;refine zaa ?_
 refine zaq (fun st => ∃ (L K:Int) (a1:Nat) (b1:Bool),has st.tm [(0,.ref 0 0),(1,.d (pI d)),(4,.ref 1 0),(5,.d (pI L)),(6,.d (pI K))] /\ st.bx = [uC s a1 cnt b1,fV 0 0 0 []] /\ st.nt = nt /\ st.live = live /\ p <= a1 /\ a1 <= s.length /\
  ((b1 = false /\ bad = false /\ a1 = p + 2 /\ L = gwN s p 1 /\ K = gwN s (p + 1) 1) \/ (b1 = true /\ (bad = true \/ ¬ p + 2 <= s.length) /\ K = 0))) ?_ ?_
 ·refine zad ?_
  refine mS ?_;refine po_g rfl (FnG.lift1 (p:=0) (zc8 s p 1 cnt bad (by decide) hp hs nt live) (args:=[.d (pI ((1:Nat):Int))]) ⟨trivial,trivial⟩ (zcq _ _ _ _) rfl) ?_;rintro x _ _ _ ⟨c',rfl,rfl,rfl,⟨hb0,hle,rfl,rfl⟩ | ⟨hbad,rfl,rfl⟩⟩
  ·refine mS ?_
   refine po_g rfl (FnG.lift1 (p:=0) (zc8 s (p + 1) 1 cnt false (by decide) (by omega) hs _ _) (args:=[.d (pI ((1:Nat):Int))]) ⟨trivial,trivial⟩ (zcq _ _ _ _) rfl) ?_;rintro x _ _ _ ⟨c',rfl,rfl,rfl,⟨_,hle2,rfl,rfl⟩ | ⟨hbad,rfl,rfl⟩⟩
   ·refine mN ?_
    exact ⟨_,_,p + 2,false,⟨rfl,rfl,rfl,rfl,rfl,trivial⟩,rfl,rfl,rfl,by omega,by omega,.inl ⟨rfl,hb0,rfl,rfl,rfl⟩⟩
   ·refine mN ?_
    exact ⟨_,_,p + 1,true,⟨rfl,rfl,rfl,rfl,rfl,trivial⟩,rfl,rfl,rfl,by omega,by omega,.inr ⟨rfl,.inr (by rcases hbad with h | h; (cases h); omega),rfl⟩⟩
  ·refine mS ?_
   refine po_g rfl (FnG.lift1 (p:=0) (zc8 s p 1 cnt true (by decide) hp hs _ _) (args:=[.d (pI ((1:Nat):Int))]) ⟨trivial,trivial⟩ (zcq _ _ _ _) rfl) ?_;rintro x _ _ _ ⟨c',rfl,rfl,rfl,⟨hx,_⟩ | ⟨_,rfl,rfl⟩⟩
   ·cases hx
   ·refine mN ?_
    exact ⟨_,_,p,true,⟨rfl,rfl,rfl,rfl,rfl,trivial⟩,rfl,rfl,rfl,Nat.le_refl _,hp,.inr ⟨rfl,hbad.imp id fun h => by omega,rfl⟩⟩
 rintro tm bx n1 l1 ⟨L,K,a1,b1,ht,hbx,hn,hl,hpa,has1,hcase⟩;obtain ⟨tm0,rfl⟩:=zaj ht;simp only at hbx hn hl; subst hbx; subst n1; subst l1
 clear ht
 have hnone:b1 = true -> bad = false -> ∀ (v:V) (t0:List UInt8),v.wf -> v.rightBy pairsOk (12 - d) = true -> MsgTop v 199 t0 -> ¬ At s p t0:=by
  intro hb1 hbf v t0 h1 h2 h4 h5
  rcases hcase with ⟨h,_⟩ | ⟨_,h,_⟩
  ·rw [hb1] at h; cases h
  ·rcases h with h | h
   ·rw [hbf] at h; cases h
   ·rcases zeq h4 with ⟨n,e,he,hn,rfl,rfl⟩ | ⟨m,kid,hm,rfl,rfl⟩
    ·have:=(zeo hp h5 he (by unfold i64ok; omega)).1; omega
    ·have:=(zep hp h5 hm).1; omega
 refine zai ?_;refine zaq (fun st => has st.tm [(0,.ref 0 0),(1,.d (pI d)),(4,.ref 1 0),(5,.d (pI L)),(6,.d (pI K)),(13,.d (pB (decide (L = 9 /\ K = 4))))] /\ st.bx = [uC s a1 cnt b1,fV 0 0 0 []] /\ st.nt = nt /\ st.live = live) ?_ ?_
 ·refine zad ?_
  refine mS ?_;by_cases c1:L = 9
  ·refine zak rfl rfl (decide_eq_true c1) ?_
   (iterate 2 refine mS ?_);refine po_b rfl rfl (fun b2 hb2 => ?_);refine mN ?_
   have:decide (L = 9 /\ K = 4) = b2:=by rw [hb2]; exact decide_eq_decide.2 ⟨fun h => h.2,fun h => ⟨c1,h⟩⟩
   exact ⟨⟨rfl,rfl,rfl,rfl,rfl,by rw [this]; rfl,trivial⟩,rfl,rfl,rfl⟩
  ·refine zam rfl rfl (decide_eq_false c1) ?_
   refine mS ?_
   iterate 2 (refine zah rfl ?_)
   refine mN ?_;exact ⟨⟨rfl,rfl,rfl,rfl,rfl,by rw [decide_eq_false (fun h => c1 h.1)]; rfl,trivial⟩,rfl,rfl,rfl⟩
 rintro tm bx n1 l1 ⟨ht,hbx,hn,hl⟩;obtain ⟨tm1,rfl⟩:=zaj ht;simp only at hbx hn hl; subst hbx; subst n1; subst l1
 clear ht;refine zeD (p:=L = 9 /\ K = 4) rfl (fun hc => ?_) (fun hc => ?_)
 ·obtain ⟨rfl,hbf,rfl,hL,hK⟩ | ⟨_,_,hK0⟩:=hcase
  case inr => omega
  refine mQ ?_;refine po_g rfl (FnG.lift1 (p:=0) (zc8 s (p + 2) 1 cnt false (by decide) has1 hs nt live) (args:=[.d (pI ((1:Nat):Int))]) ⟨trivial,trivial⟩ (zcq _ _ _ _) rfl) ?_;rintro x _ _ _ ⟨c',rfl,rfl,rfl,⟨_,hle,rfl,rfl⟩ | ⟨hbad,rfl,rfl⟩⟩
  ·have hsg:i64ok (sgw (gwN s (p + 2) 1) 1):=by
    have:=zdw s (p + 2) 1 (by decide)
    unfold sgw i64ok;rw [if_pos (by decide),show ((256 ^ 1:Nat):Int) = 256 from rfl,show ((256 ^ 1 / 2:Nat):Int) = 128 from rfl]
    split <;> omega
   refine zaf (args:=[.d (pI (gwN s (p + 2) 1)),.d (pI ((1:Nat):Int))]) rfl (zhV (gwN s (p + 2) 1) 1 (by decide) (zf8 _ _ _)) ?_;refine mN ?_;refine mO ?_;(iterate 2 refine mS ?_);refine po_g rfl (FnG.lift1 (p:=0) (zc8 s (p + 2 + 1) 8 cnt false (by decide) (by omega) hs _ _) (args:=[.d (pI ((8:Nat):Int))]) ⟨trivial,trivial⟩ (zcq _ _ _ _) rfl) ?_;rintro x _ _ _ ⟨c',rfl,rfl,rfl,⟨_,hle2,rfl,rfl⟩ | ⟨hbad,rfl,rfl⟩⟩
   ·refine mS ?_
    refine zaA (p:=1) (cs:=fV 4 (gwN s (p + 2 + 1) 8) (sgw (gwN s (p + 2) 1) 1) []) rfl rfl rfl rfl rfl rfl ?_;refine zac ?_;refine zab ⟨.inr rfl,[.ag (fV 4 (gwN s (p + 2 + 1) 8) (sgw (gwN s (p + 2) 1) 1) [])],rfl,_,_,rfl,zaZ (c:=fV 4 (gwN s (p + 2 + 1) 8) (sgw (gwN s (p + 2) 1) 1) []) rfl,zcq _ _ _ _,p + 2 + 1 + 8,cnt,false,rfl,_,rfl,rfl,zcs _ _ _ _ _ _,(fun t ht => by rw [zdH] at ht; cases ht),live0,Nat.le_refl _,⟨by omega,hle2,by omega⟩,(fun h => by rw [hbf] at h; cases h),(fun _ => ⟨hcnt,.mk 4 (gwN s (p + 2 + 1) 8) (sgw (gwN s (p + 2) 1) 1) [] [],rfl,⟨by unfold i64ok; omega,zf8 _ _ _,hsg,by unfold strok; simp,by simp,trivial⟩,by simp [V.bulk,V.bulks]⟩),fun _ v t0 h1 h2 h3 h4 h5 => ?_⟩
    rcases zeq h4 with ⟨n,e,he,hn,rfl,rfl⟩ | ⟨m,kid,hm,rfl,rfl⟩
    ·obtain ⟨q1,q2,q3,q4,q5⟩:=zeo hp h5 he (by unfold i64ok; omega)
     refine ⟨rfl,?_,?_,?_⟩
     ·simp [zal]
     ·rw [q4,q5]; rfl
     ·simp [V.nodes,V.nodess]
    ·have:=(zep hp h5 hm).2.1; omega
   ·refine mS ?_
    refine zaA (p:=1) (cs:=fV 4 0 (sgw (gwN s (p + 2) 1) 1) []) rfl rfl rfl rfl rfl rfl ?_;refine zac ?_;refine zab ⟨.inr rfl,[.ag (fV 4 0 (sgw (gwN s (p + 2) 1) 1) [])],rfl,_,_,rfl,zaZ (c:=fV 4 0 (sgw (gwN s (p + 2) 1) 1) []) rfl,zcq _ _ _ _,p + 2 + 1,cnt,true,rfl,zfT (Nat.le_refl _) live0 ⟨by omega,by omega⟩ (by omega) (fun _ v t0 h1 h2 h4 h5 => ?_) _ _ _ _⟩;have hbad:¬ p + 2 + 1 + 8 <= s.length:=hbad.resolve_left (fun h => by cases h)
    rcases zeq h4 with ⟨n,e,he,hn,rfl,rfl⟩ | ⟨m,kid,hm,rfl,rfl⟩
    ·have:=(zeo hp h5 he (by unfold i64ok; omega)).1; omega
    ·have:=(zep hp h5 hm).2.1; omega
  ·have hbad:¬ p + 2 + 1 <= s.length:=hbad.resolve_left (fun h => by cases h)
   refine zaf (args:=[.d (pI 0),.d (pI ((1:Nat):Int))]) rfl (zhV 0 1 (by decide) (by unfold i64ok; omega)) ?_;refine mN ?_;refine mO ?_;(iterate 2 refine mS ?_);refine po_g rfl (FnG.lift1 (p:=0) (zc8 s (p + 2) 8 cnt true (by decide) has1 hs _ _) (args:=[.d (pI ((8:Nat):Int))]) ⟨trivial,trivial⟩ (zcq _ _ _ _) rfl) ?_;rintro x _ _ _ ⟨c',rfl,rfl,rfl,⟨hx,_⟩ | ⟨_,rfl,rfl⟩⟩
   ·cases hx
   ·refine mS ?_
    refine zaA (p:=1) (cs:=fV 4 0 (sgw 0 1) []) rfl rfl rfl rfl rfl rfl ?_;refine zac ?_;refine zab ⟨.inr rfl,[.ag (fV 4 0 (sgw 0 1) [])],rfl,_,_,rfl,zaZ (c:=fV 4 0 (sgw 0 1) []) rfl,zcq _ _ _ _,p + 2,cnt,true,rfl,zfT (Nat.le_refl _) live0 ⟨by omega,by omega⟩ (by omega) (fun _ v t0 h1 h2 h4 h5 => ?_) _ _ _ _⟩
    rcases zeq h4 with ⟨n,e,he,hn,rfl,rfl⟩ | ⟨m,kid,hm,rfl,rfl⟩
    ·have:=(zeo hp h5 he (by unfold i64ok; omega)).1; omega
    ·have:=(zep hp h5 hm).2.1; omega
 refine zaq (fun st => has st.tm [(0,.ref 0 0),(1,.d (pI d)),(4,.ref 1 0),(27,.d (pB (decide (L = 4 /\ K = 6))))] /\ st.bx = [uC s a1 cnt b1,fV 0 0 0 []] /\ st.nt = nt /\ st.live = live) ?_ ?_
 ·refine zad ?_
  refine mS ?_;by_cases c1:L = 4
  ·refine zak rfl rfl (decide_eq_true c1) ?_
   (iterate 2 refine mS ?_);refine po_b rfl rfl (fun b2 hb2 => ?_);refine mN ?_
   have:decide (L = 4 /\ K = 6) = b2:=by rw [hb2]; exact decide_eq_decide.2 ⟨fun h => h.2,fun h => ⟨c1,h⟩⟩
   exact ⟨⟨rfl,rfl,rfl,by rw [this]; rfl,trivial⟩,rfl,rfl,rfl⟩
  ·refine zam rfl rfl (decide_eq_false c1) ?_
   refine mS ?_
   iterate 2 (refine zah rfl ?_)
   refine mN ?_;exact ⟨⟨rfl,rfl,rfl,by rw [decide_eq_false (show ¬ (L = 4 /\ K = 6) from fun h => c1 h.1)]; rfl,trivial⟩,rfl,rfl,rfl⟩
 rintro tm bx n1 l1 ⟨ht,hbx,hn,hl⟩;obtain ⟨tm2,rfl⟩:=zaj ht;simp only at hbx hn hl; subst hbx; subst n1; subst l1
 clear ht;refine zeD (p:=L = 4 /\ K = 6) rfl (fun hc6 => ?_) (fun hc6 => ?_)
 ·obtain ⟨rfl,hbf,rfl,hL,hK⟩ | ⟨_,_,hK0⟩:=hcase
  case inr => omega
  refine mQ ?_;refine po_g rfl (FnG.lift1 (p:=0) (zc8 s (p + 2) 4 cnt false (by decide) has1 hs nt live) (args:=[.d (pI ((4:Nat):Int))]) ⟨trivial,trivial⟩ (zcq _ _ _ _) rfl) ?_
  have main:∀ (r:Int) (a2:Nat) (b2:Bool) (x:PV) (c':List PC),WideR s (p + 2) 4 cnt false nt live x c' nt live -> ∃ (r:Int) (a2:Nat) (b2:Bool),x = .d (pI r) /\ c' = uC s a2 cnt b2 /\ i64ok r /\ p + 2 <= a2 /\ a2 <= s.length /\ ((b2 = false /\ a2 = p + 6 /\ r = gwN s (p + 2) 4) \/ (b2 = true /\ ¬ p + 6 <= s.length)):=by
   rintro _ _ _ x c' ⟨_,_,⟨_,hle,rfl,rfl⟩ | ⟨hbad,rfl,rfl⟩⟩
   ·exact ⟨_,_,_,rfl,rfl,zf8 _ _ _,by omega,hle,.inl ⟨rfl,rfl,rfl⟩⟩
   ·exact ⟨_,_,_,rfl,rfl,by unfold i64ok; omega,Nat.le_refl _,has1,.inr ⟨rfl,hbad.resolve_left (fun h => by cases h)⟩⟩
  rintro x _ n2 l2 ⟨c',rfl,hW⟩;obtain ⟨rfl,rfl,hW2⟩:=id hW;obtain ⟨r,a2,b2,rfl,rfl,hr,ha2,ha2s,hcs⟩:=main 0 0 false x c' hW;clear main hW hW2;refine mN ?_;refine mO ?_;(iterate 3 refine mS ?_);refine zau (n:=d + 1) rfl rfl rfl rfl (by omega) ?_;refine po_g rfl (FnG.lift1 (p:=0) (hV a2 cnt b2 _ _ ha2s hcnt hnt) (args:=[.d (pI (d + 1))]) ⟨trivial,trivial⟩ (zcq _ _ _ _) rfl) ?_;rintro x _ n3 l3 ⟨c',rfl,a3,cnt3,b3,rfl,cs,rfl,hc5,hnew,hctk,hlv3,hn3,⟨ha3,ha3s,hc3⟩,hb23,hg3,hcomp⟩
  refine zat (es:=[cs]) (by
   show (if cs.length = 5 then some [cs] else none) = some [cs];rw [if_pos hc5]) ?_
  refine mS ?_;refine zaA (p:=1) (cs:=[pI 9,pI r,pI 0,pS [],.sl n3 [cs]]) rfl rfl rfl rfl rfl rfl ?_;refine zac ?_;have hN:=row_new hnew hn3 (by omega) (.int .i64 9) (.int .i64 r) (.int .i64 0) (.string ⟨#[]⟩);refine zab ⟨.inr rfl,[.ag [pI 9,pI r,pI 0,pS [],.sl n3 [cs]]],rfl,_,_,rfl,zaZ (c:=[pI 9,pI r,pI 0,pS [],.sl n3 [cs]]) hN.own,zcq _ _ _ _,a3,cnt3,b3,rfl,_,rfl,rfl,hN,?_,fun t ht h22 hlt => List.mem_cons_of_mem _ (hlv3 t ht h22 hlt),Nat.le_succ_of_le hn3,⟨by omega,ha3s,hc3⟩,(fun h => by rw [hbf] at h; cases h),(fun hb3 => ?_),fun _ v t0 h1 h2 h3 h4 h5 => ?_⟩
  ·intro t ht
   have h22:2 <= n3:=by omega
   simp only [toksL,PC.toks,pI,pS,List.nil_append,if_pos h22,toksLL,List.append_nil] at ht
   rcases List.mem_cons.1 ht with rfl | ht
   ·exact List.mem_cons_self ..
   ·exact List.mem_cons_of_mem _ (hctk t ht)
  ·obtain ⟨r1,u,r2,r3,r4,r5⟩:=hg3 hb3
   refine ⟨r1,.mk 9 r 0 [] [u],?_,⟨by unfold i64ok; omega,hr,by unfold i64ok; omega,by unfold strok; simp,by simp,r3,trivial⟩,by simp only [V.bulk,V.bulks,List.length_nil,List.length_cons]; omega⟩
   have:vK [u] = [vC u]:=by rw [zei]; rfl
   simp only [erL,PC.er,erLL,r2,vC,V.kids,this]; rfl
  ·rcases zeq h4 with ⟨n,e,he,hn,rfl,rfl⟩ | ⟨m,kid,hm,rfl,rfl⟩
   ·have:=(zeo hp h5 he (by unfold i64ok; omega)).2.1; omega
   ·obtain ⟨q1,q2,q3,q4,q5⟩:=zep hp h5 hm
    obtain ⟨rfl,rfl,rfl⟩ | ⟨_,hx⟩:=hcs
    case inr => exact absurd q1 hx
    have h2':=h2;simp only [V.rightBy,V.rightsBy,Bool.and_eq_true] at h2';obtain ⟨s1,s2,s3,s4⟩:=hcomp rfl kid h1.2.2.2.2.2.1 (by rw [show 12 - (d + 1) = 12 - d - 1 by omega]; exact h2'.1.1) (by simp only [V.nodes,V.nodess] at h3; omega) q5;refine ⟨s1,?_,?_,?_⟩
    ·rw [s2]; simp [zal]; omega
    ·rw [q4]
     have:vK [kid] = [vC kid]:=by rw [zei]; rfl
     simp only [erL,PC.er,erLL,s3,vC,V.kids,this]; rfl
    ·simp only [V.nodes,V.nodess]; omega
 ·refine zae ?_
  refine mO ?_;(iterate 3 refine mS ?_);refine zap (p:=0) (o':=3) (cs:=[pB true]) (z:=uC s a1 cnt b1) rfl rfl rfl ⟨rfl,Nat.le_of_ble_eq_true rfl⟩ rfl ?_;refine zac ?_;refine mQ ?_;refine zaA (p:=1) (cs:=fV 0 0 0 []) rfl rfl rfl rfl rfl rfl ?_;refine zac ?_;refine zab ⟨.inr rfl,[.ag (fV 0 0 0 [])],rfl,uC s a1 cnt true,_,rfl,zaZ (c:=fV 0 0 0 []) rfl,zcq _ _ _ _,a1,cnt,true,rfl,zfT (Nat.le_refl _) live0 ⟨hpa,has1⟩ (by omega) (fun hbf v t0 h1 h2 h4 h5 => ?_) _ _ _ _⟩
  rcases hcase with ⟨_,_,_,hL,hK⟩ | ⟨hb1,_,_⟩
  ·rcases zeq h4 with ⟨n,e,he,hn,rfl,rfl⟩ | ⟨m,kid,hm,rfl,rfl⟩
   ·have:=zeo hp h5 he (by unfold i64ok; omega); exact hc ⟨hL.trans this.2.1,hK.trans this.2.2.1⟩
   ·have:=zep hp h5 hm; exact hc6 ⟨hL.trans this.2.1,hK.trans this.2.2.1⟩
  ·exact hnone hb1 hbf v t0 h1 h2 h4 h5
end
/- PvGotU -/
section
theorem gw_one {s:List UInt8} {a:Nat} (h:a < s.length):gwN s a 1 = ((s[a]).toNat:Nat):=by
 refine ziw (t:=s.drop (a + 1)) ⟨[],?_⟩;rw [List.append_nil]; exact List.drop_eq_getElem_cons h
theorem zgT {s:List UInt8} {d left:Int} {a bb cnt a' cnt' nt nt':Nat} {live live':List Nat} {cs:List PC} (HC:HdC s d left a bb) (hleft:left = 300 - cnt) (h5:cs.length = 5) (hN:NewL nt nt' cs) (hct:∀ t ∈ toksL cs,t ∈ live') (hn:nt <= nt') (hlv:∀ t ∈ live,2 <= t -> t < nt -> t ∈ live') (ha:a <= a' /\ a' <= s.length /\ cnt' <= 301)
  (hc:∀ (v:V) (t0:List UInt8),v.wf -> MsgTop v bb t0 -> ¬ At s (a + 1) t0):GotU s d a cnt false nt live (.ag cs) a' cnt' true nt' live' :=
 ⟨cs,rfl,h5,hN,hct,hlv,hn,ha,fun _ => rfl,(fun hb => by cases hb),fun _ v h1 h2 h3 h4 => by
  obtain ⟨t0,q1,q2,_⟩:=HC v h1 h2 (by omega) h4;exact absurd q2 (hc v t0 h1 q1)⟩
theorem zdV {s:List UInt8} {d left:Int} {a bb cnt a' nt nt':Nat} {live live':List Nat} {cs:List PC} {u:V} (HC:HdC s d left a bb) (hleft:left = 300 - cnt) (he:erL cs = vC u) (h5:cs.length = 5) (ho:ownedL cs = true) (ht:toksL cs = []) (hk:u.nodes = 1) (hw:u.wf) (ha:a < a' /\ a' <= s.length) (hb:u.bulk + 1 <= 2 * (a' - a)) (hl:cnt + 1 <= 300) (hn:nt <= nt') (hlv:∀ t ∈ live,2 <= t -> t < nt -> t ∈ live')
  (hc:∀ (v:V) (t0:List UInt8),v.wf -> MsgTop v bb t0 -> At s (a + 1) t0 -> v = u /\ a' = a + 1 + t0.length):GotU s d a cnt false nt live (.ag cs) a' (cnt + 1) false nt' live' :=
 ⟨cs,rfl,h5,⟨ho,by rw [ht]; exact List.nodup_nil,fun t h => by rw [ht] at h; cases h⟩,(fun t h => by rw [ht] at h; cases h),hlv,hn,by omega,fun h => h,fun _ => ⟨hl,u,he,hw,ha.1,hb⟩,fun _ v h1 h2 h3 h4 => by
  obtain ⟨t0,q1,q2,q3⟩:=HC v h1 h2 (by omega) h4;obtain ⟨rfl,q4⟩:=hc v t0 h1 q1 q2;exact ⟨rfl,by omega,he,by rw [hk]⟩⟩
theorem zfJ {s:List UInt8} {d left kind many:Int} {a bb cnt a2 a3 c a' cnt' nt nt':Nat} {b0 bad':Bool} {live live':List Nat} {x:PV} (hs:s.length <= 2147483647) (HC:HdC s d left a bb) (hleft:left = 300 - cnt) (hkind:i64ok kind) (h3:a3 <= a2 /\ a + 1 <= a3) (hG:GotM s (d + 1) many a3 (cnt + 1) b0 nt live x a' cnt' bad' nt' live')
  (h2:b0 = false -> a3 = a2 /\ a2 = a + 1 + c)
  (hc:∀ (v:V) (t0:List UInt8),v.wf -> MsgTop v bb t0 -> At s (a + 1) t0 -> b0 = false /\ ∃ us,v = .mk kind 0 0 [] us /\ (us.length:Int) = many /\ At s a2 (msgs us) /\ t0.length = c + (msgs us).length):∃ tk rows,x = .d (.sl tk rows) /\ GotU s d a cnt false nt live (.ag [pI kind,pI 0,pI 0,pS [],.sl tk rows]) a' cnt' bad' nt' live':=by
 obtain ⟨tk,rows,rfl,hN,hct,hlv,hn,⟨ha1,ha2,hc1⟩,hbb,hg,hcomp⟩:=hG;have htok:toksL [pI kind,pI 0,pI 0,pS [],.sl tk rows] = toksL [.sl tk rows]:=rfl;refine ⟨tk,rows,rfl,_,rfl,rfl,⟨hN.own,by rw [htok]; exact hN.nd,fun t ht => hN.mem t (by rw [<- htok]; exact ht)⟩,fun t ht => hct t (by rw [<- htok]; exact ht),hlv,hn,⟨by omega,ha2,hc1⟩,(fun h => by cases h),fun hb => ?_,fun _ v h1 h2' h3' h4 => ?_⟩
 ·obtain ⟨q1,vs,q2,q3,q4,q5⟩:=hg hb
  have hb0:b0 = false:=by cases b0 with | false => rfl | true => rw [hbb rfl] at hb; cases hb
  obtain ⟨e1,e2⟩:=h2 hb0;refine ⟨q1,.mk kind 0 0 [] vs,by simp only [erL,PC.er,q2]; rfl,⟨hkind,by unfold i64ok; omega,by unfold i64ok; omega,by unfold strok; simp,by omega,q3⟩,by omega,by simp only [V.bulk,List.length_nil]; omega⟩
 ·obtain ⟨t0,q1,q2,q3⟩:=HC v h1 h2' (by omega) h4
  obtain ⟨hb0,us,rfl,e2,e3,e4⟩:=hc v t0 h1 q1 q2;obtain ⟨e5,e6⟩:=h2 hb0;simp only [V.rightBy,Bool.and_eq_true] at h2';obtain ⟨r1,r2,r3,r4⟩:=hcomp hb0 us h1.2.2.2.2.2 (by rw [show 12 - (d + 1) = 12 - d - 1 by omega]; exact h2'.1) (by simp only [V.nodes] at h3'; omega) e2 (by rw [e5]; exact e3);exact ⟨r1,by omega,by simp only [erL,PC.er,r3]; rfl,by rw [r4]; simp only [V.nodes]; omega⟩
theorem zgU {s:List UInt8} {d left kind:Int} {a bb cnt a2 a3 c k nt:Nat} {b0:Bool} {live:List Nat} {x:PV} {c':List PC} {n:Nat} {l:List Nat} (hs:s.length <= 2147483647) (HC:HdC s d left a bb) (hleft:left = 300 - cnt) (hl:cnt + 1 <= 300) (hkind:i64ok kind) (h3:a3 <= a2 /\ a + 1 <= a3 /\ a3 <= s.length) (hT:TextR s a3 k (cnt + 1) b0 nt live x c' n l)
  (h2:b0 = false -> a3 = a2 /\ a2 = a + 1 + c)
  (hc:∀ (v:V) (t0:List UInt8),v.wf -> MsgTop v bb t0 -> At s (a + 1) t0 -> b0 = false /\ ∃ tx,v = .mk kind 0 0 tx [] /\ tx.length = k /\ At s a2 tx /\ t0.length = c + tx.length):n = nt /\ l = live /\ ∃ tx a' bad',x = .d (pS tx) /\ c' = uC s a' (cnt + 1) bad' /\ GotU s d a cnt false nt live (.ag (fV kind 0 0 tx)) a' (cnt + 1) bad' nt live:=by
 obtain ⟨rfl,rfl,⟨hb0,hle,rfl,rfl⟩ | ⟨hbad,rfl,rfl⟩⟩:=hT
 ·obtain ⟨e1,e2⟩:=h2 hb0
  have hlen:((s.drop a3).take k).length = k:=by rw [List.length_take,List.length_drop]; omega
  refine ⟨rfl,rfl,_,_,_,rfl,rfl,zdV HC hleft (fV_er kind 0 0 _) rfl rfl (zdH _ _ _ _) (by simp [V.nodes,V.nodess]) ⟨hkind,by unfold i64ok; omega,by unfold i64ok; omega,by unfold strok; omega,by simp,trivial⟩ (by omega) (by simp only [V.bulk,V.bulks,List.length_nil]; omega) hl (Nat.le_refl _) (fun t ht _ _ => ht) fun v t0 h1 h4 h5 => ?_⟩;obtain ⟨_,tx,rfl,e3,e4,e5⟩:=hc v t0 h1 h4 h5
  have:=e4.take
  rw [e3,<- e1] at this;exact ⟨by rw [this],by omega⟩
 ·refine ⟨rfl,rfl,_,_,_,rfl,rfl,zgT HC hleft rfl (zcs _ _ _ _ _ _) (fun t ht => by rw [zdH] at ht; cases ht) (Nat.le_refl _) (fun t ht _ _ => ht) ⟨by omega,h3.2.2,by omega⟩ fun v t0 h1 h4 h5 => ?_⟩
  obtain ⟨hb0,tx,rfl,e3,e4,e5⟩:=hc v t0 h1 h4 h5;obtain ⟨e1,e2⟩:=h2 hb0
  have:=e4.len (by omega)
  rcases hbad with hbad | hbad
  ·rw [hb0] at hbad; cases hbad
  ·omega
theorem gotU_int {s:List UInt8} {d left:Int} {a bb cnt k nt:Nat} {live:List Nat} {x:PV} {c':List PC} {n:Nat} {l:List Nat} (f:Int -> Int) (hf:∀ z,i64ok z -> i64ok (f z)) (HC:HdC s d left a bb) (hleft:left = 300 - cnt) (hl:cnt + 1 <= 300) (ha:a + 1 <= s.length) (hW:WideR s (a + 1) k (cnt + 1) false nt live x c' n l) (hk1:1 <= k)
  (hc:∀ (v:V) (t0:List UInt8),v.wf -> MsgTop v bb t0 -> At s (a + 1) t0 -> t0.length = k /\ v = .mk 3 (f (gwN s (a + 1) k)) 0 [] []):n = nt /\ l = live /\ ∃ z a' bad',x = .d (pI z) /\ i64ok z /\ c' = uC s a' (cnt + 1) bad' /\ GotU s d a cnt false nt live (.ag (fV 3 (f z) 0 [])) a' (cnt + 1) bad' nt live:=by
 obtain ⟨rfl,rfl,⟨_,hle,rfl,rfl⟩ | ⟨hbad,rfl,rfl⟩⟩:=hW
 ·refine ⟨rfl,rfl,_,_,_,rfl,zf8 _ _ _,rfl,zdV HC hleft (fV_er 3 _ 0 _) rfl rfl (zdH _ _ _ _) (by simp [V.nodes,V.nodess]) ⟨by unfold i64ok; omega,hf _ (zf8 _ _ _),by unfold i64ok; omega,by unfold strok; simp,by simp,trivial⟩ (by omega) (by simp only [V.bulk,V.bulks,List.length_nil]; omega) hl (Nat.le_refl _) (fun t ht _ _ => ht) fun v t0 h1 h4 h5 => ?_⟩
  obtain ⟨e1,e2⟩:=hc v t0 h1 h4 h5;exact ⟨e2,by omega⟩
 ·refine ⟨rfl,rfl,0,_,_,rfl,by unfold i64ok; omega,rfl,zgT HC hleft rfl (zcs _ _ _ _ _ _) (fun t ht => by rw [zdH] at ht; cases ht) (Nat.le_refl _) (fun t ht _ _ => ht) ⟨by omega,ha,by omega⟩ fun v t0 h1 h4 h5 => ?_⟩
  have e1:=(hc v t0 h1 h4 h5).1
  have:=h5.len ha
  rcases hbad with hbad | hbad
  ·cases hbad
  ·omega
theorem gotU_ext {s:List UInt8} {d left:Int} {a cnt a' cnt' nt nt':Nat} {bad':Bool} {live live':List Nat} {x:PV} (HC:HdC s d left a 199) (hleft:left = 300 - cnt) (hG:GotXU s d (a + 1) (cnt + 1) false nt live x a' cnt' bad' nt' live'):GotU s d a cnt false nt live x a' cnt' bad' nt' live':=by
 obtain ⟨cs,rfl,h5,hN,hct,hlv,hn,⟨ha1,ha2,hc1⟩,hbb,hg,hcomp⟩:=hG;refine ⟨cs,rfl,h5,hN,hct,hlv,hn,⟨by omega,ha2,hc1⟩,hbb,fun hb => ?_,fun _ v h1 h2 h3 h4 => ?_⟩
 ·obtain ⟨q1,u,q2,q3,q4⟩:=hg hb
  exact ⟨q1,u,q2,q3,by omega,by omega⟩
 ·obtain ⟨t0,q1,q2,q3⟩:=HC v h1 h2 (by omega) h4
  obtain ⟨r1,r2,r3,r4⟩:=hcomp rfl v t0 h1 h2 (by omega) q1 q2;exact ⟨r1,by omega,r3,by omega⟩
end
/- PvH7 -/
section
variable {T:World -> Prop} {hT:Low ngl T}
attribute [local irreducible] po mw pt
def ValR (s:List UInt8) (d:Int) (a cnt:Nat) (bad:Bool) (nt:Nat) (live:List Nat) (x:PV) (b:List (List PC)) (n:Nat) (l:List Nat):Prop:=∃ c' rest,b = c' :: rest /\ x.lw 0 /\ lwL 0 c' /\ ∃ a' cnt' bad',c' = uC s a' cnt' bad' /\ GotU s d a cnt bad nt live x a' cnt' bad' n l
theorem zcu {s:List UInt8} {d:Int} {a cnt a' cnt' nt n:Nat} {bad bad':Bool} {live l:List Nat} {cs:List PC} {rest:List (List PC)} (h:GotU s d a cnt bad nt live (.ag cs) a' cnt' bad' n l):ValR s d a cnt bad nt live (.ag cs) (uC s a' cnt' bad' :: rest) n l:=by
 refine ⟨_,_,rfl,?_,zcq _ _ _ _,a',cnt',bad',rfl,h⟩;obtain ⟨cs',e,_,hN,_⟩:=h;simp only [PV.ag.injEq] at e;subst e;exact zaZ hN.own
theorem ress_1 {tm:Nat -> PV} {bx:List (List PC)} {nt:Nat} {live:List Nat} {n t p:Nat} {cs:List PC} (ht:tm t = .ref p 0) (hb:bx[p]? = some cs) (hn:cs.length = n):ressM ⟨tm,bx,nt,live⟩ [.cell true n t] = some [.ag cs]:=ress_box ht hb hn
theorem shl4:∀ j:Nat,j < 4 -> IntKind.wrap .i64 (1 * 2 ^ (min (j:Int).toNat 64)) = ((2 ^ j:Nat):Int)
 | 0,_ => by decide
 | 1,_ => by decide
 | 2,_ => by decide
 | 3,_ => by decide
 | j + 4,h => by omega
theorem wide_hc {s:List UInt8} {a bb j:Nat} (hb:bb = 204 + j) (hj:j < 4):∀ (v:V) (t0:List UInt8),v.wf -> MsgTop v bb t0 -> At s (a + 1) t0 -> t0.length = 2 ^ j /\ v = .mk 3 (id (gwN s (a + 1) (2 ^ j))) 0 [] []:=by
 intro v t0 hw hM hA
 cases hM with
 | uint j' hj' n h =>
  obtain rfl:j' = j:=by omega
  exact ⟨by rw [zal],by rw [id,hA.gw_id h.1 h.2]⟩
 | _ => exfalso; omega
theorem sign_hc {s:List UInt8} {a bb j:Nat} (hb:bb = 208 + j) (hj:j < 4):∀ (v:V) (t0:List UInt8),v.wf -> MsgTop v bb t0 -> At s (a + 1) t0 -> t0.length = 2 ^ j /\ v = .mk 3 (sgw (gwN s (a + 1) (2 ^ j)) (2 ^ j)) 0 [] []:=by
 intro v t0 hw hM hA
 cases hM with
 | sint j' hj' n h =>
  obtain rfl:j' = j:=by omega
  refine ⟨by rw [zal],?_⟩
  have h2:2 ^ j' = 1 \/ 2 ^ j' = 2 \/ 2 ^ j' = 4 \/ 2 ^ j' = 8:=by
   have:j' = 0 \/ j' = 1 \/ j' = 2 \/ j' = 3:=by omega
   rcases this with rfl | rfl | rfl | rfl <;> decide
  rw [hA.gw,zgi n (2 ^ j') h2 ⟨h.2,by have:=Nat.pow_pos (n:=8 * 2 ^ j' - 1) (show 0 < 2 by decide); omega⟩]
 | _ => exfalso; omega
theorem sgw_i64 (z:Int) (j:Nat) (hz:i64ok z):i64ok (sgw z (2 ^ j)):=by
 unfold sgw;split
 ·rename_i h
  have hp:=zfA (k:=2 ^ j) h.2;have h1:=Int.emod_nonneg z (show ((256 ^ 2 ^ j:Nat):Int) ≠ 0 by omega);have h2:=Int.emod_lt_of_pos z (show (0:Int) < ((256 ^ 2 ^ j:Nat):Int) by omega);unfold i64ok
  split <;> omega
 ·exact hz
set_option maxHeartbeats 4000000 in
theorem val_g {s:List UInt8} (hs:s.length <= 2147483647) {d:Int} (hd:0 <= d /\ d <= 13) (hV:d <= 12 -> ValU T hT s (d + 1)):ValU T hT s d:=by
 intro a cnt bad nt live ha hcnt hnt;refine za1 (R:=ValR s d a cnt bad nt live) (zag zfe) (by show 2 <= 154; decide) fun B hB => ?_
 unfold m_i_unpacker_value;have live0:∀ t ∈ live,2 <= t -> t < nt -> t ∈ live:=fun t ht _ _ => ht
 refine mP ?_;refine mO ?_;(iterate 4 refine mS ?_);refine zau (n:=((cnt + 1:Nat):Int)) rfl rfl rfl (by omega) (by omega) ?_;(iterate 2 refine mS ?_);refine zap (p:=0) (o':=2) (cs:=[pI ((cnt + 1:Nat):Int)]) (z:=uC s a cnt bad) rfl rfl rfl ⟨rfl,Nat.le_of_ble_eq_true rfl⟩ rfl ?_;refine zac ?_
 refine zaq (fun st => ∃ (c:Int) (a1:Nat) (b1:Bool),has st.tm [(0,.ref 0 0),(1,.d (pI d)),(4,.ref 1 0),(5,.d (pI c))] /\ st.bx = [uC s a1 (cnt + 1) b1,fV 0 0 0 []] /\ st.nt = nt /\ st.live = live /\
  ((b1 = false /\ bad = false /\ a + 1 <= s.length /\ a1 = a + 1 /\ c = gwN s a 1) \/ (b1 = true /\ a1 = a /\ (bad = true \/ ¬ a + 1 <= s.length)))) ?_ ?_
 ·refine zad ?_
  refine mS ?_;refine po_g rfl (FnG.lift1 (p:=0) (zc8 s a 1 (cnt + 1) bad (by decide) ha hs nt live) (args:=[.d (pI ((1:Nat):Int))]) ⟨trivial,trivial⟩ (zcq _ _ _ _) rfl) ?_;rintro x _ _ _ ⟨c',rfl,rfl,rfl,⟨hb0,hle,rfl,rfl⟩ | ⟨hbad,rfl,rfl⟩⟩
  ·refine mN ?_
   exact ⟨_,a + 1,false,⟨rfl,rfl,rfl,rfl,trivial⟩,rfl,rfl,rfl,.inl ⟨rfl,hb0,hle,rfl,rfl⟩⟩
  ·refine mN ?_
   exact ⟨_,a,true,⟨rfl,rfl,rfl,rfl,trivial⟩,rfl,rfl,rfl,.inr ⟨rfl,rfl,hbad⟩⟩
 rintro tm bx n1 l1 ⟨c,a1,b1,ht,hbx,hn,hl,hcase⟩;obtain ⟨tm0,rfl⟩:=zaj ht;simp only at hbx hn hl; subst hbx; subst n1; subst l1
 clear ht;refine zaa ?_;refine zaq (fun st => has st.tm [(0,.ref 0 0),(1,.d (pI d)),(4,.ref 1 0),(5,.d (pI c)),(30,.d (pB (b1 || (decide (cnt + 1 > 300) || decide (d > 12)))))] /\ st.bx = [uC s a1 (cnt + 1) b1,fV 0 0 0 []] /\ st.nt = nt /\ st.live = live) ?_ ?_
 ·refine zad ?_
  (iterate 5 refine mS ?_)
  cases b1 with
  | true =>
   iterate 5 (refine zah rfl ?_)
   (iterate 2 refine mS ?_)
   iterate 2 (refine zah rfl ?_)
   refine mN ?_
   exact ⟨⟨rfl,rfl,rfl,rfl,rfl,trivial⟩,rfl,rfl,rfl⟩
  | false =>
   (iterate 4 refine mS ?_);by_cases c1:cnt + 1 > 300
   ·refine zak rfl rfl (decide_eq_true (show ((cnt + 1:Nat):Int) > 300 by omega)) ?_
    (iterate 2 refine mS ?_)
    iterate 2 (refine zah rfl ?_)
    refine mN ?_;exact ⟨⟨rfl,rfl,rfl,rfl,by rw [decide_eq_true c1]; rfl,trivial⟩,rfl,rfl,rfl⟩
   ·refine zam rfl rfl (decide_eq_false (show ¬ ((cnt + 1:Nat):Int) > 300 by omega)) ?_
    (iterate 3 refine mS ?_);refine po_b rfl rfl (fun b2 hb2 => ?_);refine mN ?_;exact ⟨⟨rfl,rfl,rfl,rfl,by rw [decide_eq_false c1,hb2]; rfl,trivial⟩,rfl,rfl,rfl⟩
 rintro tm bx n1 l1 ⟨ht,hbx,hn,hl⟩;obtain ⟨tm1,rfl⟩:=zaj ht;simp only at hbx hn hl; subst hbx; subst n1; subst l1
 clear ht;refine zbw (t:=b1 || (decide (cnt + 1 > 300) || decide (d > 12))) rfl (fun hc => ?_) (fun hc => ?_)
 ·refine mO ?_
  (iterate 3 refine mS ?_);refine zap (p:=0) (o':=3) (cs:=[pB true]) (z:=uC s a1 (cnt + 1) b1) rfl rfl rfl ⟨rfl,Nat.le_of_ble_eq_true rfl⟩ rfl ?_;refine zac ?_;refine mQ ?_;refine zaA (p:=1) (cs:=fV 0 0 0 []) rfl rfl rfl rfl rfl rfl ?_;refine zac ?_;refine zab ⟨.inr rfl,[.ag (fV 0 0 0 [])],rfl,zcu (a':=a1) (cnt':=cnt + 1) (bad':=true) ⟨_,rfl,rfl,zcs _ _ _ _ _ _,(fun t ht => by rw [zdH] at ht; cases ht),live0,Nat.le_refl _,⟨by omega,by omega,by omega⟩,fun _ => rfl,(fun hb => by cases hb),fun hb v h1 h2 h3 h4 => ?_⟩⟩;exfalso;have hnp:=v.nodes_pos
  have h2':0 <= 12 - d:=by
   obtain ⟨k,n,e,x,kids⟩:=v;simp only [V.rightBy,Bool.and_eq_true,decide_eq_true_eq] at h2;exact h2.2.1
  obtain ⟨b,t0,_,_,he⟩:=zgJ h2 (by
   obtain ⟨k,n,e,x,kids⟩:=v
   have:=V.kids_nodes kids
   simp only [V.nodes] at h3;show kids.length <= 300
   omega) (by obtain ⟨k,n,e,x,kids⟩:=v; exact h1.2.1)
  rw [he] at h4;have hlt:=h4.lt
  have hb1:b1 = false:=by
   rcases hcase with ⟨h,_⟩ | ⟨_,_,h | h⟩
   ·exact h
   ·rw [hb] at h; cases h
   ·omega
  rw [hb1,decide_eq_false (by omega),decide_eq_false (by omega)] at hc
  cases hc
 simp only [Bool.or_eq_false_iff,decide_eq_false_iff_not] at hc;obtain ⟨rfl,hc300,hd12⟩:=hc;obtain ⟨_,rfl,hal,rfl,hcc⟩ | ⟨hx,_⟩:=hcase
 case inr => cases hx
 have hil:a < s.length:=by omega
 have hl1:cnt + 1 <= 300:=by omega
 have hV:=hV (by omega);obtain ⟨left,hleft⟩:∃ left:Int,left = 300 - cnt:=⟨_,rfl⟩;have HC:=hdC (d:=d) (left:=left) (by omega) hil;have hbt:=(s[a]).toNat_lt;rw [gw_one hil] at hcc;subst c;generalize s[a].toNat = bb at HC hbt;refine zae ?_;refine zej (fun st => has st.tm [(0,.ref 0 0),(1,.d (pI d)),(4,.ref 1 0),(5,.d (pI bb))] /\ st.bx = [uC s (a + 1) (cnt + 1) false,fV 0 0 0 []] /\ st.nt = nt /\ st.live = live) ⟨⟨rfl,rfl,rfl,rfl,trivial⟩,rfl,rfl,rfl⟩ (fun tm bx n2 l2 hh => ?_);obtain ⟨ht,hbx,hn,hlv⟩:=hh;obtain ⟨tm1,rfl⟩:=zaj ht;simp only at hbx hn hlv; subst hbx; subst n2; subst l2
 clear ht;have hu:=zcq s (a + 1) (cnt + 1) false;refine zaa (zai ?_);refine mQ ?_;by_cases k:(bb:Int) < 128
 ·refine zak rfl rfl (decide_eq_true k) ?_
  refine mN ?_;refine mwT ?_;refine mQ ?_;refine mS ?_;refine zaA (p:=1) (cs:=fV 3 bb 0 []) rfl rfl rfl rfl rfl rfl ?_;refine zac ?_;refine zab ⟨.inr rfl,[.ag (fV 3 bb 0 [])],rfl,zcu (zdV HC hleft (u:=.mk 3 bb 0 [] []) rfl rfl rfl rfl (by simp [V.nodes,V.nodess]) ⟨by unfold i64ok; omega,by unfold i64ok; omega,by unfold i64ok; omega,by unfold strok; simp,by simp,trivial⟩ (by omega) (by simp only [V.bulk,V.bulks,List.length_nil]; omega) hl1 (Nat.le_refl _) live0 fun v t0 h1 hM hA => ?_)⟩
  cases hM <;> first | (exfalso; omega) | exact ⟨rfl,rfl⟩
 refine zam rfl rfl (decide_eq_false k) ?_;refine mN ?_;refine mwF ?_;refine mQ ?_;by_cases k:(bb:Int) < 144
 ·refine zak rfl rfl (decide_eq_true k) ?_
  refine mN ?_;refine mwT ?_;refine mQ ?_;refine mS ?_;refine zaJ (n:=(bb:Int) - 128) rfl rfl rfl rfl (by omega) ?_;refine zft (n:=2 * ((bb:Int) - 128)) rfl rfl rfl rfl (by omega) ?_;refine mS ?_;refine zau (n:=d + 1) rfl rfl rfl rfl (by omega) ?_;refine po_g rfl (FnG.lift1 (p:=0) (many_g hs hV (2 * ((bb:Int) - 128)) (by omega) (a + 1) (cnt + 1) false nt live (by omega) (by omega) hnt) (args:=[.d (pI (2 * ((bb:Int) - 128))),.d (pI (d + 1))]) ⟨trivial,trivial,trivial⟩ (zcq _ _ _ _) rfl) ?_;rintro x _ n3 l3 ⟨c',rfl,a',cnt',bad',rfl,hGM⟩
  obtain ⟨tk,rows,rfl,hGU⟩:=zfJ (bb:=bb) (kind:=8) (many:=2 * ((bb:Int) - 128)) (a2:=a + 1) (a3:=a + 1) (c:=0) (b0:=false) hs HC hleft (by unfold i64ok; omega) (by omega) hGM (fun _ => ⟨rfl,rfl⟩) (fun v t0 h1 hM hA => by
   cases hM with
   | map n h kids hl => exact ⟨rfl,kids,rfl,by omega,hA,by simp⟩
   | _ => exfalso; omega)
  refine mS ?_;refine zaA (p:=1) (cs:=[pI 8,pI 0,pI 0,pS [],.sl tk rows]) rfl rfl rfl rfl rfl rfl ?_;refine zac ?_;exact zab ⟨.inr rfl,[.ag [pI 8,pI 0,pI 0,pS [],.sl tk rows]],rfl,zcu hGU⟩
 refine zam rfl rfl (decide_eq_false k) ?_;refine mN ?_;refine mwF ?_;refine mQ ?_;by_cases k:(bb:Int) < 160
 ·refine zak rfl rfl (decide_eq_true k) ?_
  refine mN ?_;refine mwT ?_;refine mQ ?_;refine mS ?_;refine zaJ (n:=(bb:Int) - 144) rfl rfl rfl rfl (by omega) ?_;refine mS ?_;refine zau (n:=d + 1) rfl rfl rfl rfl (by omega) ?_;refine po_g rfl (FnG.lift1 (p:=0) (many_g hs hV ((bb:Int) - 144) (by omega) (a + 1) (cnt + 1) false nt live (by omega) (by omega) hnt) (args:=[.d (pI ((bb:Int) - 144)),.d (pI (d + 1))]) ⟨trivial,trivial,trivial⟩ (zcq _ _ _ _) rfl) ?_;rintro x _ n3 l3 ⟨c',rfl,a',cnt',bad',rfl,hGM⟩
  obtain ⟨tk,rows,rfl,hGU⟩:=zfJ (bb:=bb) (kind:=7) (many:=(bb:Int) - 144) (a2:=a + 1) (a3:=a + 1) (c:=0) (b0:=false) hs HC hleft (by unfold i64ok; omega) (by omega) hGM (fun _ => ⟨rfl,rfl⟩) (fun v t0 h1 hM hA => by
   cases hM with
   | list kids h => exact ⟨rfl,kids,rfl,by omega,hA,by simp⟩
   | _ => exfalso; omega)
  refine mS ?_;refine zaA (p:=1) (cs:=[pI 7,pI 0,pI 0,pS [],.sl tk rows]) rfl rfl rfl rfl rfl rfl ?_;refine zac ?_;exact zab ⟨.inr rfl,[.ag [pI 7,pI 0,pI 0,pS [],.sl tk rows]],rfl,zcu hGU⟩
 refine zam rfl rfl (decide_eq_false k) ?_;refine mN ?_;refine mwF ?_;refine mQ ?_;by_cases k:(bb:Int) < 192
 ·refine zak rfl rfl (decide_eq_true k) ?_
  refine mN ?_;refine mwT ?_;refine mQ ?_;refine mS ?_;refine zaJ (n:=((bb - 160:Nat):Int)) rfl rfl rfl (by omega) (by omega) ?_;refine po_g rfl (FnG.lift1 (p:=0) (zjA s (a + 1) (bb - 160) (cnt + 1) false (by omega) (by omega) hs nt live) (args:=[.d (pI ((bb - 160:Nat):Int))]) ⟨trivial,trivial⟩ (zcq _ _ _ _) rfl) ?_;rintro x _ n3 l3 ⟨c',rfl,hTX⟩
  obtain ⟨rfl,rfl,tx,a',bad',rfl,rfl,hGU⟩:=zgU (bb:=bb) (kind:=5) (k:=bb - 160) (a2:=a + 1) (a3:=a + 1) (c:=0) (b0:=false) hs HC hleft hl1 (by unfold i64ok; omega) (by omega) hTX (fun _ => ⟨rfl,rfl⟩) (fun v t0 h1 hM hA => by
   cases hM with
   | text tx h => exact ⟨rfl,t0,rfl,by omega,hA,by simp⟩
   | _ => exfalso; omega)
  refine mS ?_;refine zaA (p:=1) (cs:=fV 5 0 0 tx) rfl rfl rfl rfl rfl rfl ?_;refine zac ?_;exact zab ⟨.inr rfl,[.ag (fV 5 0 0 tx)],rfl,zcu hGU⟩
 refine zam rfl rfl (decide_eq_false k) ?_;refine mN ?_;refine mwF ?_;refine mQ ?_;by_cases k:(bb:Int) ≥ 224
 ·refine zak rfl rfl (decide_eq_true k) ?_
  refine mN ?_;refine mwT ?_;refine mQ ?_;refine zaJ (n:=(bb:Int) - 256) rfl rfl rfl rfl (by omega) ?_;refine mS ?_;refine zaA (p:=1) (cs:=fV 3 ((bb:Int) - 256) 0 []) rfl rfl rfl rfl rfl rfl ?_;refine zac ?_;refine zab ⟨.inr rfl,[.ag (fV 3 ((bb:Int) - 256) 0 [])],rfl,zcu (zdV HC hleft (u:=.mk 3 ((bb:Int) - 256) 0 [] []) rfl rfl rfl rfl (by simp [V.nodes,V.nodess]) ⟨by unfold i64ok; omega,by unfold i64ok; omega,by unfold i64ok; omega,by unfold strok; simp,by simp,trivial⟩ (by omega) (by simp only [V.bulk,V.bulks,List.length_nil]; omega) hl1 (Nat.le_refl _) live0 fun v t0 h1 hM hA => ?_)⟩
  cases hM <;> first | (exfalso; omega) | exact ⟨rfl,rfl⟩
 refine zam rfl rfl (decide_eq_false k) ?_;refine mN ?_;refine mwF ?_;refine mQ ?_;refine zaf rfl (zct bb 204 207) ?_;by_cases k6:(204:Int) <= bb /\ (bb:Int) <= 207
 ·rw [decide_eq_true k6]
  refine mN ?_;refine mwT ?_;refine mO ?_;obtain ⟨j,rfl⟩:∃ j,bb = 204 + j:=⟨bb - 204,by omega⟩;have hj:j < 4:=by omega
  have hp2:1 <= 2 ^ j /\ 2 ^ j <= 8:=by
   have:j = 0 \/ j = 1 \/ j = 2 \/ j = 3:=by omega
   rcases this with rfl | rfl | rfl | rfl <;> decide
  (iterate 2 refine mS ?_);refine zaJ (n:=(j:Int)) rfl rfl rfl (by omega) (by omega) ?_;refine ziO (n:=((2 ^ j:Nat):Int)) rfl rfl rfl (by omega) (shl4 j hj) ?_;refine po_g rfl (FnG.lift1 (p:=0) (zc8 s (a + 1) (2 ^ j) (cnt + 1) false hp2 hal hs nt live) (args:=[.d (pI ((2 ^ j:Nat):Int))]) ⟨trivial,trivial⟩ (zcq _ _ _ _) rfl) ?_;rintro x _ n3 l3 ⟨c',rfl,hW⟩;obtain ⟨rfl,rfl,z,a',bad',rfl,_,rfl,hGU⟩:=gotU_int id (fun _ h => h) HC hleft hl1 hal hW hp2.1 (wide_hc rfl hj);refine mS ?_;refine zaA (p:=1) (cs:=fV 3 z 0 []) rfl rfl rfl rfl rfl rfl ?_;refine zac ?_;exact zab ⟨.inr rfl,[.ag (fV 3 z 0 [])],rfl,zcu hGU⟩
 rw [decide_eq_false k6];refine mN ?_;refine mwF ?_;refine mQ ?_;refine zaf rfl (zct bb 208 211) ?_;by_cases k7:(208:Int) <= bb /\ (bb:Int) <= 211
 ·rw [decide_eq_true k7]
  refine mN ?_;refine mwT ?_;refine mO ?_;obtain ⟨j,rfl⟩:∃ j,bb = 208 + j:=⟨bb - 208,by omega⟩;have hj:j < 4:=by omega
  have hp2:1 <= 2 ^ j /\ 2 ^ j <= 8:=by
   have:j = 0 \/ j = 1 \/ j = 2 \/ j = 3:=by omega
   rcases this with rfl | rfl | rfl | rfl <;> decide
  refine mS ?_;refine zaJ (n:=(j:Int)) rfl rfl rfl (by omega) (by omega) ?_;refine ziO (n:=((2 ^ j:Nat):Int)) rfl rfl rfl (by omega) (shl4 j hj) ?_;refine mN ?_;refine mO ?_;(iterate 2 refine mS ?_);refine po_g rfl (FnG.lift1 (p:=0) (zc8 s (a + 1) (2 ^ j) (cnt + 1) false hp2 hal hs nt live) (args:=[.d (pI ((2 ^ j:Nat):Int))]) ⟨trivial,trivial⟩ (zcq _ _ _ _) rfl) ?_;rintro x _ n3 l3 ⟨c',rfl,hW⟩;obtain ⟨rfl,rfl,z,a',bad',rfl,hz,rfl,hGU⟩:=gotU_int (fun z => sgw z (2 ^ j)) (fun z h => sgw_i64 z j h) HC hleft hl1 hal hW hp2.1 (sign_hc rfl hj);refine mS ?_;refine zaf (args:=[.d (pI z),.d (pI ((2 ^ j:Nat):Int))]) rfl (zhV z (2 ^ j) hp2 hz) ?_;refine mS ?_;refine zaA (p:=1) (cs:=fV 3 (sgw z (2 ^ j)) 0 []) rfl rfl rfl rfl rfl rfl ?_;refine zac ?_;exact zab ⟨.inr rfl,[.ag (fV 3 (sgw z (2 ^ j)) 0 [])],rfl,zcu hGU⟩
 rw [decide_eq_false k7];refine mN ?_;refine mwF ?_;refine zae ?_;refine zej (fun st => has st.tm [(0,.ref 0 0),(1,.d (pI d)),(4,.ref 1 0),(5,.d (pI bb))] /\ st.bx = [uC s (a + 1) (cnt + 1) false,fV 0 0 0 []] /\ st.nt = nt /\ st.live = live) ⟨⟨rfl,rfl,rfl,rfl,trivial⟩,rfl,rfl,rfl⟩ (fun tm bx n2 l2 hh => ?_);obtain ⟨ht,hbx,hn,hlv⟩:=hh;obtain ⟨tm2,rfl⟩:=zaj ht;simp only at hbx hn hlv; subst hbx; subst n2; subst l2
 clear ht;refine zaa (zaa (zad ?_));refine mN ?_;refine zai (zaa (zad ?_));by_cases q192:(bb:Int) = 192
 ·refine zak rfl rfl (decide_eq_true q192) ?_
  refine mN ?_;refine mwT ?_;refine mQ ?_;refine zaA (p:=1) (cs:=fV 0 0 0 []) rfl rfl rfl rfl rfl rfl ?_;refine zac ?_;refine zab ⟨.inr rfl,[.ag (fV 0 0 0 [])],rfl,zcu (zdV HC hleft (u:=.mk 0 0 0 [] []) rfl rfl rfl rfl (by simp [V.nodes,V.nodess]) ⟨by unfold i64ok; omega,by unfold i64ok; omega,by unfold i64ok; omega,by unfold strok; simp,by simp,trivial⟩ (by omega) (by simp only [V.bulk,V.bulks,List.length_nil]; omega) hl1 (Nat.le_refl _) live0 fun v t0 h1 hM hA => ?_)⟩
  cases hM <;> first | (exfalso; omega) | exact ⟨rfl,rfl⟩
 refine zam rfl rfl (decide_eq_false q192) ?_;refine mN ?_;refine mwF ?_;refine mO ?_;by_cases q194:(bb:Int) = 194
 ·refine zak rfl rfl (decide_eq_true q194) ?_
  refine mN ?_;refine mwT ?_;refine mQ ?_;refine zaA (p:=1) (cs:=fV 1 0 0 []) rfl rfl rfl rfl rfl rfl ?_;refine zac ?_;refine zab ⟨.inr rfl,[.ag (fV 1 0 0 [])],rfl,zcu (zdV HC hleft (u:=.mk 1 0 0 [] []) rfl rfl rfl rfl (by simp [V.nodes,V.nodess]) ⟨by unfold i64ok; omega,by unfold i64ok; omega,by unfold i64ok; omega,by unfold strok; simp,by simp,trivial⟩ (by omega) (by simp only [V.bulk,V.bulks,List.length_nil]; omega) hl1 (Nat.le_refl _) live0 fun v t0 h1 hM hA => ?_)⟩
  cases hM <;> first | (exfalso; omega) | exact ⟨rfl,rfl⟩
 refine zam rfl rfl (decide_eq_false q194) ?_;refine mN ?_;refine mwF ?_;refine mO ?_;by_cases q195:(bb:Int) = 195
 ·refine zak rfl rfl (decide_eq_true q195) ?_
  refine mN ?_;refine mwT ?_;refine mQ ?_;refine zaA (p:=1) (cs:=fV 2 0 0 []) rfl rfl rfl rfl rfl rfl ?_;refine zac ?_;refine zab ⟨.inr rfl,[.ag (fV 2 0 0 [])],rfl,zcu (zdV HC hleft (u:=.mk 2 0 0 [] []) rfl rfl rfl rfl (by simp [V.nodes,V.nodess]) ⟨by unfold i64ok; omega,by unfold i64ok; omega,by unfold i64ok; omega,by unfold strok; simp,by simp,trivial⟩ (by omega) (by simp only [V.bulk,V.bulks,List.length_nil]; omega) hl1 (Nat.le_refl _) live0 fun v t0 h1 hM hA => ?_)⟩
  cases hM <;> first | (exfalso; omega) | exact ⟨rfl,rfl⟩
 refine zam rfl rfl (decide_eq_false q195) ?_;refine mN ?_;refine mwF ?_;refine zaq (fun st => has st.tm [(0,.ref 0 0),(1,.d (pI d)),(4,.ref 1 0),(5,.d (pI bb)),(96,.d (pI bb)),(106,.d (pB (decide ((bb:Int) = 196 \/ (bb:Int) = 197))))] /\ st.bx = [uC s (a + 1) (cnt + 1) false,fV 0 0 0 []] /\ st.nt = nt /\ st.live = live) ?_ ?_
 ·refine mO ?_
  by_cases q:(bb:Int) = 196
  ·refine zak rfl rfl (decide_eq_true q) ?_
   refine mN ?_;refine mwT ?_;refine zae ?_;exact ⟨⟨rfl,rfl,rfl,rfl,rfl,by rw [decide_eq_true (show (bb:Int) = 196 \/ (bb:Int) = 197 from .inl q)]; rfl,trivial⟩,rfl,rfl,rfl⟩
  ·refine zam rfl rfl (decide_eq_false q) ?_
   refine mN ?_;refine mwF ?_;refine zad ?_;refine po_b rfl rfl (fun b2 hb2 => ?_);refine mN ?_
   have:decide ((bb:Int) = 196 \/ (bb:Int) = 197) = b2:=by rw [hb2]; exact decide_eq_decide.2 ⟨fun h => h.resolve_left q,.inr⟩
   exact ⟨⟨rfl,rfl,rfl,rfl,rfl,by rw [this]; rfl,trivial⟩,rfl,rfl,rfl⟩
 rintro tm bx n2 l2 ⟨ht,hbx,hn,hlv⟩;obtain ⟨tm3,rfl⟩:=zaj ht;simp only at hbx hn hlv; subst hbx; subst n2; subst l2
 clear ht;refine zeD (p:=(bb:Int) = 196 \/ (bb:Int) = 197) rfl (fun q196 => ?_) (fun q196 => ?_)
 ·refine mQ ?_
  refine mS ?_;refine mS ?_;obtain ⟨j,hj,hj2⟩:∃ j:Nat,(bb:Int) - 195 = j /\ (j = 1 \/ j = 2):=⟨bb - 195,by omega,by omega⟩;refine zaJ (n:=(j:Int)) rfl rfl rfl hj (by omega) ?_;refine po_g rfl (FnG.lift1 (p:=0) (zc8 s (a + 1) j (cnt + 1) false (by omega) hal hs nt live) (args:=[.d (pI (j:Int))]) ⟨trivial,trivial⟩ (zcq _ _ _ _) rfl) ?_;rintro x _ n3 l3 ⟨c',rfl,rfl,rfl,hW⟩
  obtain ⟨m,a3,b0,rfl,rfl,hm,ha3,hb0⟩:∃ (m a3:Nat) (b0:Bool),x = .d (pI (m:Int)) /\ c' = uC s a3 (cnt + 1) b0 /\ m <= 65536 /\ (a + 1 <= a3 /\ a3 <= a + 1 + j /\ a3 <= s.length) /\ ((b0 = false /\ a3 = a + 1 + j /\ (m:Int) = gwN s (a + 1) j) \/ (b0 = true /\ ¬ a + 1 + j <= s.length)):=by
   rcases hW with ⟨_,hle,rfl,rfl⟩ | ⟨hbad,rfl,rfl⟩
   ·have:=zdw s (a + 1) j (by omega)
    have h256:(256:Int) ^ j <= 65536:=by rcases hj2 with rfl | rfl <;> decide
    exact ⟨(gwN s (a + 1) j).toNat,_,_,by rw [Int.toNat_of_nonneg this.1],rfl,by omega,by omega,.inl ⟨rfl,rfl,by omega⟩⟩
   ·exact ⟨0,_,_,rfl,rfl,by omega,by omega,.inr ⟨rfl,hbad.resolve_left (fun h => by cases h)⟩⟩
  have two:∀ {n:Nat} {l t0:List UInt8},n < 256 ^ j -> t0 = be j n ++ l -> At s (a + 1) t0 -> b0 = false /\ n = m /\ At s (a + 1 + j) l /\ t0.length = j + l.length:=by
   rintro n l t0 hl rfl hA;have h1:=hA.app.1;have h2:=hA.app.2;have h3:=h1.len (by omega);rw [zal] at h2 h3;have h256:256 ^ j <= 65536:=by rcases hj2 with rfl | rfl <;> decide
   have h4:=h1.gw_id hl (by omega)
   rcases hb0 with ⟨e1,e2,e3⟩ | ⟨_,e2⟩
   ·exact ⟨e1,by omega,h2,by rw [List.length_append,zal]⟩
   ·exact absurd h3 e2
  refine po_g rfl (FnG.lift1 (p:=0) (zjA s (a3) (m) (cnt + 1) b0 (by omega) (by omega) hs n3 l3) (args:=[.d (pI ((m:Nat):Int))]) ⟨trivial,trivial⟩ (zcq _ _ _ _) rfl) ?_;rintro x _ n3 l3 ⟨c',rfl,hTX⟩
  obtain ⟨rfl,rfl,tx,a',bad',rfl,rfl,hGU⟩:=zgU (bb:=bb) (kind:=6) (k:=m) (a2:=a + 1 + j) (a3:=a3) (c:=j) (b0:=b0) hs HC hleft hl1 (by unfold i64ok; omega) (by omega) hTX (fun h => ⟨(by rcases hb0 with ⟨_,e2,_⟩ | ⟨e1,_⟩; exact e2; rw [h] at e1; cases e1),rfl⟩) (fun v t0 h1 hM hA => by
   have hbb:bb = 195 + j:=by omega
   rcases hj2 with rfl | rfl
   ·cases hM with
    | bytes1 tx h =>
     obtain ⟨e1,e2,e3,e4⟩:=two (n:=tx.length) (l:=tx) (by have:(256:Nat) ^ 1 = 256:=rfl; omega) rfl hA
     exact ⟨e1,tx,rfl,e2,e3,e4⟩
    | _ => exfalso; omega
   ·cases hM with
    | bytes2 tx h =>
     obtain ⟨e1,e2,e3,e4⟩:=two (n:=tx.length) (l:=tx) (by have:(256:Nat) ^ 2 = 65536:=rfl; omega) rfl hA
     exact ⟨e1,tx,rfl,e2,e3,e4⟩
    | _ => exfalso; omega)
  refine mS ?_;refine zaA (p:=1) (cs:=fV 6 0 0 tx) rfl rfl rfl rfl rfl rfl ?_;refine zac ?_;exact zab ⟨.inr rfl,[.ag (fV 6 0 0 tx)],rfl,zcu hGU⟩
 refine mO ?_;by_cases q199:(bb:Int) = 199
 ·refine zak rfl rfl (decide_eq_true q199) ?_
  refine mN ?_;refine mwT ?_;refine mQ ?_;refine mS ?_
  obtain rfl:bb = 199:=by omega
  refine po_g rfl (FnG.lift1 (p:=0) (extU_g hs (by omega) hV (a + 1) (cnt + 1) false nt live hal (by omega) hnt) (args:=[.d (pI d)]) ⟨trivial,trivial⟩ (zcq _ _ _ _) rfl) ?_;rintro x _ n3 l3 ⟨c',rfl,a',cnt',bad',rfl,hGX⟩;have hGU:=gotU_ext HC hleft hGX;obtain ⟨cs,rfl,hc5,_⟩:=hGX;refine zaA (p:=1) (cs:=cs) rfl rfl rfl hc5 rfl rfl ?_;refine zac ?_;exact zab ⟨.inr rfl,[.ag cs],ress_1 rfl rfl hc5,zcu hGU⟩
 refine zam rfl rfl (decide_eq_false q199) ?_;refine mN ?_;refine mwF ?_;refine zaq (fun st => has st.tm [(0,.ref 0 0),(1,.d (pI d)),(4,.ref 1 0),(5,.d (pI bb)),(96,.d (pI bb)),(121,.d (pB (decide ((bb:Int) = 217 \/ (bb:Int) = 218))))] /\ st.bx = [uC s (a + 1) (cnt + 1) false,fV 0 0 0 []] /\ st.nt = nt /\ st.live = live) ?_ ?_
 ·refine mO ?_
  by_cases q:(bb:Int) = 217
  ·refine zak rfl rfl (decide_eq_true q) ?_
   refine mN ?_;refine mwT ?_;refine zae ?_;exact ⟨⟨rfl,rfl,rfl,rfl,rfl,by rw [decide_eq_true (show (bb:Int) = 217 \/ (bb:Int) = 218 from .inl q)]; rfl,trivial⟩,rfl,rfl,rfl⟩
  ·refine zam rfl rfl (decide_eq_false q) ?_
   refine mN ?_;refine mwF ?_;refine zad ?_;refine po_b rfl rfl (fun b2 hb2 => ?_);refine mN ?_
   have:decide ((bb:Int) = 217 \/ (bb:Int) = 218) = b2:=by rw [hb2]; exact decide_eq_decide.2 ⟨fun h => h.resolve_left q,.inr⟩
   exact ⟨⟨rfl,rfl,rfl,rfl,rfl,by rw [this]; rfl,trivial⟩,rfl,rfl,rfl⟩
 rintro tm bx n2 l2 ⟨ht,hbx,hn,hlv⟩;obtain ⟨tm3,rfl⟩:=zaj ht;simp only at hbx hn hlv; subst hbx; subst n2; subst l2
 clear ht;refine zeD (p:=(bb:Int) = 217 \/ (bb:Int) = 218) rfl (fun q217 => ?_) (fun q217 => ?_)
 ·refine mQ ?_
  refine mS ?_;refine mS ?_;obtain ⟨j,hj,hj2⟩:∃ j:Nat,(bb:Int) - 216 = j /\ (j = 1 \/ j = 2):=⟨bb - 216,by omega,by omega⟩;refine zaJ (n:=(j:Int)) rfl rfl rfl hj (by omega) ?_;refine po_g rfl (FnG.lift1 (p:=0) (zc8 s (a + 1) j (cnt + 1) false (by omega) hal hs nt live) (args:=[.d (pI (j:Int))]) ⟨trivial,trivial⟩ (zcq _ _ _ _) rfl) ?_;rintro x _ n3 l3 ⟨c',rfl,rfl,rfl,hW⟩
  obtain ⟨m,a3,b0,rfl,rfl,hm,ha3,hb0⟩:∃ (m a3:Nat) (b0:Bool),x = .d (pI (m:Int)) /\ c' = uC s a3 (cnt + 1) b0 /\ m <= 65536 /\ (a + 1 <= a3 /\ a3 <= a + 1 + j /\ a3 <= s.length) /\ ((b0 = false /\ a3 = a + 1 + j /\ (m:Int) = gwN s (a + 1) j) \/ (b0 = true /\ ¬ a + 1 + j <= s.length)):=by
   rcases hW with ⟨_,hle,rfl,rfl⟩ | ⟨hbad,rfl,rfl⟩
   ·have:=zdw s (a + 1) j (by omega)
    have h256:(256:Int) ^ j <= 65536:=by rcases hj2 with rfl | rfl <;> decide
    exact ⟨(gwN s (a + 1) j).toNat,_,_,by rw [Int.toNat_of_nonneg this.1],rfl,by omega,by omega,.inl ⟨rfl,rfl,by omega⟩⟩
   ·exact ⟨0,_,_,rfl,rfl,by omega,by omega,.inr ⟨rfl,hbad.resolve_left (fun h => by cases h)⟩⟩
  have two:∀ {n:Nat} {l t0:List UInt8},n < 256 ^ j -> t0 = be j n ++ l -> At s (a + 1) t0 -> b0 = false /\ n = m /\ At s (a + 1 + j) l /\ t0.length = j + l.length:=by
   rintro n l t0 hl rfl hA;have h1:=hA.app.1;have h2:=hA.app.2;have h3:=h1.len (by omega);rw [zal] at h2 h3;have h256:256 ^ j <= 65536:=by rcases hj2 with rfl | rfl <;> decide
   have h4:=h1.gw_id hl (by omega)
   rcases hb0 with ⟨e1,e2,e3⟩ | ⟨_,e2⟩
   ·exact ⟨e1,by omega,h2,by rw [List.length_append,zal]⟩
   ·exact absurd h3 e2
  refine po_g rfl (FnG.lift1 (p:=0) (zjA s (a3) (m) (cnt + 1) b0 (by omega) (by omega) hs n3 l3) (args:=[.d (pI ((m:Nat):Int))]) ⟨trivial,trivial⟩ (zcq _ _ _ _) rfl) ?_;rintro x _ n3 l3 ⟨c',rfl,hTX⟩
  obtain ⟨rfl,rfl,tx,a',bad',rfl,rfl,hGU⟩:=zgU (bb:=bb) (kind:=5) (k:=m) (a2:=a + 1 + j) (a3:=a3) (c:=j) (b0:=b0) hs HC hleft hl1 (by unfold i64ok; omega) (by omega) hTX (fun h => ⟨(by rcases hb0 with ⟨_,e2,_⟩ | ⟨e1,_⟩; exact e2; rw [h] at e1; cases e1),rfl⟩) (fun v t0 h1 hM hA => by
   have hbb:bb = 216 + j:=by omega
   rcases hj2 with rfl | rfl
   ·cases hM with
    | text1 tx h =>
     obtain ⟨e1,e2,e3,e4⟩:=two (n:=tx.length) (l:=tx) (by have:(256:Nat) ^ 1 = 256:=rfl; omega) rfl hA
     exact ⟨e1,tx,rfl,e2,e3,e4⟩
    | _ => exfalso; omega
   ·cases hM with
    | text2 tx h =>
     obtain ⟨e1,e2,e3,e4⟩:=two (n:=tx.length) (l:=tx) (by have:(256:Nat) ^ 2 = 65536:=rfl; omega) rfl hA
     exact ⟨e1,tx,rfl,e2,e3,e4⟩
    | _ => exfalso; omega)
  refine mS ?_;refine zaA (p:=1) (cs:=fV 5 0 0 tx) rfl rfl rfl rfl rfl rfl ?_;refine zac ?_;exact zab ⟨.inr rfl,[.ag (fV 5 0 0 tx)],rfl,zcu hGU⟩
 refine mO ?_;by_cases q220:(bb:Int) = 220
 ·refine zak rfl rfl (decide_eq_true q220) ?_
  refine mN ?_;refine mwT ?_;refine mQ ?_;refine mS ?_;refine po_g rfl (FnG.lift1 (p:=0) (zc8 s (a + 1) 2 (cnt + 1) false (by omega) hal hs nt live) (args:=[.d (pI ((2:Nat):Int))]) ⟨trivial,trivial⟩ (zcq _ _ _ _) rfl) ?_;rintro x _ n3 l3 ⟨c',rfl,rfl,rfl,hW⟩
  obtain ⟨m,a3,b0,rfl,rfl,hm,ha3,hb0⟩:∃ (m a3:Nat) (b0:Bool),x = .d (pI (m:Int)) /\ c' = uC s a3 (cnt + 1) b0 /\ m <= 65536 /\ (a + 1 <= a3 /\ a3 <= a + 1 + 2 /\ a3 <= s.length) /\ ((b0 = false /\ a3 = a + 1 + 2 /\ (m:Int) = gwN s (a + 1) 2) \/ (b0 = true /\ ¬ a + 1 + 2 <= s.length)):=by
   rcases hW with ⟨_,hle,rfl,rfl⟩ | ⟨hbad,rfl,rfl⟩
   ·have:=zdw s (a + 1) 2 (by omega)
    have h256:(256:Int) ^ 2 = 65536:=rfl;exact ⟨(gwN s (a + 1) 2).toNat,_,_,by rw [Int.toNat_of_nonneg this.1],rfl,by omega,by omega,.inl ⟨rfl,rfl,by omega⟩⟩
   ·exact ⟨0,_,_,rfl,rfl,by omega,by omega,.inr ⟨rfl,hbad.resolve_left (fun h => by cases h)⟩⟩
  have two:∀ {n:Nat} {l t0:List UInt8},n < 65536 -> t0 = be 2 n ++ l -> At s (a + 1) t0 -> b0 = false /\ n = m /\ At s (a + 1 + 2) l /\ t0.length = 2 + l.length:=by
   rintro n l t0 hl rfl hA;have h1:=hA.app.1;have h2:=hA.app.2;have h3:=h1.len (by omega);rw [zal] at h2 h3;have h4:=h1.gw_id (by have:(256:Nat) ^ 2 = 65536:=rfl; omega) (by omega)
   rcases hb0 with ⟨e1,e2,e3⟩ | ⟨_,e2⟩
   ·exact ⟨e1,by omega,h2,by rw [List.length_append,zal]⟩
   ·exact absurd h3 e2
  refine mS ?_;refine zau (n:=d + 1) rfl rfl rfl rfl (by omega) ?_;refine po_g rfl (FnG.lift1 (p:=0) (many_g hs hV ((m:Int)) (by omega) (a3) (cnt + 1) b0 n3 l3 (by omega) (by omega) hnt) (args:=[.d (pI ((m:Int))),.d (pI (d + 1))]) ⟨trivial,trivial,trivial⟩ (zcq _ _ _ _) rfl) ?_;rintro x _ n4 l4 ⟨c',rfl,a',cnt',bad',rfl,hGM⟩
  obtain ⟨tk,rows,rfl,hGU⟩:=zfJ (bb:=bb) (kind:=7) (many:=(m:Int)) (a2:=a + 1 + 2) (a3:=a3) (c:=2) (b0:=b0) hs HC hleft (by unfold i64ok; omega) (by omega) hGM (fun h => ⟨(by rcases hb0 with ⟨_,e2,_⟩ | ⟨e1,_⟩; exact e2; rw [h] at e1; cases e1),rfl⟩) (fun v t0 h1 hM hA => by
   cases hM with
   | list2 ks h =>
    obtain ⟨e1,e2,e3,e4⟩:=two (n:=ks.length) (l:=msgs ks) (by omega) rfl hA
    exact ⟨e1,ks,rfl,by omega,e3,e4⟩
   | _ => exfalso; omega)
  refine mS ?_;refine zaA (p:=1) (cs:=[pI 7,pI 0,pI 0,pS [],.sl tk rows]) rfl rfl rfl rfl rfl rfl ?_;refine zac ?_;exact zab ⟨.inr rfl,[.ag [pI 7,pI 0,pI 0,pS [],.sl tk rows]],rfl,zcu hGU⟩
 refine zam rfl rfl (decide_eq_false q220) ?_;refine mN ?_;refine mwF ?_;refine mO ?_;by_cases q222:(bb:Int) = 222
 ·refine zak rfl rfl (decide_eq_true q222) ?_
  refine mN ?_;refine mwT ?_;refine mQ ?_;refine mS ?_;refine po_g rfl (FnG.lift1 (p:=0) (zc8 s (a + 1) 2 (cnt + 1) false (by omega) hal hs nt live) (args:=[.d (pI ((2:Nat):Int))]) ⟨trivial,trivial⟩ (zcq _ _ _ _) rfl) ?_;rintro x _ n3 l3 ⟨c',rfl,rfl,rfl,hW⟩
  obtain ⟨m,a3,b0,rfl,rfl,hm,ha3,hb0⟩:∃ (m a3:Nat) (b0:Bool),x = .d (pI (m:Int)) /\ c' = uC s a3 (cnt + 1) b0 /\ m <= 65536 /\ (a + 1 <= a3 /\ a3 <= a + 1 + 2 /\ a3 <= s.length) /\ ((b0 = false /\ a3 = a + 1 + 2 /\ (m:Int) = gwN s (a + 1) 2) \/ (b0 = true /\ ¬ a + 1 + 2 <= s.length)):=by
   rcases hW with ⟨_,hle,rfl,rfl⟩ | ⟨hbad,rfl,rfl⟩
   ·have:=zdw s (a + 1) 2 (by omega)
    have h256:(256:Int) ^ 2 = 65536:=rfl;exact ⟨(gwN s (a + 1) 2).toNat,_,_,by rw [Int.toNat_of_nonneg this.1],rfl,by omega,by omega,.inl ⟨rfl,rfl,by omega⟩⟩
   ·exact ⟨0,_,_,rfl,rfl,by omega,by omega,.inr ⟨rfl,hbad.resolve_left (fun h => by cases h)⟩⟩
  have two:∀ {n:Nat} {l t0:List UInt8},n < 65536 -> t0 = be 2 n ++ l -> At s (a + 1) t0 -> b0 = false /\ n = m /\ At s (a + 1 + 2) l /\ t0.length = 2 + l.length:=by
   rintro n l t0 hl rfl hA;have h1:=hA.app.1;have h2:=hA.app.2;have h3:=h1.len (by omega);rw [zal] at h2 h3;have h4:=h1.gw_id (by have:(256:Nat) ^ 2 = 65536:=rfl; omega) (by omega)
   rcases hb0 with ⟨e1,e2,e3⟩ | ⟨_,e2⟩
   ·exact ⟨e1,by omega,h2,by rw [List.length_append,zal]⟩
   ·exact absurd h3 e2
  refine zft (n:=2 * (m:Int)) rfl rfl rfl rfl (by omega) ?_;refine mS ?_;refine zau (n:=d + 1) rfl rfl rfl rfl (by omega) ?_;refine po_g rfl (FnG.lift1 (p:=0) (many_g hs hV (2 * (m:Int)) (by omega) (a3) (cnt + 1) b0 n3 l3 (by omega) (by omega) hnt) (args:=[.d (pI (2 * (m:Int))),.d (pI (d + 1))]) ⟨trivial,trivial,trivial⟩ (zcq _ _ _ _) rfl) ?_;rintro x _ n4 l4 ⟨c',rfl,a',cnt',bad',rfl,hGM⟩
  obtain ⟨tk,rows,rfl,hGU⟩:=zfJ (bb:=bb) (kind:=8) (many:=2 * (m:Int)) (a2:=a + 1 + 2) (a3:=a3) (c:=2) (b0:=b0) hs HC hleft (by unfold i64ok; omega) (by omega) hGM (fun h => ⟨(by rcases hb0 with ⟨_,e2,_⟩ | ⟨e1,_⟩; exact e2; rw [h] at e1; cases e1),rfl⟩) (fun v t0 h1 hM hA => by
   cases hM with
   | map2 n h ks hl =>
    obtain ⟨e1,e2,e3,e4⟩:=two (n:=n) (l:=msgs ks) (by omega) rfl hA
    exact ⟨e1,ks,rfl,by omega,e3,e4⟩
   | _ => exfalso; omega)
  refine mS ?_;refine zaA (p:=1) (cs:=[pI 8,pI 0,pI 0,pS [],.sl tk rows]) rfl rfl rfl rfl rfl rfl ?_;refine zac ?_;exact zab ⟨.inr rfl,[.ag [pI 8,pI 0,pI 0,pS [],.sl tk rows]],rfl,zcu hGU⟩
 refine zam rfl rfl (decide_eq_false q222) ?_;refine mN ?_;refine mwF ?_;refine zae ?_;refine mO ?_;(iterate 3 refine mS ?_);refine zap (p:=0) (o':=3) (cs:=[pB true]) (z:=uC s (a + 1) (cnt + 1) false) rfl rfl rfl ⟨rfl,Nat.le_of_ble_eq_true rfl⟩ rfl ?_;refine zac ?_;refine mQ ?_;refine zaA (p:=1) (cs:=fV 0 0 0 []) rfl rfl rfl rfl rfl rfl ?_;refine zac ?_;refine zab ⟨.inr rfl,[.ag (fV 0 0 0 [])],rfl,zcu (a':=a + 1) (cnt':=cnt + 1) (bad':=true) (zgT HC hleft rfl (zcs _ _ _ _ _ _) (fun t ht => by rw [zdH] at ht; cases ht) (Nat.le_refl _) live0 ⟨by omega,hal,by omega⟩ fun v t0 h1 hM hA => ?_)⟩
 cases hM <;> (exfalso; omega)
end
/- PvH8 -/
section
variable {T:World -> Prop} {hT:Low ngl T}
attribute [local irreducible] po mw pt
theorem valU_all {s:List UInt8} (hs:s.length <= 2147483647):∀ n:Nat,n <= 13 -> ValU T hT s ((13 - n:Nat):Int)
 | 0,_ => val_g hs (by omega) fun h => by omega
 | n + 1,h => by
  refine val_g hs (by omega) fun _ => ?_
  rw [show ((13 - (n + 1):Nat):Int) + 1 = ((13 - n:Nat):Int) by omega];exact valU_all hs n (by omega)
set_option maxHeartbeats 1000000 in
theorem getMsgI_g (hTab:∀ w,T w -> Tabs w) {s:List UInt8} (hs:s.length <= 2147483647) (i:Int) (nt:Nat) (live:List Nat) (hnt:2 <= nt) :
  FnG (env T hT) 67 [.d (pS s),.d (pI i)] [] nt live (fun x _ n l => x.lw 0 /\ GmR s i nt live x n l):=by
 have hput:=fun v hw hb => putMsgI_fn (T:=T) (hT:=hT) hTab v hw hb
 refine za1 (zag zjz) (by show 2 <= 42; decide) fun B hB => ?_
 unfold m_i_GetMsg;refine mP ?_;refine zaa (zaa (zad ?_));(iterate 2 refine mS ?_);refine po_q (v:=.d (pI s.length)) rfl rfl ?_;refine zaf rfl (zct i 0 s.length) ?_
 have hfl:∀ (n2:Nat) (l2:List Nat),nt <= n2 -> (∀ t ∈ live,2 <= t -> t < nt -> t ∈ l2) -> (∀ v:V,v.wf -> v.ok = true -> 0 <= i -> ¬ At s i.toNat (msg v)) -> GmR s i nt live (.tup [.ag (fV 0 0 0 []),.d (pI (-1))]) n2 l2:=fun n2 l2 h1 h2 h3 =>
  ⟨_,_,rfl,rfl,zcs _ _ _ _ _ _,(fun t ht => by rw [zdH] at ht; cases ht),h2,h1,.inl ⟨rfl,rfl,h3⟩⟩
 by_cases hc:0 <= i /\ i <= s.length
 case neg =>
  rw [decide_eq_false hc];refine mN ?_;refine mwT ?_;refine mQ ?_;refine zaA (p:=0) (cs:=fV 0 0 0 []) rfl rfl rfl rfl rfl rfl ?_;refine mN ?_;refine zab ⟨.inr rfl,[.ag (fV 0 0 0 []),.d (pI (-1))],rfl,zdx (zcs _ _ _ _ 0 0) _,hfl _ _ (Nat.le_refl _) (fun t ht _ _ => ht) fun v h1 h2 h3 h4 => ?_⟩
  have:=zjq h1 h2
  obtain ⟨r,hr⟩:=h4;rw [List.drop_of_length_le (by omega)] at hr
  have:=congrArg List.length hr
  simp only [List.length_nil,List.length_append] at this; omega
 case pos =>
 rw [decide_eq_true hc];refine mN ?_;refine mwF ?_;obtain ⟨k,rfl⟩:=Int.eq_ofNat_of_zero_le hc.1;have hk:k <= s.length:=by omega
 refine zae ?_;refine mP ?_;refine mQ ?_;refine po_g rfl (FnG.lift1 (p:=1) (by have:=valU_all (T:=T) (hT:=hT) hs 13 (by omega) k 0 false nt live hk (by omega) hnt; exact this) (args:=[.d (pI 0)]) ⟨trivial,trivial⟩ (zcq s k 0 false) rfl) ?_;rintro x _ n2 l2 ⟨c',rfl,a',cnt',bad',rfl,cs,rfl,hc5,hnew,hctk,hlv,hn2,⟨ha1,ha2,_⟩,_,hres,hcomp⟩
 have hcomp:∀ v:V,v.wf -> v.ok = true -> At s k (msg v) -> bad' = false /\ a' = k + (msg v).length /\ erL cs = vC v:=fun v h1 h2 h3 => by
  obtain ⟨q1,q2,q3,_⟩:=hcomp rfl v h1 (zgM h2) (by have:=ok_nodes h2; omega) h3;exact ⟨q1,q2,q3⟩
 refine zco (cs:=cs) rfl hc5 rfl rfl ?_;refine zac ?_;refine zaa ?_
 obtain ⟨f,hf⟩:∃ f:Bool,f = true ↔ ¬ ∃ v:V,v.wf /\ v.ok = true /\ At s k (msg v):=by
  by_cases h:∃ v:V,v.wf /\ v.ok = true /\ At s k (msg v)
  ·exact ⟨false,by simp only [h,not_true]; decide⟩
  ·exact ⟨true,by simp only [h,not_false_iff]⟩
 refine zaq (fun st => has st.tm [(4,.ref 0 0),(6,.ref 1 0),(7,.ref 2 0),(35,.d (pB f))] /\ st.bx = [fV 0 0 0 [],uC s a' cnt' bad',cs] /\ st.nt = n2 /\ st.live = l2) ?_ ?_
 ·refine zad ?_
  (iterate 5 refine mS ?_)
  cases bad' with
  | true =>
   iterate 10 (refine zah rfl ?_)
   refine mN ?_
   have:f = true:=hf.2 (by
    rintro ⟨v,h1,h2,h3⟩
    have:=(hcomp v h1 h2 h3).1
    cases this)
   exact ⟨⟨rfl,rfl,rfl,by rw [this]; rfl,trivial⟩,rfl,rfl,rfl⟩
  | false =>
   obtain ⟨_,u,he,huw,hka,hub⟩:=hres rfl;clear hres;refine zdl (p:=2) (cs:=cs) rfl rfl rfl hc5 ?_;(iterate 6 refine mS ?_);refine zaU (a:=k) (b:=a') (rs:=(s.drop k).take (a' - k)) rfl rfl (zax rfl rfl) (zax rfl rfl) (by omega) rfl ?_;refine zaD (b:=true) (args:=[.ag (vC u)]) rfl (fun _ => zg3 he) (fun _ => hput u huw (by omega)) ?_;refine po_ne (la:=msgTop u) (lb:=(s.drop k).take (a' - k)) rfl rfl rfl ?_;refine mN ?_;refine ⟨⟨rfl,rfl,rfl,?_,trivial⟩,rfl,rfl,rfl⟩
   have hiff:(msgTop u ≠ (s.drop k).take (a' - k)) ↔ ¬ ∃ v:V,v.wf /\ v.ok = true /\ At s k (msg v):=by
    constructor
    ·rintro hne ⟨v,h1,h2,h3⟩
     obtain ⟨_,q1,q2⟩:=hcomp v h1 h2 h3;have huv:u = v:=zhn (he.symm.trans q2);subst huv
     apply hne
     unfold msgTop;rw [if_pos h2,show a' - k = (msg u).length by omega,h3.take]
    ·intro hno heq
     apply hno
     by_cases hok:u.ok = true
     ·refine ⟨u,huw,hok,?_⟩
      unfold msgTop at heq;rw [if_pos hok] at heq;exact zho heq
     ·exfalso
      unfold msgTop at heq;rw [if_neg hok] at heq
      have:=congrArg List.length heq
      rw [List.length_take,List.length_drop,List.length_nil] at this;omega
   have:decide (msgTop u ≠ (s.drop k).take (a' - k)) = f:=by rw [Bool.eq_iff_iff,decide_eq_true_iff,hiff,hf]
   rw [<- this]; rfl
 rintro tm bx n3 l3 ⟨ht,rfl,hn3,hl3⟩;obtain ⟨tm1,rfl⟩:=zaj ht;simp only at hn3 hl3; subst n3; subst l3
 clear ht;refine zbw (t:=f) rfl (fun hno => ?_) (fun hyes => ?_)
 ·have hno:=hf.1 hno
  refine mQ ?_;refine zaA (p:=0) (cs:=fV 0 0 0 []) rfl rfl rfl rfl rfl rfl ?_;refine mN ?_;exact zab ⟨.inr rfl,[.ag (fV 0 0 0 []),.d (pI (-1))],rfl,zdx (zcs _ _ _ _ 0 0) _,hfl _ _ hn2 hlv fun v h1 h2 h3 h4 => hno ⟨v,h1,h2,h4⟩⟩
 ·obtain ⟨v,h1,h2,h3⟩:∃ v:V,v.wf /\ v.ok = true /\ At s k (msg v):=Classical.byContradiction fun h => by rw [hf.2 h] at hyes; cases hyes
  obtain ⟨q0,q1,q2⟩:=hcomp v h1 h2 h3;refine zae ?_;refine mO ?_;refine zdl (p:=2) (cs:=cs) rfl rfl rfl hc5 ?_;(iterate 4 refine mS ?_);refine zaA (p:=0) (cs:=cs) rfl rfl rfl hc5 rfl rfl ?_;refine mN ?_;refine zab ⟨.inr rfl,[.ag cs,.d (pI a')],zcY rfl rfl hc5 rfl,zdx hnew _,cs,a',rfl,hc5,hnew,hctk,hlv,hn2,.inr ⟨k,v,rfl,h1,h2,h3,by rw [q1],h3.len (by omega),q2,fun v' r1 r2 r3 => zhn ((hcomp v' r1 r2 r3).2.2.symm.trans q2)⟩⟩
end
/- PvI6 -/
section
variable {T:World -> Prop} {hT:Low ngl T}
attribute [local irreducible] po mw pt
theorem zfU {s:List UInt8} {p nt n:Nat} {bad:Bool} {live l:List Nat} {x:PV} {c':List PC} (hp:p <= s.length) (h:HeadR s p bad nt live x c' n l):n = nt /\ l = live /\ ∃ (mm:Int) (n1 p1:Nat) (bad1:Bool),c' = deC s p1 bad1 /\ x = .tup [.d (pI mm),.d (.v (.int .u64 (n1:Nat)))] /\ n1 < 18446744073709551616 /\ p <= p1 /\ p1 <= s.length /\
  ((bad1 = true /\ (bad = true \/ getHd s p = none) /\ p1 = p) \/ (bad1 = false /\ bad = false /\ p < p1 /\ ∃ m,getHd s p = some (m,n1,p1))):=by
 obtain ⟨rfl,rfl,⟨h1,h2,h3⟩ | ⟨m,k,y,h1,h2,h3,h4⟩⟩:=h
 ·exact ⟨rfl,rfl,-1,0,p,true,h2,h3,by decide,Nat.le_refl _,hp,.inl ⟨rfl,h1,rfl⟩⟩
 ·obtain ⟨g1,g2,g3,g4,g5,g6⟩:=zb1 h2
  exact ⟨rfl,rfl,m,k,y,false,h3,h4,g5,by omega,g3,.inr ⟨rfl,h1,g2,m,h2⟩⟩
theorem zjD {s:List UInt8} {p k nt n:Nat} {bad:Bool} {live l:List Nat} {x:PV} {c':List PC} (hp:p <= s.length) (h:BytesR s p k bad nt live x c' n l):n = nt /\ l = live /\ ∃ (p1:Nat) (bad1:Bool) (name:List UInt8),c' = deC s p1 bad1 /\ x = .d (pS name) /\ name.length <= s.length /\ p <= p1 /\ p1 <= s.length /\
  ((bad1 = true /\ (bad = true \/ ¬ p + k <= s.length) /\ p1 = p) \/ (bad1 = false /\ bad = false /\ p1 = p + k /\ p + k <= s.length /\ name = (s.drop p).take k)):=by
 obtain ⟨rfl,rfl,⟨h1,h2,h3,h4⟩ | ⟨h1,h2,h3⟩⟩:=h
 ·exact ⟨rfl,rfl,p + k,false,_,h3,h4,by rw [List.length_take,List.length_drop]; omega,by omega,h2,.inr ⟨rfl,h1,rfl,h2,rfl⟩⟩
 ·exact ⟨rfl,rfl,p,true,[],h2,h3,Nat.zero_le _,Nat.le_refl _,hp,.inl ⟨rfl,h1,rfl⟩⟩
def NmP (s:List UInt8) (nt:Nat) (live:List Nat) (nt1:Nat) (l1:List Nat) (n p tk:Nat) (bad:Bool) (ns:List (List UInt8)):Prop :=
 (tk = 1 /\ pSr ns = [] \/ 2 <= tk) /\ OwnL nt1 l1 ([] ++ .sl tk (pSr ns) :: [.sl 1 []]) /\ (∀ t ∈ toksL ([] ++ .sl tk (pSr ns) :: [.sl 1 []]),nt <= t) /\ nt <= nt1 /\ (∀ t ∈ live,2 <= t -> t < nt -> t ∈ l1) /\
 p <= s.length /\ ns.length <= p + (if bad then 1 else 0) /\ (∀ x ∈ ns,x.length <= s.length) /\ n < 18446744073709551616 /\
 ∀ (ns':List (List UInt8)) (vs':List V),Good s ns' vs' -> bad = false /\ ns = ns'.take ns.length /\ n + ns.length = ns'.length /\ p = (hd 4 ns'.length).length + (nmsT ns).length
def GnI (s:List UInt8) (nt:Nat) (live:List Nat) (m:Nat) (st:St):Prop:=∃ (n p tk:Nat) (bad:Bool) (ns:List (List UInt8)),has st.tm [(0,.d (pS s)),(2,.ref 0 0),(4,.ref 1 0),(5,.ref 2 0),(7,.d (.v (.int .u64 (n:Nat))))] /\
 st.bx = [d0,[.sl tk (pSr ns),.sl 1 []],deC s p bad] /\ NmP s nt live st.nt st.live n p tk bad ns /\ m = (if bad then 0 else s.length + 1 - p)
theorem nmP_start {s:List UInt8} {nt:Nat} {live:List Nat} {n1 p1:Nat} {bad1:Bool} (hn:n1 < 18446744073709551616) (hp1:p1 <= s.length) (h:(bad1 = true /\ (false = true \/ getHd s 0 = none) /\ p1 = 0) \/ (bad1 = false /\ false = false /\ 0 < p1 /\ ∃ m,getHd s 0 = some (m,n1,p1))) :
  NmP s nt live nt live n1 p1 1 bad1 []:=by
 refine ⟨.inl ⟨rfl,rfl⟩,⟨rfl,List.nodup_nil,fun t ht => by cases ht⟩,(fun t ht => by cases ht),Nat.le_refl _,fun t ht _ _ => ht,hp1,Nat.zero_le _,(fun x hx => by cases hx),hn,fun ns' vs' hg => ?_⟩;obtain ⟨g1,g2,g3,g4,g5,g6,g7,g8⟩:=hg.at;have hh:=zc5 (by decide) (by omega) (Nat.zero_le _) g1
 rcases h with ⟨_,h2,_⟩ | ⟨h1,_,_,m,h2⟩
 ·rcases h2 with h2 | h2
  ·cases h2
  ·rw [hh] at h2; cases h2
 ·rw [hh] at h2
  simp only [Option.some.injEq,Prod.mk.injEq] at h2;refine ⟨h1,by simp,?_,?_⟩
  ·simp only [List.length_nil]; omega
  ·simp only [nmsT,List.length_nil]; omega
theorem nmP_step {s:List UInt8} {nt nt1 n p tk n1 p1 p2:Nat} {live l1:List Nat} {bad1 bad2:Bool} {ns:List (List UInt8)} {name:List UInt8} (hP:NmP s nt live nt1 l1 n p tk false ns) (hn0:0 < n) (h22:2 <= nt1)
  (hH:(bad1 = true /\ (false = true \/ getHd s p = none) /\ p1 = p) \/ (bad1 = false /\ false = false /\ p < p1 /\ ∃ m,getHd s p = some (m,n1,p1)))
  (hp12:p1 <= p2) (hp2:p2 <= s.length) (hnl:name.length <= s.length) (hB:(bad2 = true /\ (bad1 = true \/ ¬ p1 + n1 <= s.length) /\ p2 = p1) \/ (bad2 = false /\ bad1 = false /\ p2 = p1 + n1 /\ p1 + n1 <= s.length /\ name = (s.drop p1).take n1)) :
  NmP s nt live (nt1 + 1) (nt1 :: l1.filter (· != tk)) (n - 1) p2 nt1 bad2 (ns ++ [name]) /\ (if bad2 then 0 else s.length + 1 - p2) < s.length + 1 - p:=by
 obtain ⟨htk,hown,hge,hnt,hlv,hp,hlen,hnb,hn,hcp⟩:=hP;have hpp:p <= p1:=by rcases hH with ⟨_,_,rfl⟩ | ⟨_,_,h,_⟩ <;> omega
 have hpush:pSr (ns ++ [name]) = pSr ns ++ [[pS name]]:=by unfold pSr; rw [List.map_append]; rfl
 have hown2:OwnL (nt1 + 1) (nt1 :: l1.filter (· != tk)) ([] ++ .sl nt1 (pSr ns ++ [[pS name]]) :: [.sl 1 []]) /\ (∀ t ∈ toksL ([] ++ .sl nt1 (pSr ns ++ [[pS name]]) :: [.sl 1 []]),nt <= t):=by
  have e:toksL ([] ++ .sl nt1 (pSr ns ++ [[pS name]]) :: [.sl 1 []]) = [nt1]:=by
   show PC.toks (.sl nt1 (pSr ns ++ [[pS name]])) ++ [] = _;rw [zaE h22,<- hpush,pSr_tok]; rfl
  refine ⟨⟨?_,by rw [e]; simp,fun t ht => ?_⟩,fun t ht => ?_⟩
  ·show (PC.owned (.sl nt1 (pSr ns ++ [[pS name]])) && true) = true
   rw [zb3 h22,<- hpush,pSr_own]; rfl
  ·rw [e] at ht; simp at ht; subst ht; exact ⟨List.mem_cons_self ..,Nat.lt_succ_self _⟩
  ·rw [e] at ht; simp at ht; omega
 refine ⟨⟨.inr h22,?_,?_,by omega,?_,hp2,?_,?_,by omega,fun ns' vs' hg => ?_⟩,?_⟩
 ·rw [hpush]; exact hown2.1
 ·rw [hpush]; exact hown2.2
 ·intro t ht h2 hlt
  refine List.mem_cons_of_mem _ (List.mem_filter.2 ⟨hlv t ht h2 hlt,?_⟩)
  have:=tk_ge htk hge
  simp only [bne_iff_ne,ne_eq]; omega
 ·rw [List.length_append,List.length_singleton]
  rcases hB with ⟨rfl,_,rfl⟩ | ⟨rfl,h1,rfl,_,_⟩
  ·simp at hlen ⊢; omega
  ·rcases hH with ⟨h3,_,_⟩ | ⟨_,_,h3,_⟩
   ·rw [h1] at h3; cases h3
   ·simp at hlen ⊢; omega
 ·intro x hx
  rcases List.mem_append.1 hx with hx | hx
  ·exact hnb x hx
  ·simp only [List.mem_singleton] at hx; subst hx; exact hnl
 ·obtain ⟨_,e1,e2,e3⟩:=hcp ns' vs' hg
  obtain ⟨g1,g2,g3,g4,g5,g6,g7,g8⟩:=hg.at;have hku:ns.length < ns'.length:=by omega
  have hA:=nms_at g2 ns.length hku;rw [<- e1,<- e3] at hA;have hul:=g6 _ (List.getElem_mem hku);have hh:=zc5 (by decide) (by omega) hp hA.app.1;have hA2:=hA.app.2;have hAl:=hA2.len (by have:=hA.app.1.len hp; exact this)
  rcases hH with ⟨_,h2,_⟩ | ⟨hb1,_,_,m,h2⟩
  ·rcases h2 with h2 | h2
   ·cases h2
   ·rw [hh] at h2; cases h2
  rw [hh] at h2;simp only [Option.some.injEq,Prod.mk.injEq] at h2;obtain ⟨_,h3,h4⟩:=h2
  rcases hB with ⟨_,h5,_⟩ | ⟨hb2,_,h5,h6,h7⟩
  ·rcases h5 with h5 | h5
   ·rw [hb1] at h5; cases h5
   ·omega
  have hT:=hA2.take;rw [h4,h3] at hT;refine ⟨hb2,?_,?_,?_⟩
  ·rw [List.length_append,List.length_singleton,List.take_succ_eq_append_getElem hku,<- e1,h7,hT]
  ·rw [List.length_append,List.length_singleton]; omega
  ·rw [zfz,List.length_append,h7,hT]
   simp only [nmsT,List.length_append,List.length_nil]; omega
 ·rcases hB with ⟨rfl,_,rfl⟩ | ⟨rfl,h1,rfl,_,_⟩
  ·simp; omega
  ·rcases hH with ⟨h3,_,_⟩ | ⟨_,_,h3,_⟩
   ·rw [h1] at h3; cases h3
   ·simp; omega
def TbP (s:List UInt8) (nt:Nat) (live:List Nat) (nt1:Nat) (l1:List Nat) (n p tk t2:Nat) (bad:Bool) (ns:List (List UInt8)) (rows:List (List PC)) (vs:List V):Prop :=
 (t2 = 1 /\ rows = [] \/ 2 <= t2) /\ OwnL nt1 l1 ([.sl tk (pSr ns)] ++ .sl t2 rows :: []) /\ (∀ t ∈ toksL ([.sl tk (pSr ns)] ++ .sl t2 rows :: []),nt <= t) /\ nt <= nt1 /\ (∀ t ∈ live,2 <= t -> t < nt -> t ∈ l1) /\
 p <= s.length /\ ns.length <= s.length + 1 /\ (∀ x ∈ ns,x.length <= s.length) /\ n < 18446744073709551616 /\ erLL rows = vK vs /\ vs.length <= p /\ (∀ v ∈ vs,v.wf /\ v.ok = true) /\
 ∀ (ns':List (List UInt8)) (vs':List V),Good s ns' vs' -> bad = false /\ ns = ns' /\ vs = vs'.take vs.length /\ n + vs.length = vs'.length /\ p = (hd 4 ns'.length).length + (nmsT ns').length + (hd 4 vs'.length).length + (msgs vs).length
def GtI (s:List UInt8) (nt:Nat) (live:List Nat) (m:Nat) (st:St):Prop:=∃ (n p tk t2:Nat) (bad:Bool) (ns:List (List UInt8)) (rows:List (List PC)) (vs:List V) (rest:List (List PC)),has st.tm [(0,.d (pS s)),(2,.ref 0 0),(4,.ref 1 0),(5,.ref 2 0),(11,.d (.v (.int .u64 (n:Nat))))] /\
 st.bx = d0 :: [.sl tk (pSr ns),.sl t2 rows] :: deC s p bad :: rest /\ TbP s nt live st.nt st.live n p tk t2 bad ns rows vs /\ m = (if bad then 0 else s.length + 1 - p)
theorem tbP_start {s:List UInt8} {nt nt1 n p tk n1 p1:Nat} {live l1:List Nat} {bad bad1:Bool} {ns:List (List UInt8)} (hP:NmP s nt live nt1 l1 n p tk bad ns) (hend:n = 0 \/ bad = true) (hn1:n1 < 18446744073709551616) (hp1:p1 <= s.length)
  (hH:(bad1 = true /\ (bad = true \/ getHd s p = none) /\ p1 = p) \/ (bad1 = false /\ bad = false /\ p < p1 /\ ∃ m,getHd s p = some (m,n1,p1))) :
  TbP s nt live nt1 l1 n1 p1 tk 1 bad1 ns [] []:=by
 obtain ⟨htk,hown,hge,hnt,hlv,hp,hlen,hnb,hn,hcp⟩:=hP;refine ⟨.inl ⟨rfl,rfl⟩,hown,hge,hnt,hlv,hp1,?_,hnb,hn1,rfl,Nat.zero_le _,(fun v hv => by cases hv),fun ns' vs' hg => ?_⟩
 ·cases bad <;> simp at hlen <;> omega
 ·obtain ⟨e0,e1,e2,e3⟩:=hcp ns' vs' hg
  obtain ⟨g1,g2,g3,g4,g5,g6,g7,g8⟩:=hg.at;have hn0:n = 0:=hend.resolve_right (by rw [e0]; decide);have hns:ns = ns':=by rw [e1]; exact List.take_of_length_le (by omega)
  rw [hns] at e3;rw [<- e3] at g3;have hh:=zc5 (by decide) (by omega) hp g3
  rcases hH with ⟨_,h2,_⟩ | ⟨hb1,_,_,m,h2⟩
  ·rcases h2 with h2 | h2
   ·rw [e0] at h2; cases h2
   ·rw [hh] at h2; cases h2
  rw [hh] at h2;simp only [Option.some.injEq,Prod.mk.injEq] at h2;obtain ⟨_,h3,h4⟩:=h2;exact ⟨hb1,hns,by simp,by simp only [List.length_nil]; omega,by simp only [msgs,List.length_nil]; omega⟩
theorem tbP_step {s:List UInt8} {nt n1 n2 n p tk t2:Nat} {live l1 l2:List Nat} {ns:List (List UInt8)} {rows:List (List PC)} {vs:List V} {cs:List PC} {v:V} (hP:TbP s nt live n1 l1 n p tk t2 false ns rows vs) (hn0:0 < n) (h22:2 <= n2) (hn2:n1 <= n2)
  (hnew:NewL n1 n2 cs) (hctk:∀ t ∈ toksL cs,t ∈ l2) (hlv2:∀ t ∈ l1,2 <= t -> t < n1 -> t ∈ l2) (hvw:v.wf) (hvo:v.ok = true) (hle:p + (msg v).length <= s.length) (he:erL cs = vC v) (huniq:∀ v':V,v'.wf -> v'.ok = true -> At s p (msg v') -> v' = v) :
  TbP s nt live (n2 + 2) ((n2 + 1) :: (n2 :: l2).filter (· != t2)) (n - 1) (p + (msg v).length) tk (n2 + 1) false ns (rows ++ [cs]) (vs ++ [v]) /\ s.length + 1 - (p + (msg v).length) < s.length + 1 - p:=by
 obtain ⟨ht2,hown,hge,hnt,hlv,hp,hlen,hnb,hn,hrows,hvl,hvb,hcp⟩:=hP;obtain ⟨o1,o2⟩:=zdL (n2:=n2) (l2:=l2) hown ht2 hge hnt hn2 h22 hnew hctk hlv2;have hml:=zjq hvw hvo;refine ⟨⟨.inr (by omega),o1,o2,by omega,zgO (tk_ge ht2 hge) hnt hlv hlv2,hle,hlen,hnb,by omega,?_,by rw [List.length_append,List.length_singleton]; omega,?_,fun ns' vs' hg => ?_⟩,by omega⟩
 ·rw [zdR,hrows,zei,zei,List.map_append]; simp only [erLL,he]; rfl
 ·intro u hu
  rcases List.mem_append.1 hu with hu | hu
  ·exact hvb u hu
  ·simp only [List.mem_singleton] at hu; subst hu; exact ⟨hvw,hvo⟩
 ·obtain ⟨_,e1,e2,e3,e4⟩:=hcp ns' vs' hg
  obtain ⟨g1,g2,g3,g4,g5,g6,g7,g8,_⟩:=hg.at;have hku:vs.length < vs'.length:=by omega
  have hA:=zhU g4 vs.length hku;rw [<- e2,<- e4] at hA;have hu:=g8 _ (List.getElem_mem hku);have huv:=huniq _ hu.1 hu.2 hA;refine ⟨rfl,e1,?_,?_,?_⟩
  ·rw [List.length_append,List.length_singleton,List.take_succ_eq_append_getElem hku,<- e2,huv]
  ·rw [List.length_append,List.length_singleton]; omega
  ·rw [zeE,List.length_append]; simp only [msgs,List.append_nil]; omega
theorem tbP_bad {s:List UInt8} {nt n1 n2 n p tk t2:Nat} {live l1 l2:List Nat} {ns:List (List UInt8)} {rows:List (List PC)} {vs:List V} (hP:TbP s nt live n1 l1 n p tk t2 false ns rows vs) (hn0:0 < n) (hn2:n1 <= n2) (hlv2:∀ t ∈ l1,2 <= t -> t < n1 -> t ∈ l2)
  (hno:∀ v:V,v.wf -> v.ok = true -> ¬ At s p (msg v)):TbP s nt live n2 l2 n p tk t2 true ns rows vs:=by
 obtain ⟨ht2,hown,hge,hnt,hlv,hp,hlen,hnb,hn,hrows,hvl,hvb,hcp⟩:=hP;refine ⟨ht2,hown.mono2 hn2 hlv2,hge,by omega,fun t ht h2 hlt => hlv2 t (hlv t ht h2 hlt) h2 (by omega),hp,hlen,hnb,hn,hrows,hvl,hvb,fun ns' vs' hg => ?_⟩;obtain ⟨_,e1,e2,e3,e4⟩:=hcp ns' vs' hg;obtain ⟨g1,g2,g3,g4,g5,g6,g7,g8,_⟩:=hg.at;have hku:vs.length < vs'.length:=by omega
 have hA:=zhU g4 vs.length hku;rw [<- e2,<- e4] at hA;have hu:=g8 _ (List.getElem_mem hku);exact absurd hA (hno _ hu.1 hu.2)
end
/- PvI7 -/
section
variable {T:World -> Prop} {hT:Low ngl T}
attribute [local irreducible] po mw pt
theorem dec1 {n:Nat} (h:0 < n) (hn:n < 18446744073709551616):IntKind.wrap .u64 ((n:Int) - 1) = ((n - 1:Nat):Int):=by rw [IntKind.wrap_u64]; omega
set_option maxHeartbeats 4000000 in
theorem zdO (hTab:∀ w,T w -> Tabs w) {s:List UInt8} (hs:s.length <= 2147483647) (nt:Nat) (live:List Nat) (hnt:2 <= nt) :
  FnG (env T hT) 15 [.d (pS s)] [] nt live (fun x _ n' l => x.lw 0 /\ DictR s nt live x n' l):=by
 refine za1 (zag ziE) (by show 1 <= 108; decide) fun B hB => ?_
 unfold m_i_GetDict;refine mP ?_;refine zaa (zaa (zad ?_));refine mS ?_;refine po_q (v:=.d (pI s.length)) rfl rfl ?_;refine po_b rfl rfl (fun b60 hb60 => ?_);refine zac ?_;refine zb4 (p:=(s.length:Int) > 60000) hb60 rfl (fun h60 _ => ?_) (fun h60 _ => ?_)
 ·refine mQ ?_
  refine zaA (p:=0) (cs:=d0) rfl rfl rfl rfl rfl rfl ?_;refine mN ?_;refine zab ⟨.inr rfl,[.ag d0,.d (pB false)],rfl,zeZ (fun ns' vs' h => ?_) (fun t ht _ _ => ht) (Nat.le_refl _)⟩;obtain ⟨g1,g2,g3,g4,g5,g6,g7,g8,g9⟩:=h.at;omega
 refine zae ?_;refine mQ ?_;refine zco (cs:=d0) rfl rfl rfl rfl ?_;refine zac ?_;refine mO ?_;(iterate 2 refine mS ?_);refine zaQ (cs:=deC s 0 false) rfl ?_;refine mN ?_;refine mQ ?_;refine po_g rfl (FnG.lift1 (p:=2) (zhW s 0 false (Nat.zero_le _) hs nt live) trivial (zga _ _ _) rfl) ?_;rintro x _ n1 l1 ⟨c',rfl,hR⟩;obtain ⟨rfl,rfl,mm,k1,p1,bad1,rfl,rfl,hk1,_,hp1,hH⟩:=zfU (Nat.zero_le _) hR;refine mN ?_;have hstart:=nmP_start (s:=s) (nt:=n1) (live:=l1) hk1 hp1 (hH.imp id fun h => ⟨h.1,h.2.1,h.2.2.1,h.2.2.2⟩);refine zaq (fun st => ∃ (n p tk:Nat) (bad:Bool) (ns:List (List UInt8)),has st.tm [(0,.d (pS s)),(2,.ref 0 0),(4,.ref 1 0),(5,.ref 2 0)] /\ st.bx = [d0,[.sl tk (pSr ns),.sl 1 []],deC s p bad] /\ NmP s n1 l1 st.nt st.live n p tk bad ns /\ (n = 0 \/ bad = true)) ?_ ?_
 ·refine zai ?_
  refine zav (GnI s n1 l1) _ ⟨k1,p1,1,bad1,[],⟨rfl,rfl,rfl,rfl,rfl,trivial⟩,rfl,hstart,rfl⟩ ?_;rintro m tm bx nt2 live2 ⟨n,p,tk,bad,ns,ht,hbx,hP,rfl⟩;obtain ⟨tm0,rfl⟩:=zaj ht;simp only at hbx hP; subst hbx
  clear ht;have hn64:=hP.2.2.2.2.2.2.2.2.1;have hpl:=hP.2.2.2.2.2.1;have hlen:=hP.2.2.2.2.2.2.1;have hnt2:=hP.2.2.2.1;refine zaa (zaa (zad ?_));refine mS ?_;by_cases hn0:0 < n
  case neg =>
   refine zam rfl rfl (decide_eq_false (show ¬ ((n:Nat):Int) > 0 by omega)) ?_;refine mS ?_
   iterate 5 (refine zah rfl ?_)
   refine mN ?_;refine mwF ?_;refine zaH ?_;exact ⟨n,p,tk,bad,ns,⟨rfl,rfl,rfl,rfl,trivial⟩,rfl,hP,.inl (by omega)⟩
  refine zak rfl rfl (decide_eq_true (show ((n:Nat):Int) > 0 by omega)) ?_
  cases bad with
  | true =>
   refine mN ?_;refine mwF ?_;refine zaH ?_
   exact ⟨n,p,tk,true,ns,⟨rfl,rfl,rfl,rfl,trivial⟩,rfl,hP,.inr rfl⟩
  | false =>
  refine mN ?_;refine mwT ?_;refine zae ?_;refine zaa (zai (zaa (zad ?_)));refine mS ?_;refine po_g rfl (FnG.lift1 (p:=2) (zhW s p false hpl hs nt2 live2) trivial (zga _ _ _) rfl) ?_;rintro x _ n3 l3 ⟨c',rfl,hR3⟩;obtain ⟨rfl,rfl,mm3,k3,p3,bad3,rfl,rfl,hk3,hpp3,hp3,hH3⟩:=zfU hpl hR3;refine mN ?_;refine zad ?_;(iterate 4 refine mS ?_);refine po_gk rfl (FnG.lift1 (p:=2) (deBytes_g s p3 k3 bad3 hk3 hp3 hs n3 l3) ⟨trivial,trivial⟩ (zga _ _ _) rfl) ?_ ?_
  ·rintro x b n4 l4 ⟨c',rfl,_⟩ y hy
   rw [List.mem_singleton] at hy; subst hy
   rfl
  rintro x _ n4 l4 ⟨c',rfl,hB4⟩;obtain ⟨rfl,rfl,p4,bad4,name,rfl,rfl,hnl,hpp4,hp4,hB⟩:=zjD hp3 hB4;refine mS ?_;refine zbP (t:=tk) (t':=0) (es:=pSr ns) (ds:=[[pS name]]) rfl rfl (hP.1.imp (fun h => h.1) fun h => (hP.2.1.mem tk (by show tk ∈ PC.toks (.sl tk (pSr ns)) ++ _; rw [zaE h]; simp)).1) (by simp only [List.length_singleton,za0]; simp at hlen; omega) (fun e he => by simp only [List.mem_singleton] at he; subst he; rfl) (zcX ns) ?_;refine mS ?_;refine zap (p:=1) (o':=0) (cs:=[.sl n4 (pSr ns ++ [[pS name]])]) (z:=[.sl tk (pSr ns),.sl 1 []]) rfl rfl rfl ⟨rfl,Nat.le_of_ble_eq_true rfl⟩ rfl ?_;refine zac ?_;refine zad ?_;refine mS ?_;refine po_q (v:=.d (.v (.int .u64 ((n - 1:Nat):Int)))) rfl (by show some (PV.d (.v (.int .u64 (IntKind.wrap .u64 ((n:Int) - 1))))) = _; rw [dec1 hn0 hn64]) ?_;refine mN ?_;obtain ⟨q1,q2⟩:=nmP_step hP hn0 (by omega) hH3 hpp4 hp4 hnl hB
  have hpush:pSr (ns ++ [name]) = pSr ns ++ [[pS name]]:=by unfold pSr; rw [List.map_append]; rfl
  exact ⟨_,q2,n - 1,p4,n4,bad4,ns ++ [name],⟨rfl,rfl,rfl,rfl,rfl,trivial⟩,by rw [hpush]; rfl,q1,rfl⟩
 rintro tm bx n2 l2 ⟨n,p,tk,bad,ns,ht,hbx,hP,hend⟩;obtain ⟨tm0,rfl⟩:=zaj ht;simp only at hbx hP; subst hbx
 clear ht;have hpl:=hP.2.2.2.2.2.1;refine mQ ?_;refine po_g rfl (FnG.lift1 (p:=2) (zhW s p bad hpl hs n2 l2) trivial (zga _ _ _) rfl) ?_;rintro x _ n3 l3 ⟨c',rfl,hR3⟩;obtain ⟨rfl,rfl,mm3,k3,p3,bad3,rfl,rfl,hk3,hpp3,hp3,hH3⟩:=zfU hpl hR3;refine mN ?_;have hT0:=tbP_start hP hend hk3 hp3 hH3;refine zaq (fun st => ∃ (n p tk t2:Nat) (bad:Bool) (ns:List (List UInt8)) (rows:List (List PC)) (vs:List V) (rest:List (List PC)),has st.tm [(0,.d (pS s)),(2,.ref 0 0),(4,.ref 1 0),(5,.ref 2 0)] /\ st.bx = d0 :: [.sl tk (pSr ns),.sl t2 rows] :: deC s p bad :: rest /\ TbP s n1 l1 st.nt st.live n p tk t2 bad ns rows vs /\ (n = 0 \/ bad = true)) ?_ ?_
 ·refine zai ?_
  refine zav (GtI s n1 l1) _ ⟨k3,p3,tk,1,bad3,ns,[],[],[],⟨rfl,rfl,rfl,rfl,rfl,trivial⟩,rfl,hT0,rfl⟩ ?_;clear hT0 hH3 hP hend hH hstart;rintro m tm bx nt2 live2 ⟨n,p,tk,t2,bad,ns,rows,vs,rest,ht,hbx,hP,rfl⟩;obtain ⟨tm0,rfl⟩:=zaj ht;simp only at hbx hP; subst hbx
  clear ht;obtain ⟨ht2,hown,hge,hntl,hlv,hpl,hnsl,hnb,hn64,hrows,hvl,hvb,hcp⟩:=id hP;refine zaa (zaa (zad ?_));refine mS ?_;by_cases hn0:0 < n
  case neg =>
   refine zam rfl rfl (decide_eq_false (show ¬ ((n:Nat):Int) > 0 by omega)) ?_;refine mS ?_
   iterate 5 (refine zah rfl ?_)
   refine mN ?_;refine mwF ?_;refine zaH ?_;exact ⟨n,p,tk,t2,bad,ns,rows,vs,rest,⟨rfl,rfl,rfl,rfl,trivial⟩,rfl,hP,.inl (by omega)⟩
  refine zak rfl rfl (decide_eq_true (show ((n:Nat):Int) > 0 by omega)) ?_
  cases bad with
  | true =>
   refine mN ?_;refine mwF ?_;refine zaH ?_
   exact ⟨n,p,tk,t2,true,ns,rows,vs,rest,⟨rfl,rfl,rfl,rfl,trivial⟩,rfl,hP,.inr rfl⟩
  | false =>
  refine mN ?_;refine mwT ?_;refine zae ?_;refine zaa (zai (zaa (zad ?_)));(iterate 5 refine mS ?_);have hg:=getMsgI_g (T:=T) (hT:=hT) hTab hs (p:Int) nt2 live2 (by omega);refine po_g rfl (FnG.lift0 (bx:=d0 :: [.sl tk (pSr ns),.sl t2 rows] :: deC s p false :: rest) hg ⟨trivial,trivial,trivial⟩) ?_;rintro x b2 n5 l5 ⟨rfl,cs,next,rfl,hc5,hnew,hctk,hlv2,hn5,hres⟩;(iterate 3 refine mS ?_);refine zco (cs:=cs) rfl hc5 rfl rfl ?_;refine mS ?_;refine zac ?_;refine zaa (zaa (zad ?_));refine mS ?_;refine po_b rfl rfl (fun b3 hb3 => ?_);refine zac ?_;refine zb4 (p:=next < 0) hb3 rfl (fun h3 _ => ?_) (fun h3 _ => ?_)
  ·rcases hres with ⟨hnx,_,hno⟩ | ⟨k',v,_,_,_,_,hnx,_⟩
   case inr => omega
   refine mO ?_;(iterate 3 refine mS ?_);refine zap (p:=2) (o':=4) (cs:=[pB true]) (z:=deC s p false) rfl rfl rfl ⟨rfl,Nat.le_of_ble_eq_true rfl⟩ rfl ?_;refine zac ?_;refine zaH ?_;exact ⟨n,p,tk,t2,true,ns,rows,vs,rest ++ [cs],⟨rfl,rfl,rfl,rfl,trivial⟩,rfl,tbP_bad hP hn0 hn5 hlv2 (fun v k1 k2 => by have:=hno v k1 k2 (by omega); rwa [Int.toNat_natCast] at this),.inr rfl⟩
  ·rcases hres with ⟨hnx,_,_⟩ | ⟨j',v,hjj,hvw,hvo,hAt,hnx,hle,he,huniq⟩
   ·omega
   obtain rfl:j' = p:=by omega
   refine zae ?_;refine mO ?_;(iterate 2 refine mS ?_);refine zdl (p:=(d0 :: [PC.sl tk (pSr ns),.sl t2 rows] :: deC s j' false :: rest).length) (cs:=cs) rfl rfl (zbf _ cs) hc5 ?_
   refine zat (es:=[cs]) (by
    show (if cs.length = 5 then some [cs] else none) = some [cs];rw [if_pos hc5]) ?_
   have hrl:rows.length = vs.length:=by rw [zdt hrows,zdv]
   have hown2:OwnL n5 l5 ([.sl tk (pSr ns)] ++ .sl t2 rows :: []):=hown.mono2 hn5 hlv2;refine zbP (t:=t2) (t':=n5) (es:=rows) (ds:=[cs]) rfl rfl (hown2.app ht2 [n5]) (by simp only [List.length_singleton]; omega) (fun e he => by simp only [List.mem_singleton] at he; subst he; exact hc5) (fun e he => zhG hrows (vK_wid vs) e he) ?_;refine mS ?_;refine zap (p:=1) (o':=1) (cs:=[.sl (n5 + 1) (rows ++ [cs])]) (z:=[.sl tk (pSr ns),.sl t2 rows]) rfl rfl rfl ⟨rfl,Nat.le_of_ble_eq_true rfl⟩ rfl ?_;refine zac ?_;refine zad ?_;(iterate 4 refine mS ?_);refine zap (p:=2) (o':=1) (cs:=[pI next]) (z:=deC s j' false) rfl rfl rfl ⟨rfl,Nat.le_of_ble_eq_true rfl⟩ rfl ?_;refine zac ?_;refine zad ?_;refine mS ?_;refine po_q (v:=.d (.v (.int .u64 ((n - 1:Nat):Int)))) rfl (by show some (PV.d (.v (.int .u64 (IntKind.wrap .u64 ((n:Int) - 1))))) = _; rw [dec1 hn0 hn64]) ?_;refine mN ?_
   obtain ⟨q1,q2⟩:=tbP_step hP hn0 (by omega) hn5 hnew hctk hlv2 hvw hvo hle he huniq;exact ⟨s.length + 1 - (j' + (msg v).length),q2,n - 1,j' + (msg v).length,tk,n5 + 1,false,ns,rows ++ [cs],vs ++ [v],rest ++ [cs],⟨rfl,rfl,rfl,rfl,rfl,trivial⟩,by rw [hnx]; rfl,q1,rfl⟩
 clear hT0 hH3 hP hend hH hstart;rintro tm bx n2 l2 ⟨n,p,tk,t2,bad,ns,rows,vs,rest,ht,hbx,hP,hend⟩;obtain ⟨tm0,rfl⟩:=zaj ht;simp only at hbx hP; subst hbx
 clear ht;obtain ⟨ht2,hown,hge,hntl,hlv,hpl,hnsl,hnb,hn64,hrows,hvl,hvb,hcp⟩:=id hP
 have her:erL [PC.sl tk (pSr ns),.sl t2 rows] = dC ns vs:=by
  show [PC.sl 0 (erLL (pSr ns)),.sl 0 (erLL rows)] = _;rw [zdG,hrows]; rfl
 have hlen2:[PC.sl tk (pSr ns),.sl t2 rows].length = 2:=rfl
 have hcp2:∀ ns' vs',Good s ns' vs' -> bad = false /\ ns' = ns /\ vs' = vs:=fun ns' vs' h => by
  obtain ⟨e0,e1,e2,e3,e4⟩:=hcp ns' vs' h;have hn0:n = 0:=hend.resolve_right (by rw [e0]; decide);exact ⟨e0,e1.symm,by rw [e2,List.take_of_length_le (by omega)]⟩
 have hDS:DSm ns vs:=⟨by omega,fun n hn => Nat.le_trans (hnb n hn) (by omega),by omega,fun v hv => (hvb v hv).1,fun v hv => Nat.le_trans (V.ok_bulk (hvb v hv).2) (by decide)⟩;have hok:=zhu (T:=T) (hT:=hT) hTab ns vs hDS;refine zaa ?_
 obtain ⟨f,hf⟩:∃ f:Bool,f = true ↔ ¬ (bad = false /\ Good s ns vs):=by
  by_cases h:bad = false /\ Good s ns vs
  ·exact ⟨false,by simp only [h]; decide⟩
  ·exact ⟨true,by simp only [h,not_false_iff]⟩
 refine zaq (fun st => has st.tm [(2,.ref 0 0),(4,.ref 1 0),(105,.d (pB f))] /\ st.bx = d0 :: [PC.sl tk (pSr ns),.sl t2 rows] :: deC s p bad :: rest /\ st.nt = n2 /\ st.live = l2) ?_ ?_
 ·refine zad ?_
  (iterate 5 refine mS ?_)
  cases bad with
  | true =>
   have hft:f = true:=hf.2 (fun h => by cases h.1);subst hft
   iterate 3 (refine zah rfl ?_)
   (iterate 2 refine mS ?_)
   iterate 4 (refine zah rfl ?_)
   refine mN ?_
   exact ⟨⟨rfl,rfl,rfl,trivial⟩,rfl,rfl,rfl⟩
  | false =>
  refine zdl (p:=1) (cs:=[.sl tk (pSr ns),.sl t2 rows]) rfl rfl rfl hlen2 ?_;refine zaD (b:=true) (args:=[.ag (dC ns vs)]) rfl (fun _ => zg3 her) (fun _ => hok) ?_;(iterate 3 refine mS ?_)
  cases hdb:dictB ns vs with
  | false =>
   have hft:f = true:=hf.2 (fun h => by have:=h.2.1; rw [hdb] at this; cases this);subst hft
   iterate 4 (refine zah rfl ?_)
   refine mN ?_
   exact ⟨⟨rfl,rfl,rfl,trivial⟩,rfl,rfl,rfl⟩
  | true =>
  have hdb2:=hdb;unfold dictB at hdb2;simp only [Bool.and_eq_true] at hdb2;have hpd:=zfh (T:=T) (hT:=hT) ns vs hdb2.1.1 hdb2.1.2 (fun v hv => (hvb v hv).1);refine zdl (p:=1) (cs:=[.sl tk (pSr ns),.sl t2 rows]) rfl rfl rfl hlen2 ?_;refine zaD (b:=true) (args:=[.ag (dC ns vs)]) rfl (fun _ => zg3 her) (fun _ => hpd) ?_;refine mS ?_;refine po_ne (la:=dictT ns vs) (lb:=s) rfl rfl rfl ?_;refine mN ?_
  have:decide (dictT ns vs ≠ s) = f:=by
   rw [Bool.eq_iff_iff,decide_eq_true_iff,hf]
   constructor
   ·intro h1 h2; exact h1 h2.2.2.1
   ·intro h1 h2; exact h1 ⟨rfl,hdb,h2,fun v hv => (hvb v hv).1⟩
  exact ⟨⟨rfl,rfl,by rw [<- this]; rfl,trivial⟩,rfl,rfl,rfl⟩
 rintro tm bx n3 l3 ⟨ht,hbx,hnn,hll⟩;obtain ⟨tm0,rfl⟩:=zaj ht;simp only at hbx hnn hll
 subst hbx; subst hnn; subst hll
 clear ht;refine zbw (t:=f) rfl (fun hc => ?_) (fun hc => ?_)
 ·refine mQ ?_
  refine zaA (p:=0) (cs:=d0) rfl rfl rfl rfl rfl rfl ?_;refine mN ?_;refine zab ⟨.inr rfl,[.ag d0,.d (pB false)],rfl,zeZ (fun ns' vs' h => ?_) hlv hntl⟩;obtain ⟨e1,e2,e3⟩:=hcp2 ns' vs' h
  subst e2; subst e3
  exact hf.1 hc ⟨e1,h⟩
 ·have hgood:bad = false /\ Good s ns vs:=Classical.byContradiction fun h => by rw [hf.2 h] at hc; cases hc
  refine zae ?_;refine mO ?_;refine zdl (p:=1) (cs:=[.sl tk (pSr ns),.sl t2 rows]) rfl rfl rfl hlen2 ?_;refine zaA (p:=0) (cs:=[.sl tk (pSr ns),.sl t2 rows]) rfl rfl rfl hlen2 rfl rfl ?_;refine mN ?_;have hN:=ownNew hown hge;exact zab ⟨.inr rfl,[.ag [.sl tk (pSr ns),.sl t2 rows],.d (pB true)],zcY rfl rfl hlen2 rfl,⟨zaZ hN.own,trivial,trivial⟩,_,true,rfl,rfl,hN,(fun t ht => (hown.mem t ht).1),hlv,hntl,ns,vs,her,fun _ => hgood.2,(fun h => by cases h),fun ns' vs' h => ⟨rfl,(hcp2 ns' vs' h).2.1,(hcp2 ns' vs' h).2.2⟩⟩
end
/- StLM -/
section
set_option maxRecDepth 100000
def m_l_FnExactStoreOk:M:=.seq (.ops [qo 1 (.box (.t 0)),
 qo 2 (.mv (.c (.bool false)))])
 (.seq (.ops [qo 3 (.mv (ci 1048576))])
 (.seq (.ops [qo 6 (.load true 2 (.t 1)),
 qo 7 (.mv (.t 3)),
 ⟨some 8,.call 36 [.t 6,.t 7],none,[.f 1]⟩,
 qo 3 (.mv (.t 8))])
 (.seq (.seq (.ops [qo 9 (.mv (.t 3)),
 qo 10 (.bin .lss false (.t 9) (ci 0))])
 (.cond (.t 10) (.seq (.ops [qo 2 (.mv (.c (.bool true)))])
 (.ret))
 (.skip)))
 (.seq (.ops [qo 11 (.load true 2 (.t 1)),
 ⟨some 12,.call 38 [.t 11],none,[.f 1]⟩,
 ⟨some 13,.call 37 [.t 12],none,[.f 1]⟩,
 qo 4 (.mv (.t 13))])
 (.seq (.ops [qo 14 (.load true 2 (.t 1)),
 ⟨some 15,.call 38 [.t 14],none,[.f 1]⟩,
 ⟨some 16,.call 39 [.t 15],none,[.f 1]⟩,
 qo 5 (.mv (.t 16))])
 (.seq (.seq (.ops [qo 17 (.mv (.t 5)),
 qo 18 (.mv (.t 4)),
 qo 19 (.bin .neq true (.t 17) (.t 18))])
 (.cond (.t 19) (.seq (.ops [qo 2 (.mv (.c (.bool false)))])
 (.ret))
 (.skip)))
 (.seq (.ops [qo 2 (.mv (.c (.bool true)))])
 (.ret))))))))
theorem zch:look Tryz.prog 6 = some (20,m_l_FnExactStoreOk,[.tm 2]):=by kernel_rfl
def m_l_FnExactSyncStore:M:=.seq (.ops [qo 1 (.box (.t 0)),
 qo 2 (.mv (.c (.bool false)))])
 (.seq (.ops [qo 3 (.mv (ci 1048576))])
 (.seq (.ops [qo 6 (.load true 2 (.t 1)),
 qo 7 (.mv (.t 3)),
 ⟨some 8,.call 36 [.t 6,.t 7],none,[.f 1]⟩,
 qo 3 (.mv (.t 8))])
 (.seq (.seq (.ops [qo 9 (.mv (.t 3)),
 qo 10 (.bin .lss false (.t 9) (ci 0))])
 (.cond (.t 10) (.seq (.ops [qo 2 (.mv (.c (.bool true)))])
 (.ret))
 (.skip)))
 (.seq (.ops [qo 11 (.load true 2 (.t 1)),
 ⟨some 12,.call 38 [.t 11],none,[.f 1]⟩,
 ⟨some 13,.call 40 [.t 12],none,[.f 1]⟩,
 ⟨some 4,.zero [.string ⟨[].toArray⟩,.int .i64 0],none,[]⟩,
 ⟨none,.store 2 (.t 4) (.t 13),none,[]⟩])
 (.seq (.ops [qo 14 (.load true 2 (.t 1)),
 ⟨some 15,.call 38 [.t 14],none,[.f 1]⟩,
 ⟨some 16,.call 41 [.t 15],none,[.f 1]⟩,
 ⟨some 5,.zero [.string ⟨[].toArray⟩,.int .i64 0],none,[]⟩,
 ⟨none,.store 2 (.t 5) (.t 16),none,[]⟩])
 (.seq (.seq (.ops [qo 17 (.load true 2 (.t 5)),
 qo 18 (.load true 2 (.t 4)),
 ⟨some 19,.call 42 [.t 17,.t 18],none,[.f 1]⟩,
 qo 20 (.not (.t 19))])
 (.cond (.t 20) (.seq (.ops [qo 2 (.mv (.c (.bool false)))])
 (.ret))
 (.skip)))
 (.seq (.ops [qo 2 (.mv (.c (.bool true)))])
 (.ret))))))))
theorem zeG:look Tryz.prog 7 = some (21,m_l_FnExactSyncStore,[.tm 2]):=by kernel_rfl
def m_l_FnExactLatest:M:=.seq (.ops [qo 1 (.box (.t 0)),
 qo 2 (.mv (.c (.bool false)))])
 (.seq (.ops [qo 3 (.mv (ci 1048576))])
 (.seq (.ops [qo 6 (.load true 2 (.t 1)),
 qo 7 (.mv (.t 3)),
 ⟨some 8,.call 36 [.t 6,.t 7],none,[.f 1]⟩,
 qo 3 (.mv (.t 8))])
 (.seq (.seq (.ops [qo 9 (.mv (.t 3)),
 qo 10 (.bin .lss false (.t 9) (ci 0))])
 (.cond (.t 10) (.seq (.ops [qo 2 (.mv (.c (.bool true)))])
 (.ret))
 (.skip)))
 (.seq (.ops [qo 11 (.load true 2 (.t 1)),
 ⟨some 12,.call 38 [.t 11],none,[.f 1]⟩,
 ⟨some 13,.call 43 [.t 12],none,[.f 1]⟩,
 qo 4 (.mv (.t 13))])
 (.seq (.ops [qo 14 (.load true 2 (.t 1)),
 ⟨some 15,.call 38 [.t 14],none,[.f 1]⟩,
 ⟨some 16,.call 44 [.t 15],none,[.f 1]⟩,
 qo 5 (.mv (.t 16))])
 (.seq (.seq (.ops [qo 17 (.mv (.t 5)),
 qo 18 (.mv (.t 4)),
 qo 19 (.bin .neq false (.t 17) (.t 18))])
 (.cond (.t 19) (.seq (.ops [qo 2 (.mv (.c (.bool false)))])
 (.ret))
 (.skip)))
 (.seq (.ops [qo 2 (.mv (.c (.bool true)))])
 (.ret))))))))
theorem zfK:look Tryz.prog 8 = some (20,m_l_FnExactLatest,[.tm 2]):=by kernel_rfl
def m_l_FnExactRetire:M:=.seq (.ops [qo 2 (.box (.t 0)),
 qo 4 (.mv (.c (.bool false)))])
 (.seq (.ops [qo 5 (.mv (ci 1048576))])
 (.seq (.ops [qo 10 (.load true 2 (.t 2)),
 qo 11 (.mv (.t 5)),
 ⟨some 12,.call 36 [.t 10,.t 11],none,[.f 1]⟩,
 qo 5 (.mv (.t 12))])
 (.seq (.seq (.ops [qo 13 (.mv (.t 5)),
 qo 14 (.bin .lss false (.t 13) (ci 0))])
 (.cond (.t 14) (.seq (.ops [qo 4 (.mv (.c (.bool true)))])
 (.ret))
 (.skip)))
 (.seq (.ops [qo 16 (.load true 2 (.t 2)),
 ⟨some 17,.call 38 [.t 16],none,[.f 1]⟩,
 qo 18 (.mv (.t 1)),
 ⟨some 19,.call 45 [.t 17,.t 18],none,[.f 1]⟩,
 qo 15 (.mv (.t 19)),
 qo 20 (.ext (.t 15) 0),
 qo 21 (.ext (.t 15) 1),
 ⟨some 6,.zero [.string ⟨[].toArray⟩,.int .i64 0],none,[]⟩,
 ⟨none,.store 2 (.t 6) (.t 20),none,[]⟩,
 qo 7 (.mv (.t 21))])
 (.seq (.ops [qo 23 (.load true 2 (.t 2)),
 ⟨some 24,.call 38 [.t 23],none,[.f 1]⟩,
 qo 25 (.mv (.t 1)),
 ⟨some 26,.call 46 [.t 24,.t 25],none,[.f 1]⟩,
 qo 22 (.mv (.t 26)),
 qo 27 (.ext (.t 22) 0),
 qo 28 (.ext (.t 22) 1),
 ⟨some 8,.zero [.string ⟨[].toArray⟩,.int .i64 0],none,[]⟩,
 ⟨none,.store 2 (.t 8) (.t 27),none,[]⟩,
 qo 9 (.mv (.t 28))])
 (.seq (.seq (.ops [qo 29 (.load true 2 (.t 8)),
 qo 30 (.load true 2 (.t 6)),
 ⟨some 31,.call 42 [.t 29,.t 30],none,[.f 1]⟩,
 qo 32 (.not (.t 31)),
 qo 33 (.mv (.t 32)),
 ⟨some 34,.mv (.t 9),some (33,false),[]⟩,
 ⟨some 35,.mv (.t 7),some (33,false),[]⟩,
 ⟨some 36,.bin .neq true (.t 34) (.t 35),some (33,false),[]⟩,
 qo 37 (.pick (.t 33) (.c (.bool true)) (.t 36))])
 (.cond (.t 37) (.seq (.ops [qo 4 (.mv (.c (.bool false)))])
 (.ret))
 (.skip)))
 (.seq (.ops [qo 4 (.mv (.c (.bool true)))])
 (.ret))))))))
theorem zfL:look Tryz.prog 9 = some (38,m_l_FnExactRetire,[.tm 4]):=by kernel_rfl
def m_l_FnExactCrashStore:M:=.seq (.ops [qo 2 (.box (.t 0)),
 qo 4 (.mv (.c (.bool false)))])
 (.seq (.ops [qo 5 (.mv (ci 1048576))])
 (.seq (.ops [qo 8 (.load true 2 (.t 2)),
 qo 9 (.mv (.t 5)),
 ⟨some 10,.call 36 [.t 8,.t 9],none,[.f 1]⟩,
 qo 5 (.mv (.t 10))])
 (.seq (.seq (.ops [qo 11 (.mv (.t 5)),
 qo 12 (.bin .lss false (.t 11) (ci 0))])
 (.cond (.t 12) (.seq (.ops [qo 4 (.mv (.c (.bool true)))])
 (.ret))
 (.skip)))
 (.seq (.ops [qo 13 (.load true 2 (.t 2)),
 ⟨some 14,.call 38 [.t 13],none,[.f 1]⟩,
 qo 15 (.mv (.t 1)),
 ⟨some 16,.call 47 [.t 14,.t 15],none,[.f 1]⟩,
 ⟨some 6,.zero [.string ⟨[].toArray⟩,.int .i64 0],none,[]⟩,
 ⟨none,.store 2 (.t 6) (.t 16),none,[]⟩])
 (.seq (.ops [qo 17 (.load true 2 (.t 2)),
 ⟨some 18,.call 38 [.t 17],none,[.f 1]⟩,
 qo 19 (.mv (.t 1)),
 ⟨some 20,.call 48 [.t 18,.t 19],none,[.f 1]⟩,
 ⟨some 7,.zero [.string ⟨[].toArray⟩,.int .i64 0],none,[]⟩,
 ⟨none,.store 2 (.t 7) (.t 20),none,[]⟩])
 (.seq (.seq (.ops [qo 21 (.load true 2 (.t 7)),
 qo 22 (.load true 2 (.t 6)),
 ⟨some 23,.call 42 [.t 21,.t 22],none,[.f 1]⟩,
 qo 24 (.not (.t 23))])
 (.cond (.t 24) (.seq (.ops [qo 4 (.mv (.c (.bool false)))])
 (.ret))
 (.skip)))
 (.seq (.ops [qo 4 (.mv (.c (.bool true)))])
 (.ret))))))))
theorem zet:look Tryz.prog 10 = some (25,m_l_FnExactCrashStore,[.tm 4]):=by kernel_rfl
def m_l_szStore:M:=.seq (.ops [qo 2 (.box (.t 0)),
 qo 4 (.mv (ci 0))])
 (.seq (.ops [qo 5 (.mv (.t 1)),
 qo 6 (.fld 0 (.t 2)),
 qo 7 (.load false 1 (.t 6)),
 qo 8 (.lens (.t 7)),
 qo 9 (.bin .sub false (.t 5) (.t 8)),
 qo 1 (.mv (.t 9))])
 (.seq (.seq (.ops [qo 10 (.mv (.t 1)),
 qo 11 (.bin .lss false (.t 10) (ci 0))])
 (.cond (.t 11) (.seq (.ops [qo 4 (.mv (ci (-1)))])
 (.ret))
 (.skip)))
 (.seq (.ops [qo 12 (.mv (.t 1)),
 qo 4 (.mv (.t 12))])
 (.ret))))
theorem zc0:look Tryz.prog 36 = some (13,m_l_szStore,[.tm 4]):=by kernel_rfl
def m_l_toStore:M:=.seq (.ops [qo 1 (.box (.t 0)),
 ⟨some 2,.zero [.string ⟨[].toArray⟩,.int .i64 0],none,[]⟩])
 (.seq (.ops [⟨some 3,.zero [.string ⟨[].toArray⟩,.int .i64 0],none,[]⟩])
 (.seq (.ops [qo 4 (.fld 0 (.t 1)),
 qo 5 (.load false 1 (.t 4)),
 qo 6 (.fld 0 (.t 3)),
 ⟨none,.store 1 (.t 6) (.t 5),none,[]⟩])
 (.seq (.ops [qo 7 (.fld 1 (.t 1)),
 qo 8 (.load false 1 (.t 7)),
 qo 9 (.fld 1 (.t 3)),
 ⟨none,.store 1 (.t 9) (.t 8),none,[]⟩])
 (.seq (.ops [qo 10 (.load true 2 (.t 3)),
 ⟨none,.store 2 (.t 2) (.t 10),none,[]⟩])
 (.ret)))))
theorem zc1:look Tryz.prog 38 = some (11,m_l_toStore,[.cell true 2 2]):=by kernel_rfl
def m_l_eqStore:M:=.seq (.ops [qo 2 (.box (.t 0)),
 qo 3 (.box (.t 1)),
 qo 4 (.mv (.c (.bool false)))])
 (.seq (.seq (.ops [qo 5 (.fld 0 (.t 2)),
 qo 6 (.load false 1 (.t 5)),
 qo 7 (.fld 0 (.t 3)),
 qo 8 (.load false 1 (.t 7)),
 qo 9 (.bin .neq false (.t 6) (.t 8))])
 (.cond (.t 9) (.seq (.ops [qo 4 (.mv (.c (.bool false)))])
 (.ret))
 (.skip)))
 (.seq (.seq (.ops [qo 10 (.fld 1 (.t 2)),
 qo 11 (.load false 1 (.t 10)),
 qo 12 (.fld 1 (.t 3)),
 qo 13 (.load false 1 (.t 12)),
 qo 14 (.bin .neq false (.t 11) (.t 13))])
 (.cond (.t 14) (.seq (.ops [qo 4 (.mv (.c (.bool false)))])
 (.ret))
 (.skip)))
 (.seq (.ops [qo 4 (.mv (.c (.bool true)))])
 (.ret))))
theorem zeH:look Tryz.prog 42 = some (15,m_l_eqStore,[.tm 4]):=by kernel_rfl
end
/- TabsLow -/
section
theorem Tabs.low:Low ngl Tabs:=by
 intro w w' h hs hk;have h1:0 < ngl:=of_decide_eq_true (by unfold ngl; kernel_rfl);have h2:1 < ngl:=of_decide_eq_true (by unfold ngl; kernel_rfl);refine ⟨fun c hc => ?_,fun i hi => ?_⟩
 ·rw [World.cell?_of_block (a:=⟨_,_,none⟩) (hk _ h1)]; exact h.1 c hc
 ·rw [World.cell?_of_block (a:=⟨_,_,none⟩) (hk _ h2),World.cell?_of_block (a:=⟨_,_,none⟩) (hk _ h2)]; exact h.2 i hi
end
/- PvTop -/
section
theorem zhv {w:World} (h:w.ShapedOpen Tryz.prog):ngl <= w.heap.size:=by
 have hlt:ngl < (begin Tryz.prog (fun _ _ => 0) default).world.heap.size:=of_decide_eq_true (by unfold ngl; kernel_rfl);obtain ⟨o,_,h2,_⟩:=h.2 ngl (Nat.le_refl _) hlt;exact Nat.le_of_lt (za6 h2)
def Stay (T:World -> Prop) (w:World) (W:World):Prop:=T W /\ w.heap.size <= W.heap.size /\ ∀ k,k < w.heap.size -> W.heap[k]? = w.heap[k]?
theorem Stay.low {T:World -> Prop} (hT:Low ngl T) {w:World} (hn:ngl <= w.heap.size):Low w.heap.size (Stay T w):=fun W W' h hs hk =>
 ⟨hT W W' h.1 hs fun k hk' => hk k (Nat.lt_of_lt_of_le hk' hn),Nat.le_trans h.2.1 hs,fun k hk' => (hk k hk').trans (h.2.2 k hk')⟩
section
variable {T:World -> Prop} {hT:Low ngl T} {w:World} {hn:ngl <= w.heap.size}
end
theorem FnV.bool {E:Env} {f:Nat} {args:List PV} {b:Bool} (h:FnV E f args (.d (pB b))) {w:World} (hng:E.NG <= w.heap.size) (hT:E.T w) {vs:List Value} (hl:vs.length = args.length) (hv:∀ (j:Nat) (x:PV) (y:Value),args[j]? = some x -> vs[j]? = some y -> RpV (C0 w) w x y) :
  Calls E.P f vs.toArray w fun e w' => e = .returned (.bool b) /\ Below w.heap.size w w':=by
 refine (Fn.use h hng hT hl hv).mono ?_;rintro e w' ⟨u,x,bx,live,C',rfl,h1,_,h3,h4,_⟩
 have hx:x = .d (pB b):=by
  cases x with
  | d c =>
   simp only [PV.dat,Option.some.injEq,PV.d.injEq] at h1
   cases c with
   | v y => simp only [PC.er] at h1; rw [h1]
   | sl t es => simp [PC.er,pB] at h1
   | bld p T t U => simp [PC.er,pB] at h1
   | anyp => simp [PC.er,pB] at h1
   | row => simp [PC.er,pB] at h1
  | _ => simp [PV.dat] at h1
 subst hx
 cases h3 with
 | d _ _ h => cases h; exact ⟨rfl,h4⟩
end
/- Laid -/
section
theorem zfV {H:Type} {enc:TypeId × Value -> H} {C:Checked} {os:Os} {f:FuncId} {fn:Func} {s:ChangeSpec} {conds:List PathCond} {fresh handsOn again apart:Bool} (L:List (String × DataW Unit))
  (own:ownKnob C.prog.godebug = none) (started:os.Started) (noInit:C.prog.inits.idxOf? f = none) (hfn:C.prog.funcs[f]? = some fn)
  (wit:∃ (w:World) (tape:Tape) (i:Input),w.os = os /\ (w.forCall tape i).Shaped C.prog /\ i.vars = [] /\ Input.okWide C.prog (w.forCall tape i) .any w.heap.size f i /\
   ((s.pre enc C.prog fn conds apart (w.forCall tape i).memory i.args /\ laidMetH C.prog L (w.forCall tape i).memory) /\ sizedMet enc C.prog fn (OpenSpec.ofChange s) apart (w.forCall tape i).memory i.args) /\ ({}:Assume).holds C.prog (lone (Frame.enter C.prog f i.args .normal) [] (w.forCall tape i)))
  (walk:∀ (W:World) (base:Nat) (args:Array Value) (ds gs:List (DataW H)) (before:List MemPlace),W.ShapedOpen C.prog -> laidMetH C.prog L W ->
   (∀ (j:Nat) t v,fn.params[j]? = some t -> args[j]? = some v -> Value.okWide C.prog W .any base t v) ->
   DataW.Whole enc C.prog fn.params.toList s.vars apart W args.toList ds gs before ->
   conds.all (PathCond.test C.prog ⟨fn.params.toList,ds,s.plain.varTypes C.prog,gs⟩) = true ->
   Calls C.prog f args W fun e W' => ∃ v,e = .returned v /\ s.post enc C.prog fn apart fresh handsOn again W args v W') :
  ReturnsInHanded {} C os f .any (fun w args => (s.pre enc C.prog fn conds apart w args /\ laidMetH C.prog L w) /\ sizedMet enc C.prog fn (OpenSpec.ofChange s) apart w args) (s.post enc C.prog fn apart fresh handsOn again):=by
 refine returnsInHanded_of_calls own started noInit wit fun w tape i _ shaped _ ok pre _ => ?_
 rcases ok with ⟨_,_,_,fn2,h2,_,_,_,_,vals⟩
 cases Option.some.inj (h2.symm.trans hfn)
 rcases pre with ⟨⟨⟨ds,gs,before,whole,cond⟩,met⟩,_⟩
 have met2:laidMetH C.prog L (w.forCall tape i):=laidMetH.of_heap (by rfl) met;refine (walk _ w.heap.size i.args ds gs before shaped met2 vals (DataW.Whole.of_heap (by rfl) whole) cond).mono ?_;rintro e w2 ⟨v,rfl,hp⟩;exact ChangeSpec.post_blind hp
end
/- Tabs -/
section
open Go.RowKit Go.Lib Go.Shelf
theorem first_data:Go.Pinned.utf8First = firstData:=by kernel_rfl
theorem zjE:(Rows.laid_unicode_utf8_acceptRanges:DataW Unit) = acceptData:=by kernel_rfl
theorem zfW {w : World} (h3 : VarReads Tryz.prog w "unicode/utf8.first" Go.Pinned.utf8First) (h4 : VarReads Tryz.prog w "unicode/utf8.acceptRanges" Rows.laid_unicode_utf8_acceptRanges) : Tabs w := by
 rw [first_data] at h3; rw [zjE] at h4
 exact utf8Tabs_of_readsT (U8Types.of196 Tryz.laysValid) ⟨by kernel_rfl,by kernel_rfl,by kernel_rfl,by kernel_rfl,by kernel_rfl,by kernel_rfl,by kernel_rfl⟩ h3 h4
end
/- Ten -/
section
open Go.RowKit Go.Lib Go.Shelf
theorem ten_data:(Rows.laid_internal_strconv_uint64pow10:DataW Unit) = tabData .u64 pow10Tab:=by kernel_rfl
theorem zee {w : World} (h : VarReads Tryz.prog w "internal/strconv.uint64pow10" Rows.laid_internal_strconv_uint64pow10) : TenTab w := by
 rw [ten_data] at h;obtain ⟨g',t',cs,fuel,p,hg',ht',hvar,hd⟩:=h
 obtain rfl:=Option.some.inj (tenG.symm.trans hg')
 obtain rfl:=Option.some.inj ((show (Tryz.prog.globals[2]?).map (·.type) = some 244 by kernel_rfl).symm.trans ht')
 unfold TenTab TabIs;rw [hvar,<- cells_of_tab Tryz.underlying244 Tryz.underlying98 (by kernel_rfl) (by kernel_rfl) hd]
end
end Go.Proofs.YtanlnhkagepniaaGreatDoor
