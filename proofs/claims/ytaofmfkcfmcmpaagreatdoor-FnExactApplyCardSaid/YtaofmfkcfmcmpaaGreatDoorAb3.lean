/- Part 3 of a proof: Del5, PvVal, PvHlp, PvTrim, PvNe, PvLift, PvRow, Lcg, Drw0, DrwP, AtR, BoxV, RwN, OldRw, Sub, ValueOwn, NrE, VEq0, TagDef, PlainDef, VOk, Vfm, DecDef, RdDec, KidD, PathDef, PutD, CpyM, L8M, CpyB, Cln5, Ins5, Lib5, PthL, PthOk, PutEq, PthM, FindI, Dec, Errs, PvOldT, RdcI, WthI, KidI, Own2, Cpy, DecT, PvG1M, InS, St1M, RdS, L8K, StrM, StrF, L8N, Read -/
import Derived.Test.YtaofmfkcfmcmpaaGreatDoorAb2
import Derived.Lib.ItoaLen
import Derived.Lib.AppendZerosOnto
import Derived.Lib.Overlaps
import Derived.Lib.AppendIntMem
import Derived.ProofKit
namespace Go.Proofs.YtaofmfkcfmcmpaaGreatDoor
open Go.RowKit
set_option maxHeartbeats 4000000
set_option maxRecDepth 100000
open List
section
def z5:Value:=.agg #[.int .i64 0,.int .i64 0,.int .i64 0,.string ⟨#[]⟩,.slice none 0 0]
theorem info5:∃ i,Tryz.prog.info? 32 = some i /\ i.zero = some z5 /\ i.size = 5 /\ i.bytes = 64:=by
 obtain ⟨i,h1,h2,h3,h4⟩:=info_parts (show (Tryz.prog.info? 32).map (fun i => (i.zero,i.size,i.bytes)) = some (some z5,5,64) from by kernel_rfl);exact ⟨i,h1,h2,h3,h4⟩
theorem zero5 (w:World):(zeroValue 32).run Tryz.prog w = .ok z5 w:=by
 obtain ⟨i,h1,h2,_⟩:=info5;simp [zeroValue,typeInfo,h1,h2]
theorem del5 (b n c i j:Nat) (cur:List Value) (e0:TypeId) (w:World) (hb:w.heap[b]? = some (.cells cur.toArray e0 (0,0))) (hl:cur.length = 5 * c) (one:∀ u ∈ cur,u.oneCell' = true) (hij:i < j) (hj:j <= n) (hn:n <= c) (hc:c <= maxLen) :
  Calls Tryz.prog 81 #[.slice (some ⟨b,0,none⟩) n c,.int .i64 i,.int .i64 j] w fun e w' => e = .returned (.slice (some ⟨b,0,none⟩) (n - (j - i)) c) /\ w' = (w.drew.setCells b (5 * i) ((cur.drop (5 * j)).take (5 * (n - j)))).setCells b (5 * (i + (n - j))) (Builtin.zeroCells z5.cells (j - i)).toList:=by
 obtain ⟨i0,hi0,hz0,hz1,hz2⟩:=info5;have hcm:c <= 9223372036854775807:=by unfold maxLen at hc; omega
 obtain ⟨news,hnews⟩:∃ news,news = (cur.drop (5 * j)).take (5 * (n - j)):=⟨_,rfl⟩;have hlen:news.length = (n - j) * 5:=by rw [hnews,length_take,length_drop,hl]; omega
 have s2:Hid (∀ u ∈ news,u.oneCell' = true):=fun u hu => one u (mem_of_mem_drop (mem_of_mem_take (by rw [<- hnews]; exact hu)))
 have hwd:w.drew.heap[b]? = some (.cells cur.toArray e0 (0,0)):=hb;have s3:Hid (∀ t,t < news.length -> (w.drew.cell? ⟨b,0 + i * 5 + t,none⟩).isSome = true /\ w.drew.frozen? ⟨b,0 + i * 5 + t,none⟩ = false):=fun t ht => zaL hwd (by omega)
 obtain ⟨A,hA,hsrc⟩:∃ A:Addr,(if c = j then some (⟨b,0,none⟩:Addr) else some ⟨b,j * 5,none⟩) = some A /\ Hid (∀ t u,news[t]? = some u -> w.drew.cell? (A.add t) = some u):=by
  by_cases h:c = j
  ·refine ⟨⟨b,0,none⟩,by simp [h],fun t u hu => ?_⟩
   have h0:news = []:=length_eq_zero_iff.1 (by omega);rw [h0] at hu; simp at hu
  ·refine ⟨⟨b,j * 5,none⟩,by simp [h],fun t u hu => ?_⟩
   rw [zav,zae hwd];rw [hnews,getElem?_take] at hu
   split at hu
   ·rw [getElem?_drop] at hu
    rw [getElem?_toArray,Nat.mul_comm j 5]; exact hu
   ·cases hu
 obtain ⟨W1,hW1⟩:∃ W1,W1 = w.drew.setCells b (0 + i * 5) news:=⟨_,rfl⟩;have hb1:W1.heap[b]? = some (.cells (splV cur (0 + i * 5) news).toArray e0 (0,0)):=by rw [hW1]; exact zaJ b e0 (0,0) news _ _ cur hwd (by omega)
 have hl1:(splV cur (0 + i * 5) news).length = 5 * c:=by rw [zbZ (by omega)]; exact hl
 obtain ⟨zs,hzs⟩:∃ zs,(Builtin.zeroCells z5.cells (j - i)).toList = zs:=⟨_,rfl⟩;have hzl:zs.length = (j - i) * 5:=by rw [<- hzs,Array.length_toList,size_zeroCells]; rfl
 have hz1c:∀ u ∈ zs,u.oneCell' = true:=by rw [<- hzs]; exact za3 (z:=z5) rfl _
 have hji:n - (i + (n - j)) = j - i:=by omega
 have hcl:∀ ty,(Builtin.clear_ #[30] ty #[.slice (some ⟨b,(i + (n - j)) * 5,none⟩) (n - (i + (n - j))) (c - (i + (n - j)))]).run Tryz.prog W1 = .ok (.tuple #[]) (W1.setCells b ((i + (n - j)) * 5) zs):=fun ty =>
  run_clearN W1 _ ty 32 z5 b _ _ _ Tryz.underlying30 zero5 (by omega) zs (by rw [hji]; exact hzs) (fun t ht => (zaL hb1 (by omega)).1) (fun t ht => (zaL hb1 (by omega)).2) hz1c
 have hW:Hid (W1 = w.drew.setCells b (0 + i * 5) news):=hW1;have hN:Hid (news = (cur.drop (5 * j)).take (5 * (n - j))):=hnews;have hL:Hid (news.length = (n - j) * 5):=hlen;have hZ:=Lib.hid hzs;have hic:i <= c:=by omega
 have hjc:j <= c:=by omega
 have hne:((i:Int) == (j:Int)) = false:=by rw [beq_eq_false_iff_ne]; omega
 have h1:(i:Int) <= j:=by omega
 have h2:(j:Int) <= n:=by omega
 have h3:(n:Int) <= c:=by omega
 clear hb hl one hwd hb1 hl1 hzl hz1c hW1 hnews hlen hzs hji
 go_enter Tryz.func81,Tryz.ntmps81
 go_wp2_with fail
 have mixed:Tryz.prog.follows .mixedOrders = true:=by kernel_rfl
 go_region_law_o (refine step_append_room rfl (.tmp 22) (.tmp 25) 30 rfl 32 i0 5 Tryz.underlying30 hi0 hz1 b 0 i c (by simp [Act.eval,Act.put]) A (n - j) (c - j) news (by simp [Act.eval,Act.put]) hL.out hsrc.out s2.out (by omega) s3.out ?_; rw [<- hW.out])
 go_wp2;go_ret;refine ⟨by rw [show n - (j - i) = i + (n - j) by omega]; rfl,?_⟩;rw [hZ.out,<- hN.out,show 5 * i = 0 + i * 5 by omega,<- hW.out,show 5 * (i + (n - j)) = (i + (n - j)) * 5 by omega]
end
section
def vK (kids:List V):LP PC:=kids.map fun x => x.d.pc
def vC (v:V):List PC:=[pI v.kind,pI v.num,pI v.exp,pS v.text,.sl 0 (vK v.kids)]
theorem V.pc_eq (x:V):x.d.pc = vC x:=by
 obtain ⟨k,n,e,s,kids⟩:=x;simp only [V.d,D.pc,D.pcs,D.pcE_map,V.ds_map,map_map,append_nil];rfl
theorem vK_eq (kids:List V):vK kids = kids.map vC:=by unfold vK; exact map_congr_left fun x _ => x.pc_eq
theorem zai (x:V):erL (vC x) = vC x:=by rw [<- V.pc_eq]; exact D.pc_er _
theorem zcX (kids:List V):erLL (vK kids) = vK kids:=by
 have:vK kids = D.pcE (kids.map V.d):=by rw [D.pcE_map,map_map]; rfl
 rw [this]; exact D.pcE_er _
mutual
theorem V.wfd:∀ x:V,x.d.wf
 | .mk k n e s kids => by
  simp only [V.d,D.wf,D.wfs];exact ⟨rfl,rfl,rfl,rfl,⟨fun e he => by rw [V.ds_map] at he; obtain ⟨y,_,rfl⟩:=mem_map.1 he; exact V.width y,V.wfds kids⟩,trivial⟩
theorem V.wfds:∀ xs:List V,D.wfs (V.ds xs)
 | [] => trivial
 | x :: xs => ⟨V.wfd x,V.wfds xs⟩
end
theorem za7 (kids:List V):∀ e ∈ vK kids,e.length = 5:=by
 intro e he; rw [vK_eq] at he; obtain ⟨x,_,rfl⟩:=mem_map.1 he; rfl
theorem zbj {kids:List V} {j:Nat} (h:j < kids.length):(vK kids)[j]? = some (vC kids[j]):=by
 rw [vK_eq,getElem?_map,getElem?_eq_getElem h]; rfl
theorem zam (kids:List V):(vK kids).length = kids.length:=by simp [vK]
theorem zax (x:V):PV.dats [.ag (vC x)] = some [.ag (vC x)]:=congrArg (fun l => some [PV.ag l]) (zai x)
theorem V.pld (x:V):x.d.pl:=by
 obtain ⟨k,n,e,s,kids⟩:=x;simp [V.d,D.pl,D.pls,dI,dS]
theorem V.pcl (x:V):x.d.pc.length = 5:=by rw [x.pc_eq]; rfl
end
section
section
variable {E:Env} {K:St -> Prop} {tm:Nat -> PV} {bx:LP PC} {nt d:Nat} {live:List Nat} {r:List MOpr} {g:Option (Nat × Bool)} {c:List X} {x y:X} {a b n:Int}
theorem zaZ (hg:gd g tm = some true) (hx:ev tm x = .d (pI a)) (hy:ev tm y = .d (pI b)) (hn:a + b = n) (h1:-9223372036854775808 <= n /\ n <= 9223372036854775807) (h:po E r K ⟨up d (.d (pI n)) tm,bx,nt,live⟩):po E (⟨some d,.bin .add false x y,g,c⟩ :: r) K ⟨tm,bx,nt,live⟩:=by
 refine po_q hg ?_ h;simp only [qf,hx,hy,pI];show some (PV.d (.v (.int .i64 (IntKind.wrap .i64 (a + b))))) = some (PV.d (.v (.int .i64 n)));have e:IntKind.wrap .i64 (a + b) = n:=by rw [hn,IntKind.wrap_i64]; omega
 rw [e]
theorem po_sub (hg:gd g tm = some true) (hx:ev tm x = .d (pI a)) (hy:ev tm y = .d (pI b)) (hn:a - b = n) (h1:-9223372036854775808 <= n /\ n <= 9223372036854775807) (h:po E r K ⟨up d (.d (pI n)) tm,bx,nt,live⟩):po E (⟨some d,.bin .sub false x y,g,c⟩ :: r) K ⟨tm,bx,nt,live⟩:=by
 refine po_q hg ?_ h;simp only [qf,hx,hy,pI];show some (PV.d (.v (.int .i64 (IntKind.wrap .i64 (a - b))))) = some (PV.d (.v (.int .i64 n)));have e:IntKind.wrap .i64 (a - b) = n:=by rw [hn,IntKind.wrap_i64]; omega
 rw [e]
end
theorem ress_box {tm:Nat -> PV} {bx:LP PC} {nt:Nat} {live:List Nat} {n t p:Nat} {cs:List PC} (ht:tm t = .ref p 0) (hb:bx[p]? = some cs) (hn:cs.length = n):ressM ⟨tm,bx,nt,live⟩ [.cell true n t] = some [.ag cs]:=by
 simp only [ressM,resM,ht,hb,Nat.zero_add,drop_zero,ldv,hn,Nat.le_refl,if_true];rw [<- hn,take_length]
end
section
mutual
def PC.lw (n:Nat):PC -> Prop
 | .v _ => True
 | .bld p _ _ _ => p < n
 | .anyp => True
 | .row p _ _ => p < n
 | .sl _ es => lwLL n es
def lwL (n:Nat):List PC -> Prop
 | [] => True
 | c :: cs => PC.lw n c /\ lwL n cs
def lwLL (n:Nat):LP PC -> Prop
 | [] => True
 | l :: ls => lwL n l /\ lwLL n ls
end
mutual
def PV.lw (n:Nat):PV -> Prop
 | .d c => c.lw n
 | .ag cs => lwL n cs
 | .tup vs => lwVs n vs
 | .raw _ => True
 | .ref _ _ => False
 | .pt _ => False
 | .fn _ vs => lwVs n vs
def lwVs (n:Nat):List PV -> Prop
 | [] => True
 | v :: vs => PV.lw n v /\ lwVs n vs
end
theorem zcc {n:Nat}:∀ {cs:List PC} (j:Nat) (c:PC),lwL n cs -> cs[j]? = some c -> c.lw n
 | c :: cs,0,_,h,e => by simp at e; subst e; exact h.1
 | c :: cs,j + 1,_,h,e => zcc j _ h.2 (by simpa using e)
theorem zcu {n:Nat}:∀ {cs:LP PC} (j:Nat) (c:List PC),lwLL n cs -> cs[j]? = some c -> lwL n c
 | c :: cs,0,_,h,e => by simp at e; subst e; exact h.1
 | c :: cs,j + 1,_,h,e => zcu j _ h.2 (by simpa using e)
theorem zcv {n:Nat}:∀ {cs:List PV} (j:Nat) (c:PV),lwVs n cs -> cs[j]? = some c -> c.lw n
 | c :: cs,0,_,h,e => by simp at e; subst e; exact h.1
 | c :: cs,j + 1,_,h,e => zcv j _ h.2 (by simpa using e)
mutual
theorem owned_lw {n:Nat}:∀ {c:PC},c.owned = true -> c.lw n
 | .v _,_ => by simp only [PC.lw]
 | .bld _ _ _ _,ho => by simp [PC.owned] at ho
 | .anyp,_ => by simp only [PC.lw]
 | .row _ _ _,ho => by simp [PC.owned] at ho
 | .sl t es,ho => by
  simp only [PC.owned,Bool.and_eq_true,Bool.or_eq_true,decide_eq_true_eq] at ho;simp only [PC.lw]
  rcases ho.1 with h0 | h0
  ·exact ownedLL_lw ho.2
  ·rw [isEmpty_iff.1 h0]; simp only [lwLL]
theorem zdw {n:Nat}:∀ {c:List PC},ownedL c = true -> lwL n c
 | [],_ => by simp only [lwL]
 | c :: cs,ho => by
  simp only [ownedL,Bool.and_eq_true] at ho;simp only [lwL];exact ⟨owned_lw ho.1,zdw ho.2⟩
theorem ownedLL_lw {n:Nat}:∀ {c:LP PC},ownedLL c = true -> lwLL n c
 | [],_ => by simp only [lwLL]
 | c :: cs,ho => by
  simp only [ownedLL,Bool.and_eq_true] at ho;simp only [lwLL];exact ⟨zdw ho.1,ownedLL_lw ho.2⟩
end
def Cx.cutB (C:Cx) (n:Nat):Cx:={ C with nb:=n }
theorem RpC.trim {C:Cx} {w:World} {n:Nat} {c:PC} {v:Value} (h:RpC C w c v):c.lw n -> RpC (C.cutB n) w c v:=by
 induction h with
 | v x h => intro _; exact .v x h
 | bld p T t U v h cs fz ht hv hU => intro hl; exact .bld (C:=C.cutB n) p T t U v hl cs fz ht hv hU
 | anyp a h => intro _; exact .anyp a h
 | row p l c h hl hc => intro hlw; exact .row (C:=C.cutB n) p l c hlw hl hc
 | emp a c => intro _; exact .emp a c
 | nil => intro _; exact .nil
 | nilo t h2 ht hb => intro _; exact .nilo (C:=C.cutB n) t h2 ht hb
 | rd es b o k c u hl hc hr h ih =>
  intro hf;simp only [PC.lw] at hf
  exact .rd (C:=C.cutB n) es b o k c u hl hc ⟨hr.pos,hr.wid,hr.cell,hr.fix⟩ fun i j e y he hy => ih i j e y he hy (zcc j y (zcu i e hf he) hy)
 | own t es b u h2 ht hb hlen hl hc hr h ih =>
  intro hf;simp only [PC.lw] at hf;exact .own (C:=C.cutB n) t es b u h2 ht hb hlen hl hc ⟨hr.pos,hr.wid,hr.cell,hr.fix⟩ fun i j e y he hy => ih i j e y he hy (zcc j y (zcu i e hf he) hy)
theorem RpL.trim {C:Cx} {w:World} {n:Nat} {cs:List PC} {vs:List Value} (h:RpL C w cs vs) (hl:lwL n cs):RpL (C.cutB n) w cs vs:=⟨h.1,fun j c y h1 h2 => (h.2 j c y h1 h2).trim (zcc j c hl h1)⟩
def Cx.reb (C:Cx) (n:Nat) (f:Nat -> Nat):Cx:={ C with nb:=n,bx:=f }
theorem RpC.reb {C:Cx} {w:World} {n:Nat} {f:Nat -> Nat} {c:PC} {v:Value} (h:RpC C w c v):c.lw 0 -> RpC (C.reb n f) w c v:=by
 induction h with
 | v x h => intro _; exact .v x h
 | bld p T t U v h cs fz ht hv hU => intro hl; exact absurd hl (Nat.not_lt_zero p)
 | anyp a h => intro _; exact .anyp a h
 | row p l c h hl hc => intro hlw; exact absurd hlw (Nat.not_lt_zero p)
 | emp a c => intro _; exact .emp a c
 | nil => intro _; exact .nil
 | nilo t h2 ht hb => intro _; exact .nilo (C:=C.reb n f) t h2 ht hb
 | rd es b o k c u hl hc hr h ih =>
  intro hf;simp only [PC.lw] at hf
  exact .rd (C:=C.reb n f) es b o k c u hl hc ⟨hr.pos,hr.wid,hr.cell,hr.fix⟩ fun i j e y he hy => ih i j e y he hy (zcc j y (zcu i e hf he) hy)
 | own t es b u h2 ht hb hlen hl hc hr h ih =>
  intro hf;simp only [PC.lw] at hf;exact .own (C:=C.reb n f) t es b u h2 ht hb hlen hl hc ⟨hr.pos,hr.wid,hr.cell,hr.fix⟩ fun i j e y he hy => ih i j e y he hy (zcc j y (zcu i e hf he) hy)
theorem RpL.reb {C:Cx} {w:World} {n:Nat} {f:Nat -> Nat} {cs:List PC} {vs:List Value} (h:RpL C w cs vs) (hl:lwL 0 cs):RpL (C.reb n f) w cs vs:=⟨h.1,fun j c y h1 h2 => (h.2 j c y h1 h2).reb (zcc j c hl h1)⟩
theorem RpV.reb {C:Cx} {w:World} {n:Nat} {f:Nat -> Nat} {x:PV} {v:Value} (h:RpV C w x v):x.lw 0 -> RpV (C.reb n f) w x v:=by
 induction h with
 | d x v h => intro hl; exact .d x v (h.reb (by simpa only [PV.lw] using hl))
 | ag cs vs h => intro hl; exact .ag cs vs (h.reb (by simpa only [PV.lw] using hl))
 | tup xs vs hl _ ih => intro hf; simp only [PV.lw] at hf; exact .tup xs vs hl fun j x y h1 h2 => ih j x y h1 h2 (zcv j x hf h1)
 | ref p o h => intro hl; simp only [PV.lw] at hl
 | pt cs b o u hc hF h => intro hl; simp only [PV.lw] at hl
 | fn f xs vs hl h ih => intro hf; simp only [PV.lw] at hf; exact .fn f xs vs hl fun j x y h1 h2 => ih j x y h1 h2 (zcv j x hf h1)
 | raw v => intro _; exact .raw v
/-! ### trees -/
theorem zcS {E:Env} {K:St -> Prop} {m:MOpr} {a n:RT} {s:St} (h1:po E [m] (pt E K a) s) (h2:pt E K n s):pt E K (.alt m a n) s:=⟨h1,h2⟩
theorem zbo {E:Env} {K:St -> Prop} {qs:List MOpr} {a:RT} {s:St} (h:po E qs (fun s => (a.isLeaf = true -> K s) /\ pt E K a s) s):pt E K (.node qs a) s:=h
theorem zcd {E:Env} {K:St -> Prop} {s:St}:pt E K .leaf s:=trivial
theorem zdx {E:Env} {K:St -> Prop} {s:St} (h:K s):(RT.leaf.isLeaf = true -> K s) /\ pt E K .leaf s:=⟨fun _ => h,trivial⟩
theorem zce {E:Env} {K:St -> Prop} {m:MOpr} {a n:RT} {s:St} (h:pt E K (.alt m a n) s):((RT.alt m a n).isLeaf = true -> K s) /\ pt E K (.alt m a n) s:=⟨fun h => (Bool.noConfusion h:K s),h⟩
/-! ### steps -/
def MO.plain:MO -> Bool
 | .mv _ | .load .. | .fld .. | .field .. | .ext .. | .nilc _ | .not _ | .build .. | .lens _ | .b2s _ | .litq .. | .mkfn .. | .pick .. => true
 | _ => false
section
variable {E:Env} {K:St -> Prop} {tm:Nat -> PV} {bx:LP PC} {nt d:Nat} {live:List Nat} {r:List MOpr} {g:Option (Nat × Bool)} {c:List X} {o:MO} {x y:X}
theorem po_s {v:PV} (_ho:o.plain = true) (hg:gd g tm = some true) (hq:qf (ev tm) bx o = some v) (h:po E r K ⟨up d v tm,bx,nt,live⟩):po E (⟨some d,o,g,c⟩ :: r) K ⟨tm,bx,nt,live⟩:=po_q hg hq h
theorem zan {e:Bool} (hg:gd g tm = some true) (hq:qf (ev tm) bx o = some (.d (.v (.bool e)))) (he:e = false) (h:po E r K ⟨up d (.d (.v (.bool false))) tm,bx,nt,live⟩):po E (⟨some d,o,g,c⟩ :: r) K ⟨tm,bx,nt,live⟩:=by subst he; exact po_q hg hq h
theorem zah {e:Bool} (hg:gd g tm = some true) (hq:qf (ev tm) bx o = some (.d (.v (.bool e)))) (he:e = true) (h:po E r K ⟨up d (.d (.v (.bool true))) tm,bx,nt,live⟩):po E (⟨some d,o,g,c⟩ :: r) K ⟨tm,bx,nt,live⟩:=by subst he; exact po_q hg hq h
theorem zay {t n:Nat} {es:LP PC} (hg:gd g tm = some true) (hx:ev tm x = .d (.sl t es)) (hn:es.length = n) (h:po E r K ⟨up d (.d (pI n)) tm,bx,nt,live⟩):po E (⟨some d,.len x,g,c⟩ :: r) K ⟨tm,bx,nt,live⟩:=by
 refine po_q hg ?_ h;simp only [qf,hx,hn]; rfl
theorem po_cv {k kk:IntKind} {a n:Int} (hg:gd g tm = some true) (hx:ev tm x = .d (.v (.int kk a))) (hn:k.wrap a = n) (h:po E r K ⟨up d (.d (.v (.int k n))) tm,bx,nt,live⟩):po E (⟨some d,.conv k x,g,c⟩ :: r) K ⟨tm,bx,nt,live⟩:=by
 refine po_q hg ?_ h;simp only [qf,hx,hn]
theorem po_mv {v:PV} (hg:gd g tm = some true) (hx:ev tm x = v) (h:po E r K ⟨up d v tm,bx,nt,live⟩):po E (⟨some d,.mv x,g,c⟩ :: r) K ⟨tm,bx,nt,live⟩:=by
 subst hx; exact po_q hg rfl h
theorem pm {v:PV} (h:po E r K ⟨up d v tm,bx,nt,live⟩) (hg:gd g tm = some true:=by exact rfl) (hx:ev tm x = v:=by conv => lhs; whnf):po E (⟨some d,.mv x,g,c⟩ :: r) K ⟨tm,bx,nt,live⟩:=po_mv hg hx h
theorem pq {v:PV} (h:po E r K ⟨up d v tm,bx,nt,live⟩) (ho:o.plain = true:=by exact rfl) (hg:gd g tm = some true:=by exact rfl) (hq:qf (ev tm) bx o = some v:=by exact rfl):po E (⟨some d,o,g,c⟩ :: r) K ⟨tm,bx,nt,live⟩:=po_s ho hg hq h
theorem px {cs:List PC} (h:po E r K ⟨up d (.ref bx.length 0) tm,bx ++ [cs],nt,live⟩) (hq:pcells (ev tm x) = some cs:=by exact rfl):po E (⟨some d,.box x,none,[]⟩ :: r) K ⟨tm,bx,nt,live⟩:=zal hq h
theorem po_ixs {l:L8} {j:Int} {k:Nat} {b:UInt8} {kk:IntKind} (hg:gd g tm = some true) (hx:ev tm x = .d (pS l)) (hi:ev tm y = .d (.v (.int kk j))) (hj:j = k) (hb:l[k]? = some b) (h:po E r K ⟨up d (.d (.v (.int .u8 b.toNat))) tm,bx,nt,live⟩):po E (⟨some d,.ixs x y,g,c⟩ :: r) K ⟨tm,bx,nt,live⟩:=by
 refine po_q hg ?_ h;subst hj;simp only [qf,hx,hi,pS];rw [if_pos (by omega)];simp [hb]
theorem po_slcs {l rs:L8} {lo hi:Option X} {a b:Nat} (hg:gd g tm = some true) (hx:ev tm x = .d (pS l)) (hlo:bound (ev tm) 0 lo = some a) (hhi:bound (ev tm) l.length hi = some b) (hle:a <= b /\ b <= l.length) (hr:(l.drop a).take (b - a) = rs) (h:po E r K ⟨up d (.d (pS rs)) tm,bx,nt,live⟩):po E (⟨some d,.slcs x lo hi,g,c⟩ :: r) K ⟨tm,bx,nt,live⟩:=by
 refine po_q hg ?_ h;subst hr;simp only [qf,hx,pS];rw [hlo,hhi];simp only;rw [if_pos hle]
theorem zbt {e:X -> PV} {dft k:Nat} {x:X} {kk:IntKind} {i:Int} (h:e x = .d (.v (.int kk i))) (hi:i = k):bound e dft (some x) = some k:=by
 subst hi;simp only [bound,h]; rw [if_pos (by omega)]; simp
end
theorem zdy {E:Env} {B:Base} {Q:Exit -> St -> Prop} {s:St} {x:X} {a b:M} {t:Bool} {p:Prop} [Decidable p] (ht:t = decide p) (hx:ev s.tm x = .d (.v (.bool t))) (h1:p -> t = true -> mw E B a Q s) (h2:¬ p -> t = false -> mw E B b Q s):mw E B (.cond x a b) Q s :=
 zfQ hx (fun h => h1 (of_decide_eq_true (ht.symm.trans h)) h) (fun h => h2 (of_decide_eq_false (ht.symm.trans h)) h)
end
section
section
variable {E:Env} {K:St -> Prop} {tm:Nat -> PV} {bx:LP PC} {nt d:Nat} {live:List Nat} {r:List MOpr} {g:Option (Nat × Bool)} {c:List X} {x y:X}
end
section
variable {E:Env} {K:St -> Prop} {tm:Nat -> PV} {bx:LP PC} {nt d:Nat} {live:List Nat} {r:List MOpr} {g:Option (Nat × Bool)} {c:List X} {x y:X}
end
theorem zd7 {E:Env} {K:St -> Prop} {tm:Nat -> PV} {bx:LP PC} {nt d:Nat} {live:List Nat} {r:List MOpr} {g:Option (Nat × Bool)} {c:List X} {x y:X} {la lb:L8} {f:Bool} (hg:gd g tm = some true) (hx:ev tm x = .d (pS la)) (hy:ev tm y = .d (pS lb)) (h:po E r K ⟨up d (.d (pB (decide (la = lb)))) tm,bx,nt,live⟩):po E (⟨some d,.bin .eql f x y,g,c⟩ :: r) K ⟨tm,bx,nt,live⟩:=by
 refine po_q hg ?_ h;simp only [qf,hx,hy,pS];show some (PV.d (.v (.bool ((ByteArray.mk la.toArray).toList == (ByteArray.mk lb.toArray).toList)))) = _;rw [ByteArray.toList_eq,ByteArray.toList_eq];show some (PV.d (.v (.bool (la == lb)))) = _;by_cases h:la = lb
 ·subst h; simp [pB]
 ·simp [h,pB]
end
section
theorem FnG.lift0 {E:Env} {f:Nat} {args:List PV} {nt:Nat} {live:List Nat} {R:PV -> Nat -> List Nat -> Prop}
  (h:FnG E f args [] nt live (fun x _ n l => x.lw 0 /\ R x n l)) (ha:lwVs 0 args) {bx:LP PC} :
  FnG E f args bx nt live (fun x b n l => b = bx /\ R x n l):=by
 intro C w vs hI hnt hold hn2 hlen hv;have hnb:=hI.nb
 have hI1:Inv E.NG E.T (C.reb 0 fun _ => 0) [] (· ∈ live) w:=by
  refine ⟨rfl,fun q cs hq => by simp at hq,fun q hq => by simp at hq,fun q hq => by simp at hq,fun q r hq => by simp at hq,fun t ht => ?_,hI.tinj,hI.fin,hI.ng,hI.t⟩;obtain ⟨a1,a2,a3⟩:=hI.tok t ht;refine ⟨a1,a2,a3.imp id ?_⟩;rintro ⟨b,cur,e,c1,c2,c3,c4,c5,c6,c7,c8,c9,c10⟩;exact ⟨b,cur,e,c1,c2,c3,c4,c5,c6,c7,c8,c9,fun q hq => by simp at hq⟩
 have hv1:∀ (j:Nat) (x:PV) (y:Value),args[j]? = some x -> vs[j]? = some y -> RpV (C.reb 0 fun _ => 0) w x y:=fun j x y hx hy => (hv j x y hx hy).reb (zcv j x ha hx)
 refine (h (C.reb 0 fun _ => 0) w vs hI1 hnt hold hn2 hlen hv1).mono ?_;rintro e w' ⟨u,x,b,n,l,C1,rfl,⟨k1,k3⟩,I1,hn,E1,hx⟩;have hle:CxLe C (C1.reb C.nb C.bx):=⟨E1.F,lR,fun _ _ => rfl,E1.tk.1,E1.tk.2⟩;have hF:Fix C w w':=E1.fix
 have hnotok:∀ q,q < bx.length -> ∀ t,t ∈ live -> C.tk t ≠ some (C.bx q):=by
  intro q hq t ht he;obtain ⟨_,_,⟨z,_⟩ | ⟨b,cur,e,c1,c2,c3,c4,c5,c6,c7,c8,c9,c10⟩⟩:=hI.tok t ht
  ·rw [he] at z; cases z
  ·rw [he] at c1; simp only [sI] at c1; subst c1; exact c10 q hq rfl
 have hold2:∀ t,(C.reb 0 fun _ => 0).old t -> t ∈ live:=fun t ht => by
  have:C.old t:=ht
  rw [hold] at this; exact this
 refine ⟨u,x,bx,n,l,C1.reb C.nb C.bx,rfl,⟨rfl,k3⟩,?_,hn,?_,hx.reb k1⟩
 ·refine ⟨hnb,fun q cs hq => ?_,fun q hq o hFo => ?_,hI.boxG,hI.inj,fun t ht => ?_,I1.tinj,I1.fin,I1.ng,I1.t⟩
  ·have hqlt:q < bx.length:=by
    rcases Nat.lt_or_ge q bx.length with h' | h'
    ·exact h'
    ·rw [getElem?_eq_none h'] at hq; cases hq
   obtain ⟨vs,e,h1,h2⟩:=hI.box q cs hq;exact ⟨vs,e,(E1.block (C.bx q) (zao h1) (fun r hr => by simp [Cx.reb] at hr) (fun t ht he => hnotok q hqlt t (hold2 t ht) he)).trans h1,h2.frame hle hF⟩
  ·rcases E1.newF (C.bx q) o hFo with h1 | h1 | ⟨s,h1,h2⟩
   ·exact hI.boxF q hq o h1
   ·have:=hI.lt hq; omega
   ·exact hnotok q hq s (hold2 s h1) h2
  ·obtain ⟨a1,a2,a3⟩:=I1.tok t ht
   refine ⟨a1,a2,a3.imp id ?_⟩;rintro ⟨b,cur,e,c1,c2,c3,c4,c5,c6,c7,c8,c9,c10⟩;refine ⟨b,cur,e,c1,c2,c3,c4,c5,c6,c7,c8,c9,fun q hq he => ?_⟩;have he:C.bx q = b:=he
   rcases E1.newT t b ht c1 with h1 | ⟨s,h1,h2⟩
   ·have:=hI.lt hq; omega
   ·exact hnotok q hq s (hold2 s h1) (by rw [he]; exact h2)
 ·exact ⟨E1.os,E1.tape,E1.output,E1.size,E1.F,E1.fix,fun k hk hne ho => E1.block k hk (fun r hr => by simp [Cx.reb] at hr) ho,⟨lR,fun _ _ => rfl⟩,E1.newF,E1.newT,fun q hq hq2 => by omega,E1.tk⟩
section
variable {E:Env} {d:Nat} {r:List MOpr} {K:St -> Prop} {tm:Nat -> PV} {bx:LP PC} {nt:Nat} {live:List Nat}
theorem zaQ {α:Type} (l:List α) (x:α):(l ++ [x])[l.length]? = some x:=by rw [getElem?_append_right lR,Nat.sub_self]; rfl
theorem zdX {n:Nat} {z:List Value} {x:X} {cs:List PC} {c:List X} (hx:pcells (ev (up d (.ref bx.length 0) tm) x) = some cs) (hn:cs.length = n) (hz:z.length = n) (hc:c.all (apartX (ev (up d (.ref bx.length 0) tm)) (.t d)) = true)
  (h:po E r K ⟨up d (.ref bx.length 0) tm,bx ++ [cs],nt,live⟩):po E (⟨some d,.zero z,none,[]⟩ :: ⟨none,.store n (.t d) x,none,c⟩ :: r) K ⟨tm,bx,nt,live⟩:=by
 refine zaH ?_;have hz0:(bx ++ [z.map ofC])[bx.length]? = some (z.map ofC):=zaQ _ _
 have ha:ev (up d (.ref bx.length 0) tm) (.t d) = .ref bx.length 0:=by
  show up d (.ref bx.length 0) tm d = _;rw [<- up_eq]; exact if_pos rfl
 refine zaC ha hx hz0 ⟨hn,by rw [length_map]; omega⟩ hc ?_
 have e1:spl (z.map ofC) 0 cs = cs:=by
  unfold spl;rw [take_zero,nil_append,drop_of_length_le (by rw [length_map]; omega),append_nil]
 have e2:(bx ++ [z.map ofC]).set bx.length cs = bx ++ [cs]:=by
  rw [set_append_right _ _ lR,Nat.sub_self]; rfl
 rw [e1,e2]; exact h
theorem zaD {ag:Bool} {n p o:Nat} {x:X} {c:List X} {g:Option (Nat × Bool)} {cs:List PC} {v:PV} (hg:gd g tm = some true) (hx:ev tm x = .ref p o) (hb:bx[p]? = some cs) (hn:o + n <= cs.length) (hv:ldv ag ((cs.drop o).take n) = some v)
  (h:po E r K ⟨up d v tm,bx,nt,live⟩):po E (⟨some d,.load ag n x,g,c⟩ :: r) K ⟨tm,bx,nt,live⟩:=by
 refine po_q hg ?_ h;simp only [qf,hx,hb,if_pos hn,hv]
theorem zaz {n t p t2:Nat} {cs:List PC} {v:PV} (ht:tm t = .ref p 0) (hb:bx[p]? = some cs) (hn:cs.length = n) (h2:tm t2 = v):ressM ⟨tm,bx,nt,live⟩ [.cell true n t,.tm t2] = some [.ag cs,v]:=by
 simp only [ressM,resM,ht,hb,Nat.zero_add,drop_zero,ldv,hn,Nat.le_refl,if_true,h2];rw [<- hn,take_length]
end
end
section
def okB:PC -> Prop
 | .row _ _ _ => True
 | c => c.lw 0
theorem okB_of {c:PC} (h:c.lw 0):okB c:=by
 cases c with
 | row p l c => trivial
 | _ => exact h
open Classical in
noncomputable def PC.shB (k:Nat) (c:PC):PC:=if okB c then (match c with | .row p l c => .row (p + k) l c | c => c) else .anyp
theorem shB_row (k p l c:Nat):PC.shB k (.row p l c) = .row (p + k) l c:=if_pos trivial
theorem zcT {k:Nat} {c:PC} (h:c.lw 0):c.shB k = c:=by
 unfold PC.shB;rw [if_pos (okB_of h)]
 cases c with
 | row p l c => exact absurd h (Nat.not_lt_zero p)
 | _ => rfl
theorem zfY {k:Nat}:∀ {cs:List PC},lwL 0 cs -> cs.map (PC.shB k) = cs
 | [],_ => rfl
 | c :: cs,h => by rw [map_cons,zcT h.1,zfY h.2]
mutual
noncomputable def PV.shB (k:Nat):PV -> PV
 | .d c => .d (c.shB k)
 | .ag cs => .ag (cs.map (PC.shB k))
 | .tup vs => .tup (shBs k vs)
 | .ref p o => .ref (p + k) o
 | .pt cs => .pt (cs.map (PC.shB k))
 | .fn f vs => .fn f (shBs k vs)
 | .raw v => .raw v
noncomputable def shBs (k:Nat):List PV -> List PV
 | [] => []
 | v :: vs => PV.shB k v :: shBs k vs
end
theorem zc6 (k:Nat):∀ vs:List PV,shBs k vs = vs.map (PV.shB k)
 | [] => rfl
 | v :: vs => by simp only [shBs,map_cons,zc6 k vs]
section
variable {C:Cx} {w:World} {k n:Nat} {f:Nat -> Nat}
theorem rp_shB {c:PC} {v:Value} (h:RpC C w c v) (hf:∀ p,p < C.nb -> p + k < n /\ f (p + k) = C.bx p):RpC (C.reb n f) w (c.shB k) v:=by
 unfold PC.shB;by_cases ho:okB c
 ·rw [if_pos ho]
  cases c with
  | row p l c => cases h with
   | row _ _ _ h1 h2 h3 =>
    obtain ⟨a1,a2⟩:=hf p h1
    have:=RpC.row (C:=C.reb n f) (w:=w) (p + k) l c a1 h2 h3
    rw [show (C.reb n f).bx (p + k) = C.bx p from a2] at this; exact this
  | v x => exact RpC.reb (c:=.v x) h ho
  | sl t es => exact RpC.reb (c:=.sl t es) h ho
  | anyp => exact RpC.reb (c:=.anyp) h ho
  | bld p T t U => exact absurd ho (Nat.not_lt_zero p)
 ·rw [if_neg ho]; exact .anyp v h.one
theorem rpL_shB {cs:List PC} {vs:List Value} (h:RpL C w cs vs) (hf:∀ p,p < C.nb -> p + k < n /\ f (p + k) = C.bx p):RpL (C.reb n f) w (cs.map (PC.shB k)) vs:=by
 refine ⟨by rw [length_map]; exact h.1,fun j c y h1 h2 => ?_⟩;rw [getElem?_map] at h1
 cases hj:cs[j]? with
 | none => rw [hj] at h1; cases h1
 | some c0 =>
  rw [hj] at h1; simp only [Option.map_some,sI] at h1; subst h1
  exact rp_shB (h.2 j c0 y hj h2) hf
theorem rpV_shB {x:PV} {v:Value} (h:RpV C w x v) (hf:∀ p,p < C.nb -> p + k < n /\ f (p + k) = C.bx p):RpV (C.reb n f) w (x.shB k) v:=by
 have conv:∀ (xs:List PV) (vs:List Value),(∀ (j:Nat) (x:PV) (y:Value),xs[j]? = some x -> vs[j]? = some y -> RpV (C.reb n f) w (x.shB k) y) -> ∀ (j:Nat) (x:PV) (y:Value),(shBs k xs)[j]? = some x -> vs[j]? = some y -> RpV (C.reb n f) w x y:=by
  intro xs vs ih j x y h1 h2;rw [zc6,getElem?_map] at h1
  cases hj:xs[j]? with
  | none => rw [hj] at h1; cases h1
  | some c0 =>
   rw [hj] at h1; simp only [Option.map_some,sI] at h1; subst h1
   exact ih j c0 y hj h2
 induction h with
 | d x v h => exact .d _ v (rp_shB h hf)
 | ag cs vs h => exact .ag _ vs (rpL_shB h hf)
 | tup xs vs hl _ ih => exact .tup _ vs (by rw [zc6,length_map]; exact hl) (conv xs vs ih)
 | raw v => exact .raw v
 | ref p o h =>
  obtain ⟨a1,a2⟩:=hf p h
  have:=RpV.ref (C:=C.reb n f) (w:=w) (p + k) o a1
  rw [show (C.reb n f).bx (p + k) = C.bx p from a2] at this; exact this
 | pt cs b o u hc hF h =>
  refine .pt _ b o u (fun j hj => hc j (by simpa using hj)) (fun j hj => hF j (by simpa using hj)) fun j c hj => ?_
  rw [getElem?_map] at hj
  cases hh:cs[j]? with
  | none => rw [hh] at hj; cases hj
  | some c0 =>
   rw [hh] at hj; simp only [Option.map_some,sI] at hj; subst hj
   exact rp_shB (h j c0 hh) hf
 | fn f xs vs hl h ih => exact .fn f _ vs (by rw [zc6,length_map]; exact hl) (conv xs vs ih)
end
theorem FnG.liftR {E:Env} {f:Nat} {args:List PV} {nt:Nat} {live:List Nat} {R:PV -> LP PC -> Nat -> List Nat -> Prop}
  (h:FnG E f args [] nt live R) (ha:lwVs 0 args) {bx:LP PC} :
  FnG E f args bx nt live (fun x b n l => ∃ x0 b0,x = x0.shB bx.length /\ b = bx ++ b0.map (·.map (PC.shB bx.length)) /\ R x0 b0 n l):=by
 intro C w vs hI hnt hold hn2 hlen hv;have hnb:=hI.nb
 have hI1:Inv E.NG E.T (C.reb 0 fun _ => 0) [] (· ∈ live) w:=by
  refine ⟨rfl,fun q cs hq => by simp at hq,fun q hq => by simp at hq,fun q hq => by simp at hq,fun q r hq => by simp at hq,fun t ht => ?_,hI.tinj,hI.fin,hI.ng,hI.t⟩;obtain ⟨a1,a2,a3⟩:=hI.tok t ht;refine ⟨a1,a2,a3.imp id ?_⟩;rintro ⟨b,cur,e,c1,c2,c3,c4,c5,c6,c7,c8,c9,c10⟩;exact ⟨b,cur,e,c1,c2,c3,c4,c5,c6,c7,c8,c9,fun q hq => by simp at hq⟩
 have hv1:∀ (j:Nat) (x:PV) (y:Value),args[j]? = some x -> vs[j]? = some y -> RpV (C.reb 0 fun _ => 0) w x y:=fun j x y hx hy => (hv j x y hx hy).reb (zcv j x ha hx)
 refine (h (C.reb 0 fun _ => 0) w vs hI1 hnt hold hn2 hlen hv1).mono ?_;rintro e w' ⟨u,x,b,n,l,C1,rfl,k3,I1,hn,E1,hx⟩;have hn1:=I1.nb;obtain ⟨g,hg⟩:∃ g:Nat -> Nat,g = fun p => if p < bx.length then C.bx p else C1.bx (p - bx.length):=⟨_,rfl⟩
 have g0:∀ p,p < bx.length -> g p = C.bx p:=fun p hp => by rw [hg]; exact if_pos hp
 have g1:∀ p,g (p + bx.length) = C1.bx p:=fun p => by rw [hg]; show (if p + bx.length < bx.length then _ else _) = _; rw [if_neg (by omega),Nat.add_sub_cancel]
 have hle:CxLe C (C1.reb (bx.length + b.length) g):=⟨E1.F,by show C.nb <= bx.length + b.length; omega,fun p hp => g0 p (by omega),E1.tk.1,E1.tk.2⟩;have hF:Fix C w w':=E1.fix;have hsh:∀ p,p < C1.nb -> p + bx.length < bx.length + b.length /\ g (p + bx.length) = C1.bx p:=fun p hp => ⟨by omega,g1 p⟩
 have hnotok:∀ q,q < bx.length -> ∀ t,t ∈ live -> C.tk t ≠ some (C.bx q):=by
  intro q hq t ht he;obtain ⟨_,_,⟨z,_⟩ | ⟨b,cur,e,c1,c2,c3,c4,c5,c6,c7,c8,c9,c10⟩⟩:=hI.tok t ht
  ·rw [he] at z; cases z
  ·rw [he] at c1; simp only [sI] at c1; subst c1; exact c10 q hq rfl
 have hold2:∀ t,(C.reb 0 fun _ => 0).old t -> t ∈ live:=fun t ht => by
  have:C.old t:=ht
  rw [hold] at this; exact this
 have hnewB:∀ p,p < b.length -> w.heap.size <= C1.bx p:=fun p hp => E1.newB p (Nat.zero_le _) hp
 have split:∀ q,q < (bx ++ b.map (·.map (PC.shB bx.length))).length -> q < bx.length \/ ∃ p,p < b.length /\ q = p + bx.length:=fun q hq => by
  rw [length_append,length_map] at hq
  rcases Nat.lt_or_ge q bx.length with h' | h'
  ·exact .inl h'
  ·exact .inr ⟨q - bx.length,by omega,by omega⟩
 refine ⟨u,x.shB bx.length,bx ++ b.map (·.map (PC.shB bx.length)),n,l,C1.reb (bx.length + b.length) g,rfl,⟨x,b,rfl,rfl,k3⟩,?_,hn,?_,rpV_shB hx hsh⟩
 ·refine ⟨by rw [length_append,length_map]; rfl,fun q cs hq => ?_,fun q hq o hFo => ?_,fun q hq => ?_,fun p q hp hq he => ?_,fun t ht => ?_,I1.tinj,I1.fin,I1.ng,I1.t⟩
  ·have hlt:q < (bx ++ b.map (·.map (PC.shB bx.length))).length:=by
    rcases Nat.lt_or_ge q (bx ++ b.map (·.map (PC.shB bx.length))).length with h' | h'
    ·exact h'
    ·rw [getElem?_eq_none h'] at hq; cases hq
   rcases split q hlt with hql | ⟨p,hp,rfl⟩
   ·rw [getElem?_append_left hql] at hq
    obtain ⟨vs,e,h1,h2⟩:=hI.box q cs hq;refine ⟨vs,e,?_,h2.frame hle hF⟩;show w'.heap[g q]? = _;rw [g0 q hql];exact (E1.block (C.bx q) (zao h1) (fun r hr => by simp [Cx.reb] at hr) (fun t ht he => hnotok q hql t (hold2 t ht) he)).trans h1
   ·rw [getElem?_append_right (by omega),Nat.add_sub_cancel,getElem?_map] at hq
    cases hb:b[p]? with
    | none => rw [hb] at hq; cases hq
    | some c0 =>
     rw [hb] at hq; simp only [Option.map_some,sI] at hq; subst hq
     obtain ⟨vs,e,h1,h2⟩:=I1.box p c0 hb;refine ⟨vs,e,?_,rpL_shB h2 hsh⟩;show w'.heap[g (p + bx.length)]? = _;rw [g1]; exact h1
  ·have hFo:C1.F (g q) o:=hFo
   rcases split q hq with hql | ⟨p,hp,rfl⟩
   ·rw [g0 q hql] at hFo
    rcases E1.newF (C.bx q) o hFo with h1 | h1 | ⟨s,h1,h2⟩
    ·exact hI.boxF q hql o h1
    ·have:=hI.lt hql; omega
    ·exact hnotok q hql s (hold2 s h1) h2
   ·rw [g1] at hFo; exact I1.boxF p hp o hFo
  ·show E.NG <= g q
   rcases split q hq with hql | ⟨p,hp,rfl⟩
   ·rw [g0 q hql]; exact hI.boxG q hql
   ·rw [g1]; exact I1.boxG p hp
  ·have he:g p = g q:=he
   rcases split p hp with hpl | ⟨p',hp',rfl⟩ <;> rcases split q hq with hql | ⟨q',hq',rfl⟩
   ·rw [g0 p hpl,g0 q hql] at he; exact hI.inj p q hpl hql he
   ·rw [g0 p hpl,g1] at he; have:=hI.lt hpl; have:=hnewB q' hq'; omega
   ·rw [g0 q hql,g1] at he; have:=hI.lt hql; have:=hnewB p' hp'; omega
   ·rw [g1,g1] at he; rw [I1.inj p' q' hp' hq' he]
  ·obtain ⟨a1,a2,a3⟩:=I1.tok t ht
   refine ⟨a1,a2,a3.imp id ?_⟩;rintro ⟨b',cur,e,c1,c2,c3,c4,c5,c6,c7,c8,c9,c10⟩;refine ⟨b',cur,e,c1,c2,c3,c4,c5,c6,c7,c8,c9,fun q hq he => ?_⟩;have he:g q = b':=he
   rcases split q hq with hql | ⟨p,hp,rfl⟩
   ·rw [g0 q hql] at he
    rcases E1.newT t b' ht c1 with h1 | ⟨s,h1,h2⟩
    ·have:=hI.lt hql; omega
    ·exact hnotok q hql s (hold2 s h1) (by rw [he]; exact h2)
   ·rw [g1] at he; exact c10 p hp he
 ·refine ⟨E1.os,E1.tape,E1.output,E1.size,E1.F,E1.fix,fun k hk hne ho => E1.block k hk (fun r hr => by simp [Cx.reb] at hr) ho,⟨hle.nb,hle.bx⟩,E1.newF,E1.newT,fun q hq hq2 => ?_,E1.tk⟩
  rcases split q hq2 with hql | ⟨p,hp,rfl⟩
  ·omega
  ·show w.heap.size <= g (p + bx.length)
   rw [g1]; exact hnewB p hp
def RwAt (n lo:Nat) (live:List Nat) (c:PC) (bx:LP PC) (cells:List PC):Prop :=
 lo <= bx.length /\ ((∃ t,c = .sl t [] /\ (t = 1 \/ t ∈ live) /\ cells = []) \/ ∃ p len cap z,c = .row p len cap /\ lo <= p /\ bx[p]? = some z /\ z.length = n * cap /\ len <= cap /\ cells = z.take (n * len))
theorem RwAt.row {n lo:Nat} {live:List Nat} {c:PC} {bx:LP PC} {cells:List PC} (h:RwAt n lo live c bx cells) (hne:cells ≠ []):∃ p len cap z,c = .row p len cap /\ lo <= p /\ bx[p]? = some z /\ z.length = n * cap /\ len <= cap /\ cells = z.take (n * len) /\ cells.length = n * len:=by
 rcases h.2 with ⟨t,_,_,h⟩ | ⟨p,len,cap,z,h1,h2,h3,h4,h5,h6⟩
 ·exact absurd h hne
 ·exact ⟨p,len,cap,z,h1,h2,h3,h4,h5,h6,by rw [h6,length_take,h4]; exact Nat.min_eq_left (Nat.mul_le_mul_left _ h5)⟩
theorem RwAt.mono {n lo:Nat} {live live':List Nat} {c:PC} {bx:LP PC} {cells:List PC} (h:RwAt n lo live c bx cells) (hl:∀ t ∈ live,t ∈ live'):RwAt n lo live' c bx cells :=
 ⟨h.1,h.2.imp (fun ⟨t,a,b,c⟩ => ⟨t,a,b.imp id (hl t),c⟩) id⟩
theorem RwAt.cong {n lo:Nat} {live:List Nat} {c:PC} {bx bx':LP PC} {cells:List PC} (h:RwAt n lo live c bx cells) (h1:bx.length <= bx'.length) (hb:∀ q,lo <= q -> q < bx.length -> bx'[q]? = bx[q]?):RwAt n lo live c bx' cells :=
 ⟨Nat.le_trans h.1 h1,h.2.imp id fun ⟨p,len,cap,z,a1,a2,a3,a4⟩ => ⟨p,len,cap,z,a1,a2,by
  rw [hb p a2 (by
   rcases Nat.lt_or_ge p bx.length with h' | h'
   ·exact h'
   ·rw [getElem?_eq_none h'] at a3; cases a3)]; exact a3,a4⟩⟩
theorem RwAt.shB {n lo k:Nat} {live:List Nat} {c:PC} {b bx:LP PC} {cells:List PC} (h:RwAt n lo live c b cells) (hl:lwL 0 cells) (hk:bx.length = k):RwAt n (lo + k) live (c.shB k) (bx ++ b.map (·.map (PC.shB k))) cells:=by
 refine ⟨by rw [length_append,length_map]; have:=h.1; omega,?_⟩
 rcases h.2 with ⟨t,rfl,h1,h2⟩ | ⟨p,len,cap,z,rfl,h2,h3,h4,h5,h6⟩
 ·exact .inl ⟨t,zcT (by show lwLL 0 []; trivial),h1,h2⟩
 ·refine .inr ⟨p + k,len,cap,z.map (PC.shB k),shB_row _ _ _ _,by omega,?_,by rw [length_map]; exact h4,h5,?_⟩
  ·rw [getElem?_append_right (by omega),hk,Nat.add_sub_cancel,getElem?_map,h3]; rfl
  ·rw [<- map_take,<- h6,zfY hl]
theorem RwAt.app {n lo len cap p p' cap':Nat} {live:List Nat} {z:List PC} {bx bx':LP PC} {ds:LP PC} (hp:lo <= p) (hlo:lo <= bx.length) (hz:bx[p]? = some z /\ z.length = n * cap /\ len <= cap \/ p = bx.length /\ z = [] /\ len = 0 /\ cap = 0) (hds:∀ e ∈ ds,e.length = n) (hd0:ds ≠ [])
  (h:AppB n len cap z ds p bx p' cap' bx'):RwAt n lo live (.row p' (len + ds.length) cap') bx' (z.take (n * len) ++ ds.flatten) /\ ∀ q,q < lo -> bx'[q]? = bx[q]?:=by
 have hfl:ds.flatten.length = n * ds.length:=zaI hds
 have hpos:0 < ds.length:=by
  rcases Nat.eq_zero_or_pos ds.length with h | h
  ·exact absurd (eq_nil_of_length_eq_zero h) hd0
  ·exact h
 have htk:(z.take (n * len)).length = n * len:=by
  rw [length_take]
  rcases hz with ⟨_,h1,h2⟩ | ⟨_,rfl,rfl,_⟩
  ·rw [h1]; exact Nat.min_eq_left (Nat.mul_le_mul_left _ h2)
  ·simp
 have hlen:(z.take (n * len) ++ ds.flatten).length = n * (len + ds.length):=by rw [length_append,htk,hfl,Nat.mul_add]
 rcases h with ⟨rfl,rfl,h3,rfl⟩ | ⟨rfl,h3,r,hr,rfl⟩
 ·rcases hz with ⟨h1,h2,h4⟩ | ⟨_,_,h5,h6⟩
  ·have hplt:p' < bx.length:=by
    rcases Nat.lt_or_ge p' bx.length with h' | h'
    ·exact h'
    ·rw [getElem?_eq_none h'] at h1; cases h1
   have hfit:n * len + n * ds.length <= z.length:=by rw [h2,<- Nat.mul_add]; exact Nat.mul_le_mul_left _ h3
   have hspl:spl z (n * len) ds.flatten = z.take (n * len) ++ ds.flatten ++ z.drop (n * len + ds.flatten.length):=rfl;refine ⟨⟨by rw [length_set]; exact hlo,.inr ⟨p',_,cap',spl z (n * len) ds.flatten,rfl,hp,getElem?_set_self hplt,by rw [spl_len (by rw [hfl]; exact hfit)]; exact h2,h3,?_⟩⟩,fun q hq => getElem?_set_ne (by omega)⟩;rw [hspl]; exact (take_left' hlen).symm
  ·omega
 ·refine ⟨⟨by rw [length_append]; omega,.inr ⟨bx.length,_,cap',_,rfl,hlo,zaQ _ _,?_,h3,?_⟩⟩,fun q hq => getElem?_append_left (by omega)⟩
  ·rw [length_append,hlen,hr,<- Nat.mul_add]; congr 1; omega
  ·exact (take_left' hlen).symm
section
variable {E:Env} {K:St -> Prop} {tm:Nat -> PV} {bx:LP PC} {nt d:Nat} {live:List Nat} {r:List MOpr} {g:Option (Nat × Bool)} {cc:List X} {x y:X} {n lo:Nat} {c:PC} {cells:List PC} {lv:List Nat}
theorem po_lenR {k:Nat} (hR:RwAt n lo lv c bx cells) (hn:cells.length = n * k) (hpos:0 < n) (hg:gd g tm = some true) (hx:ev tm x = .d c) (h:po E r K ⟨up d (.d (pI k)) tm,bx,nt,live⟩):po E (⟨some d,.len x,g,cc⟩ :: r) K ⟨tm,bx,nt,live⟩:=by
 refine po_q hg ?_ h
 rcases hR.2 with ⟨t,rfl,_,rfl⟩ | ⟨p,len,cap,z,rfl,h2,h3,h4,h5,h6⟩
 ·have:k = 0:=by
   rcases Nat.eq_zero_or_pos k with h | h
   ·exact h
   ·have:=Nat.mul_pos hpos h; simp at hn; omega
  subst this;simp only [qf,hx]; rfl
 ·have:n * len = n * k:=by rw [<- hn,h6,length_take,h4]; exact (Nat.min_eq_left (Nat.mul_le_mul_left _ h5)).symm
  have:len = k:=Nat.eq_of_mul_eq_mul_left hpos this
  subst this;simp only [qf,hx]; rfl
theorem po_ixR {kk:IntKind} {j:Int} {i:Nat} (hR:RwAt n lo lv c bx cells) (_hpos:0 < n) (hj:j = i) (hi:n * i < cells.length) (hg:gd g tm = some true) (hx:ev tm x = .d c) (hy:ev tm y = .d (.v (.int kk j)))
  (h:∀ p len cap z,c = .row p len cap -> lo <= p -> bx[p]? = some z -> z.length = n * cap -> len <= cap -> cells = z.take (n * len) -> i < len -> n * i + n <= z.length -> po E r K ⟨up d (.ref p (n * i)) tm,bx,nt,live⟩):po E (⟨some d,.ix n x y,g,cc⟩ :: r) K ⟨tm,bx,nt,live⟩:=by
 subst hj;obtain ⟨p,len,cap,z,e1,h2,h3,h4,h5,h6,h7⟩:=hR.row (fun h => by rw [h] at hi; simp at hi);have hil:i < len:=by rw [h7] at hi; exact Nat.lt_of_mul_lt_mul_left hi
 refine po_q hg ?_ (h p len cap z e1 h2 h3 h4 h5 h6 hil (by rw [h4,<- Nat.mul_succ]; exact Nat.mul_le_mul_left _ (by omega)));simp only [qf,hx,e1,hy];rw [if_pos ⟨by omega,by rw [Int.toNat_natCast]; exact hil⟩,Int.toNat_natCast]
theorem zfZ {k t' m:Nat} {ds:LP PC} (hR:RwAt n lo live c bx cells) (hd0:ds ≠ []) (hn:cells.length = n * m) (hpos:0 < n) (hl:m + ds.length <= 4294967296) (hd:∀ e ∈ ds,e.length = n) (hx:ev tm x = .d c) (hy:ev tm y = .d (.sl t' ds))
  (h:∀ c' bx',RwAt n lo live c' bx' (cells ++ ds.flatten) -> (∀ q,q < lo -> bx'[q]? = bx[q]?) -> po E r K ⟨up d (.d c') tm,bx',nt,live⟩):po E (⟨some d,.app n x y,none,[.f k]⟩ :: r) K ⟨tm,bx,nt,live⟩:=by
 rcases hR.2 with ⟨t,rfl,h1,rfl⟩ | ⟨p,len,cap,z,rfl,h2,h3,h4,h5,h6⟩
 ·refine po_appN hx hy h1 hd0 (by omega) hd fun p' cap' bx' hA => ?_
  obtain ⟨a1,a2⟩:=RwAt.app (live:=live) hR.1 hR.1 (.inr ⟨rfl,rfl,rfl,rfl⟩) hd hd0 hA;rw [Nat.mul_zero,take_zero] at a1;exact h _ _ a1 a2
 ·have:n * len = n * m:=by rw [<- hn,h6,length_take,h4]; exact (Nat.min_eq_left (Nat.mul_le_mul_left _ h5)).symm
  have:len = m:=Nat.eq_of_mul_eq_mul_left hpos this
  refine po_appB hx hy h3 h4 hd0 (by omega) hd fun p' cap' bx' hA => ?_
  obtain ⟨a1,a2⟩:=RwAt.app (live:=live) h2 hR.1 (.inl ⟨h3,h4,h5⟩) hd hd0 hA;rw [<- h6] at a1;exact h _ _ a1 a2
end
end
section
end
section
structure NR (nt:Nat) (live:List Nat) (n:Nat) (l:List Nat) (cs:List PC):Prop where
 own:ownedL cs = true
 nd:(toksL cs).Nodup
 mem:∀ t ∈ toksL cs,nt <= t /\ t < n /\ t ∈ l
 keep:∀ t ∈ live,2 <= t -> t < nt -> t ∈ l
 le:nt <= n
theorem NR.refl (nt:Nat) (live:List Nat):NR nt live nt live []:=⟨rfl,nodup_nil,fun t h => (by cases h),fun t h _ _ => h,lR⟩
theorem NR.trans {nt n1 n2:Nat} {live l1 l2:List Nat} {a b:List PC} (h:NR nt live n1 l1 a) (k:NR n1 l1 n2 l2 b):NR nt live n2 l2 (a ++ b):=by
 refine ⟨by rw [zaO,h.own,k.own]; rfl,?_,fun t ht => ?_,fun t ht h2 hlt => k.keep t (h.keep t ht h2 hlt) h2 (by have:=h.le; omega),Nat.le_trans h.le k.le⟩
 ·rw [zaE]
  refine nodup_append.2 ⟨h.nd,k.nd,fun x hx y hy e => ?_⟩;subst e
  have:=h.mem x hx; have:=k.mem x hy; omega
 ·rw [zaE] at ht
  rcases mem_append.1 ht with ht | ht
  ·obtain ⟨a1,a2,a3⟩:=h.mem t ht
   exact ⟨a1,by have:=k.le; omega,k.keep t a3 (zbB _ t ht) a2⟩
  ·obtain ⟨a1,a2,a3⟩:=k.mem t ht
   exact ⟨by have:=h.le; omega,a2,a3⟩
theorem NR.plain {nt n:Nat} {live l:List Nat} {cs ds:List PC} (h:NR nt live n l cs) (ho:ownedL ds = true) (ht:toksL ds = toksL cs):NR nt live n l ds:=⟨ho,by rw [ht]; exact h.nd,fun t h' => h.mem t (by rw [ht] at h'; exact h'),h.keep,h.le⟩
theorem NR.mono {nt n n':Nat} {live l l':List Nat} {cs:List PC} (h:NR nt live n l cs) (hn:n <= n') (hl:∀ t ∈ l,2 <= t -> t < n -> t ∈ l'):NR nt live n' l' cs :=
 ⟨h.own,h.nd,fun t ht => by obtain ⟨a,b,c⟩:=h.mem t ht; exact ⟨a,by omega,hl t c (zbB _ t ht) b⟩,fun t ht h2 hlt => hl t (h.keep t ht h2 hlt) h2 (by have:=h.le; omega),Nat.le_trans h.le hn⟩
theorem zbC:∀ es:LP PC,toksLL es = toksL es.flatten
 | [] => rfl
 | e :: es => by rw [toksLL,flatten_cons,zaE,zbC es]
theorem zbS:∀ es:LP PC,ownedLL es = ownedL es.flatten
 | [] => rfl
 | e :: es => by rw [ownedLL,flatten_cons,zaO,zbS es]
theorem NR.lit {nt n:Nat} {live l:List Nat} {es:LP PC} (h2:2 <= nt) (h:NR nt live n l es.flatten):NR nt live (n + 1) (n :: l) [.sl n es]:=by
 have hn:=h.le;refine ⟨?_,?_,fun t ht => ?_,fun t ht a b => mem_cons_of_mem _ (h.keep t ht a b),by omega⟩
 ·rw [ownedL,zdu (by omega),zbS,h.own]; rfl
 ·rw [toksL,zc3 (by omega),zbC]
  simp only [toksL,append_nil];exact nodup_cons.2 ⟨fun hm => by have:=h.mem n hm; omega,h.nd⟩
 ·rw [toksL,zc3 (by omega),zbC] at ht
  simp only [toksL,append_nil] at ht
  rcases mem_cons.1 ht with rfl | ht
  ·exact ⟨hn,by omega,mem_cons_self ..⟩
  ·obtain ⟨a,b,c⟩:=h.mem t ht
   exact ⟨a,by omega,mem_cons_of_mem _ c⟩
theorem NR.app {nt n t:Nat} {live l:List Nat} {a b:List PC} {rows ds:LP PC} (h2:2 <= nt) (ht:t = 1 /\ rows = [] \/ 2 <= t) (h:NR nt live n l (a ++ .sl t rows :: b ++ ds.flatten)) :
  NR nt live (n + 1) (n :: l.filter (· != t)) (a ++ .sl n (rows ++ ds) :: b):=by
 have hn:=h.le;obtain ⟨o1,o2,o3,o4,_⟩:=h
 have hO:ownedL a = true /\ ownedLL rows = true /\ ownedL b = true /\ ownedL ds.flatten = true:=by
  rw [zaO,zaO,ownedL] at o1;simp only [Bool.and_eq_true] at o1;refine ⟨o1.1.1,?_,o1.1.2.2,o1.2⟩
  rcases ht with ⟨_,rfl⟩ | ht
  ·rfl
  ·rw [zdu ht] at o1; exact o1.1.2.1
 have hT:∃ L,toksL (a ++ .sl t rows :: b ++ ds.flatten) = toksL a ++ ((L ++ toksLL rows) ++ toksL b) ++ toksL ds.flatten /\ (2 <= t -> t ∈ L):=by
  rcases ht with ⟨rfl,rfl⟩ | ht
  ·exact ⟨[],by rw [zaE,zaE,toksL]; rfl,fun h => by omega⟩
  ·exact ⟨[t],by rw [zaE,zaE,toksL,zc3 ht]; rfl,fun _ => by simp⟩
 obtain ⟨L,hT,hL⟩:=hT;rw [hT] at o2 o3
 have hne:∀ x,x ∈ toksL a \/ x ∈ toksLL rows \/ x ∈ toksL b \/ x ∈ toksL ds.flatten -> x ≠ t:=fun x hx e => by
  subst e
  have h2x:2 <= x:=by
   rcases hx with hx | hx | hx | hx
   ·exact zbB _ x hx
   ·exact toksLL_ge _ x hx
   ·exact zbB _ x hx
   ·exact zbB _ x hx
  have:=hL h2x
  simp only [nodup_append,mem_append] at o2
  rcases hx with hx | hx | hx | hx
  ·exact o2.1.2.2 x hx x (.inl (.inl this)) rfl
  ·exact o2.1.2.1.1.2.2 x this x hx rfl
  ·exact o2.1.2.1.2.2 x (.inl this) x hx rfl
  ·exact o2.2.2 x (.inr (.inl (.inl this))) x hx rfl
 have hmem:∀ x,x ∈ toksL a \/ x ∈ toksLL rows \/ x ∈ toksL b \/ x ∈ toksL ds.flatten -> nt <= x /\ x < n /\ x ∈ l:=fun x hx => o3 x (by
  simp only [mem_append]
  rcases hx with hx | hx | hx | hx
  ·exact .inl (.inl hx)
  ·exact .inl (.inr (.inl (.inr hx)))
  ·exact .inl (.inr (.inr hx))
  ·exact .inr hx)
 have eT:toksL (a ++ .sl n (rows ++ ds) :: b) = toksL a ++ (n :: (toksLL rows ++ toksL ds.flatten) ++ toksL b):=by
  rw [zaE,toksL,zc3 (by omega),zcs,zbC ds]
 refine ⟨?_,?_,fun x hx => ?_,fun x hx hx2 hlt => ?_,by omega⟩
 ·rw [zaO,ownedL,zdu (by omega),zb5,zbS ds,hO.1,hO.2.1,hO.2.2.1,hO.2.2.2]; rfl
 ·rw [eT]
  simp only [nodup_append,mem_append,nodup_cons,mem_cons,cons_append] at o2 ⊢;refine ⟨o2.1.1,⟨fun hx => ?_,⟨o2.1.2.1.1.2.1,o2.2.1,fun x hx y hy e => o2.2.2 x (.inr (.inl (.inr hx))) y hy e⟩,o2.1.2.1.2.1,fun x hx y hy e => ?_⟩,fun x hx y hy e => ?_⟩
  ·have:=hmem n (by rcases hx with (hx | hx) | hx <;> simp [hx]); omega
  ·rcases hx with hx | hx
   ·exact o2.1.2.1.2.2 x (.inr hx) y hy e
   ·exact o2.2.2 y (.inr (.inr hy)) x hx e.symm
  ·rcases hy with rfl | (hy | hy) | hy
   ·have:=hmem x (.inl hx); omega
   ·exact o2.1.2.2 x hx y (.inl (.inr hy)) e
   ·exact o2.2.2 x (.inl hx) y hy e
   ·exact o2.1.2.2 x hx y (.inr hy) e
 ·rw [eT] at hx
  simp only [mem_append,mem_cons,cons_append] at hx
  have old:x ∈ toksL a \/ x ∈ toksLL rows \/ x ∈ toksL b \/ x ∈ toksL ds.flatten -> nt <= x /\ x < n + 1 /\ x ∈ n :: l.filter (· != t):=fun h => by
   obtain ⟨a1,a2,a3⟩:=hmem x h;exact ⟨a1,by omega,mem_cons_of_mem _ (mem_filter.2 ⟨a3,by simpa using hne x h⟩)⟩
  rcases hx with hx | rfl | (hx | hx) | hx
  ·exact old (.inl hx)
  ·exact ⟨hn,by omega,mem_cons_self ..⟩
  ·exact old (.inr (.inl hx))
  ·exact old (.inr (.inr (.inr hx)))
  ·exact old (.inr (.inr (.inl hx)))
 ·refine mem_cons_of_mem _ (mem_filter.2 ⟨o4 x hx hx2 hlt,?_⟩)
  simp only [bne_iff_ne,ne_eq];rintro rfl
  have:=o3 x (by have:=hL hx2; simp [this]); omega
theorem NR.lw {nt n k:Nat} {live l:List Nat} {cs:List PC} (h:NR nt live n l cs):lwL k cs:=zdw h.own
theorem po_gt {E:Env} {d:Nat} {k:Nat} {r:List MOpr} {K:St -> Prop} {tm:Nat -> PV} {bx:LP PC} {nt:Nat} {live:List Nat} {f:Nat} {xs:List X} {args:List PV} {g:Option (Nat × Bool)} {R:PV -> LP PC -> Nat -> List Nat -> Prop} (hg:gd g tm = some true) (hd:xs.map (ev tm) = args) (hF:FnG E f args bx nt live R)
  (h:∀ x bx' nt' live',R x bx' nt' live' -> po E r K ⟨up d x tm,bx',nt',live'⟩):po E (⟨some d,.call f xs,g,[.f k]⟩ :: r) K ⟨tm,bx,nt,live⟩:=by
 subst hd;refine ⟨true,hg,.inl ⟨rfl,.inr ⟨rfl,R,hF,fun x bx' nt' live' hR => ⟨fun y hy => by rw [mem_singleton] at hy; subst hy; exact zcE _ _ _ _,?_⟩⟩⟩⟩;rw [za1]; exact h x bx' nt' live' hR
/-! ### the cursor -/
/-! ### values that are drawn -/
def RowT (cs:List PC):Prop:=∃ (a b c d:PC) (t:Nat) (rows:LP PC),cs = [a,b,c,d,.sl t rows] /\ (t = 1 /\ rows = [] \/ 2 <= t)
end
section
theorem NR.up {nt n:Nat} {live l cs:_} (h:NR nt live n l cs):NR nt live (n + 1) (n :: l) cs:=h.mono (Nat.le_succ _) fun _t ht _ _ => mem_cons_of_mem _ ht
theorem NR.n2 {nt n:Nat} {live l cs:_} (h:NR nt live n l cs) (h2:2 <= nt):2 <= n:=Nat.le_trans h2 h.le
theorem zcw {E:Env} {d n:Nat} {x:X} {g:Option (Nat × Bool)} {lo hi:Option X} {c:List X} {r:List MOpr} {K:St -> Prop} {tm:Nat -> PV} {bx:LP PC} {nt:Nat} {live:List Nat} {t l h:Nat} {es rs:LP PC} (hg:gd g tm = some true) (hx:ev tm x = .d (.sl t es)) (hl:bound (ev tm) 0 lo = some l) (hh:bound (ev tm) es.length hi = some h) (hle:l <= h /\ h <= es.length) (hw:∀ e ∈ es,e.length = n) (hr:(es.drop l).take (h - l) = rs)
  (k:po E r K ⟨up d (.d (.sl 0 rs)) tm,bx,nt,live⟩):po E (⟨some d,.slc n x lo hi,g,c⟩ :: r) K ⟨tm,bx,nt,live⟩:=by
 refine po_q hg ?_ k;subst hr;simp only [qf,hx,hl,hh];rw [if_pos ⟨hle.1,hle.2,hw⟩]
theorem er_len {cs:List PC} {v:V} (h:erL cs = vC v):cs.length = 5:=by
 have:=congrArg length h
 rw [zaw,length_map] at this; exact this
theorem litP1 {e:X -> PV} {x:X} {a:List PC} {n:Nat} (hx:pcells (e x) = some a) (ha:a.length = n):litP e n [x] = some [a]:=by simp only [litP,hx,ha,if_true]
section
variable {E:Env} {K:St -> Prop} {tm:Nat -> PV} {bx:LP PC} {nt d:Nat} {live:List Nat} {r:List MOpr} {c:List X}
theorem zf0 {n:Nat} {xs:List X} {es:LP PC} (hq:litP (ev tm) n xs = some es) (h:po E r K ⟨up d (.d (.sl 0 es)) tm,bx,nt,live⟩):po E (⟨some d,.litq n xs,none,c⟩ :: r) K ⟨tm,bx,nt,live⟩ :=
 po_q rfl (by show (litP (ev tm) n xs).map _ = _; rw [hq]; rfl) h
end
theorem er_v {c:PC} {x:Value} (h:c.er = .v x):c = .v x:=by
 cases c <;> simp [PC.er] at h
 rw [h]
def vcs (k n e:Int) (s:L8) (t:Nat) (rows:LP PC):List PC:=[pI k,pI n,pI e,pS s,.sl t rows]
end
section
end
section
end
section
theorem zcx {n:Nat}:∀ (rows:LP PC) (i:Nat),(∀ e ∈ rows,e.length = n) -> rows.flatten.take (n * i) = (rows.take i).flatten
 | [],i,_ => by simp
 | e :: rows,0,_ => by simp
 | e :: rows,i + 1,h => by
  have he:=h e (by simp);rw [flatten_cons,take_append,he,take_of_length_le (by rw [he,Nat.mul_succ]; omega),show n * (i + 1) - n = n * i by rw [Nat.mul_succ]; omega,zcx rows i (fun x hx => h x (by simp [hx]))];rfl
theorem zbT {n:Nat}:∀ (rows:LP PC) (i:Nat),(∀ e ∈ rows,e.length = n) -> rows.flatten.drop (n * i) = (rows.drop i).flatten
 | [],i,_ => by simp
 | e :: rows,0,_ => by simp
 | e :: rows,i + 1,h => by
  have he:=h e (by simp);rw [flatten_cons,drop_append,he,drop_of_length_le (by rw [he,Nat.mul_succ]; omega),show n * (i + 1) - n = n * i by rw [Nat.mul_succ]; omega,zbT rows i (fun x hx => h x (by simp [hx]))];rfl
theorem flat_get {n:Nat} {rows:LP PC} (h:∀ e ∈ rows,e.length = n) {i j:Nat} {e:List PC} (hi:rows[i]? = some e) (hj:j < n):rows.flatten[n * i + j]? = e[j]?:=by
 have he:e.length = n:=h e (mem_of_getElem? hi);have hlt:i < rows.length:=(List.getElem?_eq_some_iff.1 hi).1;have h1:rows.flatten[n * i + j]? = (rows.flatten.drop (n * i))[j]?:=by rw [getElem?_drop]
 rw [h1,zbT rows i h,drop_eq_getElem_cons hlt,flatten_cons]
 have:rows[i] = e:=by rw [getElem?_eq_getElem hlt] at hi; exact Option.some.inj hi
 rw [this,getElem?_append_left (by omega)]
def RwL (n lo:Nat) (live:List Nat) (c:PC) (bx:LP PC) (rows:LP PC):Prop:=RwAt n lo live c bx rows.flatten /\ ∀ e ∈ rows,e.length = n
theorem RwL.len {n lo p len cap:Nat} {live:List Nat} {bx rows:LP PC} (hpos:0 < n) (h:RwL n lo live (.row p len cap) bx rows):∃ z,bx[p]? = some z /\ lo <= p /\ z.length = n * cap /\ len <= cap /\ rows.flatten = z.take (n * len) /\ rows.length = len:=by
 rcases h.1.2 with ⟨t,e,_⟩ | ⟨p',len',cap',z,e,h2,h3,h4,h5,h6⟩
 ·cases e
 ·simp only [PC.row.injEq] at e
  obtain ⟨rfl,rfl,rfl⟩:=e;refine ⟨z,h3,h2,h4,h5,h6,?_⟩;have h7:=congrArg length h6;rw [zaI h.2,length_take,h4,Nat.min_eq_left (Nat.mul_le_mul_left _ h5)] at h7;exact Nat.eq_of_mul_eq_mul_left hpos h7
theorem RwL.set {n lo p len cap i:Nat} {live:List Nat} {z e:List PC} {bx rows:LP PC} (hpos:0 < n) (hR:RwL n lo live (.row p len cap) bx rows) (hi:i < rows.length) (he:e.length = n) (hz:bx[p]? = some z) :
  RwL n lo live (.row p len cap) (bx.set p (spl z (n * i) e)) (rows.set i e):=by
 obtain ⟨z',h1,h2,h4,h5,h6,h7⟩:=hR.len hpos;rw [hz] at h1;simp only [sI] at h1; subst h1
 have hplt:p < bx.length:=by
  rcases Nat.lt_or_ge p bx.length with h' | h'
  ·exact h'
  ·rw [getElem?_eq_none h'] at hz; cases hz
 have hle:n * len <= n * cap:=Nat.mul_le_mul_left _ h5;have hin:n * i + n <= n * len:=by rw [<- Nat.mul_succ]; exact Nat.mul_le_mul_left _ (by omega)
 refine ⟨⟨by rw [length_set]; exact hR.1.1,.inr ⟨p,len,cap,_,rfl,h2,getElem?_set_self hplt,by rw [spl_len (by rw [he]; omega)]; exact h4,h5,?_⟩⟩,fun x hx => ?_⟩
 ·rw [set_eq_take_append_cons_drop,if_pos hi,flatten_append,flatten_cons,<- zcx rows i hR.2,<- zbT rows (i + 1) hR.2,h6]
  unfold spl;have l1:(z.take (n * i)).length = n * i:=by rw [length_take]; omega
  rw [append_assoc,take_append,l1,take_append,he,take_take,take_take,drop_take,Nat.min_eq_left (show n * i <= n * len by omega)];rw [Nat.min_eq_right (show n * i <= n * len by omega),take_of_length_le (l:=e) (by omega),show n * (i + 1) = n * i + n by rw [Nat.mul_succ],show n * len - n * i - n = n * len - (n * i + n) by omega]
 ·rcases mem_or_eq_of_mem_set hx with hx | rfl
  ·exact hR.2 x hx
  ·exact he
def RowG (bx:LP PC) (cs:List PC) (v:V):Prop :=
 erL cs = vC v \/ ∃ p len cap z rows,cs = [pI v.kind,pI v.num,pI v.exp,pS v.text,.row p len cap] /\ bx[p]? = some z /\ z.take (5 * len) = rows.flatten /\ (∀ e ∈ rows,e.length = 5) /\ rows.length = len /\ erLL rows = vK v.kids
theorem ze0 {E:Env} {C C':Cx} {w w':World} {bx:LP PC} {l:List Nat} {cs:List PC} {v:V} {vs:List Value} (hI:Inv E.NG E.T C [] (fun _ => False) w) (_hold:∀ t,¬ C.old t) (hJ:Inv E.NG E.T C' bx (· ∈ l) w') (hE:Ext C w C' bx.length (· ∈ l) w') (hG:RowG bx cs v) (hv:RpL C' w' cs vs) :
  ∃ C2,Inv E.NG E.T C2 [] (fun _ => False) w' /\ Ext C w C2 0 (fun _ => False) w' /\ RpL C2 w' (vC v) vs:=by
 have hnb0:C.nb = 0:=hI.nb
 have mk:∀ F2:Nat -> Nat -> Prop,(∀ b o,C'.F b o -> F2 b o) -> (∀ b o,F2 b o -> C'.F b o \/ ∃ p,p < bx.length /\ b = C'.bx p) -> ∃ C2:Cx,C2 = { C' with nb:=0,F:=F2 } /\ Inv E.NG E.T C2 [] (fun _ => False) w' /\ Ext C w C2 0 (fun _ => False) w':=by
  intro F2 h1 h2;refine ⟨_,rfl,?_,?_⟩
  ·exact ⟨rfl,fun q cs hq => by simp at hq,fun q hq => by simp at hq,fun q hq => by simp at hq,fun q r hq => by simp at hq,fun t ht => ht.elim,fun t s b ht => ht.elim,
    fun b o h => (h2 b o h).elim (hJ.fin b o) (fun ⟨p,hp,hb⟩ => by subst hb; obtain ⟨us,e,hh,_⟩:=hJ.box p _ (getElem?_eq_getElem hp); exact zao hh),hJ.ng,hJ.t⟩
  ·refine ⟨hE.os,hE.tape,hE.output,hE.size,fun b o h => h1 b o (hE.F b o h),hE.fix,hE.block,⟨by rw [hnb0]; exact lR,fun q hq => by rw [hnb0] at hq; omega⟩,fun b o h => ?_,fun t b ht => ht.elim,(fun q hq hq2 => by simp at hq2),hE.tk⟩
   rcases h2 b o h with h | ⟨p,hp,rfl⟩
   ·exact hE.newF b o h
   ·exact .inr (.inl (hE.newB p (by rw [hnb0]; exact Nat.zero_le _) hp))
 rcases hG with he | ⟨p,len,cap,z,rows,rfl,hz,hzt,hw,hrl,her⟩
 ·obtain ⟨C2,e2,i2,x2⟩:=mk C'.F (fun _ _ h => h) (fun _ _ h => .inl h)
  refine ⟨C2,i2,x2,?_⟩;rw [<- he];exact hv.toEr (fun b o h => by rw [e2]; exact h)
 have hp:p < bx.length:=by
  rcases Nat.lt_or_ge p bx.length with h | h
  ·exact h
  ·rw [getElem?_eq_none h] at hz; cases hz
 obtain ⟨us,e0,hh,hlen,hus⟩:=hJ.box p z hz
 have hzl:5 * len <= z.length:=by
  have:=congrArg length hzt
  rw [length_take,zaI hw,hrl] at this; omega
 have hcell:∀ i j,i < len -> j < 5 -> us[5 * i + j]? = some (us.getD (5 * i + j) undef):=fun i j hi hj => by
  have:5 * i + j < us.length:=by rw [hlen]; omega
  rw [getD_eq_getElem?_getD,getElem?_eq_getElem this]; rfl
 have hzc:∀ i j e y,rows[i]? = some e -> e[j]? = some y -> j < 5 -> z[5 * i + j]? = some y:=fun i j e y hi hy hj => by
  have hil:i < len:=by rw [<- hrl]; exact (List.getElem?_eq_some_iff.1 hi).1
  have h1:=flat_get hw hi hj;rw [<- hzt,getElem?_take,if_pos (by omega),hy] at h1;exact h1
 obtain ⟨C2,e2,i2,x2⟩:=mk (fun b o => C'.F b o \/ (b = C'.bx p /\ o < 5 * len)) (fun _ _ h => .inl h) (fun b o h => h.imp id fun h => ⟨p,hp,h.1⟩);refine ⟨C2,i2,x2,?_⟩;obtain ⟨hvl,hvc⟩:=hv;refine ⟨hvl,fun j c y hc hy => ?_⟩
 have hkl:len = v.kids.length:=by
  have:=congrArg length her
  rw [zas,length_map,zam] at this; omega
 match j with
 | 0 =>
  have h:=hvc 0 _ y rfl hy;simp only [vC,getElem?_cons_zero,sI] at hc; subst hc
  cases h with | v _ h => exact .v _ h
 | 1 =>
  have h:=hvc 1 _ y rfl hy;simp only [vC,getElem?_cons_succ,getElem?_cons_zero,sI] at hc; subst hc
  cases h with | v _ h => exact .v _ h
 | 2 =>
  have h:=hvc 2 _ y rfl hy;simp only [vC,getElem?_cons_succ,getElem?_cons_zero,sI] at hc; subst hc
  cases h with | v _ h => exact .v _ h
 | 3 =>
  have h:=hvc 3 _ y rfl hy;simp only [vC,getElem?_cons_succ,getElem?_cons_zero,sI] at hc; subst hc
  cases h with | v _ h => exact .v _ h
 | 4 =>
  have h:=hvc 4 _ y rfl hy;simp only [vC,getElem?_cons_succ,getElem?_cons_zero,sI] at hc; subst hc
  cases h with
  | row _ _ _ hpn hlc hcm =>
  have hra:RowAt C2 w' (C'.bx p) 0 5 (vK v.kids) (fun i j => us.getD (5 * i + j) undef):=by
   refine ⟨by decide,za7 _,fun i j hi hj => ?_,fun i j hi hj => ?_⟩
   ·rw [zam] at hi
    have h5:=hcell i j (by omega) hj
    have:0 + (5 * i + j) = 5 * i + j:=by omega
    rw [this];simp only [World.cell?,hh,getElem?_toArray,h5];rfl
   ·rw [zam] at hi
    rw [e2]; exact .inr ⟨rfl,by omega⟩
  have:=RpC.rd (C:=C2) (w:=w') (vK v.kids) (C'.bx p) 0 5 cap (fun i j => us.getD (5 * i + j) undef) (by rw [zam]; omega) hcm hra (fun i j e y he hy => by
   have hil:i < v.kids.length:=by have:=(List.getElem?_eq_some_iff.1 he).1; rw [zam] at this; exact this
   have hel:e.length = 5:=za7 _ e (mem_of_getElem? he);have hj:j < 5:=by have:=(List.getElem?_eq_some_iff.1 hy).1; omega
   rw [<- her,zas,getElem?_map] at he;obtain ⟨r,hr,rfl⟩:=Option.map_eq_some_iff.1 he;rw [zaw,getElem?_map] at hy;obtain ⟨q,hq,rfl⟩:=Option.map_eq_some_iff.1 hy;have h1:=hus (5 * i + j) q _ (hzc i j r q hr hq hj) (hcell i j (by omega) hj);exact h1.toEr (fun b o h => by rw [e2]; exact .inl h))
  rw [zam,<- hkl] at this
  exact this
 | j + 5 => simp [vC] at hc
theorem FnG.rowA {E:Env} {f:Nat} {args:List PV} {v:V} {ok:Bool} (h:FnG E f args [] 2 [] (fun x bx _ _ => ∃ cs,x = .tup [.ag cs,.d (pB ok)] /\ RowG bx cs v)):FnV E f args (.tup [.ag (vC v),.d (pB ok)]):=by
 intro C w vs hI hnt hold hl hv;have hI':Inv E.NG E.T C [] (· ∈ ([]:List Nat)) w:=⟨hI.nb,hI.box,hI.boxF,hI.boxG,hI.inj,(fun t ht => by cases ht),(fun t s b ht => by cases ht),hI.fin,hI.ng,hI.t⟩;have hold':C.old = (· ∈ ([]:List Nat)):=by funext t; exact propext ⟨fun h => (hold t h).elim,fun h => by cases h⟩
 refine (h C w vs hI' hnt hold' (Nat.le_refl 2) hl hv).mono ?_;rintro e w' ⟨u,x,bx,n,l,C',rfl,⟨cs,rfl,hR⟩,hJ,hn,hE,hx⟩
 match u,hx with
 | _,.tup _ [u0,u1] _ hx =>
  have h0:=hx 0 _ _ rfl rfl;have h1:=hx 1 _ _ rfl rfl
  cases h0 with
  | ag _ us h0 =>
  cases h1 with
  | d _ _ h1 =>
  cases h1 with
  | v _ hob =>
  obtain ⟨C2,i2,x2,r2⟩:=ze0 hI hold hJ hE hR h0;refine ⟨_,.tup [.ag (vC v),.d (pB ok)],[],fun _ => False,C2,rfl,congrArg (fun r => some (PV.tup [.ag r,.d (pB ok)])) (zai v),i2,x2,.tup _ [_,_] rfl fun j x y hx hy => ?_⟩
  match j with
  | 0 =>
   simp only [getElem?_cons_zero,sI] at hx hy
   subst hx; subst hy
   exact .ag _ _ r2
  | 1 =>
   simp only [getElem?_cons_succ,getElem?_cons_zero,sI] at hx hy
   subst hx; subst hy
   exact .d _ _ (.v _ hob)
  | j + 2 => simp at hx
theorem FnG.rowA1 {E:Env} {f:Nat} {args:List PV} {v:V} (h:FnG E f args [] 2 [] (fun x bx _ _ => ∃ cs,x = .ag cs /\ RowG bx cs v)):FnV E f args (.ag (vC v)):=by
 intro C w vs hI hnt hold hl hv;have hI':Inv E.NG E.T C [] (· ∈ ([]:List Nat)) w:=⟨hI.nb,hI.box,hI.boxF,hI.boxG,hI.inj,(fun t ht => by cases ht),(fun t s b ht => by cases ht),hI.fin,hI.ng,hI.t⟩;have hold':C.old = (· ∈ ([]:List Nat)):=by funext t; exact propext ⟨fun h => (hold t h).elim,fun h => by cases h⟩
 refine (h C w vs hI' hnt hold' (Nat.le_refl 2) hl hv).mono ?_;rintro e w' ⟨u,x,bx,n,l,C',rfl,⟨cs,rfl,hR⟩,hJ,hn,hE,hx⟩
 cases hx with
 | ag _ us h0 =>
 obtain ⟨C2,i2,x2,r2⟩:=ze0 hI hold hJ hE hR h0;exact ⟨_,.ag (vC v),[],fun _ => False,C2,rfl,congrArg (fun r => some (PV.ag r)) (zai v),i2,x2,.ag _ _ r2⟩
theorem RowG.of {n:Nat} {live:List Nat} {c:PC} {bx rows:LP PC} {v:V} (hR:RwL 5 n live c bx rows) (h:erLL rows = vK v.kids):RowG bx [pI v.kind,pI v.num,pI v.exp,pS v.text,c] v:=by
 rcases hR.1.2 with ⟨t,rfl,_,h0⟩ | ⟨p,len,cap,z,rfl,h2,h3,h4,h5,h6⟩
 ·have hr:rows = []:=by
   match rows,h0,hR.2 with
   | [],_,_ => rfl
   | e :: rs,h0,hw =>
    have:=hw e (by simp)
    simp only [flatten_cons,List.append_eq_nil_iff] at h0;rw [h0.1] at this; simp at this
  subst hr;refine .inl ?_;show [pI v.kind,pI v.num,pI v.exp,pS v.text,.sl 0 []] = _;have hk:vK v.kids = []:=h.symm;unfold vC; rw [hk]
 ·obtain ⟨_,_,_,_,_,_,h7⟩:=hR.len (by decide)
  exact .inr ⟨p,len,cap,z,rows,rfl,h3,h6.symm,hR.2,h7,h⟩
end
section
def RwOut (C:Cx) (bx:LP PC) (w w':World) (u:Value) (S:PC -> LP PC -> Prop):Prop :=
 (u = .slice none 0 0 /\ w'.heap = w.heap /\ S (.sl 1 []) bx) \/
 (∃ (p:Nat) (z:List PC) (us:List Value) (len cap:Nat) (e0:TypeId),p < bx.length /\ u = .slice (some ⟨C.bx p,0,none⟩) len cap /\ len <= cap /\ cap <= maxLen /\ w'.heap[C.bx p]? = some (.cells us.toArray e0 (0,0)) /\ (∀ T cs0,w.heap[C.bx p]? = some (.cells cs0 T (0,0)) -> e0 = T) /\ w.heap.size = w'.heap.size /\ (∀ k,k ≠ C.bx p -> w'.heap[k]? = w.heap[k]?) /\ RpL C w z us /\ S (.row p len cap) (bx.set p z)) \/
 (∃ (z:List PC) (us:List Value) (len cap:Nat) (e0:TypeId),u = .slice (some ⟨w.heap.size,0,none⟩) len cap /\ len <= cap /\ cap <= maxLen /\ w'.heap = (w.alloc (.cells us.toArray e0)).heap /\ RpL C w z us /\ S (.row bx.length len cap) (bx ++ [z]))
theorem FnG.oldRw {E:Env} {f:Nat} {args:List PV} {bx:LP PC} {nt:Nat} {live:List Nat} {S:PC -> LP PC -> Prop} (h:∀ (w:World) (C:Cx) (vs:List Value),Inv E.NG E.T C bx (· ∈ live) w -> C.nt = nt -> vs.length = args.length -> (∀ (j:Nat) (x:PV) (y:Value),args[j]? = some x -> vs[j]? = some y -> RpV C w x y) ->
  Calls E.P f vs.toArray w fun e w' => ∃ u,e = .returned u /\ w'.os = w.os /\ w'.tape = w.tape /\ w'.output = w.output /\ RwOut C bx w w' u S):FnG E f args bx nt live (fun x b n l => n = nt /\ l = live /\ ∃ c,x = .d c /\ S c b):=by
 intro C w vs hI hnt hold hn2 hl hv;refine (h w C vs hI hnt hl hv).mono ?_;rintro e w' ⟨u,rfl,ho,ht,hou,hR⟩
 rcases hR with ⟨rfl,hh,hS⟩ | ⟨p,z,us,len,cap,e0,hp,rfl,hlc,hcm,hnew,hty,hss,hoth,hrl,hS⟩ | ⟨z,us,len,cap,e0,rfl,hlc,hcm,hh,hrl,hS⟩
 ·obtain ⟨hJ,hF⟩:=hI.sameHeap E.low hh
  refine ⟨_,.d (.sl 1 []),bx,nt,live,C,rfl,⟨rfl,rfl,_,rfl,hS⟩,hJ,hnt,?_,.d _ _ .nil⟩;exact ⟨ho,ht,hou,by rw [hh]; exact lR,fun _ _ h => h,hF,fun k hk _ _ => by rw [hh],⟨lR,fun _ _ => rfl⟩,fun _ _ h => .inl h,(fun t b ht hb => .inr ⟨t,by rw [hold]; exact ht,hb⟩),(fun q hq hq2 => by have h1:=hI.nb; omega),⟨lR,fun _ _ => ⟨rfl,rfl,rfl,rfl⟩⟩⟩
 ·obtain ⟨hJ,hF⟩:=hI.write E.low hp hnew hrl hty hss hoth
  refine ⟨_,.d (.row p len cap),bx.set p z,nt,live,C,rfl,⟨rfl,rfl,_,rfl,hS⟩,hJ,hnt,?_,.d _ _ (.row p len cap (by rw [hI.nb]; exact hp) hlc hcm)⟩;exact ⟨ho,ht,hou,by omega,fun _ _ h => h,hF,fun k hk hne _ => hoth k (fun e => hne p (by rw [hI.nb]; exact hp) e.symm),⟨lR,fun _ _ => rfl⟩,fun _ _ h => .inl h,(fun t b ht hb => .inr ⟨t,by rw [hold]; exact ht,hb⟩),(fun q hq hq2 => by have h1:=hI.nb; rw [length_set] at hq2; omega),⟨lR,fun _ _ => ⟨rfl,rfl,rfl,rfl⟩⟩⟩
 ·obtain ⟨hI2,hF2⟩:=hI.newBox E.low hrl e0
  obtain ⟨hJ,hF3⟩:=hI2.sameHeap E.low (w':=w') hh;have hle:=Cx.box_le C w.heap.size;have hnb:=hI.nb;have holdk:∀ k,k < w.heap.size -> w'.heap[k]? = w.heap[k]?:=fun k hk => by rw [hh]; exact heap_alloc_old w _ hk
  have hF:Fix C w w':=.of (fun b o hb => World.cell?_of_block (a:=⟨b,o,none⟩) (holdk b (hI.fin b o hb))) holdk;refine ⟨_,.d (.row bx.length len cap),bx ++ [z],nt,live,C.box w.heap.size,rfl,⟨rfl,rfl,_,rfl,hS⟩,hJ,hnt,?_,?_⟩
  ·exact ⟨ho,ht,hou,by rw [hh]; simp,hle.F,hF,fun k hk _ _ => holdk k hk,⟨hle.nb,hle.bx⟩,fun _ _ h => .inl h,(fun t b ht hb => .inr ⟨t,by rw [hold]; exact ht,hb⟩),(fun q hq hq2 => by
    have:q = C.nb:=by simp at hq2; omega
    subst this; simp only [Cx.box,if_true]; exact lR),⟨hle.nt,hle.tk⟩⟩
  ·have:=RpC.row (C:=C.box w.heap.size) (w:=w') bx.length len cap (by simp [Cx.box]; omega) hlc hcm
   have hb:(C.box w.heap.size).bx bx.length = w.heap.size:=by simp [Cx.box,hnb]
   rw [hb] at this; exact .d _ _ this
end
section
theorem run_mk0 {P:Program} {t e:TypeId} {size bytes:Nat} (T:ElemTy P t e size bytes) (n:Nat) (hn:n <= 4294967296) (hb:bytes <= 32768) :
  ∃ cs:Array Value,cs.size = n * size /\ ∀ w:World,(Instr.makeSlice t (.int .i64 0) (.int .i64 (n:Nat))).run P w = .ok (.slice (some ⟨w.heap.size,0,none⟩) 0 n) (w.alloc (.cells cs e)):=by
 obtain ⟨i,z,h1,h2,h3,h4,h5⟩:=T.info;refine ⟨madeCells z.cells (n * i.size),?_,fun w => ?_⟩
 ·rw [size_madeCells,h3]
 ·have:=run_make (P:=P) w t e i z T.under h1 h2 .i64 .i64 0 (n:Nat) (by omega) (by omega) (by
   rw [h4]; have:=Nat.mul_le_mul hb hn; have h:((bytes * n:Nat):Int) <= ((32768 * 4294967296:Nat):Int):=by exact_mod_cast this
   rw [Int.natCast_mul] at h; exact Int.le_trans h (by decide)) (by omega)
  simpa using this
theorem V.cells_one {w:World} {x:V} {cs:List Value} (h:Rd w x.d cs):∀ u ∈ cs,u.oneCell' = true:=by
 obtain ⟨k,n,e,s,a,l,c,rfl⟩:=V.form h;intro u hu; simp at hu; rcases hu with rfl | rfl | rfl | rfl | rfl <;> rfl
theorem V.bulk_getB {ls:List V} {m:Nat} (h:ls.length + V.bulks ls <= m) (k:Nat) (hk:k < ls.length):ls[k].bulk <= m:=by
 have h1:=V.bulks_snoc ls k hk; have h2:=V.bulks_take ls (k + 1); omega
theorem V.ds_take (xs:List V) (j:Nat) (h:j < xs.length):V.ds (xs.take (j + 1)) = V.ds (xs.take j) ++ [xs[j].d]:=by
 rw [V.ds_map,V.ds_map,zbc V.d xs j h]
theorem V.ds_length (xs:List V):(V.ds xs).length = xs.length:=by rw [V.ds_map,length_map]
end
section
theorem tyVi:ElemTy Tryz.prog 30 32 5 64:=ElemTy.mk' (z:=.agg #[.int .i64 0,.int .i64 0,.int .i64 0,.string ⟨#[]⟩,.slice none 0 0]) Tryz.underlying30 (by kernel_rfl) rfl (by decide)
def CpA (n:Nat):Prop:=∀ (x:V) (cs:List Value) (w:World),x.nodes <= n -> Rd w x.d cs -> x.bulk <= 4294967295 ->
 Calls Tryz.prog 28 #[.agg cs.toArray] w fun e w' => ∃ cs',e = .returned (.agg cs'.toArray) /\ Below w.heap.size w w' /\ Own w.heap.size w' x.d cs'
def CpB (n:Nat):Prop:=∀ (xs:List V) (v:Value) (w:World),V.nodess xs <= n -> Rd w (.sl 5 (V.ds xs)) [v] -> xs.length + V.bulks xs <= 4294967295 ->
 Calls Tryz.prog 52 #[v] w fun e w' => ∃ v',e = .returned v' /\ Below w.heap.size w w' /\ Own w.heap.size w' (.sl 5 (V.ds xs)) [v']
theorem CpB_of {n:Nat} (hA:CpA n):CpB n:=by
 intro xs v w hn h hbk;obtain ⟨a,c,rfl,hg⟩:=h.values;have hl:xs.length <= 4294967295:=by omega
 go_enter Tryz.func52,Tryz.ntmps52
 go_wp2
 go_loopw [3,4] (fun o i wr => ∃ (j:Nat),j <= xs.length /\ i = .int .i64 j /\ OwnSl w.heap.size wr 32 5 o (V.ds (xs.take j)) /\ Below w.heap.size w wr) (fun _ i _ => xs.length - (intOf i).toNat)
 case atStart => exact ⟨0,Nat.zero_le _,rfl,OwnSl.made (cap:=0) lR (by decide) rfl,(Below.refl _ _).alloc lR _⟩
 case round =>
  obtain ⟨j,hj,rfl,hown,hbel⟩:=hrel;obtain ⟨av,cv,rfl⟩:=hown.form;have hdl:(V.ds (xs.take j)).length = j:=by rw [V.ds_length,length_take]; omega
  rw [hdl] at hown ⊢;by_cases hlt:j < xs.length
  ·obtain ⟨_,_,b,o,rfl,hb,hcell⟩:=hg (by intro e; rw [e] at hlt; simp at hlt)
   obtain ⟨v0,v1,v2,v3,v4,hr,d0,d1,d2,d3,d4⟩:=hcell j hlt;clear hcell hg;obtain ⟨k1,k2,k3,s4,a5,n5,m5,hcs⟩:=V.form hr;simp only [cons.injEq,and_true] at hcs;obtain ⟨rfl,rfl,rfl,rfl,rfl⟩:=hcs;have hbc:=(zaP hbel).1;rw [<- hbc _ _ hb] at d0 d1 d2 d3 d4;have i1:(0:Int) <= j:=by omega
   have i2:(j:Int) < xs.length:=by omega
   have hn1:=V.nodes_get xs j hlt;have hb1:=V.bulk_getB hbk j hlt;have HC:=Lib.hid (hA xs[j] _ wr (Nat.le_trans hn1 hn) (hr.below hbel) hb1);have HS:=Lib.hid (V.ds_take xs j hlt);have hsz:=hbel.size;clear hbc hr hn1 hb1
   go_wp2_with (first | (go_at_call 28; refine HC.out.mono ?_; rintro e1 w1 ⟨cs',rfl,hb1,hox⟩; obtain ⟨x0,x1,x2,x3,xa,xl,xc,rfl⟩:=V.form hox.rd) | (at_builtin; refine wp_appD tyVi rfl rfl w.heap.size hown hb1 hsz (Owns.of1 hox) (by intro d hd; simp at hd; subst hd; exact V.width _) (by simp) (V.cells_one hox.rd) rfl 1 rfl (by rw [hdl]; simp; omega) (by decide) ?_))
   intro g cap w2 hown2 hbel2
   try rw [hdl] at hown2
   go_wp2;go_roundw
   case rel => exact ⟨j + 1,by omega,by go_num,by rw [HS.out]; simpa using hown2,hbel.trans hbel2⟩
   case measure => simp [intOf]; omega
  ·obtain rfl:j = xs.length:=by omega
   rw [take_length] at hown;go_wp2;go_ret;exact ⟨_,rfl,hbel,hown.own (by decide)⟩
theorem CpA_of {n:Nat} (hB:CpB n):CpA (n + 1):=by
 intro x cs w hn h hlen;obtain ⟨k,m,e,s,kids,v1,rfl,rfl,hkids⟩:=V.lay h;have hnk:V.nodess kids <= n:=by simp only [V.nodes] at hn; omega
 simp only [V.bulk] at hlen;obtain ⟨va,vc,rfl⟩:=Rd.sl_form hkids;rw [V.ds_length] at hkids ⊢;have hA:=(Below.refl w.heap.size w).alloc lR (.cells #[.int .i64 k,.int .i64 m,.int .i64 e,.string ⟨s.toArray⟩,.slice va kids.length vc] 32);clear h;have hkb:kids.length + V.bulks kids <= 4294967295:=by omega
 go_enter Tryz.func28,Tryz.ntmps28
 go_wp2_with (go_at_call 52; refine (hB _ _ _ hnk (((hkids.alloc _).alloc _).alloc _) hkb).mono ?_; rintro e1 w2 ⟨x2,rfl,hb2,hown2⟩; obtain ⟨a2,m2,n2,rfl⟩:=Rd.sl_any hown2.rd; obtain ⟨hc2,hf2⟩:=zaP hb2; have hz2:=hb2.size; simp at hz2; have g4:w.heap.size < w2.heap.size:=(by omega); have g5:w.heap.size + 1 < w2.heap.size:=(by omega); have g6:w.heap.size + 1 + 1 < w2.heap.size:=(by omega))
 refine bodyPost_ret (v:=.agg #[.int .i64 k,.int .i64 m,.int .i64 e,.string ⟨s.toArray⟩,.slice a2 m2 n2]) ?_ rfl ⟨[.int .i64 k,.int .i64 m,.int .i64 e,.string ⟨s.toArray⟩,.slice a2 m2 n2],rfl,?_,?_⟩
 ·simp [results,Tryz.results28,go_sem,hc2]
 ·iterate 6 (refine Below.setCell ?_ (by simp; try omega) _)
  exact zag ((hA.alloc (by simp; try omega) _).alloc (by simp; try omega) _) hb2 lR
 ·refine Own.mono (B:=w.heap.size + 1 + 1 + 1) ?_ (by omega)
  iterate 6 (refine Own.setCell ?_ (by simp; try omega) _)
  exact V.own (hown2.mono (by simp; try omega))
theorem Cp_all:∀ n,CpA n /\ CpB n
 | 0 => by
  have h0:CpA 0:=fun sh cs w hn => absurd (V.nodes_pos sh) (by omega)
  exact ⟨h0,CpB_of h0⟩
 | n + 1 => by
  have h1:=CpA_of (Cp_all n).2;exact ⟨h1,CpB_of h1⟩
theorem zf1 (x:V) (cs:List Value) (w:World) (h:Rd w x.d cs) (hs:x.bulk <= 4294967295) :
  Calls Tryz.prog 28 #[.agg cs.toArray] w fun e w' => ∃ cs',e = .returned (.agg cs'.toArray) /\ Below w.heap.size w w' /\ Own w.heap.size w' x.d cs' :=
 (Cp_all x.nodes).1 x cs w lR h hs
def OwA (n:Nat):Prop:=∀ (x:V) (cs:List Value) (w:World),x.nodes <= n -> Rd w x.d cs -> x.bulk <= 4294967295 ->
 Calls Tryz.prog 38 #[.agg cs.toArray] w fun e w' => ∃ cs',e = .returned (.agg cs'.toArray) /\ Below w.heap.size w w' /\ Own w.heap.size w' x.d cs'
theorem OwA_of {n:Nat} (hA:OwA n):OwA (n + 1):=by
 intro x cs w hn h hlen;obtain ⟨k,m,e,s,kids,v1,rfl,rfl,hkids⟩:=V.lay h;have hnk:V.nodess kids <= n:=by simp only [V.nodes] at hn; omega
 simp only [V.bulk] at hlen;have hkb:kids.length + V.bulks kids <= 4294967295:=by omega
 obtain ⟨a,c,rfl,hg⟩:=hkids.values;by_cases hne:kids = []
 ·subst hne
  clear h hkids hg hlen hkb hnk;simp only [length_nil]
  go_enter Tryz.func38,Tryz.ntmps38
  go_wp2;refine bodyPost_ret (v:=.agg #[.int .i64 k,.int .i64 m,.int .i64 e,.string ⟨s.toArray⟩,.slice none 0 0]) ?_ rfl ⟨[.int .i64 k,.int .i64 m,.int .i64 e,.string ⟨s.toArray⟩,.slice none 0 0],rfl,?_,?_⟩
  ·simp [results,Tryz.results38,go_sem]
  ·exact ((Below.refl _ _).alloc lR _).alloc (by simp) _
  ·exact V.own ⟨[],by simp,by simp,by simp [TreeC,V.ds]⟩
 ·have hpos:0 < kids.length:=length_pos_iff.2 hne
  obtain ⟨_,_,b,o,rfl,hb,hcell⟩:=hg hne;obtain ⟨mcs,hmcs,hmk⟩:=run_mk0 tyVi kids.length (by omega) (by decide);have HMC:=Lib.hid hmcs;obtain ⟨B,hBd⟩:∃ B,B = w.heap.size + 2:=⟨_,rfl⟩;obtain ⟨W1,hW1⟩:∃ W1,W1 = (((w.alloc (.cells #[.int .i64 k,.int .i64 m,.int .i64 e,.string ⟨s.toArray⟩,.slice (some ⟨b,o,none⟩) kids.length c] 32)).alloc (.cells #[.int .i64 0,.int .i64 0,.int .i64 0,.string ⟨#[]⟩,.slice none 0 0] 32)).alloc (.cells mcs 32)):=⟨_,rfl⟩;have HW:=Lib.hid hW1;have hAw:Below w.heap.size w W1:=by rw [hW1]; exact (((Below.refl _ _).alloc lR _).alloc (by simp) _).alloc (by simp <;> omega) _
  have hsz1:W1.heap.size = B + 1:=by rw [hW1,hBd]; simp
  have hst:OwnSl B W1 32 5 (.slice (some ⟨w.heap.size + 1 + 1,0,none⟩) 0 kids.length) (V.ds (kids.take 0)):=by
   rw [hW1]
   have:=OwnSl.made (B:=B) (w:=(w.alloc (.cells #[.int .i64 k,.int .i64 m,.int .i64 e,.string ⟨s.toArray⟩,.slice (some ⟨b,o,none⟩) kids.length c] 32)).alloc (.cells #[.int .i64 0,.int .i64 0,.int .i64 0,.string ⟨#[]⟩,.slice none 0 0] 32)) (e:=32) (n:=5) (cs:=mcs) (cap:=kids.length) (by rw [hBd]; simp) (by unfold maxLen; omega) HMC.out
   simpa [V.ds] using this
  have HST:=Lib.hid hst
  have KB:Hid (∀ W,Below B W1 W -> (W.cell? ⟨w.heap.size,0,none⟩ = some (.int .i64 k) /\ W.cell? ⟨w.heap.size,1,none⟩ = some (.int .i64 m) /\ W.cell? ⟨w.heap.size,2,none⟩ = some (.int .i64 e) /\ W.cell? ⟨w.heap.size,3,none⟩ = some (.string ⟨s.toArray⟩) /\ W.cell? ⟨w.heap.size,4,none⟩ = some (.slice (some ⟨b,o,none⟩) kids.length c)) /\
    (∀ i,W.frozen? ⟨w.heap.size,i,none⟩ = false) /\ (∀ i,W.frozen? ⟨w.heap.size + 1,i,none⟩ = false) /\ (W.cell? ⟨w.heap.size + 1,0,none⟩ = some (.int .i64 0) /\ W.cell? ⟨w.heap.size + 1,1,none⟩ = some (.int .i64 0) /\ W.cell? ⟨w.heap.size + 1,2,none⟩ = some (.int .i64 0) /\ W.cell? ⟨w.heap.size + 1,3,none⟩ = some (.string ⟨#[]⟩) /\ W.cell? ⟨w.heap.size + 1,4,none⟩ = some (.slice none 0 0))):=by
   intro W hb';have g1:w.heap.size < B:=by omega
   have g2:w.heap.size + 1 < B:=by omega
   have hc:∀ b o,b < B -> W.cell? ⟨b,o,none⟩ = W1.cell? ⟨b,o,none⟩:=fun b o h => hb'.cell (p:=⟨b,o,none⟩) h
   have hf:∀ b o,b < B -> W.frozen? ⟨b,o,none⟩ = W1.frozen? ⟨b,o,none⟩:=fun b o h => hb'.frozen (p:=⟨b,o,none⟩) h
   simp only [hc _ _ g1,hc _ _ g2,hf _ _ g1,hf _ _ g2]
   subst hW1; simp [go_sem]
  have hk0:((kids.length:Int) == 0) = false:=by simp; omega
  have hB0:w.heap.size + 1 < B:=by omega
  have hB2:B <= w.heap.size + 2:=by omega
  clear hW1 hmcs h hst hg hpos hne hBd;have HCELL:=Lib.hid hcell;clear hcell
  go_enter Tryz.func38,Tryz.ntmps38
  go_wp2_with fail
  rw [<- HW.out]
  go_loopw [3,19] (fun v i wr => ∃ j:Nat,j <= kids.length /\ i = .int .i64 j /\ OwnSl B wr 32 5 v (V.ds (kids.take j)) /\ Below B W1 wr) (fun _ i _ => kids.length - (intOf i).toNat)
  case atStart => exact ⟨0,Nat.zero_le _,rfl,HST.out,Below.refl _ _⟩
  case round =>
   obtain ⟨j,hj,rfl,hown,hbel⟩:=hrel;obtain ⟨av,cv,rfl⟩:=hown.form;have hdl:(V.ds (kids.take j)).length = j:=by rw [V.ds_length,length_take]; omega
   rw [hdl] at hown ⊢;obtain ⟨⟨p0,p1,p2,p3,p4⟩,f1,f2,⟨q0,q1,q2,q3,q4⟩⟩:=KB.out _ hbel;have hsz:=hbel.size;by_cases hlt:j < kids.length
   ·obtain ⟨v0,v1,v2,v3,v4,hr,d0,d1,d2,d3,d4⟩:=HCELL.out j hlt
    obtain ⟨k1,k2,k3,s4,a5,n5,m5,hcs⟩:=V.form hr;simp only [cons.injEq,and_true] at hcs;obtain ⟨rfl,rfl,rfl,rfl,rfl⟩:=hcs;have hbw:Below w.heap.size w wr:=hAw.trans (hbel.mono (by omega));have hbc:=(zaP hbw).1;rw [<- hbc _ _ hb] at d0 d1 d2 d3 d4;have i1:(0:Int) <= j:=by omega
    have i2:(j:Int) < kids.length:=by omega
    have hn1:=V.nodes_get kids j hlt;have hb1:=V.bulk_getB hkb j hlt;have hal:Below wr.heap.size wr (wr.alloc (.cells #[.int .i64 k1,.int .i64 k2,.int .i64 k3,.string ⟨s4.toArray⟩,.slice a5 n5 m5] 32)):=(Below.refl _ _).alloc lR _;have HC:=Lib.hid (hA kids[j] _ _ (Nat.le_trans hn1 hnk) ((hr.below hbw).below hal) hb1);have HS:=Lib.hid (V.ds_take kids j hlt);clear hbc hr hn1 hb1 p0 p1 p2 p3 p4 f1 f2 q0 q1 q2 q3 q4
    go_wp2_with (first | (go_at_call 38; refine HC.out.mono ?_; rintro e1 w1 ⟨cs',rfl,hb1,hox⟩; obtain ⟨x0,x1,x2,x3,xa,xl,xc,rfl⟩:=V.form hox.rd) | (at_builtin; refine wp_appD tyVi rfl rfl B hown (zag hal hb1 lR) (by omega) (Owns.of1 (hox.mono hal.size)) (by intro d hd; simp at hd; subst hd; exact V.width _) (by simp) (V.cells_one hox.rd) rfl 1 rfl (by rw [hdl]; simp; omega) (by decide) ?_))
    intro g cap w2 hown2 hbel2
    try rw [hdl] at hown2
    go_wp2;go_roundw
    case rel => exact ⟨j + 1,by omega,by go_num,by rw [HS.out]; simpa using hown2,hbel.trans hbel2⟩
    case measure => simp [intOf]; omega
   ·obtain rfl:j = kids.length:=by omega
    rw [take_length] at hown;have fz1:=f1 4;have hz1:w.heap.size + 1 < wr.heap.size:=by omega
    have hz0:w.heap.size < wr.heap.size:=by omega
    go_wp2;refine bodyPost_ret (v:=.agg #[.int .i64 k,.int .i64 m,.int .i64 e,.string ⟨s.toArray⟩,.slice av kids.length cv]) ?_ rfl ⟨[.int .i64 k,.int .i64 m,.int .i64 e,.string ⟨s.toArray⟩,.slice av kids.length cv],rfl,?_,?_⟩
    ·simp [results,Tryz.results38,go_sem,q0,q1,q2,q3,q4]
    ·iterate 6 (refine Below.setCell ?_ (by simp <;> omega) _)
     exact hAw.trans (hbel.mono (by omega))
    ·refine Own.mono (B:=B) ?_ (by omega)
     iterate 6 (refine Own.setCell ?_ (by simp <;> omega) _)
     exact V.own (hown.own (by decide))
theorem Ow_all:∀ n,OwA n
 | 0 => fun x cs w hn => absurd (V.nodes_pos x) (by omega)
 | n + 1 => OwA_of (Ow_all n)
theorem own_any (x:V) (cs:List Value) (w:World) (h:Rd w x.d cs) (hs:x.bulk <= 4294967295) :
  Calls Tryz.prog 38 #[.agg cs.toArray] w fun e w' => ∃ cs',e = .returned (.agg cs'.toArray) /\ Below w.heap.size w w' /\ Own w.heap.size w' x.d cs' :=
 Ow_all x.nodes x cs w lR h hs
end
section
end
section
theorem V.bulk_get {ls:List V} {m:Nat} (h:ls.length + V.bulks ls <= m) (k:Nat) (hk:k < ls.length):ls[k].bulk <= m:=by
 have h1:=V.bulks_snoc ls k hk; have h2:=V.bulks_take ls (k + 1); omega
theorem V.ne_mk {k m e k' m' e':Int} {s s':L8} {kids kids':List V} (h:¬ (k = k' /\ m = m' /\ e = e' /\ s = s' /\ kids = kids')) :
  decide (V.mk k m e s kids = V.mk k' m' e' s' kids') = false:=decide_eq_false (by simpa using h)
end
section
theorem V.nodes_eq0 (v:V):v.nodes = 1 + V.nodess v.kids:=by obtain ⟨k,n,e,s,ks⟩:=v; rfl
end
end Go.Proofs.YtaofmfkcfmcmpaaGreatDoor
/- What JSON holds of a value. No program in sight. -/
namespace Go.Proofs.YtaofmfkcfmcmpaaGreatDoor
open Go.RowKit
end Go.Proofs.YtaofmfkcfmcmpaaGreatDoor
/- What JSON holds of a right value: sizes and steps. No program in sight. -/
namespace Go.Proofs.YtaofmfkcfmcmpaaGreatDoor
open Go.RowKit
open Go.Lib (validD)
end Go.Proofs.YtaofmfkcfmcmpaaGreatDoor
/- What JSON holds of any value. No program in sight. -/
namespace Go.Proofs.YtaofmfkcfmcmpaaGreatDoor
open Go.RowKit
end Go.Proofs.YtaofmfkcfmcmpaaGreatDoor
/- How big what JSON holds of a value is. No program in sight. -/
namespace Go.Proofs.YtaofmfkcfmcmpaaGreatDoor
open Go.RowKit
theorem V.self_text {q:List V -> Bool} {k n e:Int} {s:List UInt8} {kids:List V} (h:V.selfBy q (.mk k n e s kids) = true):s.length <= 2000:=by
 simp only [V.selfBy] at h;by_cases h0:k = 0 \/ k = 1 \/ k = 2
 ·rw [if_pos h0] at h; simp only [Bool.and_eq_true,decide_eq_true_eq] at h; simp [h.2.2.1]
 rw [if_neg h0] at h;by_cases h3:k = 3
 ·rw [if_pos h3] at h; simp only [Bool.and_eq_true,decide_eq_true_eq] at h; simp [h.2.1]
 rw [if_neg h3] at h;by_cases h4:k = 4
 ·rw [if_pos h4] at h; simp only [Bool.and_eq_true,decide_eq_true_eq] at h; simp [h.2.1]
 rw [if_neg h4] at h;by_cases h5:k = 5
 ·rw [if_pos h5] at h; simp only [Bool.and_eq_true,decide_eq_true_eq] at h; exact h.2.2.2.1
 rw [if_neg h5] at h;by_cases h6:k = 6
 ·rw [if_pos h6] at h; simp only [Bool.and_eq_true,decide_eq_true_eq] at h; exact h.2.2.1
 rw [if_neg h6] at h;by_cases h7:k = 7
 ·rw [if_pos h7] at h; simp only [Bool.and_eq_true,decide_eq_true_eq] at h; simp [h.2.2]
 rw [if_neg h7] at h;by_cases h8:k = 8
 ·rw [if_pos h8] at h; simp only [Bool.and_eq_true,decide_eq_true_eq] at h; simp [h.2.2.1]
 rw [if_neg h8] at h;by_cases h9:k = 9
 ·rw [if_pos h9] at h; simp only [Bool.and_eq_true,decide_eq_true_eq] at h; simp [h.2.2.1]
 rw [if_neg h9] at h; cases h
mutual
theorem V.right_bulk (q:List V -> Bool):∀ (d:Int) (x:V),V.rightBy q d x = true -> x.bulk + 1 <= 2001 * x.nodes
 | d,.mk k n e s kids,h => by
  simp only [V.rightBy,Bool.and_eq_true] at h;have h1:=V.rights_bulk q (d - 1) kids h.1;have h2:=V.self_text h.2.2;simp only [V.bulk,V.nodes]; omega
theorem V.rights_bulk (q:List V -> Bool):∀ (d:Int) (xs:List V),V.rightsBy q d xs = true -> V.bulks xs + xs.length <= 2001 * V.nodess xs
 | _,[],_ => by simp [V.bulks]
 | d,x :: xs,h => by
  simp only [V.rightsBy,Bool.and_eq_true] at h;have h1:=V.right_bulk q d x h.1;have h2:=V.rights_bulk q d xs h.2;simp only [V.bulks,V.nodess,List.length_cons]; omega
end
theorem V.ok_bulk {x:V} (h:x.ok = true):x.bulk <= 1048576:=by
 unfold V.ok at h;simp only [Bool.and_eq_true,decide_eq_true_eq] at h
 have:=V.right_bulk _ _ _ h.1; omega
end Go.Proofs.YtaofmfkcfmcmpaaGreatDoor
namespace Go.Proofs.YtaofmfkcfmcmpaaGreatDoor
open Go.RowKit
set_option maxHeartbeats 4000000
set_option maxRecDepth 100000
open List
section
theorem V.wf_kid {v:V} (h:v.wf) (i:Nat) (hi:i < v.kids.length):v.kids[i].wf:=by
 obtain ⟨k,n,e,s,kids⟩:=v;exact V.wfs_get h.2.2.2.2.2 i hi
theorem V.nodes_kid {v:V} {n:Nat} (h:v.nodes <= n + 1) (i:Nat) (hi:i < v.kids.length):v.kids[i].nodes <= n:=by
 obtain ⟨k,m,e,s,kids⟩:=v;have hi':i < kids.length:=hi
 have:=V.nodes_get kids i hi'
 simp only [V.nodes] at h;show kids[i].nodes <= n; omega
end
section
theorem er_sl {c:PC} {x:LP PC} (h:c.er = .sl 0 x):∃ t rows,c = .sl t rows /\ erLL rows = x:=by
 cases c <;> simp [PC.er] at h
 exact ⟨_,_,rfl,h⟩
theorem vform {cs:List PC} {v:V} (he:erL cs = vC v):∃ (t:Nat) (rows:LP PC),cs = vcs v.kind v.num v.exp v.text t rows /\ erLL rows = vK v.kids:=by
 have hl:=er_len he
 match cs,hl with
 | [a,b,c,d,e],_ =>
  simp only [erL,vC,cons.injEq,and_true] at he;obtain ⟨h1,h2,h3,h4,h5⟩:=he;obtain ⟨t,rows,rfl,h6⟩:=er_sl h5;refine ⟨t,rows,?_,h6⟩;rw [er_v h1,er_v h2,er_v h3,er_v h4]; rfl
theorem zet {rows:LP PC} {ks:List V} (h:erLL rows = vK ks):rows.length = ks.length:=by
 have:=congrArg length h
 rw [zas,length_map,zam] at this; exact this
theorem erk_wid {rows:LP PC} {ks:List V} (h:erLL rows = vK ks):∀ e ∈ rows,e.length = 5:=fun e he => by
 have h1:erL e ∈ vK ks:=by rw [<- h,zas]; exact mem_map_of_mem he
 have:=za7 ks _ h1
 rw [zaw,length_map] at this; exact this
theorem erk_get {rows:LP PC} {ks:List V} (h:erLL rows = vK ks) {i:Nat} (hi:i < ks.length):∃ e,rows[i]? = some e /\ erL e = vC ks[i]:=by
 have hr:i < rows.length:=by rw [zet h]; exact hi
 refine ⟨rows[i],getElem?_eq_getElem hr,?_⟩;have h1:=zbj hi;rw [<- h,zas,getElem?_map,getElem?_eq_getElem hr] at h1;exact Option.some.inj h1
theorem erk_app {a b:LP PC} {ks ls:List V} (h:erLL a = vK ks) (k:erLL b = vK ls):erLL (a ++ b) = vK (ks ++ ls):=by
 rw [zas,map_append,<- zas,<- zas,h,k]; simp [vK]
theorem erk_one {cs:List PC} {v:V} (he:erL cs = vC v):erLL [cs] = vK [v]:=by
 show [erL cs] = [v.d.pc];rw [he,V.pc_eq]
theorem vlw_aux:∀ (N:Nat) (v:V),v.nodes <= N -> ∀ (cs:List PC),erL cs = vC v -> lwL 0 cs:=by
 intro N
 induction N with
 | zero => intro v hv; have:=v.nodes_pos; omega
 | succ N ih =>
  intro v hv cs he;obtain ⟨t,rows,rfl,hr⟩:=vform he
  have:∀ (ls:List V) (rs:LP PC),(∀ x ∈ ls,x.nodes <= N) -> erLL rs = vK ls -> lwLL 0 rs:=by
   intro ls
   induction ls with
   | nil => intro rs _ h; match rs,h with | [],_ => simp only [lwLL]
   | cons x ls ih2 =>
    intro rs hx h
    match rs,h with
    | r :: rs,h =>
     simp only [erLL,vK,map_cons,cons.injEq] at h;simp only [lwLL];exact ⟨ih x (hx x (by simp)) r (by rw [h.1,V.pc_eq]),ih2 rs (fun y hy => hx y (by simp [hy])) h.2⟩
  have h2:=this v.kids rows (fun x hx => by
   obtain ⟨i,hi,rfl⟩:=List.getElem_of_mem hx;exact V.nodes_kid hv i hi) hr
  simp only [vcs,lwL,PC.lw,pI,pS,and_true,true_and];exact h2
theorem vlw {v:V} {cs:List PC} (h:erL cs = vC v):lwL 0 cs:=vlw_aux v.nodes v lR cs h
theorem sl_tok {t:Nat} {rows:LP PC} (h:2 <= t):t ∈ toksL [.sl t rows]:=by simp [toksL,PC.toks,h]
end
section
def decOn (u:Nat) (l:L8):L8:=if u = 0 then l else Lib.decDigits u ++ l
theorem zd8 {u:Nat} (h:u ≠ 0) (l:L8):decOn (u / 10) (UInt8.ofNat (48 + u % 10) :: l) = decOn u l:=by
 unfold decOn;rw [if_neg h];by_cases h1:u < 10
 ·rw [if_pos (by omega),Lib.decDigits_one h1,Nat.mod_eq_of_lt h1]; rfl
 ·rw [if_neg (by omega)]
  conv => rhs; rw [Lib.decDigits,dif_neg h1]
  simp
def digs:L8:=[48,49,50,51,52,53,54,55,56,57]
theorem digs_piece:∀ d:Fin 10,(digs.drop d.val).take 1 = [UInt8.ofNat (48 + d.val)]:=by decide
theorem digs_at {d:Nat} (h:d < 10):(([48,49,50,51,52,53,54,55,56,57]:L8).drop d).take 1 = [UInt8.ofNat (48 + d)]:=digs_piece ⟨d,h⟩
theorem tdivAbs (m:Int):(Int.tdiv m 10).natAbs = m.natAbs / 10:=by rw [Int.natAbs_tdiv]; rfl
theorem tmodAbs (m:Int):(Int.tmod m 10).natAbs = m.natAbs % 10:=by rw [Int.natAbs_tmod]; rfl
theorem zbU {u:Nat} (h:u <= 9223372036854775808):(Lib.decDigits u).length <= 20:=by rw [Lib.decDigits_length]; exact Lib.nDigits_le20 u (by omega)
end
section
open Go.RowKit Go.Lib
theorem zb0 {u:Nat} (h:u < 10):decDigits u = [UInt8.ofNat (48 + u)]:=decDigits_one h
theorem zcy {u:Nat} (h:¬ u < 10):decDigits u = decDigits (u / 10) ++ [UInt8.ofNat (48 + u % 10)]:=by
 conv => lhs; rw [decDigits,dif_neg h]
 try rfl
theorem zdz {d:Nat} (h:d < 10):(UInt8.ofNat (48 + d)).toNat = 48 + d:=by
 rw [UInt8.toNat_ofNat']; omega
theorem zeu {P:Nat -> Prop} (h0:∀ u,u < 10 -> P u) (h1:∀ u,¬ u < 10 -> P (u / 10) -> P u) (u:Nat):P u:=by
 induction u using Nat.strongRecOn with
 | ind u ih =>
  by_cases h:u < 10
  ·exact h0 u h
  ·exact h1 u h (ih (u / 10) (by omega))
theorem zev (u:Nat):decDigits u ≠ []:=by
 by_cases h:u < 10
 ·rw [zb0 h]; simp
 ·rw [zcy h]; simp
theorem zc7 (u:Nat):∀ c ∈ decDigits u,48 <= c.toNat /\ c.toNat <= 57:=by
 refine zeu (P:=fun u => ∀ c ∈ decDigits u,48 <= c.toNat /\ c.toNat <= 57) (fun u h c hc => ?_) (fun u h ih c hc => ?_) u
 ·rw [zb0 h,mem_singleton] at hc; subst hc; rw [zdz h]; omega
 ·rw [zcy h,mem_append,mem_singleton] at hc
  rcases hc with hc | rfl
  ·exact ih c hc
  ·rw [zdz (by omega)]; omega
def dvL (l:L8):Nat:=l.foldl (fun a c => a * 10 + (c.toNat - 48)) 0
theorem dvL_snoc (l:L8) (c:UInt8):dvL (l ++ [c]) = dvL l * 10 + (c.toNat - 48):=by simp [dvL]
theorem dvL_dec (u:Nat):dvL (decDigits u) = u:=by
 refine zeu (P:=fun u => dvL (decDigits u) = u) (fun u h => ?_) (fun u h ih => ?_) u
 ·rw [zb0 h]; simp only [dvL,foldl_cons,foldl_nil]; rw [zdz h]; omega
 ·rw [zcy h,dvL_snoc,ih,zdz (by omega)]; omega
theorem ze1:∀ (l r:L8) (a m:Nat),parseUint10 a l = .ok m -> parseUint10 a (l ++ r) = parseUint10 m r
 | [],r,a,m,h => by simp only [parseUint10] at h; injection h with h; subst h; rfl
 | c :: l,r,a,m,h => by
  simp only [parseUint10] at h;simp only [cons_append,parseUint10]
  split at h
  ·rename_i h1
   rw [if_pos h1]
   split at h
   ·cases h
   ·rename_i h2
    rw [if_neg h2]
    split at h
    ·cases h
    ·rename_i h3
     rw [if_neg h3];exact ze1 l r _ m h
  ·cases h
theorem ze2 {a d:Nat} (hd:d < 10) (h:a * 10 + d < 18446744073709551616):parseUint10 a [UInt8.ofNat (48 + d)] = .ok (a * 10 + d):=by
 simp only [parseUint10,zdz hd];rw [if_pos (by omega),if_neg (by omega),if_neg (by omega)]
 congr 1; omega
theorem parse_dec (u:Nat):u < 18446744073709551616 -> parseUint10 0 (decDigits u) = .ok u:=by
 refine zeu (P:=fun u => u < 18446744073709551616 -> parseUint10 0 (decDigits u) = .ok u) (fun u h hu => ?_) (fun u h ih hu => ?_) u
 ·rw [zb0 h,ze2 h (by omega),Nat.zero_mul,Nat.zero_add]
 ·rw [zcy h,ze1 _ _ _ _ (ih (by omega)),ze2 (by omega) (by omega)]
  congr 1; omega
theorem mag_dec {u:Nat} (h:u < 18446744073709551616):parseMag (decDigits u) = .ok u:=by
 unfold parseMag; rw [if_neg (zev u)]; exact parse_dec u h
theorem atoi_itoa {n:Int} (h:i64ok n):atoiAll (itoa n) = .ok n:=by
 obtain ⟨h1,h2⟩:=h;by_cases hn:n < 0
 ·obtain ⟨u,rfl⟩:∃ u:Nat,n = -(u:Int):=⟨n.natAbs,by omega⟩
  rw [itoa_neg u (by omega),atoiAll_minus,mag_dec (by omega)];simp only [signed];rw [if_neg (by omega)]
 ·obtain ⟨u,rfl⟩:∃ u:Nat,n = (u:Int):=⟨n.toNat,by omega⟩
  rw [itoa_nonneg];have hd:=zc7 u;have hm:=mag_dec (u:=u) (by omega)
  cases hl:decDigits u with
  | nil => exact absurd hl (zev u)
  | cons c r =>
   have:=hd c (by rw [hl]; simp)
   rw [hl] at hm;rw [atoiAll_plain c r (by omega) (by omega),hm];simp only [signless];rw [if_neg (by omega)]
def rdD (s:L8):Option Int:=match atoiAll s with
 | .ok v => if itoa v = s then some v else none
 | _ => none
theorem rdD_itoa {n:Int} (h:i64ok n):rdD (itoa n) = some n:=by unfold rdD; rw [atoi_itoa h]; simp
theorem rdD_some {s:L8} {n:Int} (h:rdD s = some n):i64ok n /\ itoa n = s:=by
 unfold rdD at h
 split at h
 ·rename_i v hv
  split at h
  ·simp only [sI] at h; subst h
   exact ⟨atoiAll_bounds hv,‹_›⟩
  ·cases h
 ·cases h
def rdN (s:L8):Int:=match rdD s with | some n => n | none => 0
def rdB (s:L8):Bool:=(rdD s).isSome
theorem rd_yes {n:Int} {s:L8} (h:i64ok n) (hs:itoa n = s):rdN s = n /\ rdB s = true:=by subst hs; simp [rdN,rdB,rdD_itoa h]
theorem rd_no {s:L8} (h:∀ n,i64ok n -> itoa n ≠ s):rdN s = 0 /\ rdB s = false:=by
 cases hr:rdD s with
 | none => simp [rdN,rdB,hr]
 | some n => obtain ⟨h1,h2⟩:=rdD_some hr; exact absurd h2 (h n h1)
def unsgn (s:L8):L8:=if s.head? = some 45 then s.drop 1 else s
theorem zd9 (n:Int):unsgn (itoa n) = decDigits n.natAbs:=by
 by_cases hn:n < 0
 ·obtain ⟨u,rfl⟩:∃ u:Nat,n = -(u:Int):=⟨n.natAbs,by omega⟩
  rw [itoa_neg u (by omega)]; simp [unsgn]
 ·obtain ⟨u,rfl⟩:∃ u:Nat,n = (u:Int):=⟨n.toNat,by omega⟩
  rw [itoa_nonneg];unfold unsgn;rw [if_neg]
  ·simp
  ·intro h
   have hd:=zc7 u
   cases hl:decDigits u with
   | nil => exact absurd hl (zev u)
   | cons c r =>
    rw [hl] at h; simp at h; subst h
    have:=hd 45 (by rw [hl]; simp)
    revert this; decide
theorem zdA:∀ (k u:Nat),u < 10 ^ (k + 1) -> nDigits u <= k + 1
 | 0,u,h => by rw [nDigits_small (by simpa using h)]; exact lR
 | k + 1,u,h => by
  by_cases h1:u < 10
  ·rw [nDigits_small h1]; omega
  ·rw [nDigits_big h1]
   have:=zdA k (u / 10) (by rw [Nat.pow_succ] at h; omega)
   omega
theorem rd_loop {s:L8} {n:Int} (hn:i64ok n) (hs:itoa n = s):(if unsgn s = s then IntKind.wrap .i64 (dvL (unsgn s)) else IntKind.wrap .i64 (0 - IntKind.wrap .i64 (dvL (unsgn s)))) = n:=by
 subst hs;obtain ⟨h1,h2⟩:=hn;rw [zd9,dvL_dec];simp only [IntKind.wrap_i64];by_cases hn:n < 0
 ·obtain ⟨u,rfl⟩:∃ u:Nat,n = -(u:Int):=⟨n.natAbs,by omega⟩
  rw [if_neg]
  ·simp only [Int.natAbs_neg,Int.natAbs_natCast]; omega
  ·rw [itoa_neg u (by omega)]
   intro h
   have:=congrArg length h
   simp at this
 ·obtain ⟨u,rfl⟩:∃ u:Nat,n = (u:Int):=⟨n.toNat,by omega⟩
  rw [if_pos]
  ·simp only [Int.natAbs_natCast]; omega
  ·rw [itoa_nonneg]; simp
theorem unsgn_dec {s:L8} {n:Int} (hn:i64ok n) (hs:itoa n = s):unsgn s ≠ [] /\ (unsgn s).length <= 19 /\ ∀ c ∈ unsgn s,48 <= c.toNat /\ c.toNat <= 57:=by
 subst hs;rw [zd9];refine ⟨zev _,?_,zc7 _⟩;rw [decDigits_length];obtain ⟨h1,h2⟩:=hn
 have:n.natAbs < 10000000000000000000:=by omega
 exact zdA 18 _ (by simpa using this)
end
section
def findK (key:L8):List V -> Nat -> Int
 | a :: _ :: r,i => if a.kind = 5 /\ a.text = key then i else findK key r (i + 2)
 | _,_ => -1
def findV (v:V) (key:L8):Int:=if v.kind = 8 then findK key v.kids 0 else -1
theorem ze3 {key:L8} {l:List V} (h:l.length < 2) (i:Nat):findK key l i = -1:=by
 match l,h with
 | [],_ => rfl
 | [_],_ => rfl
theorem findK_at {key:L8} {l:List V} {j:Nat} (h:j + 1 < l.length) (i:Nat):findK key (l.drop j) i = if l[j].kind = 5 /\ l[j].text = key then (i:Int) else findK key (l.drop (j + 2)) (i + 2):=by
 rw [drop_eq_getElem_cons (show j < l.length by omega),drop_eq_getElem_cons (show j + 1 < l.length by omega),findK]
def ixI (s:L8):Int:=if rdB s = true /\ 0 <= rdN s /\ rdN s <= 999999 then rdN s else -1
def kidI (v:V) (s:L8):Int :=
 if v.kind = 7 then (if ixI s < v.kids.length then ixI s else -1)
 else if v.kind = 8 then (if 0 <= findV v s then findV v s + 1 else -1)
 else if v.kind = 9 then (if s = [116,97,103] /\ 0 < v.kids.length then 0 else -1) else -1
theorem findK_le (key:L8):∀ (l:List V) (i:Nat),-1 <= findK key l i /\ (findK key l i:Int) <= i + l.length
 | [],i => by simp only [findK]; omega
 | [_],i => by simp only [findK]; omega
 | a :: b :: r,i => by
  have ih:=findK_le key r (i + 2);simp only [findK];split
  ·simp only [length_cons]; omega
  ·simp only [length_cons]; omega
theorem findV_le (v:V) (key:L8):-1 <= findV v key /\ findV v key <= v.kids.length:=by
 unfold findV;split
 ·have:=findK_le key v.kids 0; omega
 ·omega
theorem findK_lt (key:L8):∀ (l:List V) (i:Nat),0 <= findK key l i -> findK key l i + 1 < i + l.length
 | [],i,h => by simp only [findK] at h; omega
 | [_],i,h => by simp only [findK] at h; omega
 | a :: b :: r,i,h => by
  simp only [findK] at h ⊢
  split at h
  ·rename_i hh
   rw [if_pos hh]; simp only [length_cons]; omega
  ·rename_i hh
   rw [if_neg hh]
   have:=findK_lt key r (i + 2) h
   simp only [length_cons]; omega
theorem zaN {v:V} {s:L8} (h:0 <= kidI v s):kidI v s < v.kids.length:=by
 unfold kidI at h ⊢;split
 ·rename_i h7
  rw [if_pos h7] at h;split
  ·assumption
  ·rename_i hh; rw [if_neg hh] at h; omega
 ·rename_i h7
  rw [if_neg h7] at h;split
  ·rename_i h8
   rw [if_pos h8] at h;split
   ·rename_i hf
    unfold findV at hf ⊢;rw [if_pos h8] at hf ⊢
    have:=findK_lt s v.kids 0 hf
    omega
   ·rename_i hh; rw [if_neg hh] at h; omega
  ·rename_i h8
   rw [if_neg h8] at h;split
   ·rename_i h9
    rw [if_pos h9] at h;split
    ·rename_i hh; omega
    ·rename_i hh; rw [if_neg hh] at h; omega
   ·rename_i h9; rw [if_neg h9] at h; omega
def atI:V -> List (L8) -> Option V
 | v,[] => some v
 | v,s :: r => if h:0 <= kidI v s then atI (v.kids[(kidI v s).toNat]'(by have:=zaN h; omega)) r else none
end
section
open Go.Lib (validD)
def stepOk (s:L8):Bool:=validD s && decide (s.length <= 2000)
def stepsOk (st:List (L8)):Bool:=decide (st.length <= 12) && st.all stepOk
end
section
def V.withK (v:V) (ks:List V):V:=.mk v.kind v.num v.exp v.text ks
def newS (v:V) (s:L8) (x:V) (ahead:Bool):V × Bool :=
 if v.kind = 8 /\ findK s v.kids 0 < 0 then (v.withK (v.kids ++ [.mk 5 0 0 s [],x]),true)
 else if v.kind = 7 /\ (ixI s = v.kids.length \/ ahead = true /\ 0 <= ixI s /\ ixI s <= v.kids.length - 1) then (v.withK (v.kids.take (ixI s).toNat ++ x :: v.kids.drop (ixI s).toNat),true)
 else (v,false)
def putS:V -> List (L8) -> V -> Bool -> V × Bool
 | _,[],x,_ => (x,true)
 | v,s :: r,x,ahead =>
  if h:0 <= kidI v s /\ ¬ (r = [] /\ ahead = true /\ v.kind = 7) then
   (v.withK (v.kids.set (kidI v s).toNat (putS (v.kids[(kidI v s).toNat]'(by have:=zaN h.1; omega)) r x ahead).1),(putS (v.kids[(kidI v s).toNat]'(by have:=zaN h.1; omega)) r x ahead).2)
  else if r = [] then newS v s x ahead else (v,false)
def lessS:V -> List (L8) -> V × Bool
 | v,[] => (v,false)
 | v,s :: r =>
  if h:0 <= kidI v s then
   if r = [] then (v.withK (v.kids.take (if v.kind = 8 then (kidI v s).toNat - 1 else (kidI v s).toNat) ++ v.kids.drop ((kidI v s).toNat + 1)),decide (v.kind ≠ 9))
   else (v.withK (v.kids.set (kidI v s).toNat (lessS (v.kids[(kidI v s).toNat]'(by have:=zaN h; omega)) r).1),(lessS (v.kids[(kidI v s).toNat]'(by have:=zaN h; omega)) r).2)
  else (v,false)
def madeS (v out:V) (ok:Bool):V × Bool:=if ok = true /\ v.ok = true /\ out.ok = true then (out,true) else (v,false)
def putW (v:V) (st:List (L8)) (x:V) (ahead:Bool):V × Bool:=madeS v (putS v st x ahead).1 ((putS v st x ahead).2 && x.ok)
def remW (v:V) (st:List (L8)):V × Bool:=madeS v (lessS v st).1 (lessS v st).2
/-! ### sizes -/
theorem V.withK_kids (v:V) (ks:List V):(v.withK ks).kids = ks:=rfl
theorem V.bulk_eq (v:V):v.bulk = v.text.length + (v.kids.length + V.bulks v.kids):=by cases v; rfl
theorem V.withK_bulk (v:V) (ks:List V):(v.withK ks).bulk = v.text.length + (ks.length + V.bulks ks):=rfl
theorem V.bulks_app (a b:List V):V.bulks (a ++ b) = V.bulks a + V.bulks b:=by
 induction a with
 | nil => simp [V.bulks]
 | cons x a ih => simp only [cons_append,V.bulks,ih]; omega
theorem V.bulks_td (l:List V) (i:Nat):V.bulks (l.take i) + V.bulks (l.drop i) = V.bulks l:=by rw [<- V.bulks_app,take_append_drop]
theorem V.bulks_set {l:List V} {i:Nat} (h:i < l.length) (x:V):V.bulks (l.set i x) + l[i].bulk = V.bulks l + x.bulk:=by
 have h1:=V.bulks_td l i;rw [drop_eq_getElem_cons h,V.bulks] at h1;rw [set_eq_take_append_cons_drop,if_pos h,V.bulks_app,V.bulks]; omega
theorem V.wfs_app (a b:List V):V.wfs (a ++ b) ↔ V.wfs a /\ V.wfs b:=by
 induction a with
 | nil => simp [V.wfs]
 | cons x a ih => simp only [cons_append,V.wfs,ih,and_assoc]
theorem V.wfs_td {l:List V} (h:V.wfs l) (i:Nat):V.wfs (l.take i) /\ V.wfs (l.drop i):=by rw [<- take_append_drop i l] at h; exact (V.wfs_app _ _).1 h
theorem V.wf_k {v:V} (h:v.wf):V.wfs v.kids:=by cases v; exact h.2.2.2.2.2
theorem V.wf_withK {v:V} {ks:List V} (h:v.wf) (hk:V.wfs ks) (hl:ks.length <= 9223372036854775807):(v.withK ks).wf:=by
 cases v
 exact ⟨h.1,h.2.1,h.2.2.1,h.2.2.2.1,hl,hk⟩
def Bw (n:Nat) (v:V):Prop:=v.wf /\ v.bulk <= n
theorem newS_bw {v x:V} {s:L8} {ahead:Bool} {n m:Nat} (hv:Bw n v) (hx:Bw m x) (hs:n + m + s.length + 2 <= 4294967295):Bw (n + m + s.length + 2) (newS v s x ahead).1:=by
 have hk:=V.wf_k hv.1;have hb:=hv.2;have hxb:=hx.2;rw [V.bulk_eq] at hb;unfold newS;split
 ·refine ⟨V.wf_withK hv.1 ((V.wfs_app _ _).2 ⟨hk,⟨?_,hx.1,trivial⟩⟩) (by rw [length_append]; simp only [length_cons,length_nil]; omega),?_⟩
  ·simp only [V.wf,V.wfs,i64ok,strok]; refine ⟨by omega,by omega,by omega,by omega,by simp,trivial⟩
  ·rw [V.withK_bulk,V.bulks_app,length_append]
   simp only [V.bulks,V.bulk,length_cons,length_nil]; omega
 ·split
  ·have h1:=V.wfs_td hk (ixI s).toNat
   have h2:=V.bulks_td v.kids (ixI s).toNat;have h3:(v.kids.take (ixI s).toNat ++ x :: v.kids.drop (ixI s).toNat).length = v.kids.length + 1:=by simp; omega
   refine ⟨V.wf_withK hv.1 ((V.wfs_app _ _).2 ⟨h1.1,⟨hx.1,h1.2⟩⟩) (by omega),?_⟩;rw [V.withK_bulk,h3,V.bulks_app,V.bulks]; omega
  ·exact ⟨hv.1,by have:=hv.2; show v.bulk <= _; omega⟩
theorem ze4 {v:V} {n:Nat} (h:Bw n v) {i:Nat} (hi:i < v.kids.length):Bw n v.kids[i]:=by
 have hb:=h.2;rw [V.bulk_eq] at hb;exact ⟨V.wf_kid h.1 i hi,V.bulk_get (by omega) i hi⟩
theorem zcz:∀ (st:List (L8)) (v x:V) (ahead:Bool) (S:Nat),(∀ s ∈ st,s.length <= S) -> (putS v st x ahead).1.bulk <= v.bulk + x.bulk + S + 2
 | [],v,x,ahead,S,_ => by rw [putS]; simp only; omega
 | s :: r,v,x,ahead,S,h => by
  have hs:=h s (by simp);rw [putS];split
  ·rename_i hh
   have hlt:=zaN hh.1;have ih:=zcz r (v.kids[(kidI v s).toNat]'(by omega)) x ahead S (fun z hz => h z (by simp [hz]));have h1:=V.bulks_set (show (kidI v s).toNat < v.kids.length by omega) (putS (v.kids[(kidI v s).toNat]'(by omega)) r x ahead).1;simp only [V.withK_bulk,length_set];rw [V.bulk_eq v]; omega
  ·split
   ·unfold newS
    split
    ·simp only [V.withK_bulk,V.bulks_app,length_append,V.bulks,V.bulk,length_cons,length_nil]
     rw [V.bulk_eq v]; omega
    ·split
     ·have h2:=V.bulks_td v.kids (ixI s).toNat
      have h3:(v.kids.take (ixI s).toNat ++ x :: v.kids.drop (ixI s).toNat).length = v.kids.length + 1:=by simp; omega
      simp only [V.withK_bulk,V.bulks_app,V.bulks,h3];rw [V.bulk_eq v]; omega
     ·simp only; omega
   ·simp only; omega
theorem zdB:∀ (st:List (L8)) (v x:V) (ahead:Bool) (S:Nat),v.wf -> x.wf -> (∀ s ∈ st,s.length <= S) -> v.bulk + x.bulk + S + 2 <= 4294967295 -> (putS v st x ahead).1.wf
 | [],v,x,ahead,S,_,hx,_,_ => by rw [putS]; exact hx
 | s :: r,v,x,ahead,S,hv,hx,h,hb => by
  have hs:=h s (by simp);have hvb:=hb;rw [V.bulk_eq v] at hvb;rw [putS];split
  ·rename_i hh
   have hlt:=zaN hh.1;have hi:(kidI v s).toNat < v.kids.length:=by omega
   have hkb:=(ze4 ⟨hv,lR⟩ hi).2;have ih:=zdB r v.kids[(kidI v s).toNat] x ahead S (V.wf_kid hv _ hi) hx (fun z hz => h z (by simp [hz])) (by omega);have hw:=V.wfs_td (V.wf_k hv) (kidI v s).toNat;refine V.wf_withK hv ?_ (by rw [length_set]; omega);rw [set_eq_take_append_cons_drop,if_pos hi];exact (V.wfs_app _ _).2 ⟨hw.1,ih,(V.wfs_td (V.wf_k hv) ((kidI v s).toNat + 1)).2⟩
  ·split
   ·exact (newS_bw (n:=v.bulk) (m:=x.bulk) ⟨hv,lR⟩ ⟨hx,lR⟩ (by omega)).1
   ·exact hv
theorem zc8:∀ (st:List (L8)) (v:V),v.wf -> v.bulk <= 4294967295 -> (lessS v st).1.wf /\ (lessS v st).1.bulk <= v.bulk
 | [],v,hv,_ => by rw [lessS]; exact ⟨hv,lR⟩
 | s :: r,v,hv,hb => by
  have hvb:=hb;rw [V.bulk_eq v] at hvb;rw [lessS];split
  ·rename_i hh
   have hlt:=zaN hh;have hi:(kidI v s).toNat < v.kids.length:=by omega
   split
   ·obtain ⟨f,hf,hfl⟩:∃ f,(if v.kind = 8 then (kidI v s).toNat - 1 else (kidI v s).toNat) = f /\ f <= (kidI v s).toNat:=⟨_,rfl,by split <;> omega⟩
    rw [hf];have h1:=V.bulks_td v.kids f;have h2:=V.bulks_td v.kids ((kidI v s).toNat + 1)
    have h3:V.bulks (v.kids.take f) <= V.bulks (v.kids.take ((kidI v s).toNat + 1)):=by
     have:=V.bulks_td (v.kids.take ((kidI v s).toNat + 1)) f
     rw [take_take,Nat.min_eq_left (by omega)] at this; omega
    have h4:(v.kids.take f ++ v.kids.drop ((kidI v s).toNat + 1)).length <= v.kids.length:=by simp; omega
    refine ⟨V.wf_withK hv ((V.wfs_app _ _).2 ⟨(V.wfs_td (V.wf_k hv) f).1,(V.wfs_td (V.wf_k hv) _).2⟩) (by omega),?_⟩;simp only [V.withK_bulk,V.bulks_app];rw [V.bulk_eq v]; omega
   ·have hkb:=(ze4 ⟨hv,lR⟩ hi).2
    obtain ⟨i1,i2⟩:=zc8 r v.kids[(kidI v s).toNat] (V.wf_kid hv _ hi) (by omega);have h1:=V.bulks_set hi (lessS v.kids[(kidI v s).toNat] r).1;have hw:=V.wfs_td (V.wf_k hv) (kidI v s).toNat;refine ⟨V.wf_withK hv ?_ (by rw [length_set]; omega),?_⟩
    ·rw [set_eq_take_append_cons_drop,if_pos hi]
     exact (V.wfs_app _ _).2 ⟨hw.1,i1,(V.wfs_td (V.wf_k hv) ((kidI v s).toNat + 1)).2⟩
    ·simp only [V.withK_bulk,length_set]
     rw [V.bulk_eq v]; omega
  ·exact ⟨hv,lR⟩
end
section
def m_s_l02Copy:M:=so [qo 1 (.box 0),⟨some 2,.zero [.int .i64 0,.int .i64 0,.int .i64 0,.string ⟨[].toArray⟩,.slice none 0 0],none,[]⟩] (so [qL 4 5 1,⟨some 3,.zero [.int .i64 0,.int .i64 0,.int .i64 0,.string ⟨[].toArray⟩,.slice none 0 0],none,[]⟩,qS 5 3 4] (so [qF 5 4 1,ql 6 1 5,qc 7 52 [6] 1,qF 8 4 3,qS 1 8 7] (so [qL 9 5 3,qS 5 2 9] .ret)))
theorem zcU:look Tryz.prog 28 = some (10,m_s_l02Copy,[.cell true 5 2]):=by kernel_rfl
def m_s_l02CopyAll:M:=so [qo 2 (.mv (.c (.slice none 0 0)))] (so [qo 5 (.lit 5 []),qm 3 5] (.seq (so [qo 4 (.mv (ci 0))] (.block 0 (.loop (.seq (so [qm 6 4,qm 7 0,qo 8 (.len 7),qo 9 (.bin .lss false 6 8)] (.cond 9 .skip (.exit 0))) (.seq (.block 1 (.ops [qm 12 3,qm 13 0,qm 14 4,qo 15 (.ix 5 13 14),qL 16 5 15,qc 17 28 [16] 1,qo 18 (.lit 5 [17]),⟨some 19,.app 5 12 18,none,[.f 1]⟩,qm 3 19])) (.ops [qm 10 4,qo 11 (.bin .add false 10 (ci 1)),qm 4 11])))))) (so [qm 20 3,qm 2 20] .ret)))
theorem zbV:look Tryz.prog 52 = some (21,m_s_l02CopyAll,[.tm 2]):=by kernel_rfl
end
section
def m_s_Put:M:=so [qo 3 (.box 0),qo 5 (.box 2),⟨some 6,.zero [.int .i64 0,.int .i64 0,.int .i64 0,.string ⟨[].toArray⟩,.slice none 0 0],none,[]⟩,qo 7 (.mv (cB false))] (so [qL 11 5 3,qm 12 1,qL 13 5 5,qc 14 48 [11,12,13,cB false] 1,qm 10 14,qe 15 10 0,qe 16 10 1,⟨some 8,.zero [.int .i64 0,.int .i64 0,.int .i64 0,.string ⟨[].toArray⟩,.slice none 0 0],none,[]⟩,qS 5 8 15,qm 9 16] (so [qL 17 5 3,qL 18 5 8,qm 19 9,qm 20 19,⟨some 21,.load true 5 5,some (20,true),[]⟩,⟨some 22,.call 30 [21],some (20,true),[.f 0,3,8]⟩,qo 23 (.pick 20 22 (cB false)),qc 24 49 [17,18,23] 0,qe 25 24 0,qe 26 24 1,qS 5 6 25,qm 7 26] .ret))
theorem lk_s_Put:look Tryz.prog 24 = some (27,m_s_Put,[.cell true 5 6,.tm 7]):=by kernel_rfl
def m_s_Insert:M:=so [qo 3 (.box 0),qo 5 (.box 2),⟨some 6,.zero [.int .i64 0,.int .i64 0,.int .i64 0,.string ⟨[].toArray⟩,.slice none 0 0],none,[]⟩,qo 7 (.mv (cB false))] (so [qL 11 5 3,qm 12 1,qL 13 5 5,qc 14 48 [11,12,13,cB true] 1,qm 10 14,qe 15 10 0,qe 16 10 1,⟨some 8,.zero [.int .i64 0,.int .i64 0,.int .i64 0,.string ⟨[].toArray⟩,.slice none 0 0],none,[]⟩,qS 5 8 15,qm 9 16] (so [qL 17 5 3,qL 18 5 8,qm 19 9,qm 20 19,⟨some 21,.load true 5 5,some (20,true),[]⟩,⟨some 22,.call 30 [21],some (20,true),[.f 0,3,8]⟩,qo 23 (.pick 20 22 (cB false)),qc 24 49 [17,18,23] 0,qe 25 24 0,qe 26 24 1,qS 5 6 25,qm 7 26] .ret))
theorem zf2:look Tryz.prog 25 = some (27,m_s_Insert,[.cell true 5 6,.tm 7]):=by kernel_rfl
def m_s_Remove:M:=so [qo 2 (.box 0),⟨some 4,.zero [.int .i64 0,.int .i64 0,.int .i64 0,.string ⟨[].toArray⟩,.slice none 0 0],none,[]⟩,qo 5 (.mv (cB false))] (so [qL 9 5 2,qm 10 1,qc 11 50 [9,10] 1,qm 8 11,qe 12 8 0,qe 13 8 1,⟨some 6,.zero [.int .i64 0,.int .i64 0,.int .i64 0,.string ⟨[].toArray⟩,.slice none 0 0],none,[]⟩,qS 5 6 12,qm 7 13] (so [qL 14 5 2,qL 15 5 6,qm 16 7,qc 17 49 [14,15,16] 1,qe 18 17 0,qe 19 17 1,qS 5 4 18,qm 5 19] .ret))
theorem zf3:look Tryz.prog 26 = some (20,m_s_Remove,[.cell true 5 4,.tm 5]):=by kernel_rfl
def m_s_At:M:=so [qo 2 (.box 0),⟨some 4,.zero [.int .i64 0,.int .i64 0,.int .i64 0,.string ⟨[].toArray⟩,.slice none 0 0],none,[]⟩,qo 5 (.mv (cB false))] (.seq (so [qo 6 (.mv (ci 0))] (.block 0 (.loop (.seq (so [qm 8 6,qm 9 1,qo 10 (.len 9),qo 11 (.bin .lss false 8 10)] (.cond 11 .skip (.exit 0))) (.seq (.block 1 (so [qL 14 5 2,qm 15 1,qm 16 6,qo 17 (.ix 1 15 16),ql 18 1 17,qc 19 51 [14,18] 0,qm 7 19] (.seq (so [qm 20 7,qo 21 (.bin .lss false 20 (ci 0))] (.cond 21 (so [⟨some 22,.build [.int .i64 0,.int .i64 0,.int .i64 0,.string ⟨[].toArray⟩,.slice none 0 0] [],none,[]⟩,qS 5 4 22,qo 5 (.mv (cB false))] .ret) .skip)) (.ops [qF 23 4 2,ql 24 1 23,qm 25 7,qo 26 (.ix 5 24 25),qL 27 5 26,qS 5 2 27])))) (.ops [qm 12 6,qo 13 (.bin .add false 12 (ci 1)),qm 6 13])))))) (so [qL 28 5 2,qc 29 28 [28] 1,qS 5 4 29,qo 5 (.mv (cB true))] .ret))
theorem lk_s_At:look Tryz.prog 27 = some (30,m_s_At,[.cell true 5 4,.tm 5]):=by kernel_rfl
def m_s_l08Put:M:=so [qo 4 (.box 0),qo 6 (.box 2),⟨some 8,.zero [.int .i64 0,.int .i64 0,.int .i64 0,.string ⟨[].toArray⟩,.slice none 0 0],none,[]⟩,qo 9 (.mv (cB false))] (.seq (so [qm 13 1,qo 14 (.len 13),qo 15 (.bin .eql false 14 (ci 0))] (.cond 15 (so [qL 16 5 6,qc 17 28 [16] 1,qS 5 8 17,qo 9 (.mv (cB true))] .ret) .skip)) (so [qL 18 5 4,qm 19 1,qo 20 (.ix 1 19 (ci 0)),ql 21 1 20,qc 22 51 [18,21] 0,qm 10 22] (.seq (so [qm 23 10,qo 24 (.bin .lss false 23 (ci 0)),qm 25 24,qg 26 1 25 false,⟨some 27,.len 26,some (25,false),[]⟩,⟨some 28,.bin .eql false 27 (ci 1),some (25,false),[]⟩,qg 29 28 25 false,qg 30 3 29 true,⟨some 31,.pick 29 30 (cB false),some (25,false),[]⟩,qg 32 31 25 false,⟨some 33,.fld 0 4,some (32,true),[]⟩,⟨some 34,.load false 1 33,some (32,true),[]⟩,⟨some 35,.bin .eql false 34 (ci 7),some (32,true),[]⟩,⟨some 36,.pick 32 35 (cB false),some (25,false),[]⟩,qo 37 (.pick 25 (cB true) 36)] (.cond 37 (.seq (so [qm 38 1,qo 39 (.len 38),qo 40 (.bin .gtr false 39 (ci 1))] (.cond 40 (so [qL 41 5 4,qS 5 8 41,qo 9 (.mv (cB false))] .ret) .skip)) (so [qL 42 5 4,qm 43 1,qo 44 (.ix 1 43 (ci 0)),ql 45 1 44,qL 46 5 6,qm 48 3,⟨some 47,.call 28 [46],none,[.f 0,4,44]⟩,qc 49 63 [42,45,47,48] 0,qe 50 49 0,qe 51 49 1,qS 5 8 50,qm 9 51] .ret)) .skip)) (.seq (.tree (.node [qF 53 4 4,ql 54 1 53,qm 55 10,qo 56 (.ix 5 54 55),qL 57 5 56,qm 58 1,qo 59 (.slc 1 58 (some (ci 1)) none),qL 60 5 6,qm 61 3] (.alt (qc 62 48 [57,59,60,61] 0) (.node [qm 52 62,qe 63 52 0,qe 64 52 1] (.alt ⟨some 11,.zero [.int .i64 0,.int .i64 0,.int .i64 0,.string ⟨[].toArray⟩,.slice none 0 0],none,[]⟩ (.node [] (.alt (qS 5 11 63) (.node [qm 12 64] .leaf) .leaf)) .leaf)) (.alt ⟨some 11,.zero [.int .i64 0,.int .i64 0,.int .i64 0,.string ⟨[].toArray⟩,.slice none 0 0],none,[]⟩ (.node [] (.alt (qc 62 48 [57,59,60,61] 0) (.node [qm 52 62,qe 63 52 0,qe 64 52 1] (.alt (qS 5 11 63) (.node [qm 12 64] .leaf) .leaf)) .leaf)) .leaf)))) (so [qL 65 5 4,qm 66 10,qL 67 5 11,qc 68 64 [65,66,67] 1,qm 69 12,qS 5 8 68,qm 9 69] .ret)))))
theorem zdC:look Tryz.prog 48 = some (70,m_s_l08Put,[.cell true 5 8,.tm 9]):=by kernel_rfl
def m_s_l08Made:M:=so [qo 3 (.box 0),qo 4 (.box 1),⟨some 6,.zero [.int .i64 0,.int .i64 0,.int .i64 0,.string ⟨[].toArray⟩,.slice none 0 0],none,[]⟩,qo 7 (.mv (cB false))] (.seq (so [qm 8 2,qo 9 (.not 8),qm 10 9,⟨some 11,.load true 5 3,some (10,false),[]⟩,⟨some 12,.call 30 [11],some (10,false),[.f 1]⟩,⟨some 13,.not 12,some (10,false),[]⟩,qo 14 (.pick 10 (cB true) 13),qm 15 14,⟨some 16,.load true 5 4,some (15,false),[]⟩,⟨some 17,.call 30 [16],some (15,false),[.f 1]⟩,⟨some 18,.not 17,some (15,false),[]⟩,qo 19 (.pick 15 (cB true) 18)] (.cond 19 (so [qL 20 5 3,qc 21 28 [20] 1,qS 5 6 21,qo 7 (.mv (cB false))] .ret) .skip)) (so [qL 22 5 4,qS 5 6 22,qo 7 (.mv (cB true))] .ret))
theorem ze5:look Tryz.prog 49 = some (23,m_s_l08Made,[.cell true 5 6,.tm 7]):=by kernel_rfl
def m_s_l08Less:M:=so [qo 2 (.box 0),⟨some 4,.zero [.int .i64 0,.int .i64 0,.int .i64 0,.string ⟨[].toArray⟩,.slice none 0 0],none,[]⟩,qo 5 (.mv (cB false))] (.seq (so [qm 11 1,qo 12 (.len 11),qo 13 (.bin .eql false 12 (ci 0))] (.cond 13 (so [qL 14 5 2,qS 5 4 14,qo 5 (.mv (cB false))] .ret) .skip)) (so [qL 15 5 2,qm 16 1,qo 17 (.ix 1 16 (ci 0)),ql 18 1 17,qc 19 51 [15,18] 0,qm 6 19] (.seq (so [qm 20 6,qo 21 (.bin .lss false 20 (ci 0))] (.cond 21 (so [qL 22 5 2,qS 5 4 22,qo 5 (.mv (cB false))] .ret) .skip)) (.seq (so [qm 23 1,qo 24 (.len 23),qo 25 (.bin .gtr false 24 (ci 1))] (.cond 25 (.seq (.tree (.node [qF 27 4 2,ql 28 1 27,qm 29 6,qo 30 (.ix 5 28 29),qL 31 5 30,qm 32 1,qo 33 (.slc 1 32 (some (ci 1)) none)] (.alt (qc 34 50 [31,33] 0) (.node [qm 26 34,qe 35 26 0,qe 36 26 1] (.alt ⟨some 7,.zero [.int .i64 0,.int .i64 0,.int .i64 0,.string ⟨[].toArray⟩,.slice none 0 0],none,[]⟩ (.node [] (.alt (qS 5 7 35) (.node [qm 8 36] .leaf) .leaf)) .leaf)) (.alt ⟨some 7,.zero [.int .i64 0,.int .i64 0,.int .i64 0,.string ⟨[].toArray⟩,.slice none 0 0],none,[]⟩ (.node [] (.alt (qc 34 50 [31,33] 0) (.node [qm 26 34,qe 35 26 0,qe 36 26 1] (.alt (qS 5 7 35) (.node [qm 8 36] .leaf) .leaf)) .leaf)) .leaf)))) (so [qL 37 5 2,qm 38 6,qL 39 5 7,qc 40 64 [37,38,39] 1,qm 41 8,qS 5 4 40,qm 5 41] .ret)) .skip)) (so [qL 42 5 2,qc 43 28 [42] 1,⟨some 9,.zero [.int .i64 0,.int .i64 0,.int .i64 0,.string ⟨[].toArray⟩,.slice none 0 0],none,[]⟩,qS 5 9 43] (so [qm 44 6,qm 10 44] (.seq (so [qF 45 0 2,ql 46 1 45,qo 47 (.bin .eql false 46 (ci 8))] (.cond 47 (.ops [qm 48 6,qo 49 (.bin .sub false 48 (ci 1)),qm 10 49]) .skip)) (so [qF 51 4 9,ql 52 1 51,qm 53 10,qo 54 (.slc 5 52 none (some 53)),qF 56 4 9,ql 57 1 56,qm 58 6,qo 59 (.bin .add false 58 (ci 1)),qo 60 (.slc 5 57 (some 59) none),qo 50 (.lit 5 []),qo 55 (.app 5 50 54),⟨some 61,.app 5 55 60,none,[.f 0]⟩,qF 62 4 9,qS 1 62 61] (so [qL 63 5 9,qF 64 0 2,ql 65 1 64,qo 66 (.bin .neq false 65 (ci 9)),⟨none,.store 5 4 63,none,[64]⟩,qm 5 66] .ret)))))))))
theorem zcV:look Tryz.prog 50 = some (67,m_s_l08Less,[.cell true 5 4,.tm 5]):=by kernel_rfl
def m_s_l08Kid:M:=so [qo 2 (.box 0),qo 4 (.mv (ci 0))] (.seq (so [qF 7 0 2,ql 8 1 7] (.block 0 (so [qo 10 (.bin .eql false 8 (ci 7)),qm 9 10] (.cond 9 (so [qm 11 1,qc 12 65 [11] 1,qm 5 12] (so [qm 13 5,qF 14 4 2,ql 15 1 14,qo 16 (.len 15),qo 17 (.bin .lss false 13 16)] (.cond 17 (so [qm 18 5,qm 4 18] .ret) .skip))) (so [qo 20 (.bin .eql false 8 (ci 8)),qm 19 20] (.cond 19 (so [qF 21 4 2,ql 22 1 21,qm 23 1,qc 24 66 [22,23] 1,qm 6 24] (so [qm 25 6,qo 26 (.bin .geq false 25 (ci 0))] (.cond 26 (so [qm 27 6,qo 28 (.bin .add false 27 (ci 1)),qm 4 28] .ret) .skip))) (so [qo 30 (.bin .eql false 8 (ci 9)),qm 29 30] (.cond 29 (so [qm 31 1,⟨some 32,.bin .eql false 31 (.c (.string ⟨[116,97,103].toArray⟩)),none,[]⟩,qm 33 32,⟨some 34,.fld 4 2,some (33,true),[]⟩,⟨some 35,.load false 1 34,some (33,true),[]⟩,⟨some 36,.len 35,some (33,true),[]⟩,⟨some 37,.bin .gtr false 36 (ci 0),some (33,true),[]⟩,qo 38 (.pick 33 37 (cB false))] (.cond 38 (so [qo 4 (.mv (ci 0))] .ret) .skip)) .skip)))))))) (so [qo 4 (.mv (ci (-1)))] .ret))
theorem zf4:look Tryz.prog 51 = some (39,m_s_l08Kid,[.tm 4]):=by kernel_rfl
def m_s_l08New:M:=so [qo 4 (.box 0),qo 6 (.box 2),⟨some 8,.zero [.int .i64 0,.int .i64 0,.int .i64 0,.string ⟨[].toArray⟩,.slice none 0 0],none,[]⟩,qo 9 (.mv (cB false))] (so [qL 12 5 4,qc 13 28 [12] 1,⟨some 10,.zero [.int .i64 0,.int .i64 0,.int .i64 0,.string ⟨[].toArray⟩,.slice none 0 0],none,[]⟩,qS 5 10 13] (so [qm 14 1,qc 15 65 [14] 1,qm 11 15] (.seq (.block 0 (so [qF 17 0 4,ql 18 1 17,qo 19 (.bin .eql false 18 (ci 8)),qm 20 19,⟨some 21,.fld 4 4,some (20,true),[]⟩,⟨some 22,.load false 1 21,some (20,true),[]⟩,qg 23 1 20 true,⟨some 24,.call 66 [22,23],some (20,true),[.f 1]⟩,⟨some 25,.bin .lss false 24 (ci 0),some (20,true),[]⟩,qo 26 (.pick 20 25 (cB false)),qm 16 26] (.cond 16 (so [qF 27 4 10,ql 28 1 27,qm 29 1,qL 31 5 6,⟨some 30,.call 82 [29],none,[.f 0,27,6]⟩,qo 32 (.litq 5 [30,31]),⟨some 33,.app 5 28 32,none,[.f 0]⟩,qF 34 4 10,qS 1 34 33] (so [qL 35 5 10,qS 5 8 35,qo 9 (.mv (cB true))] .ret)) (so [qF 37 0 4,ql 38 1 37,qo 39 (.bin .eql false 38 (ci 7)),qm 40 39,qg 41 11 40 true,⟨some 42,.fld 4 4,some (40,true),[]⟩,⟨some 43,.load false 1 42,some (40,true),[]⟩,⟨some 44,.len 43,some (40,true),[]⟩,⟨some 45,.bin .eql false 41 44,some (40,true),[]⟩,qg 46 45 40 true,qg 47 3 46 false,qg 48 47 46 false,qg 49 11 48 true,⟨some 50,.fld 4 4,some (48,true),[]⟩,⟨some 51,.load false 1 50,some (48,true),[]⟩,⟨some 52,.len 51,some (48,true),[]⟩,⟨some 53,.bin .sub false 52 (ci 1),some (48,true),[]⟩,⟨some 54,.call 83 [49,ci 0,53],some (48,true),[.f 1]⟩,⟨some 55,.pick 48 54 (cB false),some (46,false),[]⟩,⟨some 56,.pick 46 (cB true) 55,some (40,true),[]⟩,qo 57 (.pick 40 56 (cB false)),qm 36 57] (.cond 36 (so [qF 59 4 10,ql 60 1 59,qm 61 11,qo 62 (.slc 5 60 none (some 61)),qL 64 5 6,qo 65 (.litq 5 [64]),qF 67 4 10,ql 68 1 67,qm 69 11,qo 70 (.slc 5 68 (some 69) none),qo 58 (.lit 5 []),qo 63 (.app 5 58 62),qo 66 (.app 5 63 65),⟨some 71,.app 5 66 70,none,[.f 0]⟩,qF 72 4 10,qS 1 72 71] (so [qL 73 5 10,qS 5 8 73,qo 9 (.mv (cB true))] .ret)) .skip))))) (so [qL 74 5 10,qS 5 8 74,qo 9 (.mv (cB false))] .ret))))
theorem zf5:look Tryz.prog 63 = some (75,m_s_l08New,[.cell true 5 8,.tm 9]):=by kernel_rfl
def m_s_l08With:M:=so [qo 3 (.box 0),qo 5 (.box 2),⟨some 6,.zero [.int .i64 0,.int .i64 0,.int .i64 0,.string ⟨[].toArray⟩,.slice none 0 0],none,[]⟩] (so [qL 8 5 3,qc 9 28 [8] 1,⟨some 7,.zero [.int .i64 0,.int .i64 0,.int .i64 0,.string ⟨[].toArray⟩,.slice none 0 0],none,[]⟩,qS 5 7 9] (so [qF 10 4 7,ql 11 1 10,qm 12 1,qL 13 5 5,qo 14 (.ix 5 11 12),qS 5 14 13] (so [qL 15 5 7,qS 5 6 15] .ret)))
theorem ze6:look Tryz.prog 64 = some (16,m_s_l08With,[.cell true 5 6]):=by kernel_rfl
def m_s_l08Number:M:=so [qo 2 (.mv (ci 0))] (so [qm 6 0,qc 7 84 [6] 1,qm 5 7,qe 8 5 0,qe 9 5 1,qm 3 8,qm 4 9] (.seq (so [qm 10 4,qo 11 (.not 10),qm 12 11,qg 13 3 12 false,⟨some 14,.call 83 [13,ci 0,ci 999999],some (12,false),[.f 1]⟩,⟨some 15,.not 14,some (12,false),[]⟩,qo 16 (.pick 12 (cB true) 15)] (.cond 16 (so [qo 2 (.mv (ci (-1)))] .ret) .skip)) (so [qm 17 3,qm 2 17] .ret)))
theorem zdY:look Tryz.prog 65 = some (18,m_s_l08Number,[.tm 2]):=by kernel_rfl
def m_s_l02Key:M:=so [qo 4 (.mv (ci 0))] (.seq (so [qo 5 (.mv (ci 0))] (.block 0 (.loop (.seq (so [qm 6 5,qo 7 (.bin .add false 6 (ci 1)),qm 8 0,qo 9 (.len 8),qo 10 (.bin .lss false 7 9)] (.cond 10 .skip (.exit 0))) (.seq (.block 1 (so [qm 13 0,qm 14 5,qo 15 (.ix 5 13 14),qF 16 0 15,ql 17 1 16,qo 18 (.bin .eql false 17 (ci 5)),qm 19 18,qg 20 0 19 true,qg 21 5 19 true,⟨some 22,.ix 5 20 21,some (19,true),[]⟩,⟨some 23,.fld 3 22,some (19,true),[]⟩,⟨some 24,.load false 1 23,some (19,true),[]⟩,qg 25 1 19 true,⟨some 26,.bin .eql false 24 25,some (19,true),[]⟩,qo 27 (.pick 19 26 (cB false))] (.cond 27 (so [qm 28 5,qm 4 28] .ret) .skip))) (.ops [qm 11 5,qo 12 (.bin .add false 11 (ci 2)),qm 5 12])))))) (so [qo 4 (.mv (ci (-1)))] .ret))
theorem zf6:look Tryz.prog 66 = some (29,m_s_l02Key,[.tm 4]):=by kernel_rfl
end
section
variable {T:World -> Prop} {hT:Low ngl T}
attribute [local irreducible] po mw pt
theorem za8 (v:V) (_hw:v.wf) (hb:v.bulk <= 4294967295):FnV (env T hT) 28 [.ag (vC v)] (.ag (vC v)):=by
 have h:FnO (env T hT) 28 [.ag (vC v)] (.ag v.d.pc):=by
  refine FnO.old (V.wfd v) fun w C vs hF _ _ hlen hv => ?_
  match vs,hlen with
  | [y],_ =>
   have h0:=hv 0 _ _ rfl rfl;rw [<- v.pc_eq] at h0;obtain ⟨cs,rfl,hr⟩:=vRd hF (V.wfd v) h0;exact zf1 v cs w hr (by omega)
 have h:=h.v;rw [v.pc_eq] at h;exact h
theorem zbW (a b:List V):vK (a ++ b) = vK a ++ vK b:=by simp [vK]
theorem zdD (v:V):vK [v] = [vC v]:=by show [v.d.pc] = _; rw [V.pc_eq]
def CbI (ks:List V) (m:Nat) (s:St):Prop :=
 ∃ (i:Nat) (c:PC),i <= ks.length /\ m = ks.length - i /\ has s.tm [(0,.d (.sl 0 (vK ks))),(3,.d c),(4,.d (pI i))] /\ RwL 5 0 s.live c s.bx (vK (ks.take i))
theorem cpyAllB_g (ks:List V) (hw:V.wfs ks) (hb:ks.length + V.bulks ks <= 4294967295) (nt:Nat) (live:List Nat):FnG (env T hT) 52 [.d (.sl 0 (vK ks))] [] nt live (fun x bx _ l => ∃ c,x = .d c /\ RwL 5 0 l c bx (vK ks)):=by
 refine zbN (zaf zbV) (by show 1 <= 21; decide) fun B hB => ?_
 unfold m_s_l02CopyAll;refine mP ?_;refine mO ?_;refine zbO (es:=[]) rfl ?_;refine mN ?_;refine zaS (fun s => ∃ c,has s.tm [(3,.d c)] /\ RwL 5 0 s.live c s.bx (vK ks)) ?_ ?_
 ·refine mP ?_
  refine zak ?_;refine zaY (CbI ks) ks.length ⟨0,.sl nt [],Nat.zero_le _,rfl,⟨rfl,rfl,rfl,trivial⟩,⟨Nat.zero_le _,.inl ⟨nt,rfl,.inr (mem_cons_self ..),rfl⟩⟩,fun e he => by cases he⟩ ?_;rintro m tm bx n1 l1 ⟨i,c,hi,rfl,ht,hR⟩;obtain ⟨tm1,rfl⟩:=zaq ht;simp only at hR;clear ht;refine mM ?_;(iterate 2 refine mS ?_);refine zay (n:=ks.length) rfl rfl (zam _) ?_;refine po_b rfl rfl (fun p hp => ?_);refine zaj ?_;refine zdy (p:=(i:Int) < ks.length) hp rfl (fun him _ => ?_) (fun him _ => ?_)
  rotate_left
  ·refine za4 ?_
   obtain rfl:i = ks.length:=by omega
   rw [take_length] at hR;exact ⟨c,⟨rfl,trivial⟩,hR⟩
  have hil:i < ks.length:=by omega
  have hwi:ks[i].wf:=by
   have:=V.wfs_td hw i
   rw [drop_eq_getElem_cons hil] at this;exact this.2.1
  refine za0 ?_;refine zau (zak (zap ?_));(iterate 3 refine mS ?_);refine za5 (es:=vK ks) (e:=vC ks[i]) rfl rfl rfl ⟨by omega,by rw [Int.toNat_natCast]; exact zbj hil⟩ rfl ?_;refine mS ?_;refine zac (zax _) (za8 (T:=T) (hT:=hT) ks[i] hwi (V.bulk_get hb i hil)) ?_;refine zbO (es:=vK [ks[i]]) (by rw [zdD]; rfl) ?_;refine zfZ (m:=i) (ds:=vK [ks[i]]) (RwAt.mono hR.1 fun t ht => mem_cons_of_mem _ ht) (by simp [vK]) (by rw [zaI hR.2,zam,length_take,Nat.min_eq_left hi]) (by decide) (by rw [zam]; simp only [length_singleton]; omega) (za7 _) rfl rfl ?_;intro c' bx' hR' _;refine mN ?_;refine zap ?_;refine mS ?_;refine zaZ (n:=((i + 1:Nat):Int)) rfl rfl rfl (by omega) (by omega) ?_;refine mN ?_;refine ⟨ks.length - (i + 1),by omega,i + 1,c',hil,rfl,⟨rfl,rfl,rfl,trivial⟩,?_⟩
  ·rw [take_succ_eq_append_getElem hil,zbW]
   exact ⟨by rw [flatten_append]; exact hR',fun e he => (mem_append.1 he).elim (za7 _ e) (za7 _ e)⟩
 rintro tm bx n1 l1 ⟨c,ht,hR⟩;obtain ⟨tm1,rfl⟩:=zaq ht;refine mP ?_;exact zab ⟨.inr rfl,[.d c],rfl,c,rfl,hR⟩
theorem lwL_app {k:Nat}:∀ {a b:List PC},lwL k a -> lwL k b -> lwL k (a ++ b)
 | [],_,_,h => h
 | _ :: _,_,h,h2 => ⟨h.1,lwL_app h.2 h2⟩
theorem RwL.cong {n lo:Nat} {live:List Nat} {c:PC} {bx bx' rows:LP PC} (h:RwL n lo live c bx rows) (h1:bx.length <= bx'.length) (hb:∀ q,lo <= q -> q < bx.length -> bx'[q]? = bx[q]?):RwL n lo live c bx' rows:=⟨h.1.cong h1 hb,h.2⟩
theorem RwL.low {n lo lo':Nat} {live:List Nat} {c:PC} {bx rows:LP PC} (h:RwL n lo live c bx rows) (hl:lo' <= lo):RwL n lo' live c bx rows :=
 ⟨⟨by have:=h.1.1; omega,h.1.2.imp id fun ⟨p,len,cap,z,a,b,r⟩ => ⟨p,len,cap,z,a,by omega,r⟩⟩,h.2⟩
theorem RwL.app {n lo:Nat} {live:List Nat} {c:PC} {bx rows:LP PC} (h:RwL n lo live c bx rows) (q:List PC):RwL n lo live c (bx ++ [q]) rows:=h.cong (by simp) fun i _ hi => getElem?_append_left hi
theorem RwL.shB {n lo k:Nat} {live:List Nat} {c:PC} {b bx rows:LP PC} (h:RwL n lo live c b rows) (hl:lwLL 0 rows) (hk:bx.length = k):RwL n (lo + k) live (c.shB k) (bx ++ b.map (·.map (PC.shB k))) rows :=
 ⟨h.1.shB (by
  clear h
  induction rows with
  | nil => trivial
  | cons e r ih =>
   rw [flatten_cons];exact lwL_app hl.1 (ih hl.2)) hk,h.2⟩
theorem vK_lw (ks:List V):lwLL 0 (vK ks):=(vlw (v:=.mk 0 0 0 [] ks) (zai _)).2.2.2.2.1
theorem vag_shB (k:Nat) (v:V) (c:PC):PV.shB k (.ag [pI v.kind,pI v.num,pI v.exp,pS v.text,c]) = .ag [pI v.kind,pI v.num,pI v.exp,pS v.text,c.shB k]:=by
 simp only [PV.shB,map_cons,map_nil];rw [zcT (c:=pI v.kind) trivial,zcT (c:=pI v.num) trivial,zcT (c:=pI v.exp) trivial,zcT (c:=pS v.text) trivial]
theorem cpyB_g (v:V) (hw:v.wf) (hb:v.bulk <= 4294967295) (nt:Nat) (live:List Nat):FnG (env T hT) 28 [.ag (vC v)] [] nt live (fun x bx _ l => ∃ c,x = .ag [pI v.kind,pI v.num,pI v.exp,pS v.text,c] /\ RwL 5 0 l c bx (vK v.kids)):=by
 have hb2:=hb;rw [V.bulk_eq] at hb2;refine zbN (zaf zcU) (by show 1 <= 10; decide) fun B hB => ?_
 unfold m_s_l02Copy;refine mO ?_;refine zal (cs:=vC v) rfl ?_;refine mN ?_;refine mO ?_;refine zaa (p:=0) (cs:=vC v) rfl rfl rfl rfl ?_;refine zdX (cs:=vC v) rfl rfl rfl rfl ?_;refine mN ?_;refine mO ?_;(iterate 2 refine mS ?_);refine po_g rfl (FnG.liftR (cpyAllB_g (T:=T) (hT:=hT) v.kids (V.wf_k hw) (by omega) nt live) ⟨vK_lw _,trivial⟩) ?_;rintro x b n l ⟨x0,b0,rfl,rfl,c0,rfl,hR⟩;have hR2:=hR.shB (bx:=[vC v,[pI 0,pI 0,pI 0,pS [],.sl 1 []],vC v]) (k:=3) (vK_lw _) rfl;show po _ _ _ ⟨up 7 (.d (c0.shB 3)) _,[vC v,[pI 0,pI 0,pI 0,pS [],.sl 1 []],vC v] ++ b0.map (·.map (PC.shB 3)),_,_⟩;generalize c0.shB 3 = c at hR2;obtain ⟨rest,hrest⟩:∃ rest,b0.map (·.map (PC.shB 3)) = rest:=⟨_,rfl⟩;rw [hrest] at hR2 ⊢;refine mS ?_;refine zaC (p:=2) (o':=4) (cs:=[c]) (z:=vC v) rfl rfl rfl ⟨rfl,Nat.le_of_ble_eq_true rfl⟩ rfl ?_;refine zaj ?_;refine mO ?_;refine zaD (p:=2) (o:=0) (cs:=[pI v.kind,pI v.num,pI v.exp,pS v.text,c]) rfl rfl rfl (Nat.le_of_ble_eq_true rfl) rfl ?_
 refine zad (p:=1) (cs:=[pI v.kind,pI v.num,pI v.exp,pS v.text,c]) rfl rfl rfl rfl rfl rfl ?_;refine zaj ?_;refine zab ⟨.inr rfl,[.ag [pI v.kind,pI v.num,pI v.exp,pS v.text,c]],rfl,c,rfl,?_⟩;have hR3:=(hR2.cong (bx':=(([vC v,[pI 0,pI 0,pI 0,pS [],.sl 1 []],vC v] ++ rest).set 2 (spl (vC v) 4 [c])).set 1 [pI v.kind,pI v.num,pI v.exp,pS v.text,c]) (by simp) (fun q hq _ => by rw [getElem?_set_ne (by omega),getElem?_set_ne (by omega)])).low (Nat.zero_le _);exact hR3
theorem vK_set (ks:List V) (i:Nat) (x:V):(vK ks).set i (vC x) = vK (ks.set i x):=by
 unfold vK;rw [<- V.pc_eq,map_set]
theorem withS_fn (v x:V) (i:Nat) (hi:i < v.kids.length) (hw:v.wf) (hb:v.bulk <= 4294967295):FnV (env T hT) 64 [.ag (vC v),.d (pI i),.ag (vC x)] (.ag (vC (v.withK (v.kids.set i x)))):=by
 refine FnG.rowA1 (zbN (zaf ze6) (by show 3 <= 16; decide) fun B hB => ?_);unfold m_s_l08With;refine mO ?_;refine zal (cs:=vC v) rfl ?_;refine zal (cs:=vC x) rfl ?_;refine mN ?_;refine mO ?_;refine zaa (p:=0) (cs:=vC v) rfl rfl rfl rfl ?_;refine po_g rfl (FnG.liftR (cpyB_g (T:=T) (hT:=hT) v hw hb 2 []) ⟨vlw (zai _),trivial⟩) ?_;rintro y b n l ⟨x0,b0,rfl,rfl,c0,rfl,hR⟩;have hR2:=hR.shB (bx:=[vC v,vC x,[pI 0,pI 0,pI 0,pS [],.sl 1 []]]) (k:=3) (vK_lw _) rfl;rw [vag_shB];show po _ _ _ ⟨up 9 (.ag [pI v.kind,pI v.num,pI v.exp,pS v.text,c0.shB 3]) _,[vC v,vC x,[pI 0,pI 0,pI 0,pS [],.sl 1 []]] ++ b0.map (·.map (PC.shB 3)),_,_⟩;generalize c0.shB 3 = c at hR2;obtain ⟨rest,hrest⟩:∃ rest,b0.map (·.map (PC.shB 3)) = rest:=⟨_,rfl⟩;rw [hrest] at hR2 ⊢;show po _ _ _ ⟨_,vC v :: vC x :: [pI 0,pI 0,pI 0,pS [],.sl 1 []] :: rest,_,_⟩;have hR3:RwL 5 3 l c (vC v :: vC x :: [pI 0,pI 0,pI 0,pS [],.sl 1 []] :: rest) (vK v.kids):=hR2
 clear hR2 hrest;refine zdX (cs:=[pI v.kind,pI v.num,pI v.exp,pS v.text,c]) rfl rfl rfl rfl ?_;refine zaj ?_;obtain ⟨bx,hbx⟩:∃ bx,bx = vC v :: vC x :: [pI 0,pI 0,pI 0,pS [],.sl 1 []] :: rest:=⟨_,rfl⟩;rw [<- hbx] at hR3 ⊢;have hx1:(bx ++ [[pI v.kind,pI v.num,pI v.exp,pS v.text,c]])[1]? = some (vC x):=by rw [hbx]; rfl
 have h3:3 <= bx.length:=by rw [hbx]; simp
 refine mQ ?_;refine zaD (o:=4) (cs:=[pI v.kind,pI v.num,pI v.exp,pS v.text,c]) (v:=.d c) rfl rfl (zaQ _ _) (Nat.le_of_ble_eq_true rfl) rfl ?_;refine mS ?_;refine zaa (p:=1) (cs:=vC x) rfl rfl hx1 rfl ?_;have hRa:=hR3.app [pI v.kind,pI v.num,pI v.exp,pS v.text,c];refine po_ixR (i:=i) hRa.1 (by decide) rfl (by rw [zaI hRa.2,zam]; omega) rfl rfl rfl ?_;intro p len cap z e1 hp hz hzl hlc hfl hil hfit;subst e1;obtain ⟨z0,hz0,_⟩:=hR3.len (by decide)
 have hpl:p < bx.length:=by
  rcases Nat.lt_or_ge p bx.length with h | h
  ·exact h
  ·rw [getElem?_eq_none h] at hz0; cases hz0
 refine zaC (p:=p) (o':=5 * i) (cs:=vC x) (z:=z) rfl rfl hz ⟨rfl,hfit⟩ rfl ?_;refine zaj ?_;have hRs:=hRa.set (by decide) (by rw [zam]; exact hi) (show (vC x).length = 5 from rfl) hz;rw [vK_set] at hRs
 have hlast:((bx ++ [[pI v.kind,pI v.num,pI v.exp,pS v.text,.row p len cap]]).set p (spl z (5 * i) (vC x)))[bx.length]? = some [pI v.kind,pI v.num,pI v.exp,pS v.text,.row p len cap]:=by
  rw [getElem?_set_ne (by omega)]; exact zaQ _ _
 have h2:((bx ++ [[pI v.kind,pI v.num,pI v.exp,pS v.text,.row p len cap]]).set p (spl z (5 * i) (vC x)))[2]? = some [pI 0,pI 0,pI 0,pS [],.sl 1 []]:=by
  rw [getElem?_set_ne (by omega),hbx]; rfl
 refine mO ?_;refine zaD (p:=bx.length) (o:=0) (cs:=[pI v.kind,pI v.num,pI v.exp,pS v.text,.row p len cap]) (v:=.ag [pI v.kind,pI v.num,pI v.exp,pS v.text,.row p len cap]) rfl rfl hlast (Nat.le_of_ble_eq_true rfl) rfl ?_;refine zad (p:=2) (cs:=[pI v.kind,pI v.num,pI v.exp,pS v.text,.row p len cap]) (z:=[pI 0,pI 0,pI 0,pS [],.sl 1 []]) rfl rfl h2 rfl rfl rfl ?_;refine zaj ?_;have hR4:=hRs.cong (bx':=((bx ++ [[pI v.kind,pI v.num,pI v.exp,pS v.text,.row p len cap]]).set p (spl z (5 * i) (vC x))).set 2 [pI v.kind,pI v.num,pI v.exp,pS v.text,.row p len cap]) (by simp) (fun q hq _ => getElem?_set_ne (by omega));refine zab ⟨.inr rfl,[.ag [pI v.kind,pI v.num,pI v.exp,pS v.text,.row p len cap]],ress_box rfl (getElem?_set_self (by rw [length_set,length_append]; simp; omega)) rfl,_,rfl,?_⟩;exact RowG.of (v:=v.withK (v.kids.set i x)) hR4 (zcX _)
end
section
variable {T:World -> Prop} {hT:Low ngl T}
theorem FnG.oldNew {E:Env} {f:Nat} {args:List PV} {bx:LP PC} {nt:Nat} {live:List Nat} {S:PC -> LP PC -> Prop} (h:∀ (w:World) (C:Cx) (vs:List Value),Inv E.NG E.T C bx (· ∈ live) w -> vs.length = args.length -> (∀ (j:Nat) (x:PV) (y:Value),args[j]? = some x -> vs[j]? = some y -> RpV C w x y) ->
  Calls E.P f vs.toArray w fun e w' => ∃ u,e = .returned u /\ w'.os = w.os /\ w'.tape = w.tape /\ w'.output = w.output /\ ((u = .slice none 0 0 /\ w'.heap = w.heap /\ S (.sl 1 []) bx) \/
   ∃ (w1:World) (z:List PC) (us:List Value) (len cap:Nat) (e0:TypeId),Below w.heap.size w w1 /\ u = .slice (some ⟨w1.heap.size,0,none⟩) len cap /\ len <= cap /\ cap <= maxLen /\ w'.heap = (w1.alloc (.cells us.toArray e0)).heap /\ RpL C w z us /\ S (.row bx.length len cap) (bx ++ [z]))):FnG E f args bx nt live (fun x b n l => n = nt /\ l = live /\ ∃ c,x = .d c /\ S c b):=by
 intro C w vs hI hnt hold hn2 hl hv;refine (h w C vs hI hl hv).mono ?_;rintro e w' ⟨u,rfl,ho,ht,hou,hR⟩
 rcases hR with ⟨rfl,hh,hS⟩ | ⟨w1,z,us,len,cap,e0,hbl,rfl,hlc,hcm,hh,hrl,hS⟩
 ·obtain ⟨hJ,hF⟩:=hI.sameHeap E.low hh
  refine ⟨_,.d (.sl 1 []),bx,nt,live,C,rfl,⟨rfl,rfl,_,rfl,hS⟩,hJ,hnt,?_,.d _ _ .nil⟩;exact ⟨ho,ht,hou,by rw [hh]; exact lR,fun _ _ h => h,hF,fun k hk _ _ => by rw [hh],⟨lR,fun _ _ => rfl⟩,fun _ _ h => .inl h,(fun t b ht hb => .inr ⟨t,by rw [hold]; exact ht,hb⟩),(fun q hq hq2 => by have h1:=hI.nb; omega),⟨lR,fun _ _ => ⟨rfl,rfl,rfl,rfl⟩⟩⟩
 ·obtain ⟨hI1,hF1⟩:=hI.belowW E.low hbl
  obtain ⟨hI2,hF2⟩:=hI1.newBox E.low (hrl.frame (CxLe.refl C) hF1) e0;obtain ⟨hJ,hF3⟩:=hI2.sameHeap E.low (w':=w') hh;have hle:=Cx.box_le C w1.heap.size;have hnb:=hI.nb
  have holdk:∀ k,k < w.heap.size -> w'.heap[k]? = w.heap[k]?:=fun k hk => by
   have:=hbl.size
   rw [hh,heap_alloc_old w1 _ (by omega)]; exact hbl.block k hk
  have hF:Fix C w w':=.of (fun b o hb => World.cell?_of_block (a:=⟨b,o,none⟩) (holdk b (hI.fin b o hb))) holdk;refine ⟨_,.d (.row bx.length len cap),bx ++ [z],nt,live,C.box w1.heap.size,rfl,⟨rfl,rfl,_,rfl,hS⟩,hJ,hnt,?_,?_⟩
  ·exact ⟨ho,ht,hou,by have:=hbl.size; rw [hh]; simp; omega,hle.F,hF,fun k hk _ _ => holdk k hk,⟨hle.nb,hle.bx⟩,fun _ _ h => .inl h,(fun t b ht hb => .inr ⟨t,by rw [hold]; exact ht,hb⟩),(fun q hq hq2 => by
    have:q = C.nb:=by simp at hq2; omega
    subst this; simp only [Cx.box,if_true]; exact hbl.size),⟨hle.nt,hle.tk⟩⟩
  ·have:=RpC.row (C:=C.box w1.heap.size) (w:=w') bx.length len cap (by simp [Cx.box]; omega) hlc hcm
   have hb:(C.box w1.heap.size).bx bx.length = w1.heap.size:=by simp [Cx.box,hnb]
   rw [hb] at this; exact .d _ _ this
theorem run_app00 {P:Program} {w:World} (t ty e:TypeId) (i:TypeInfo) (ht:P.underlying t = some (.slice e)) (hi:P.info? e = some i) (g:Addr) (x:Option Addr) (c:Nat) :
  (Builtin.append_ #[t,t] ty #[.slice (some g) 0 0,.slice x 0 c]).run P w = .ok (.slice (some g) 0 0) w:=by
 cases x with
 | none => simp [Builtin.append_,run_underlying ht,sizeOf,typeInfo,hi,Builtin.lenOf,Builtin.firstCells,storeCells]
 | some a =>
  have hf:=run_firstCells_some (P:=P) w i.size 0 a 0 c [] (by simp) (by simp);simp [Builtin.append_,run_underlying ht,sizeOf,typeInfo,hi,Builtin.lenOf,hf,storeCells]
theorem cln5_nil (c:Nat) (w:World):Calls Tryz.prog 80 #[.slice none 0 c] w fun e w' => e = .returned (.slice none 0 0) /\ w' = w:=by
 have q24:∀ (w:World) (a:Option Addr) (n c:Nat),(binOp .eql 30 (.slice a n c) (.slice none 0 0)).run Tryz.prog w = .ok (.bool a.isNone) w:=fun w a n c => Lib.run_eql_slice_nil w _ _ a n c 0 0 Tryz.underlying30
 go_enter Tryz.func80,Tryz.ntmps80
 go_wp2;go_ret;exact ⟨rfl,rfl⟩
theorem cln5_some (a:Addr) (n c:Nat) (fy:List Value) (w:World) (hl:fy.length = n * 5) (hfy:∀ j u,fy[j]? = some u -> w.cell? (a.add j) = some u) (hn:n <= 4294967295) :
  Calls Tryz.prog 80 #[.slice (some a) n c] w fun e w' => ∃ (w1:World) (cap:Nat),e = .returned (.slice (some ⟨w1.heap.size,0,none⟩) n cap) /\ Below w.heap.size w w1 /\ n <= cap /\ cap <= maxLen /\ w'.heap = (w1.alloc (.cells (fy ++ (Builtin.zeroCells z5.cells (cap - n)).toList).toArray 32)).heap /\ w'.os = w.os /\ w'.tape = w.tape /\ w'.output = w.output:=by
 have q24:∀ (w:World) (a:Option Addr) (n c:Nat),(binOp .eql 30 (.slice a n c) (.slice none 0 0)).run Tryz.prog w = .ok (.bool a.isNone) w:=fun w a n c => Lib.run_eql_slice_nil w _ _ a n c 0 0 Tryz.underlying30
 obtain ⟨i0,hi0,hz0,hz1,hz2⟩:=info5
 obtain ⟨v',w',hrun,hR⟩:∃ v' w',(∀ ty,(Builtin.append_ #[30,30] ty #[.slice (some ⟨w.heap.size,0,none⟩) 0 0,.slice (some a) n c]).run Tryz.prog (w.alloc (.cells #[] 32)) = .ok v' w') /\
   Hid (∃ (w1:World) (cap:Nat),v' = .slice (some ⟨w1.heap.size,0,none⟩) n cap /\ Below w.heap.size w w1 /\ n <= cap /\ cap <= maxLen /\ w'.heap = (w1.alloc (.cells (fy ++ (Builtin.zeroCells z5.cells (cap - n)).toList).toArray 32)).heap /\ w'.os = w.os /\ w'.tape = w.tape /\ w'.output = w.output):=by
  by_cases h0:n = 0
  ·subst h0
   have hf:fy = []:=length_eq_zero_iff.1 (by omega);subst hf;exact ⟨_,_,fun ty => run_app00 _ _ _ i0 Tryz.underlying30 hi0 _ _ c,w,0,rfl,Below.refl _ _,lR,Nat.zero_le _,by simp [Builtin.zeroCells],rfl,rfl,rfl⟩
  ·have hcell:∀ j u,fy[j]? = some u -> (w.alloc (.cells #[] 32)).cell? (a.add j) = some u:=fun j u hj => Lib.cell?_alloc_some _ (hfy j u hj)
   have hg:=fun ty => run_append_grow (P:=Tryz.prog) (w.alloc (.cells #[] 32)) 30 ty 32 i0 z5 Tryz.underlying30 hi0 hz0 ⟨w.heap.size,0,none⟩ 0 0 [] (by simp) (fun j v hj => by simp at hj) a n c fy (by rw [hl,hz1]) hcell (by omega) (by omega) (growslice_fits (by omega) (by rw [hz2]; omega))
   have hge:=grownCap_ge (w.alloc (.cells #[] 32)) (0 + n) 0 32;have hcm:=grownCap_le_maxLen (w.alloc (.cells #[] 32)) (0 + n) 0 32 (by unfold maxLen; omega);generalize grownCap (w.alloc (.cells #[] 32)) (0 + n) 0 32 = cap at hg hge hcm;refine ⟨_,_,hg,w.alloc (.cells #[] 32),cap,by simp,(Below.refl _ _).alloc lR _,by omega,hcm,?_,rfl,rfl,rfl⟩;have e:(([]:List Value).toArray ++ fy.toArray ++ Builtin.zeroCells z5.cells (cap - (0 + n))) = (fy ++ (Builtin.zeroCells z5.cells (cap - n)).toList).toArray:=by simp
   rw [e]; rfl
 clear hfy hl
 go_enter Tryz.func80,Tryz.ntmps80
 go_wp2_with (at_builtin; refine zbs rfl _ _ 30 30 rfl _ _ _ _ rfl rfl (hrun _) ?_)
 go_wp2;go_ret;obtain ⟨w1,cap,rfl,r⟩:=hR.out;exact ⟨w1,cap,rfl,r⟩
theorem zc9 {ks:List V} (hk:ks.length <= 4294967295) (bx:LP PC) (nt:Nat) (live:List Nat):FnG (env T hT) 80 [.d (.sl 0 (vK ks))] bx nt live (fun x b n l => n = nt /\ l = live /\ ∃ c,x = .d c /\ ∃ rest,b = bx ++ rest /\ RwL 5 bx.length live c b (vK ks)):=by
 refine FnG.oldNew fun w C vs hI hlen hv => ?_
 match vs,hlen with
 | [y],_ =>
  have h0:=hv 0 _ _ rfl rfl
  cases h0 with
  | d _ _ h0 =>
  have hnil:RwL 5 bx.length live (.sl 1 []) bx (vK []):=⟨⟨lR,.inl ⟨1,rfl,.inl rfl,rfl⟩⟩,fun e he => by cases he⟩
  have hform:(ks = [] /\ ∃ c,y = .slice none 0 c) \/ ∃ (a:Addr) (c:Nat) (fy:List Value),y = .slice (some a) ks.length c /\ fy.length = ks.length * 5 /\ RpL C w (vK ks).flatten fy /\ ∀ j u,fy[j]? = some u -> w.cell? (a.add j) = some u:=by
   obtain ⟨ao,c,rfl,_,h | ⟨b,o,n,u,rfl,_,_,hra,hcell⟩,_⟩:=sl_form h0
   ·have hks:ks = []:=by
     have:=congrArg length h
     rw [zam] at this; exact length_eq_zero_iff.1 this
    subst hks
    cases ao with
    | some a => exact .inr ⟨a,c,[],rfl,rfl,⟨rfl,fun j c y h => by cases j <;> cases h⟩,fun j u hj => by cases hj⟩
    | none => exact .inl ⟨rfl,c,rfl⟩
   ·obtain ⟨fl,h1,h2,h3⟩:=hra.flat hcell
    by_cases hks:ks = []
    ·subst hks
     exact .inr ⟨_,c,[],rfl,rfl,⟨rfl,fun j c y h => by cases j <;> cases h⟩,fun j u hj => by cases hj⟩
    have hn:n = 5:=by
     obtain ⟨d,hd⟩:=exists_mem_of_ne_nil (vK ks) (by intro e; have:=congrArg length e; rw [zam] at this; exact hks (length_eq_zero_iff.1 this));rw [<- hra.wid d hd,za7 _ d hd]
    subst hn;exact .inr ⟨_,c,fl,by rw [zam],by rw [h1,zam,Nat.mul_comm],h2,fun j u hj => by rw [zav]; exact h3 j u hj⟩
  rcases hform with ⟨rfl,c,rfl⟩ | ⟨a,c,fy,rfl,hl,hr,hfy⟩
  ·refine (cln5_nil c w).mono ?_
   rintro e w' ⟨rfl,rfl⟩;exact ⟨_,rfl,rfl,rfl,rfl,.inl ⟨rfl,rfl,[],by simp,hnil⟩⟩
  ·refine (cln5_some a ks.length c fy w hl hfy hk).mono ?_
   rintro e w' ⟨w1,cap,rfl,hb,h1,h2,hh,ho,ht,hou⟩;have hone:=za3 (z:=z5) rfl (cap - ks.length);have hzl:(Builtin.zeroCells z5.cells (cap - ks.length)).toList.length = (cap - ks.length) * 5:=by rw [Array.length_toList,size_zeroCells]; rfl
   generalize (Builtin.zeroCells z5.cells (cap - ks.length)).toList = zr at hone hh hzl
   have hlz:RpL C w (zr.map PC.v) zr:=⟨by simp,fun j c y h1 h2 => by
    rw [getElem?_map,h2] at h1;simp only [Option.map_some,sI] at h1; subst h1
    exact .v _ (hone y (mem_of_getElem? h2))⟩
   have hfl:(vK ks).flatten.length = 5 * ks.length:=by rw [zaI (za7 _),zam]
   refine ⟨_,rfl,ho,ht,hou,.inr ⟨w1,(vK ks).flatten ++ zr.map PC.v,_,ks.length,cap,_,hb,rfl,h1,h2,hh,hr.append hlz,_,rfl,?_⟩⟩;refine ⟨⟨by simp,.inr ⟨bx.length,ks.length,cap,(vK ks).flatten ++ zr.map PC.v,rfl,lR,by simp,?_,h1,?_⟩⟩,za7 _⟩
   ·rw [length_append,length_map,hfl,hzl]; omega
   ·rw [take_append,hfl,Nat.sub_self,take_zero,append_nil,take_of_length_le (by omega)]
end
section
theorem zea {P:Program} {ops:Array Oper} {o:Oper} {a:Act} {w:World} {K:Act -> World -> Prop} {Q:Exit -> Act -> World -> Prop} {E:Prop}
  (hg:o.guard = none) (d x:Operand) (dT sT:TypeId) (hop:o.op = Op.call { callee:=Callee.builtin Builtin.copy,args:=#[d,x],argTypes:=#[dT,sT] })
  (v u:Value) (hd:a.eval d = v) (hx:a.eval x = u) {v':Value} {w':World} (hr:(Builtin.copy_ #[dT,sT] o.type #[v,u]).run P w = .ok v' w') (hK:K (a.put o.dst v') w') :
  if Region.wanted o (yielded ops a.tmps) = true then Oper.wp P o a w K Q else E:=by
 have hw:Region.wanted o (yielded ops a.tmps) = true:=by simp [Region.wanted,hg]
 rw [if_pos hw];exact wp_copyN w d x dT sT hop v u hd hx hr hK
theorem zaT (b:Nat):∀ (vs:List Value) (o:Nat) (w:World),(w.setCells b o vs).drew = w.drew.setCells b o vs
 | [],_,_ => rfl
 | v :: r,o,w => by rw [World.setCells,World.setCells,zaT b r]; rfl
theorem ins5_shift (b n c i vb vc:Nat) (cur xs:List Value) (e0:TypeId) (w:World) (hb:w.heap[b]? = some (.cells cur.toArray e0 (0,0))) (hl:cur.length = 5 * c) (one:∀ u ∈ cur,u.oneCell' = true) (hi:i < n) (hn:n + 1 <= c) (hc:c <= maxLen)
  (hvb:vb ≠ b) (av:Array Value) (ev:TypeId) (hv:w.heap[vb]? = some (.cells av ev (0,0))) (hxl:xs.length = 5) (hxs:∀ j u,xs[j]? = some u -> w.cell? ⟨vb,j,none⟩ = some u) (onex:∀ u ∈ xs,u.oneCell' = true) :
  Calls Tryz.prog 92 #[.slice (some ⟨b,0,none⟩) n c,.int .i64 i,.slice (some ⟨vb,0,none⟩) 1 vc] w fun e w' => e = .returned (.slice (some ⟨b,0,none⟩) (n + 1) c) /\ w' = (w.drew.setCells b ((i + 1) * 5) ((cur.drop (5 * i)).take (5 * (n - i)))).setCells b (i * 5) xs:=by
 obtain ⟨i0,hi0,hz0,hz1,hz2⟩:=info5;have hcm:c <= 9223372036854775807:=by unfold maxLen at hc; omega
 have hsz:(Tryz.prog.info? 32).map (·.size) = some 5:=by rw [hi0]; simp [hz1]
 have hsize:∀ w,(Go.sizeOf 32).run Tryz.prog w = .ok 5 w:=fun w => by simp [Go.sizeOf,typeInfo,hi0,hz1]
 obtain ⟨news,hnews⟩:∃ news,news = (cur.drop (5 * i)).take (5 * (n - i)):=⟨_,rfl⟩;have hlen:news.length = (n - i) * 5:=by rw [hnews,length_take,length_drop,hl]; omega
 have hone:∀ u ∈ news,u.oneCell' = true:=fun u hu => one u (mem_of_mem_drop (mem_of_mem_take (by rw [<- hnews]; exact hu)))
 have hwd:w.drew.heap[b]? = some (.cells cur.toArray e0 (0,0)):=hb;obtain ⟨W1,hW1⟩:∃ W1,W1 = w.drew.setCells b ((i + 1) * 5) news:=⟨_,rfl⟩;have hb1:W1.heap[b]? = some (.cells (splV cur ((i + 1) * 5) news).toArray e0 (0,0)):=by rw [hW1]; exact zaJ b e0 (0,0) news _ _ cur hwd (by omega)
 have hl1:(splV cur ((i + 1) * 5) news).length = 5 * c:=by rw [zbZ (by omega)]; exact hl
 have hv1:∀ j u,xs[j]? = some u -> W1.cell? ⟨vb,j,none⟩ = some u:=fun j u hu => by
  have h1:=hxs j u hu;have h2:W1.heap[vb]? = w.heap[vb]?:=by rw [hW1,zaK b _ _ _ _ hvb]; rfl
  rw [World.cell?_of_block (a:=⟨vb,j,none⟩) h2]; exact h1
 have hcp1:∀ ty dc sc,(Builtin.copy_ #[30,30] ty #[.slice (some ⟨b,(i + 1) * 5,none⟩) (n - i) dc,.slice (some ⟨b,i * 5,none⟩) (n + 1 - i) sc]).run Tryz.prog w.drew = .ok (goInt (n - i:Nat)) W1:=fun ty dc sc => by
  have:=zct (P:=Tryz.prog) w.drew 30 30 ty 32 b ((i + 1) * 5) (n - i) dc ⟨b,i * 5,none⟩ (n + 1 - i) sc 5 news Tryz.underlying30 hsz (by rw [hlen]; simp only [Nat.min_def]; split <;> omega)
   (fun j v hj => by
    rw [zav,zae hwd];rw [hnews,getElem?_take] at hj
    split at hj
    ·rw [getElem?_drop] at hj
     rw [getElem?_toArray,Nat.mul_comm i 5]; exact hj
    ·cases hj)
   (fun j hj => (zaL hwd (by omega)).1) (fun j hj => (zaL hwd (by omega)).2) hone
  rw [this,hW1,show Nat.min (n + 1 - i) (n - i) = n - i by simp only [Nat.min_def]; split <;> omega]
 have hcp2:∀ (W:World),(∀ x,W.cell? x = W1.cell? x) -> (∀ x,W.frozen? x = W1.frozen? x) -> ∀ ty dc,(Builtin.copy_ #[30,30] ty #[.slice (some ⟨b,i * 5,none⟩) (n + 1 - i) dc,.slice (some ⟨vb,0,none⟩) 1 vc]).run Tryz.prog W = .ok (goInt (1:Nat)) (W.setCells b (i * 5) xs):=fun W hWc hWf ty dc => by
  have:=zct (P:=Tryz.prog) W 30 30 ty 32 b (i * 5) (n + 1 - i) dc ⟨vb,0,none⟩ 1 vc 5 xs Tryz.underlying30 hsz (by rw [hxl]; simp only [Nat.min_def]; split <;> omega)
   (fun j v hj => by rw [zav,Nat.zero_add,hWc]; exact hv1 j v hj)
   (fun j hj => by rw [hWc]; exact (zaL hb1 (by omega)).1) (fun j hj => by rw [hWf]; exact (zaL hb1 (by omega)).2) onex
  rw [this,show Nat.min 1 (n + 1 - i) = 1 by simp only [Nat.min_def]; split <;> omega]
 have hsa:w.shape? vb = some (ev,av.size):=by simp [World.shape?,hv]
 have hsb:w.shape? b = some (e0,5 * c):=by simp [World.shape?,hb,hl]
 have hfa:∀ o,w.frozen? ⟨vb,o,none⟩ = false:=fun o => by simp [World.frozen?,hv]
 have hov:∀ o lb cb,(callFunc 100 #[.slice (some ⟨vb,0,none⟩) 1 vc,.slice (some ⟨b,o,none⟩) lb cb]).run Tryz.prog w = .ok (.value (.bool false)) w:=fun o lb cb => by
  rw [run_callFunc_extern Tryz.func100 (by kernel_rfl) (by kernel_rfl) (by kernel_rfl) (e:=Extern.SlicesOverlaps.overlaps #[30,30] #[4]) (by kernel_rfl),
   Lib.run_overlaps_apart w 30 4 32 Tryz.underlying30 5 hsize ⟨vb,0,none⟩ ⟨b,o,none⟩ 1 vc lb cb hvb ev e0 av.size (5 * c) hsa hsb (by omega) (hfa 0) (hfa av.size)]
  rfl
 have mixed:Tryz.prog.follows .mixedOrders = true:=by kernel_rfl
 have hN:Hid (news = (cur.drop (5 * i)).take (5 * (n - i))):=hnews;have hW:Hid (W1 = w.drew.setCells b ((i + 1) * 5) news):=hW1;have g1:((i:Int) == (n:Int)) = false:=by rw [beq_eq_false_iff_ne]; omega
 have g2:¬ ((c:Int) < (n:Int) + 1):=by omega
 have g3:IntKind.i64.wrap ((i:Int) + 1) = (i:Int) + 1:=by rw [IntKind.wrap_i64]; omega
 have g4:IntKind.i64.wrap ((n:Int) + 1) = (n:Int) + 1:=by rw [IntKind.wrap_i64]; omega
 have g5:(0:Int) <= (i:Int) + 1:=by omega
 have g6:((i:Int) + 1).toNat = i + 1:=by omega
 have g7:i <= n:=by omega
 have g8:¬ (c = i):=by omega
 have g9:¬ (c = i + 1):=by omega
 have g10:i <= c:=by omega
 have g11:i + 1 <= c:=by omega
 have g12:i <= n + 1:=by omega
 have g13:(0:Int) <= (n:Int) + 1:=by omega
 have g14:((n:Int) + 1).toNat = n + 1:=by omega
 have g15:(i:Int) <= (n:Int) + 1:=by omega
 have g16:(n:Int) + 1 <= (c:Int):=by omega
 clear hb hl one hwd hb1 hl1 hnews hlen hone hW1 hv hsa hsb hfa hxs onex hv1 hsize hsz hxl
 go_enter Tryz.func92,Tryz.ntmps92
 go_wp2_with (simp only [hov])
 go_region_law_o (refine zea rfl _ _ 30 30 rfl _ _ (by simp [Act.eval,Act.put]) (by simp [Act.eval,Act.put]) (hcp1 _ _ _) ?_)
 go_wp2_with (at_builtin; refine zbR _ rfl _ _ 30 30 rfl _ _ rfl rfl (hcp2 _ (fun _ => rfl) (fun _ => rfl) _ _) ?_)
 go_ret;exact ⟨rfl,by rw [<- hN.out,<- hW.out]⟩
theorem ins5_grow (b n c i vb vc:Nat) (cur xs:List Value) (e0:TypeId) (w:World) (hb:w.heap[b]? = some (.cells cur.toArray e0 (0,0))) (hl:cur.length = 5 * c) (one:∀ u ∈ cur,u.oneCell' = true) (hi:i < n) (hnc:n <= c) (hn:c < n + 1) (hc:n + 1 <= 4294967296)
  (hvb:vb < w.heap.size) (hxl:xs.length = 5) (hxs:∀ j u,xs[j]? = some u -> w.cell? ⟨vb,j,none⟩ = some u) (onex:∀ u ∈ xs,u.oneCell' = true) :
  Calls Tryz.prog 92 #[.slice (some ⟨b,0,none⟩) n c,.int .i64 i,.slice (some ⟨vb,0,none⟩) 1 vc] w fun e w' => ∃ G us,e = .returned (.slice (some ⟨w.heap.size,0,none⟩) (n + 1) G) /\ n + 1 <= G /\ G <= maxLen /\ us = cur.take (5 * i) ++ (Builtin.zeroCells z5.cells (n + 1 - i)).toList ++ (Builtin.zeroCells z5.cells (G - (n + 1))).toList /\ w'.heap = ((w.alloc (.cells us.toArray 32)).setCells w.heap.size (i * 5) xs |>.setCells w.heap.size ((i + 1) * 5) ((cur.drop (5 * i)).take (5 * (n - i)))).heap /\ w'.os = w.os /\ w'.tape = w.tape /\ w'.output = w.output:=by
 obtain ⟨i0,hi0,hz0,hz1,hz2⟩:=info5;have hsz:(Tryz.prog.info? 32).map (·.size) = some 5:=by rw [hi0]; simp [hz1]
 have hbw:b < w.heap.size:=zao hb;obtain ⟨news,hnews⟩:∃ news,news = (cur.drop (5 * i)).take (5 * (n - i)):=⟨_,rfl⟩;have hlen:news.length = (n - i) * 5:=by rw [hnews,length_take,length_drop,hl]; omega
 have hone:∀ u ∈ news,u.oneCell' = true:=fun u hu => one u (mem_of_mem_drop (mem_of_mem_take (by rw [<- hnews]; exact hu)))
 have hkk:(n:Int) + 1 - (i:Int) = ((n + 1 - i:Nat):Int):=by omega
 have hik:i + (n + 1 - i) = n + 1:=by omega
 have hold:(Builtin.firstCells i0.size i (.slice (some ⟨b,0,none⟩) i c)).run Tryz.prog w.drew = .ok (cur.take (5 * i)).toArray w.drew:=by
  rw [hz1];refine run_firstCells_some (P:=Tryz.prog) (w:=w.drew) 5 i ⟨b,0,none⟩ i c (cur.take (5 * i)) (by rw [length_take,hl]; omega) (fun j v hj => ?_);rw [zav,Nat.zero_add,zae (show w.drew.heap[b]? = _ from hb),getElem?_toArray];rw [getElem?_take] at hj
  split at hj
  ·exact hj
  ·cases hj
 obtain ⟨G,hG⟩:∃ G,G = grownCap w (n + 1) c 32:=⟨_,rfl⟩;obtain ⟨us,hus⟩:∃ us,us = cur.take (5 * i) ++ (Builtin.zeroCells z5.cells (n + 1 - i)).toList ++ (Builtin.zeroCells z5.cells (G - (n + 1))).toList:=⟨_,rfl⟩;have husA:us.toArray = (cur.take (5 * i)).toArray ++ Builtin.zeroCells z5.cells (n + 1 - i) ++ Builtin.zeroCells z5.cells (G - (n + 1)):=by rw [hus]; simp
 have hrz:∀ ty,(Builtin.append_ #[30,3] ty #[.slice (some ⟨b,0,none⟩) i c,.int .i64 ((n:Int) + 1 - (i:Int))]).run Tryz.prog w = .ok (.slice (some ⟨w.heap.size,0,none⟩) (n + 1) G) (w.drew.alloc (.cells us.toArray 32)):=fun ty => by
  have h:=Lib.run_append_grow_zeros w 30 3 ty 32 i0 _ .i64 .i64 Tryz.underlying30 Tryz.underlying3 hi0 hz0 (some ⟨b,0,none⟩) i c (cur.take (5 * i)) hold (n + 1 - i) (by omega) (by omega) (by omega) (by omega) (by rw [hz2]; omega) (by rw [hz2,hik]; exact growslice_fits (by omega) (by omega));rw [hik] at h;rw [hkk,husA,hG];exact h
 have hGn:n + 1 <= G:=by rw [hG]; exact grownCap_ge w _ _ _
 have hG63:G <= maxLen:=by rw [hG]; exact grownCap_le_maxLen w (n + 1) c 32 (by unfold maxLen; omega)
 have husl:us.length = 5 * G:=by
  rw [hus];simp only [length_append,length_take,Array.length_toList,size_zeroCells,hl];show min (5 * i) (5 * c) + (n + 1 - i) * 5 + (G - (n + 1)) * 5 = _;omega
 obtain ⟨W1,hW1⟩:∃ W1,W1 = w.drew.alloc (.cells us.toArray 32):=⟨_,rfl⟩;have hb1:W1.heap[w.heap.size]? = some (.cells us.toArray 32 (0,0)):=by rw [hW1]; exact zat w.drew _
 rw [<- hW1] at hrz;have hOb:W1.heap[b]? = some (.cells cur.toArray e0 (0,0)):=by rw [hW1]; exact (Below.heap_alloc w.drew _ _ hbw).trans hb
 have hcpA:∀ (W:World),(∀ x,W.cell? x = W1.cell? x) -> (∀ x,W.frozen? x = W1.frozen? x) -> ∀ ty dc,(Builtin.copy_ #[30,30] ty #[.slice (some ⟨w.heap.size,i * 5,none⟩) (n + 1 - i) dc,.slice (some ⟨vb,0,none⟩) 1 vc]).run Tryz.prog W = .ok (goInt (1:Nat)) (W.setCells w.heap.size (i * 5) xs):=fun W hWc hWf ty dc => by
  have:=zct (P:=Tryz.prog) W 30 30 ty 32 w.heap.size (i * 5) (n + 1 - i) dc ⟨vb,0,none⟩ 1 vc 5 xs Tryz.underlying30 hsz (by rw [hxl]; simp only [Nat.min_def]; split <;> omega)
   (fun j v hj => by rw [zav,Nat.zero_add,hWc,hW1,World.cell?_alloc_past (w:=w.drew) _ vb j hvb]; exact hxs j v hj)
   (fun j hj => by rw [hWc]; exact (zaL hb1 (by omega)).1) (fun j hj => by rw [hWf]; exact (zaL hb1 (by omega)).2) onex
  rw [this,show Nat.min 1 (n + 1 - i) = 1 by simp only [Nat.min_def]; split <;> omega]
 have hb2:(W1.setCells w.heap.size (i * 5) xs).heap[w.heap.size]? = some (.cells (splV us (i * 5) xs).toArray 32 (0,0)):=zaJ _ _ _ xs _ _ us hb1 (by omega);have hl2:(splV us (i * 5) xs).length = 5 * G:=by rw [zbZ (by omega)]; exact husl
 have hO2:(W1.setCells w.heap.size (i * 5) xs).heap[b]? = some (.cells cur.toArray e0 (0,0)):=by rw [zaK _ _ _ _ _ (by omega)]; exact hOb
 have hcpB:∀ (W:World),(∀ x,W.cell? x = (W1.setCells w.heap.size (i * 5) xs).cell? x) -> (∀ x,W.frozen? x = (W1.setCells w.heap.size (i * 5) xs).frozen? x) -> ∀ ty dc sc,(Builtin.copy_ #[30,30] ty #[.slice (some ⟨w.heap.size,(i + 1) * 5,none⟩) (n - i) dc,.slice (some ⟨b,i * 5,none⟩) (n - i) sc]).run Tryz.prog W = .ok (goInt (n - i:Nat)) (W.setCells w.heap.size ((i + 1) * 5) news):=fun W hWc hWf ty dc sc => by
  have:=zct (P:=Tryz.prog) W 30 30 ty 32 w.heap.size ((i + 1) * 5) (n - i) dc ⟨b,i * 5,none⟩ (n - i) sc 5 news Tryz.underlying30 hsz (by rw [hlen]; simp only [Nat.min_def]; split <;> omega)
   (fun j v hj => by
    rw [zav,hWc,zae hO2];rw [hnews,getElem?_take] at hj
    split at hj
    ·rw [getElem?_drop] at hj
     rw [getElem?_toArray,Nat.mul_comm i 5]; exact hj
    ·cases hj)
   (fun j hj => by rw [hWc]; exact (zaL hb2 (by omega)).1) (fun j hj => by rw [hWf]; exact (zaL hb2 (by omega)).2) hone
  rw [this,show Nat.min (n - i) (n - i) = n - i from Nat.min_self _]
 have mixed:Tryz.prog.follows .mixedOrders = true:=by kernel_rfl
 have hN:Hid (news = (cur.drop (5 * i)).take (5 * (n - i))):=hnews;have hU:=Lib.hid hus;subst hW1;have hE1:∀ x,((w.alloc (.cells us.toArray 32)).drew).cell? x = (w.drew.alloc (.cells us.toArray 32)).cell? x:=fun x => rfl
 have hE2:∀ x,((w.alloc (.cells us.toArray 32)).drew).frozen? x = (w.drew.alloc (.cells us.toArray 32)).frozen? x:=fun x => rfl
 have hF1:∀ x,(((w.alloc (.cells us.toArray 32)).drew.setCells w.heap.size (i * 5) xs).drew).cell? x = ((w.drew.alloc (.cells us.toArray 32)).setCells w.heap.size (i * 5) xs).cell? x:=fun x => rfl
 have hF2:∀ x,(((w.alloc (.cells us.toArray 32)).drew.setCells w.heap.size (i * 5) xs).drew).frozen? x = ((w.drew.alloc (.cells us.toArray 32)).setCells w.heap.size (i * 5) xs).frozen? x:=fun x => rfl
 have g1:((i:Int) == (n:Int)) = false:=by rw [beq_eq_false_iff_ne]; omega
 have g2:(c:Int) < (n:Int) + 1:=by omega
 have g3:IntKind.i64.wrap ((i:Int) + 1) = (i:Int) + 1:=by rw [IntKind.wrap_i64]; omega
 have g4:IntKind.i64.wrap ((n:Int) + 1) = (n:Int) + 1:=by rw [IntKind.wrap_i64]; omega
 have g4':IntKind.i64.wrap ((n:Int) + 1 - (i:Int)) = (n:Int) + 1 - (i:Int):=by rw [IntKind.wrap_i64]; omega
 have g5:(0:Int) <= (i:Int) + 1:=by omega
 have g6:((i:Int) + 1).toNat = i + 1:=by omega
 have g7:i <= n:=by omega
 have g8:¬ (G = i):=by omega
 have g9:¬ (G = i + 1):=by omega
 have g10:¬ (c = i):=by omega
 have g11:i <= c:=by omega
 have g12:i <= n + 1:=by omega
 have g13:(i:Int) <= (n:Int):=by omega
 have g14:i <= G:=by omega
 have g15:i + 1 <= G:=by omega
 have g16:(i:Int) <= (n:Int) + 1:=by omega
 have hGS:=Lib.hid hG63;have hGm:G <= 9223372036854775807:=by unfold maxLen at hG63; omega
 clear hkk hik hold hus husA hG hG63 hb hl one hb1 hOb hb2 hO2 hl2 husl hnews hlen hone hxs onex hxl hsz
 go_enter Tryz.func92,Tryz.ntmps92
 go_wp2_with (first
  | (at_builtin; refine zbs rfl _ _ _ _ rfl _ _ _ _ rfl rfl (hrz _) ?_)
  | (at_builtin; refine zbR _ rfl _ _ 30 30 rfl _ _ rfl rfl (hcpA _ hE1 hE2 _ _) ?_)
  | (at_builtin; refine zbR _ rfl _ _ 30 30 rfl _ _ rfl rfl (hcpB _ (fun _ => rfl) (fun _ => rfl) _ _ _) ?_))
 go_region_law_o (refine zea rfl _ _ 30 30 rfl (.slice (some ⟨w.heap.size,(i + 1) * 5,none⟩) (n - i) (G - (i + 1))) (.slice (some ⟨b,i * 5,none⟩) (n - i) (c - i)) (by simp [Act.eval,Act.put]) (by simp [Act.eval,Act.put]) (hcpB _ hF1 hF2 3 (G - (i + 1)) (c - i)) ?_)
 go_wp2;go_ret;rw [<- hN.out];obtain ⟨_,q1,q2,q3⟩:=zaV w.heap.size xs (i * 5) (w.alloc (.cells us.toArray 32));obtain ⟨_,q4,q5,q6⟩:=zaV w.heap.size news ((i + 1) * 5) ((w.alloc (.cells us.toArray 32)).setCells w.heap.size (i * 5) xs);refine ⟨G,us,rfl,hGn,hGS.out,hU.out,?_,?_,?_,?_⟩
 ·rw [<- zaT,<- zaT,<- zaT]; rfl
 ·rw [<- zaT,<- zaT,<- zaT]; exact q4.trans q1
 ·rw [<- zaT,<- zaT,<- zaT]; exact q5.trans q2
 ·rw [<- zaT,<- zaT,<- zaT]; exact q6.trans q3
end
section
variable {T:World -> Prop} {hT:Low ngl T}
theorem ze7 {z X Y:List PC} {a:Nat} (h:a + X.length + Y.length <= z.length):spl (spl z a X) (a + X.length) Y = z.take a ++ X ++ Y ++ z.drop (a + X.length + Y.length):=by
 unfold spl;have l1:(z.take a ++ X).length = a + X.length:=by rw [length_append,length_take]; omega
 rw [take_append_of_le_length (by rw [l1]; omega),take_of_length_le (by rw [l1]; omega),drop_append,l1,drop_of_length_le (by rw [l1]; omega),drop_drop,nil_append]
 congr 2
 omega
theorem spl_before {z X Y:List PC} {a:Nat} (h:a + X.length + Y.length <= z.length):spl (spl z (a + X.length) Y) a X = z.take a ++ X ++ Y ++ z.drop (a + X.length + Y.length):=by
 unfold spl;have l0:(z.take (a + X.length)).length = a + X.length:=by rw [length_take]; omega
 rw [append_assoc (z.take _),take_append_of_le_length (by rw [l0]; omega),take_take,Nat.min_eq_left (by omega),drop_append,l0,drop_of_length_le (by rw [l0]; omega),Nat.sub_self,drop_zero,nil_append];simp only [append_assoc]
theorem zew {A B:List PC} {n:Nat} (h:n = A.length):(A ++ B).take n = A:=by subst h; exact take_left
theorem zb6 (w:World) (us vs:List Value) (o:Nat) (e:TypeId) (h:o + vs.length <= us.length):((w.alloc (.cells us.toArray e)).setCells w.heap.size o vs).heap = (w.alloc (.cells (splV us o vs).toArray e)).heap:=by
 apply Array.ext_getElem?
 intro k;by_cases hk:k = w.heap.size
 ·subst hk
  rw [zaJ _ e (0,0) vs o _ us (zat w _) h,zat]
 ·rw [zaK _ _ _ _ _ hk]
  by_cases hl:k < w.heap.size
  ·rw [heap_alloc_old w _ hl,heap_alloc_old w _ hl]
  ·rw [Array.getElem?_eq_none (by simp; omega),Array.getElem?_eq_none (by simp; omega)]
theorem zdE (b:Nat):∀ (vs:List Value) (o:Nat) (w w':World),w.heap = w'.heap -> (w.setCells b o vs).heap = (w'.setCells b o vs).heap:=by
 intro vs
 induction vs with
 | nil => intro o w w' h; exact h
 | cons v r ih =>
  intro o w w' h;rw [World.setCells,World.setCells];refine ih _ _ _ ?_;unfold World.setCell;simp only [h]
theorem zex (C:Cx) (w:World) (n:Nat):RpL C w ((Builtin.zeroCells z5.cells n).toList.map PC.v) (Builtin.zeroCells z5.cells n).toList :=
 ⟨by simp,fun j c y h1 h2 => by
  have hone:=za3 (z:=z5) rfl n;rw [getElem?_map,h2] at h1;simp only [Option.map_some,sI] at h1; subst h1
  exact .v _ (hone y (mem_of_getElem? h2))⟩
theorem ze8 (n:Nat):(Builtin.zeroCells z5.cells n).toList.length = 5 * n:=by
 rw [Array.length_toList,size_zeroCells,Nat.mul_comm]; rfl
theorem rw_row {lo:Nat} {live:List Nat} {c:PC} {bx rows:LP PC} (hR:RwL 5 lo live c bx rows) (h:rows ≠ []):∃ p cap z,c = .row p rows.length cap /\ bx[p]? = some z /\ p < bx.length /\ lo <= p /\ z.length = 5 * cap /\ rows.length <= cap /\ rows.flatten = z.take (5 * rows.length):=by
 rcases hR.1.2 with ⟨t,rfl,_,h0⟩ | ⟨p,len,cap,z,rfl,h2,h3,h4,h5,h6⟩
 ·match rows,h0,hR.2,h with
  | e :: rs,h0,hw,_ =>
   have:=hw e (by simp)
   simp only [flatten_cons,List.append_eq_nil_iff] at h0;rw [h0.1] at this; simp at this
 ·obtain ⟨_,_,_,_,_,_,h7⟩:=hR.len (by decide)
  subst h7;refine ⟨p,cap,z,rfl,h3,?_,h2,h4,h5,h6⟩
  rcases Nat.lt_or_ge p bx.length with h' | h'
  ·exact h'
  ·rw [getElem?_eq_none h'] at h3; cases h3
theorem del5_g {lo:Nat} {c:PC} {bx rows:LP PC} {nt:Nat} {live:List Nat} {i j:Nat} (hR:RwL 5 lo live c bx rows) (hij:i < j) (hj:j <= rows.length):FnG (env T hT) 81 [.d c,.d (pI i),.d (pI j)] bx nt live (fun x b n l => n = nt /\ l = live /\ ∃ c',x = .d c' /\ RwL 5 lo live c' b (rows.take i ++ rows.drop j) /\ ∀ q,q < lo -> b[q]? = bx[q]?):=by
 obtain ⟨p,cap,z,rfl,hz,hp,hlo,hzl,hlc,hfl⟩:=rw_row hR (by intro e; rw [e] at hj; simp at hj; omega);refine FnG.oldRw fun w C vs hI hnt hlen hv => ?_
 match vs,hlen with
 | [x,y1,y2],_ =>
  have h0:=hv 0 _ _ rfl rfl;have h1:=hv 1 _ _ rfl rfl;have h2:=hv 2 _ _ rfl rfl
  cases h0 with
  | d _ _ h0 =>
  cases h1 with
  | d _ _ h1 =>
  cases h2 with
  | d _ _ h2 =>
  cases h0 with
  | row _ _ _ _ _ hcm =>
  cases h1 with
  | v _ _ =>
  cases h2 with
  | v _ _ =>
  obtain ⟨cur,e0,hh,hl⟩:=hI.box p z hz;have hcl:cur.length = 5 * cap:=by rw [hl.1,hzl]
  refine (del5 (C.bx p) rows.length cap i j cur e0 w hh hcl hl.one hij hj hlc hcm).mono ?_;rintro e w' ⟨rfl,rfl⟩;have hYl:((cur.drop (5 * j)).take (5 * (rows.length - j))).length = 5 * (rows.length - j):=by rw [length_take,length_drop,hcl]; omega
  have hzl5:=ze8 (j - i);have hw1:=zaJ (C.bx p) e0 (0,0) ((cur.drop (5 * j)).take (5 * (rows.length - j))) (5 * i) w.drew cur hh (by rw [hYl]; omega);have hw2:=zaJ (C.bx p) e0 (0,0) (Builtin.zeroCells z5.cells (j - i)).toList (5 * (i + (rows.length - j))) _ _ hw1 (by rw [zbZ (by rw [hYl]; omega),hzl5,hcl]; omega);obtain ⟨s1,s2,s3,s4⟩:=zaV (C.bx p) ((cur.drop (5 * j)).take (5 * (rows.length - j))) (5 * i) w.drew;obtain ⟨t1,t2,t3,t4⟩:=zaV (C.bx p) (Builtin.zeroCells z5.cells (j - i)).toList (5 * (i + (rows.length - j))) (w.drew.setCells (C.bx p) (5 * i) ((cur.drop (5 * j)).take (5 * (rows.length - j))));have hYr:=hl.slice (5 * j) (5 * (rows.length - j));have hrp:=zcl (zcl hl hYr (5 * i)) (zex C w (j - i)) (5 * (i + (rows.length - j)));have hYp:((z.drop (5 * j)).take (5 * (rows.length - j))).length = 5 * (rows.length - j):=by rw [length_take,length_drop,hzl]; omega
  have hze:spl (spl z (5 * i) ((z.drop (5 * j)).take (5 * (rows.length - j)))) (5 * (i + (rows.length - j))) ((Builtin.zeroCells z5.cells (j - i)).toList.map PC.v) = z.take (5 * i) ++ (z.drop (5 * j)).take (5 * (rows.length - j)) ++ (Builtin.zeroCells z5.cells (j - i)).toList.map PC.v ++ z.drop (5 * i + (5 * (rows.length - j)) + 5 * (j - i)):=by
   have:=ze7 (z:=z) (X:=(z.drop (5 * j)).take (5 * (rows.length - j))) (Y:=(Builtin.zeroCells z5.cells (j - i)).toList.map PC.v) (a:=5 * i) (by rw [hYp,length_map,hzl5]; omega)
   rw [hYp,length_map,hzl5] at this;rw [show 5 * (i + (rows.length - j)) = 5 * i + 5 * (rows.length - j) by omega];exact this
  rw [hze] at hrp;have hil:(z.take (5 * i)).length = 5 * i:=by rw [length_take,hzl]; omega
  refine ⟨_,rfl,t2.trans s2,t3.trans s3,t4.trans s4,.inr (.inl ⟨p,_,_,_,cap,e0,hp,rfl,by omega,hcm,hw2,?_,?_,?_,hrp,?_,?_⟩)⟩
  ·intro T cs0 h0
   rw [hh] at h0;simp only [sI,Obj.cells.injEq] at h0;exact h0.2.1
  ·exact (t1.trans s1).symm
  ·intro k hk
   rw [zaK _ _ _ _ _ hk,zaK _ _ _ _ _ hk]; rfl
  ·refine ⟨⟨by rw [length_set]; omega,.inr ⟨p,_,cap,_,rfl,hlo,getElem?_set_self hp,?_,by omega,?_⟩⟩,fun e he => hR.2 e ((mem_append.1 he).elim mem_of_mem_take mem_of_mem_drop)⟩
   ·simp only [length_append,hil,hYp,length_map,hzl5,length_drop,hzl]; omega
   ·rw [flatten_append,<- zcx rows i hR.2,<- zbT rows j hR.2,hfl,take_take,Nat.min_eq_left (by omega),drop_take,append_assoc (z.take _ ++ _),zew (by rw [length_append,hil,hYp]; omega)]
    congr 2
    omega
  ·intro q hq
   exact getElem?_set_ne (by omega)
theorem ins5_g {lo tk:Nat} {c:PC} {xc:List PC} {bx rows:LP PC} {nt:Nat} {live:List Nat} {i:Nat} (hR:RwL 5 lo live c bx rows) (hi:i < rows.length) (hrl:rows.length + 1 <= 4294967296) (hxl:xc.length = 5) (htk:tk ∈ live):FnG (env T hT) 92 [.d c,.d (pI i),.d (.sl tk [xc])] bx nt live (fun x b n l => n = nt /\ l = live /\ ∃ c',x = .d c' /\ RwL 5 lo live c' b (rows.take i ++ xc :: rows.drop i) /\ bx.length <= b.length /\ ∀ q,q < lo -> b[q]? = bx[q]?):=by
 obtain ⟨p,cap,z,rfl,hz,hp,hlo,hzl,hlc,hfl⟩:=rw_row hR (by intro e; rw [e] at hi; simp at hi);refine FnG.oldRw fun w C vs hI hnt hlen hv => ?_
 match vs,hlen with
 | [x,y1,y2],_ =>
  have h0:=hv 0 _ _ rfl rfl;have h1:=hv 1 _ _ rfl rfl;have h2:=hv 2 _ _ rfl rfl
  cases h0 with
  | d _ _ h0 =>
  cases h1 with
  | d _ _ h1 =>
  cases h2 with
  | d _ _ h2 =>
  cases h0 with
  | row _ _ _ _ _ hcm =>
  cases h1 with
  | v _ _ =>
  obtain ⟨ht2,_,htok⟩:=hI.tok tk htk
  obtain ⟨vb,vc,xs,av,ev,rfl,hvb,hvh,hxsl,hxs,hxr⟩:∃ (vb vc:Nat) (xs:List Value) (av:Array Value) (ev:TypeId),y2 = .slice (some ⟨vb,0,none⟩) 1 vc /\ vb ≠ C.bx p /\ w.heap[vb]? = some (.cells av ev (0,0)) /\ xs.length = 5 /\ (∀ j u,xs[j]? = some u -> w.cell? ⟨vb,j,none⟩ = some u) /\ RpL C w xc xs:=by
   cases h2 with
   | rd => omega
   | own _ _ b u h2 ht hb hlen hl hc hra hcell =>
    rcases htok with ⟨k,_⟩ | ⟨b',cur,e',c1,c2,c3,c4,c5,c6,c7,cz,c8,c9⟩
    ·rw [hb] at k; cases k
    ·rw [hb] at c1
     simp only [sI] at c1; subst c1
     obtain ⟨fl,f1,f2,f3⟩:=hra.flat hcell;have hn5:C.tn tk = 5:=by rw [<- hra.wid xc (by simp),hxl]
     rw [hn5] at f1;refine ⟨b,C.cp tk,fl,cur,e',rfl,fun e => c9 p hp e.symm,c3,f1,fun j u hj => by have:=f3 j u hj; rw [Nat.zero_add] at this; exact this,?_⟩;rw [flatten_cons,List.flatten_nil,append_nil] at f2;exact f2
  obtain ⟨cur,e0,hh,hl⟩:=hI.box p z hz;have hcl:cur.length = 5 * cap:=by rw [hl.1,hzl]
  have hYl:((cur.drop (5 * i)).take (5 * (rows.length - i))).length = 5 * (rows.length - i):=by rw [length_take,length_drop,hcl]; omega
  have hYr:=hl.slice (5 * i) (5 * (rows.length - i));have hYp:((z.drop (5 * i)).take (5 * (rows.length - i))).length = 5 * (rows.length - i):=by rw [length_take,length_drop,hzl]; omega
  have hil:(z.take (5 * i)).length = 5 * i:=by rw [length_take,hzl]; omega
  have hflat:(rows.take i ++ xc :: rows.drop i).flatten = z.take (5 * i) ++ xc ++ (z.drop (5 * i)).take (5 * (rows.length - i)):=by
   rw [flatten_append,flatten_cons,<- zcx rows i hR.2,<- zbT rows i hR.2,hfl,take_take,Nat.min_eq_left (by omega),drop_take,append_assoc]
   congr 3
   omega
  have hwd:∀ e ∈ rows.take i ++ xc :: rows.drop i,e.length = 5:=fun e he => by
   rcases mem_append.1 he with h | h
   ·exact hR.2 e (mem_of_mem_take h)
   ·rcases mem_cons.1 h with rfl | h
    ·exact hxl
    ·exact hR.2 e (mem_of_mem_drop h)
  by_cases hroom:rows.length + 1 <= cap
  ·refine (ins5_shift (C.bx p) rows.length cap i vb vc cur xs e0 w hh hcl hl.one hi hroom hcm hvb av ev hvh hxsl hxs hxr.one).mono ?_
   rintro e w' ⟨rfl,rfl⟩;have hw1:=zaJ (C.bx p) e0 (0,0) ((cur.drop (5 * i)).take (5 * (rows.length - i))) ((i + 1) * 5) w.drew cur hh (by rw [hYl]; omega);have hw2:=zaJ (C.bx p) e0 (0,0) xs (i * 5) _ _ hw1 (by rw [zbZ (by rw [hYl]; omega),hxsl,hcl]; omega);obtain ⟨s1,s2,s3,s4⟩:=zaV (C.bx p) ((cur.drop (5 * i)).take (5 * (rows.length - i))) ((i + 1) * 5) w.drew;obtain ⟨t1,t2,t3,t4⟩:=zaV (C.bx p) xs (i * 5) (w.drew.setCells (C.bx p) ((i + 1) * 5) ((cur.drop (5 * i)).take (5 * (rows.length - i))));have hrp:=zcl (zcl hl hYr ((i + 1) * 5)) hxr (i * 5)
   have hze:spl (spl z ((i + 1) * 5) ((z.drop (5 * i)).take (5 * (rows.length - i)))) (i * 5) xc = z.take (5 * i) ++ xc ++ (z.drop (5 * i)).take (5 * (rows.length - i)) ++ z.drop (5 * i + 5 + 5 * (rows.length - i)):=by
    have:=spl_before (z:=z) (X:=xc) (Y:=(z.drop (5 * i)).take (5 * (rows.length - i))) (a:=5 * i) (by rw [hYp,hxl]; omega)
    rw [hYp,hxl] at this;rw [show (i + 1) * 5 = 5 * i + 5 by omega,show i * 5 = 5 * i by omega];exact this
   rw [hze] at hrp;refine ⟨_,rfl,t2.trans s2,t3.trans s3,t4.trans s4,.inr (.inl ⟨p,_,_,_,cap,e0,hp,rfl,hroom,hcm,hw2,?_,?_,?_,hrp,?_,by rw [length_set]; exact lR,?_⟩)⟩
   ·intro T cs0 h0
    rw [hh] at h0;simp only [sI,Obj.cells.injEq] at h0;exact h0.2.1
   ·exact (t1.trans s1).symm
   ·intro k hk
    rw [zaK _ _ _ _ _ hk,zaK _ _ _ _ _ hk]; rfl
   ·refine ⟨⟨by rw [length_set]; omega,.inr ⟨p,_,cap,_,rfl,hlo,getElem?_set_self hp,?_,hroom,?_⟩⟩,hwd⟩
    ·simp only [length_append,hil,hYp,hxl,length_drop,hzl]; omega
    ·rw [hflat,zew (by simp only [length_append,hil,hYp,hxl]; omega)]
   ·intro q hq
    exact getElem?_set_ne (by omega)
  ·refine (ins5_grow (C.bx p) rows.length cap i vb vc cur xs e0 w hh hcl hl.one hi hlc (by omega) hrl (zao hvh) hxsl hxs hxr.one).mono ?_
   rintro e w' ⟨G,us,rfl,hG,hGm,rfl,hheap,ho,ht,hou⟩
   have hul:(cur.take (5 * i) ++ (Builtin.zeroCells z5.cells (rows.length + 1 - i)).toList ++ (Builtin.zeroCells z5.cells (G - (rows.length + 1))).toList).length = 5 * G:=by
    simp only [length_append,length_take,ze8,hcl]; omega
   have hur:RpL C w (z.take (5 * i) ++ (Builtin.zeroCells z5.cells (rows.length + 1 - i)).toList.map PC.v ++ (Builtin.zeroCells z5.cells (G - (rows.length + 1))).toList.map PC.v) (cur.take (5 * i) ++ (Builtin.zeroCells z5.cells (rows.length + 1 - i)).toList ++ (Builtin.zeroCells z5.cells (G - (rows.length + 1))).toList):=by
    have:=hl.slice 0 (5 * i)
    exact (this.append (zex C w _)).append (zex C w _)
   generalize hus:cur.take (5 * i) ++ (Builtin.zeroCells z5.cells (rows.length + 1 - i)).toList ++ (Builtin.zeroCells z5.cells (G - (rows.length + 1))).toList = us at hheap hul hur
   have hzt:(z.take (5 * i) ++ (Builtin.zeroCells z5.cells (rows.length + 1 - i)).toList.map PC.v ++ (Builtin.zeroCells z5.cells (G - (rows.length + 1))).toList.map PC.v).take (5 * i) = z.take (5 * i):=by
    rw [append_assoc,take_append_of_le_length (by omega),take_of_length_le (by omega)]
   have hzl':(z.take (5 * i) ++ (Builtin.zeroCells z5.cells (rows.length + 1 - i)).toList.map PC.v ++ (Builtin.zeroCells z5.cells (G - (rows.length + 1))).toList.map PC.v).length = 5 * G:=by rw [<- hur.1]; exact hul
   generalize (z.take (5 * i) ++ (Builtin.zeroCells z5.cells (rows.length + 1 - i)).toList.map PC.v ++ (Builtin.zeroCells z5.cells (G - (rows.length + 1))).toList.map PC.v) = zz at hur hzt hzl';have hrp:=zcl (zcl hur hxr (i * 5)) hYr ((i + 1) * 5)
   have hze:spl (spl zz (i * 5) xc) ((i + 1) * 5) ((z.drop (5 * i)).take (5 * (rows.length - i))) = z.take (5 * i) ++ xc ++ (z.drop (5 * i)).take (5 * (rows.length - i)) ++ zz.drop (5 * i + 5 + 5 * (rows.length - i)):=by
    have:=ze7 (z:=zz) (X:=xc) (Y:=(z.drop (5 * i)).take (5 * (rows.length - i))) (a:=5 * i) (by rw [hYp,hxl]; omega)
    rw [hYp,hxl,hzt] at this;rw [show (i + 1) * 5 = 5 * i + 5 by omega,show i * 5 = 5 * i by omega];exact this
   rw [hze] at hrp
   have hheap2:w'.heap = (w.alloc (.cells (splV (splV us (i * 5) xs) ((i + 1) * 5) ((cur.drop (5 * i)).take (5 * (rows.length - i)))).toArray 32)).heap:=by
    rw [hheap,zdE w.heap.size _ _ _ _ (zb6 w us xs (i * 5) 32 (by rw [hxsl,hul]; omega)),zb6 w (splV us (i * 5) xs) _ _ _ (by rw [hYl,zbZ (by rw [hxsl,hul]; omega),hul]; omega)]
   refine ⟨_,rfl,ho,ht,hou,.inr (.inr ⟨_,_,_,G,_,rfl,hG,hGm,hheap2,hrp,?_,by simp,?_⟩)⟩
   ·refine ⟨⟨by rw [length_append]; omega,.inr ⟨bx.length,_,G,_,rfl,by omega,zaQ _ _,?_,hG,?_⟩⟩,hwd⟩
    ·simp only [length_append,hil,hYp,hxl,length_drop,hzl']; omega
    ·rw [hflat,zew (by simp only [length_append,hil,hYp,hxl]; omega)]
   ·intro q hq
    exact getElem?_append_left (by omega)
end
section
theorem nodess_one {ks:List V} {i:Nat} (h:i < ks.length):V.nodess (ks.take (i + 1)) = V.nodess (ks.take i) + ks[i].nodes:=by
 have app:∀ a b:List V,V.nodess (a ++ b) = V.nodess a + V.nodess b:=by
  intro a b
  induction a with
  | nil => simp [V.nodess]
  | cons x a ih => simp only [cons_append,V.nodess,ih]; omega
 rw [take_succ_eq_append_getElem h,app]; simp [V.nodess]
end
section
theorem zbu {d:Int} {v:V} (hv:V.rightBy pairsOk d v = true):(v.kind = 9 -> v.kids.length = 1) /\ (v.kind = 8 -> ((odds v.kids).map V.mark).Nodup) /\ (v.kids ≠ [] -> v.kind = 7 \/ v.kind = 8 \/ v.kind = 9) /\ ∀ k ∈ v.kids,V.rightBy pairsOk (d - 1) k = true:=by
 obtain ⟨k,n,e,t,kids⟩:=v;simp only [V.rightBy,Bool.and_eq_true] at hv;obtain ⟨hks,_,hs⟩:=hv;rw [V.rightsBy_all,all_eq_true] at hks;refine ⟨fun h => ?_,fun h => ?_,fun hk => ?_,hks⟩
 ·have h:k = 9:=h
  subst h;simp [V.selfBy] at hs;exact hs.2.2.2
 ·have h:k = 8:=h
  subst h;simp [V.selfBy,pairsOk,uniq] at hs;exact hs.2.2.2.1.2
 ·have hk:kids ≠ []:=hk
  show k = 7 \/ k = 8 \/ k = 9;by_cases h7:k = 7
  ·exact .inl h7
  by_cases h8:k = 8
  ·exact .inr (.inl h8)
  by_cases h9:k = 9
  ·exact .inr (.inr h9)
  simp [V.selfBy,h9,h8,h7,hk] at hs
theorem zb1 {v:V} {s:L8} {r:List (L8)} {i:Nat} (h:kidI v s = i) (hi:i < v.kids.length):atI v (s :: r) = atI v.kids[i] r:=by
 rw [atI,dif_pos (by omega)]
 congr 1
 simp only [h,Int.toNat_natCast]
theorem kids_nodes {v:V} {i:Nat} (hi:i < v.kids.length):v.kids[i].nodes + v.kids.length <= v.nodes:=by
 have key:∀ (l:List V) (i:Nat) (h:i < l.length),l[i].nodes + l.length <= V.nodess l + 1:=by
  intro l
  induction l with
  | nil => intro i h; simp at h
  | cons x l ih =>
   intro i h;have hx:=x.nodes_pos
   have hl:l.length <= V.nodess l:=by
    clear ih h
    induction l with
    | nil => exact Nat.zero_le _
    | cons y l ih => have:=y.nodes_pos; simp only [length_cons,V.nodess]; omega
   cases i with
   | zero => simp only [getElem_cons_zero,length_cons,V.nodess]; omega
   | succ i =>
    simp only [length_cons] at h
    have:=ih i (by omega)
    simp only [getElem_cons_succ,length_cons,V.nodess]; omega
 obtain ⟨k,n,e,t,kids⟩:=v
 have:=key kids i hi
 simp only [V.kids,V.nodes]; omega
end
section
open Go.Lib (validD)
def zP:V:=.mk 0 0 0 [] []
def withI (x:V) (ins:Bool) (v:V) (s:L8):V × Bool :=
 if 0 <= kidI v s /\ ins = true /\ v.kind = 7 then (v.withK (v.kids.take (kidI v s).toNat ++ x :: v.kids.drop (kidI v s).toNat),true)
 else if 0 <= kidI v s then (v.withK (v.kids.set (kidI v s).toNat x),true)
 else if v.kind = 8 then (v.withK (v.kids ++ [.mk 5 0 0 s [],x]),true)
 else if v.kind = 7 /\ ixI s = v.kids.length then (v.withK (v.kids ++ [x]),true)
 else (zP,false)
def outI (v:V) (s:L8):V × Bool :=
 if kidI v s < 0 \/ v.kind = 9 then (zP,false)
 else if v.kind = 8 then (v.withK (v.kids.take ((kidI v s).toNat - 1) ++ v.kids.drop ((kidI v s).toNat + 1)),true)
 else (v.withK (v.kids.take (kidI v s).toNat ++ v.kids.drop ((kidI v s).toNat + 1)),true)
def turnI (f:V -> L8 -> V × Bool):V -> List (L8) -> V × Bool
 | _,[] => (zP,false)
 | v,s :: r =>
  if r = [] then f v s
  else if h:0 <= kidI v s then
   (if (turnI f (v.kids[(kidI v s).toNat]'(by have:=zaN h; omega)) r).2 = true then (v.withK (v.kids.set (kidI v s).toNat (turnI f (v.kids[(kidI v s).toNat]'(by have:=zaN h; omega)) r).1),true) else (zP,false))
  else (zP,false)
theorem zdF (f:V -> L8 -> V × Bool) (v:V) (s:L8):turnI f v [s] = f v s:=by rw [turnI,if_pos rfl]
theorem zcH (f:V -> L8 -> V × Bool) (v:V) (s:L8) {r:List (L8)} (hr:r ≠ []) {i:Nat} (hk:kidI v s = i) (hi:i < v.kids.length):turnI f v (s :: r) = (if (turnI f v.kids[i] r).2 = true then (v.withK (v.kids.set i (turnI f v.kids[i] r).1),true) else (zP,false)):=by
 rw [turnI,if_neg hr,dif_pos (by omega)];simp only [hk,Int.toNat_natCast]
theorem zcI (f:V -> L8 -> V × Bool) (v:V) (s:L8) {r:List (L8)} (hr:r ≠ []) (hk:¬ 0 <= kidI v s):turnI f v (s :: r) = (zP,false):=by
 rw [turnI,if_neg hr,dif_neg hk]
def Alike (p q:V × Bool):Prop:=p.2 = q.2 /\ (p.2 = true -> p.1 = q.1)
theorem Alike.of {p q:V × Bool} (h:p = q):Alike p q:=by subst h; exact ⟨rfl,fun _ => rfl⟩
theorem Alike.no {a b:V}:Alike (a,false) (b,false):=⟨rfl,fun h => Bool.noConfusion h⟩
theorem kid7 {v:V} {s:L8} (h7:v.kind = 7):kidI v s = if ixI s < v.kids.length then ixI s else -1:=by unfold kidI; rw [if_pos h7]
theorem kid8 {v:V} {s:L8} (h8:v.kind = 8):kidI v s = if 0 <= findK s v.kids 0 then findK s v.kids 0 + 1 else -1:=by
 unfold kidI findV; rw [if_neg (by omega),if_pos h8,if_pos h8]
theorem new_alike {v x:V} {s:L8} {a:Bool} (h:¬ (0 <= kidI v s /\ ¬ (a = true /\ v.kind = 7))):Alike (newS v s x a) (withI x a v s):=by
 by_cases h8:v.kind = 8
 ·have hk:¬ 0 <= kidI v s:=fun hk => h ⟨hk,fun hh => by omega⟩
  have hf:findK s v.kids 0 < 0:=by
   rw [kid8 h8] at hk
   split at hk <;> omega
  refine Alike.of ?_;unfold newS withI;rw [if_pos ⟨h8,hf⟩,if_neg (fun hh => hk hh.1),if_neg hk,if_pos h8]
 by_cases h7:v.kind = 7
 ·have hk7:=kid7 (s:=s) h7
  by_cases hk:0 <= kidI v s
  ·have ha:a = true:=Classical.byContradiction fun hn => h ⟨hk,fun hh => hn hh.1⟩
   have hlt:ixI s < v.kids.length:=by
    apply Classical.byContradiction; intro hn
    rw [if_neg hn] at hk7; omega
   rw [if_pos hlt] at hk7;refine Alike.of ?_;unfold newS withI;rw [if_neg (fun hh => h8 hh.1),if_pos ⟨h7,.inr ⟨ha,by omega,by omega⟩⟩,if_pos ⟨hk,ha,h7⟩,hk7]
  ·by_cases hl:ixI s = v.kids.length
   ·refine Alike.of ?_
    unfold newS withI;rw [if_neg (fun hh => h8 hh.1),if_pos ⟨h7,.inl hl⟩,if_neg (fun hh => hk hh.1),if_neg hk,if_neg h8,if_pos ⟨h7,hl⟩,hl,Int.toNat_natCast,take_length,drop_length]
   ·have hC:¬ (v.kind = 7 /\ (ixI s = v.kids.length \/ a = true /\ 0 <= ixI s /\ ixI s <= v.kids.length - 1)):=by
     rintro ⟨_,hh | ⟨_,h1,h2⟩⟩
     ·exact hl hh
     ·rw [if_pos (by omega)] at hk7; omega
    unfold newS withI;rw [if_neg (fun hh => h8 hh.1),if_neg hC,if_neg (fun hh => hk hh.1),if_neg hk,if_neg h8,if_neg (fun hh => hl hh.2)];exact Alike.no
 ·have hk:¬ 0 <= kidI v s:=fun hk => h ⟨hk,fun hh => h7 hh.2⟩
  unfold newS withI;rw [if_neg (fun hh => h8 hh.1),if_neg (fun hh => h7 hh.1),if_neg (fun hh => hk hh.1),if_neg hk,if_neg h8,if_neg (fun hh => h7 hh.1)];exact Alike.no
theorem ze9 {v:V} {i:Nat} {p q:V × Bool} (h:Alike p q):Alike (v.withK (v.kids.set i p.1),p.2) (if q.2 = true then (v.withK (v.kids.set i q.1),true) else (zP,false)):=by
 obtain ⟨h1,h2⟩:=h
 cases hq:q.2 with
 | true =>
  have hp:p.2 = true:=by rw [h1]; exact hq
  rw [if_pos rfl,h2 hp,hp]; exact Alike.of rfl
 | false =>
  have hp:p.2 = false:=by rw [h1]; exact hq
  rw [if_neg (by decide),hp]; exact Alike.no
theorem zdG (x:V) (a:Bool):∀ (st:List (L8)) (v:V),st ≠ [] -> Alike (putS v st x a) (turnI (withI x a) v st)
 | [],v,h => absurd rfl h
 | s :: r,v,_ => by
  by_cases hr:r = []
  ·subst hr
   rw [zdF,putS];split
   ·rename_i hh
    refine Alike.of ?_;rw [putS];unfold withI;rw [if_neg (fun k => hh.2 ⟨rfl,k.2⟩),if_pos hh.1]
   ·rename_i hh
    rw [if_pos rfl];exact new_alike fun k => hh ⟨k.1,fun q => k.2 q.2⟩
  ·by_cases hk:0 <= kidI v s
   ·have hlt:=zaN hk
    rw [zcH (i:=(kidI v s).toNat) _ v s hr (by omega) (by omega),putS,dif_pos ⟨hk,fun q => hr q.1⟩];exact ze9 (zdG x a r _ hr)
   ·rw [zcI _ v s hr hk,putS,dif_neg (fun q => hk q.1),if_neg hr]
    exact Alike.no
theorem zcJ:∀ (st:List (L8)) (v:V),st ≠ [] -> Alike (lessS v st) (turnI outI v st)
 | [],v,h => absurd rfl h
 | s :: r,v,_ => by
  by_cases hr:r = []
  ·subst hr
   rw [zdF,lessS];unfold outI;by_cases hk:0 <= kidI v s
   ·rw [dif_pos hk,if_pos rfl]
    by_cases h9:v.kind = 9
    ·rw [if_pos (show kidI v s < 0 \/ v.kind = 9 from .inr h9),decide_eq_false (fun q => q h9)]
     exact Alike.no
    ·rw [if_neg (show ¬ (kidI v s < 0 \/ v.kind = 9) from fun q => q.elim (fun q => by omega) h9),decide_eq_true h9]
     by_cases h8:v.kind = 8
     ·rw [if_pos h8,if_pos h8]; exact Alike.of rfl
     ·rw [if_neg h8,if_neg h8]; exact Alike.of rfl
   ·rw [dif_neg hk,if_pos (.inl (by omega))]
    exact Alike.no
  ·by_cases hk:0 <= kidI v s
   ·have hlt:=zaN hk
    rw [zcH (i:=(kidI v s).toNat) _ v s hr (by omega) (by omega),lessS,dif_pos hk,if_neg hr];exact ze9 (zcJ r _ hr)
   ·rw [zcI _ v s hr hk,lessS,dif_neg hk]
    exact Alike.no
/-! ### steps that lead somewhere in a right value are steps -/
theorem itoa_ascii (n:Int) (h:0 <= n):∀ b ∈ Lib.itoa n,b.toNat < 128:=by
 obtain ⟨u,rfl⟩:∃ u:Nat,n = (u:Int):=⟨n.toNat,by omega⟩;rw [Lib.itoa_nonneg];intro b hb
 have:=zc7 u b hb
 omega
theorem ixI_ok {s:L8} (h:0 <= ixI s):stepOk s = true:=by
 unfold ixI at h
 split at h
 ·rename_i hh
  obtain ⟨h1,h2,h3⟩:=hh;unfold rdB at h1;obtain ⟨n,hn⟩:=Option.isSome_iff_exists.1 h1;obtain ⟨_,hs⟩:=rdD_some hn;have hnn:rdN s = n:=by unfold rdN; rw [hn]
  rw [hnn] at h2 h3;have hl:=Lib.itoa_length_le n (by omega) (by omega);rw [hs] at hl;have ha:=itoa_ascii n h2;rw [hs] at ha;unfold stepOk;rw [Lib.validD_ascii s.length s (fun b hb => ha b (mem_of_mem_take hb)),drop_length,decide_eq_true (by omega)]; rfl
 ·omega
theorem zda (key:L8):∀ (l:List V) (n:Nat),0 <= findK key l n -> ∃ j,findK key l n = ((n + 2 * j:Nat):Int) /\ ∃ h:2 * j + 1 < l.length,(l[2 * j]'(by omega)).kind = 5 /\ (l[2 * j]'(by omega)).text = key
 | [],n,h => by simp only [findK] at h; omega
 | [_],n,h => by simp only [findK] at h; omega
 | a :: b :: r,n,h => by
  simp only [findK] at h ⊢;by_cases hh:a.kind = 5 /\ a.text = key
  ·rw [if_pos hh]
   exact ⟨0,rfl,by simp,hh⟩
  ·rw [if_neg hh] at h ⊢
   obtain ⟨j,h1,h2,h3⟩:=zda key r (n + 2) h;refine ⟨j + 1,by rw [h1]; omega,by simp only [length_cons]; omega,?_⟩;exact h3
theorem step_ok {d:Int} {v:V} {s:L8} (hv:V.rightBy pairsOk d v = true) (h:0 <= kidI v s):stepOk s = true:=by
 obtain ⟨_,_,hks,hkr⟩:=zbu hv;by_cases h7:v.kind = 7
 ·rw [kid7 h7] at h
  split at h
  ·exact ixI_ok h
  ·omega
 by_cases h8:v.kind = 8
 ·rw [kid8 h8] at h
  split at h
  ·rename_i hf
   obtain ⟨j,_,hl,h5,ht⟩:=zda s v.kids 0 hf;have hr:=hkr _ (getElem_mem (show 2 * j < v.kids.length by omega));rw [<- ht];generalize v.kids[2 * j]'(by omega) = k at hr h5;obtain ⟨k,n,e,t,kids⟩:=k;have h5:k = 5:=h5;subst h5;simp [V.rightBy,V.selfBy] at hr;show stepOk t = true;unfold stepOk;rw [hr.2.2.2.2.1,decide_eq_true hr.2.2.2.2.2.1]; rfl
  ·omega
 unfold kidI at h;rw [if_neg h7,if_neg h8] at h
 split at h
 ·split at h
  ·rename_i hh
   rw [hh.1]; decide
  ·omega
 ·omega
theorem rgt_deep {d:Int} {v:V} (hv:V.rightBy pairsOk d v = true):0 <= d:=by
 obtain ⟨k,n,e,t,kids⟩:=v;simp only [V.rightBy,Bool.and_eq_true,decide_eq_true_eq] at hv;exact hv.2.1
theorem zey:∀ (st:List (L8)) (w y:V) (d:Int),V.rightBy pairsOk d w = true -> atI w st = some y -> (st.length:Int) <= d /\ ∀ s ∈ st,stepOk s = true
 | [],w,y,d,hw,_ => ⟨rgt_deep hw,fun s hs => by cases hs⟩
 | s :: r,w,y,d,hw,h => by
  rw [atI] at h
  split at h
  ·rename_i hk
   have hlt:=zaN hk;have hr:=(zbu hw).2.2.2 _ (getElem_mem (show (kidI w s).toNat < w.kids.length by omega));obtain ⟨h1,h2⟩:=zey r _ y (d - 1) hr h;refine ⟨by rw [length_cons]; omega,fun z hz => ?_⟩
   rcases mem_cons.1 hz with rfl | hz
   ·exact step_ok hw hk
   ·exact h2 z hz
  ·cases h
/-! ### what is put stands there -/
theorem zfa (key:L8) (k:V):∀ (l:List V) (j n:Nat),findK key (l.set (2 * j + 1) k) n = findK key l n
 | [],j,n => rfl
 | [a],j,n => by
  rw [set_cons_succ,List.set_nil]
 | a :: b :: r,0,n => by
  show findK key (a :: k :: r) n = _
  simp only [findK]
 | a :: b :: r,j + 1,n => by
  have ih:=zfa key k r j (n + 2);show findK key (a :: b :: r.set (2 * j + 1) k) n = _;simp only [findK];rw [ih]
theorem zfb (key:L8) (x:V):∀ (l:List V) (n:Nat),l.length % 2 = 0 -> findK key l n < 0 -> findK key (l ++ [.mk 5 0 0 key [],x]) n = ((n + l.length:Nat):Int)
 | [],n,_,_ => by
  simp only [nil_append,findK]
  rw [if_pos ⟨rfl,rfl⟩]; simp
 | [a],n,h,_ => by simp at h
 | a :: b :: r,n,h,h2 => by
  simp only [findK] at h2;simp only [cons_append,findK];by_cases hh:a.kind = 5 /\ a.text = key
  ·rw [if_pos hh] at h2; omega
  ·rw [if_neg hh] at h2 ⊢
   simp only [length_cons] at h;rw [zfb key x r (n + 2) (by omega) h2];simp only [length_cons]; omega
theorem kid_set {v k:V} {s:L8} (h:0 <= kidI v s):kidI (v.withK (v.kids.set (kidI v s).toNat k)) s = kidI v s:=by
 have hlen:(v.withK (v.kids.set (kidI v s).toNat k)).kids.length = v.kids.length:=by rw [V.withK_kids,length_set]
 by_cases h7:v.kind = 7
 ·rw [kid7 (v:=v.withK _) (s:=s) h7,hlen,<- kid7 h7]
 by_cases h8:v.kind = 8
 ·have hk:=kid8 (s:=s) h8
  rw [hk] at h
  split at h
  ·rename_i hf
   obtain ⟨j,hj,_⟩:=zda s v.kids 0 hf;rw [if_pos hf] at hk;have e:(kidI v s).toNat = 2 * j + 1:=by omega
   rw [e,kid8 (v:=v.withK _) (s:=s) h8,V.withK_kids,zfa,<- kid8 h8]
  ·omega
 unfold kidI;have e1:(v.withK (v.kids.set (if v.kind = 7 then if ixI s < v.kids.length then ixI s else -1 else if v.kind = 8 then if 0 <= findV v s then findV v s + 1 else -1 else if v.kind = 9 then if s = [116,97,103] /\ 0 < v.kids.length then 0 else -1 else -1).toNat k)).kind = v.kind:=rfl;rw [e1,if_neg h7,if_neg h8,if_neg h7,if_neg h8];simp only [V.withK_kids,length_set]
theorem right_even {d:Int} {v:V} (hv:V.rightBy pairsOk d v = true) (h8:v.kind = 8):v.kids.length % 2 = 0 /\ v.kids.length <= 300:=by
 obtain ⟨k,n,e,t,kids⟩:=v;have h8:k = 8:=h8;subst h8;simp [V.rightBy,V.selfBy,pairsOk] at hv;exact ⟨hv.2.2.2.2.2.2.1,hv.2.2.2.2.2.2.2⟩
theorem new_at {d:Int} {v x:V} {s:L8} {a:Bool} (hv:V.rightBy pairsOk d v = true) (h:(newS v s x a).2 = true):atI (newS v s x a).1 [s] = some x:=by
 unfold newS at h ⊢
 split at h
 ·rename_i hh
  rw [if_pos hh];obtain ⟨hev,_⟩:=right_even hv hh.1
  have hk:kidI (v.withK (v.kids ++ [.mk 5 0 0 s [],x])) s = ((v.kids.length + 1:Nat):Int):=by
   rw [kid8 (v:=v.withK _) (s:=s) hh.1,V.withK_kids,zfb s x v.kids 0 hev hh.2,if_pos (by omega)]; omega
  rw [zb1 (i:=v.kids.length + 1) hk (by rw [V.withK_kids,length_append]; simp),atI];simp [V.withK_kids]
 ·rename_i hn
  rw [if_neg hn]
  split at h
  ·rename_i hh
   rw [if_pos hh];obtain ⟨j,hj⟩:∃ j:Nat,ixI s = j:=⟨(ixI s).toNat,by rcases hh.2 with h | h <;> omega⟩;have hjl:j <= v.kids.length:=by rcases hh.2 with h | h <;> omega
   have hl:(v.kids.take j ++ x :: v.kids.drop j).length = v.kids.length + 1:=by simp; omega
   simp only [hj,Int.toNat_natCast]
   have hk:kidI (v.withK (v.kids.take j ++ x :: v.kids.drop j)) s = (j:Int):=by
    rw [kid7 (v:=v.withK _) (s:=s) hh.1,V.withK_kids,hl,hj,if_pos (by omega)]
   rw [zb1 hk (by rw [V.withK_kids,hl]; omega),atI];simp only [V.withK_kids];rw [getElem_append_right (by rw [length_take]; omega)];simp [Nat.min_eq_left hjl]
  ·cases h
theorem put_at:∀ (st:List (L8)) (v x:V) (a:Bool) (d:Int),V.rightBy pairsOk d v = true -> (putS v st x a).2 = true -> atI (putS v st x a).1 st = some x
 | [],v,x,a,d,_,_ => by rw [putS,atI]
 | s :: r,v,x,a,d,hv,h => by
  rw [putS] at h ⊢
  split at h
  ·rename_i hh
   rw [dif_pos hh];have hlt:=zaN hh.1;have hil:(kidI v s).toNat < v.kids.length:=by omega
   have hr:=(zbu hv).2.2.2 _ (getElem_mem hil);have ih:=put_at r v.kids[(kidI v s).toNat] x a (d - 1) hr h;rw [zb1 (i:=(kidI v s).toNat) (by rw [kid_set hh.1]; omega) (by rw [V.withK_kids,length_set]; exact hil)];simp only [V.withK_kids,List.getElem_set_self];exact ih
  ·rename_i hh
   rw [dif_neg hh]
   split at h
   ·rename_i hr
    subst hr;rw [if_pos rfl];exact new_at hv h
   ·cases h
/-! ### both sides alike -/
def putJ (v:V) (st:List (L8)) (x:V) (ins:Bool):V × Bool :=
 if stepsOk st = true /\ v.ok = true /\ x.ok = true /\ (if st = [] then (x,true) else turnI (withI x ins) v st).2 = true /\ (if st = [] then (x,true) else turnI (withI x ins) v st).1.ok = true then ((if st = [] then (x,true) else turnI (withI x ins) v st).1,true) else (v,false)
theorem ok_by {v:V} (h:v.ok = true):V.rightBy pairsOk 12 v = true /\ v.nodes <= 300:=by
 unfold V.ok at h;simp only [Bool.and_eq_true,decide_eq_true_eq] at h;exact h
theorem put_same (v:V) (st:List (L8)) (x:V) (a:Bool):putW v st x a = putJ v st x a:=by
 have hal:Alike (putS v st x a) (if st = [] then (x,true) else turnI (withI x a) v st):=by
  by_cases h:st = []
  ·subst h; rw [if_pos rfl,putS]; exact Alike.of rfl
  ·rw [if_neg h]; exact zdG x a st v h
 unfold putW madeS putJ;generalize hq:(if st = [] then (x,true) else turnI (withI x a) v st) = q at hal;obtain ⟨h1,h2⟩:=hal;by_cases hc:((putS v st x a).2 && x.ok) = true /\ v.ok = true /\ (putS v st x a).1.ok = true
 ·have hc1:=hc.1
  rw [Bool.and_eq_true] at hc1
  have hst:stepsOk st = true:=by
   obtain ⟨h3,h4⟩:=zey st _ x 12 (ok_by hc.2.2).1 (put_at st v x a 12 (ok_by hc.2.1).1 hc1.1);unfold stepsOk;rw [decide_eq_true (by omega),all_eq_true.2 h4]; rfl
  rw [if_pos hc,if_pos ⟨hst,hc.2.1,hc1.2,by rw [<- h1]; exact hc1.1,by rw [<- h2 hc1.1]; exact hc.2.2⟩,h2 hc1.1]
 ·rw [if_neg hc,if_neg]
  rintro ⟨_,g1,g2,g3,g4⟩;have h5:(putS v st x a).2 = true:=by rw [h1]; exact g3
  exact hc ⟨by rw [h5,g2]; rfl,g1,by rw [h2 h5]; exact g4⟩
end
section
def m_i_At:M:=so [qo 2 (.box 0),⟨some 4,.zero [.int .i64 0,.int .i64 0,.int .i64 0,.string ⟨[].toArray⟩,.slice none 0 0],none,[]⟩,qo 5 (.mv (cB false))] (.seq (so [qm 8 1,qc 9 58 [8] 1,qo 10 (.not 9)] (.cond 10 (so [⟨some 11,.build [.int .i64 0,.int .i64 0,.int .i64 0,.string ⟨[].toArray⟩,.slice none 0 0] [],none,[]⟩,qS 5 4 11,qo 5 (.mv (cB false))] .ret) .skip)) (so [qL 13 5 2,qm 14 1,qc 15 61 [13,14] 1,qm 12 15,qe 16 12 0,qe 17 12 1,⟨some 6,.zero [.int .i64 0,.int .i64 0,.int .i64 0,.string ⟨[].toArray⟩,.slice none 0 0],none,[]⟩,qS 5 6 16,qm 7 17] (so [qL 18 5 6,qc 19 38 [18] 1,qm 20 7,qS 5 4 19,qm 5 20] .ret)))
theorem lk_i_At:look Tryz.prog 37 = some (21,m_i_At,[.cell true 5 4,.tm 5]):=by kernel_rfl
def m_i_at:M:=so [qo 2 (.box 0),⟨some 4,.zero [.int .i64 0,.int .i64 0,.int .i64 0,.string ⟨[].toArray⟩,.slice none 0 0],none,[]⟩,qo 5 (.mv (cB false))] (.seq (so [qm 9 1,qo 10 (.len 9),qo 11 (.mv (ci 0))] (.block 0 (.loop (so [qo 12 (.bin .lss false 11 10)] (.seq (.cond 12 .skip (.exit 0)) (.seq (.block 1 (so [qo 13 (.ix 1 9 11),ql 14 1 13,qm 7 14] (so [qL 15 5 2,qm 16 7,qc 17 79 [15,16] 1,qm 8 17] (.seq (so [qm 18 8,qo 19 (.bin .lss false 18 (ci 0))] (.cond 19 (so [⟨some 20,.build [.int .i64 0,.int .i64 0,.int .i64 0,.string ⟨[].toArray⟩,.slice none 0 0] [],none,[]⟩,qS 5 4 20,qo 5 (.mv (cB false))] .ret) .skip)) (.ops [qF 21 4 2,ql 22 1 21,qm 23 8,qo 24 (.ix 5 22 23),qL 25 5 24,qS 5 2 25]))))) (.ops [qo 26 (.bin .add false 11 (ci 1)),qm 11 26]))))))) (so [qL 27 5 2,qS 5 4 27,qo 5 (.mv (cB true))] .ret))
theorem lk_i_at:look Tryz.prog 61 = some (28,m_i_at,[.cell true 5 4,.tm 5]):=by kernel_rfl
def m_i_kidAt:M:=so [qo 2 (.box 0),qo 4 (.mv (ci 0))] (.seq (so [qF 7 0 2,ql 8 1 7] (.block 0 (so [qo 10 (.bin .eql false 8 (ci 7)),qm 9 10] (.cond 9 (so [qm 11 1,qc 12 93 [11] 1,qm 5 12] (so [qm 13 5,qF 14 4 2,ql 15 1 14,qo 16 (.len 15),qo 17 (.bin .lss false 13 16)] (.cond 17 (so [qm 18 5,qm 4 18] .ret) .skip))) (so [qo 20 (.bin .eql false 8 (ci 8)),qm 19 20] (.cond 19 (so [qL 21 5 2,qm 22 1,qc 23 96 [21,22] 1,qm 6 23] (so [qm 24 6,qo 25 (.bin .geq false 24 (ci 0))] (.cond 25 (so [qm 26 6,qo 27 (.bin .add false 26 (ci 1)),qm 4 27] .ret) .skip))) (so [qo 29 (.bin .eql false 8 (ci 9)),qm 28 29] (.cond 28 (so [qm 30 1,⟨some 31,.bin .eql false 30 (.c (.string ⟨[116,97,103].toArray⟩)),none,[]⟩,qm 32 31,⟨some 33,.fld 4 2,some (32,true),[]⟩,⟨some 34,.load false 1 33,some (32,true),[]⟩,⟨some 35,.len 34,some (32,true),[]⟩,⟨some 36,.bin .gtr false 35 (ci 0),some (32,true),[]⟩,qo 37 (.pick 32 36 (cB false))] (.cond 37 (so [qo 4 (.mv (ci 0))] .ret) .skip)) .skip)))))))) (so [qo 4 (.mv (ci (-1)))] .ret))
theorem lk_i_kidAt:look Tryz.prog 79 = some (38,m_i_kidAt,[.tm 4]):=by kernel_rfl
def m_i_indexOf:M:=so [qo 2 (.mv (ci 0))] (so [qm 6 0,qc 7 102 [6] 1,qm 5 7,qe 8 5 0,qe 9 5 1,qm 3 8,qm 4 9] (.seq (so [qm 10 4,qo 11 (.not 10),qm 12 11,qg 13 3 12 false,⟨some 14,.call 89 [13,ci 0,ci 999999],some (12,false),[.f 1]⟩,⟨some 15,.not 14,some (12,false),[]⟩,qo 16 (.pick 12 (cB true) 15)] (.cond 16 (so [qo 2 (.mv (ci (-1)))] .ret) .skip)) (so [qm 17 3,qm 2 17] .ret)))
theorem zfc:look Tryz.prog 93 = some (18,m_i_indexOf,[.tm 2]):=by kernel_rfl
def m_i_find:M:=so [qo 2 (.box 0),qo 4 (.mv (ci 0))] (.seq (so [qo 5 (.mv (ci 0))] (.block 0 (.loop (.seq (so [qF 6 0 2,ql 7 1 6,qo 8 (.bin .eql false 7 (ci 8)),qm 9 8,qg 10 5 9 true,⟨some 11,.bin .add false 10 (ci 1),some (9,true),[]⟩,⟨some 12,.fld 4 2,some (9,true),[]⟩,⟨some 13,.load false 1 12,some (9,true),[]⟩,⟨some 14,.len 13,some (9,true),[]⟩,⟨some 15,.bin .lss false 11 14,some (9,true),[]⟩,qo 16 (.pick 9 15 (cB false))] (.cond 16 .skip (.exit 0))) (.seq (.block 1 (so [qF 19 4 2,ql 20 1 19,qm 21 5,qo 22 (.ix 5 20 21),qF 23 0 22,ql 24 1 23,qo 25 (.bin .eql false 24 (ci 5)),qm 26 25,⟨some 27,.fld 4 2,some (26,true),[]⟩,⟨some 28,.load false 1 27,some (26,true),[]⟩,qg 29 5 26 true,⟨some 30,.ix 5 28 29,some (26,true),[]⟩,⟨some 31,.fld 3 30,some (26,true),[]⟩,⟨some 32,.load false 1 31,some (26,true),[]⟩,qg 33 1 26 true,⟨some 34,.bin .eql false 32 33,some (26,true),[]⟩,qo 35 (.pick 26 34 (cB false))] (.cond 35 (so [qm 36 5,qm 4 36] .ret) .skip))) (.ops [qm 17 5,qo 18 (.bin .add false 17 (ci 2)),qm 5 18])))))) (so [qo 4 (.mv (ci (-1)))] .ret))
theorem lk_i_find:look Tryz.prog 96 = some (37,m_i_find,[.tm 4]):=by kernel_rfl
end
section
variable {T:World -> Prop} {hT:Low ngl T}
attribute [local irreducible] po mw pt
def FnI (v:V) (key:L8) (m:Nat) (st:St):Prop :=
 ∃ i:Nat,i <= v.kids.length + 1 /\ m = v.kids.length + 1 - i /\ has st.tm [(1,.d (pS key)),(2,.ref 0 0),(5,.d (pI i))] /\ st.bx = [vC v] /\ (v.kind = 8 -> findV v key = findK key (v.kids.drop i) i)
theorem find_fn (v:V) (key:L8) (hl:v.kids.length <= 4294967295):FnV (env T hT) 96 [.ag (vC v),.d (pS key)] (.d (pI (findV v key))):=by
 refine zaU (zaf lk_i_find) (by show 2 <= 37; decide) fun B hB => ?_
 unfold m_i_find;refine mO ?_;refine zal (cs:=vC v) rfl ?_;refine mN ?_;refine zaS (fun st => findV v key = -1) ?_ ?_
 ·refine mP ?_
  refine zak ?_;refine zaY (FnI v key) (v.kids.length + 1) ⟨0,Nat.zero_le _,rfl,⟨rfl,rfl,rfl,trivial⟩,rfl,fun h => by unfold findV; rw [if_pos h,drop_zero]⟩ ?_;rintro m tm bx nt live ⟨i,hi,rfl,ht,hbx,hf⟩;obtain ⟨tm1,rfl⟩:=zaq ht;simp only at hbx; subst hbx
  clear ht;refine mM ?_;(iterate 2 refine mS ?_);by_cases h8:v.kind = 8
  ·refine zah rfl rfl (beq_iff_eq.2 h8) ?_
   (iterate 2 refine mS ?_);refine zaZ (n:=((i + 1:Nat):Int)) rfl rfl rfl (by omega) (by omega) ?_;(iterate 2 refine mS ?_);refine zay (n:=v.kids.length) rfl rfl (zam _) ?_;by_cases hil:i + 1 < v.kids.length
   ·refine zah rfl rfl (decide_eq_true (by omega)) ?_
    refine mT ?_;refine za0 ?_;have hat:=findK_at (key:=key) hil i;refine zau (zak (zau (zap ?_)));(iterate 3 refine mS ?_);refine za5 (es:=vK v.kids) (e:=vC v.kids[i]) rfl rfl rfl ⟨by omega,by rw [Int.toNat_natCast]; exact zbj (by omega)⟩ rfl ?_;(iterate 2 refine mS ?_);by_cases h5:v.kids[i].kind = 5
    ·refine zah rfl rfl (beq_iff_eq.2 h5) ?_
     (iterate 4 refine mS ?_);refine za5 (es:=vK v.kids) (e:=vC v.kids[i]) rfl rfl rfl ⟨by omega,by rw [Int.toNat_natCast]; exact zbj (by omega)⟩ rfl ?_;(iterate 3 refine mS ?_);refine zd7 (la:=v.kids[i].text) (lb:=key) rfl rfl rfl ?_;by_cases hk:v.kids[i].text = key
     ·rw [decide_eq_true hk]
      refine mT ?_;refine mP ?_;refine zab ⟨.inr rfl,[.d (pI i)],rfl,?_⟩;rw [hf h8,hat,if_pos ⟨h5,hk⟩]; rfl
     ·rw [decide_eq_false hk]
      refine mK ?_;refine zap ?_;refine mS ?_;refine zaZ (n:=((i + 2:Nat):Int)) rfl rfl rfl (by omega) (by omega) ?_;refine mN ?_;exact ⟨v.kids.length + 1 - (i + 2),by omega,i + 2,by omega,rfl,⟨rfl,rfl,rfl,trivial⟩,rfl,fun _ => by rw [hf h8,hat,if_neg (fun h => hk h.2)]⟩
    ·refine zan rfl rfl (beq_eq_false_iff_ne.2 h5) ?_
     refine mS ?_;refine mZ ?_;refine mK ?_;refine zap ?_;refine mS ?_;refine zaZ (n:=((i + 2:Nat):Int)) rfl rfl rfl (by omega) (by omega) ?_;refine mN ?_;exact ⟨v.kids.length + 1 - (i + 2),by omega,i + 2,by omega,rfl,⟨rfl,rfl,rfl,trivial⟩,rfl,fun _ => by rw [hf h8,hat,if_neg (fun h => h5 h.1)]⟩
   ·refine zan rfl rfl (decide_eq_false (by omega)) ?_
    refine mF ?_;refine za4 ?_;show findV v key = -1;rw [hf h8,ze3 (by rw [length_drop]; omega)]
  ·refine zan rfl rfl (beq_eq_false_iff_ne.2 h8) ?_
   refine mS ?_;refine mZ ?_;refine mF ?_;refine za4 ?_;show findV v key = -1;unfold findV;rw [if_neg h8]
 rintro tm bx nt live h;refine mP ?_;exact zab ⟨.inr rfl,[.d (pI (-1))],rfl,by rw [h]; rfl⟩
end
section
theorem zfd (n:Int) (w:World) (hn:i64ok n) :
  Calls Tryz.prog 97 #[.int .i64 n] w fun e w' => e = .returned (.string ⟨(Lib.itoa n).toArray⟩) /\ Below w.heap.size w w':=by
 obtain ⟨h1,h2⟩:=hn;by_cases h0:n = 0
 ·subst h0
  have HZ:=Lib.hid (show Lib.itoa 0 = [48] by rw [show (0:Int) = ((0:Nat):Int) from rfl,Lib.itoa_nonneg,Lib.decDigits_one (by decide)]; rfl)
  go_enter Tryz.func97,Tryz.ntmps97
  go_wp2;go_ret;exact ⟨zb7 HZ.out.symm,Below.refl _ _⟩
 have g0:(n == 0) = false:=by simpa using h0
 obtain ⟨res,hres⟩:∃ res,Lib.decDigits n.natAbs = res:=⟨_,rfl⟩;have hrl:res.length <= 20:=by rw [<- hres]; exact zbU (by omega)
 go_enter Tryz.func97,Tryz.ntmps97
 go_wp2
 go_loopw [3,4,5] (fun o m d wr => ∃ (l:L8) (q:Int),o = .string ⟨l.toArray⟩ /\ m = .int .i64 q /\ -9223372036854775808 <= q /\ q <= 9223372036854775807 /\ decOn q.natAbs l = res /\ (0 <= n -> 0 <= q) /\ (n <= 0 -> q <= 0) /\ wr = w) (fun _ m _ _ => (intOf m).natAbs)
 case atStart => exact ⟨[],n,rfl,rfl,h1,h2,by unfold decOn; rw [if_neg (by omega),hres]; simp,fun h => h,fun h => h,rfl⟩
 case round =>
  obtain ⟨l,q,rfl,rfl,hq1,hq2,hd,hs1,hs2,rfl⟩:=hrel;have HD:=Lib.hid hd;by_cases hq:q = 0
  ·subst hq
   have hl:l = res:=by rw [<- hd]; rfl
   subst hl;clear hd;by_cases hneg:n < 0
   ·have HR:=Lib.hid (show Lib.itoa n = 45 :: l by unfold Lib.itoa; rw [if_pos hneg]; exact congrArg _ hres)
    go_wp2;go_ret;exact ⟨by rw [HR.out]; rfl,Below.refl _ _⟩
   ·have HR:=Lib.hid (show Lib.itoa n = l by unfold Lib.itoa; rw [if_neg hneg,show n.toNat = n.natAbs by omega]; exact hres)
    go_wp2;go_ret;exact ⟨by rw [HR.out]; rfl,Below.refl _ _⟩
  ·have gq:(q != 0) = true:=by simpa using hq
   have hu:q.natAbs ≠ 0:=by omega
   have ll:l.length <= 20:=by
    have:=congrArg length hd; unfold decOn at this; rw [if_neg hu,length_append] at this; omega
   have st:=zd8 hu l;rw [hd] at st;clear hd;have ta:=tdivAbs q;have tm:=tmodAbs q;have hb1:-9223372036854775808 <= Int.tdiv q 10:=by omega
   have hb2:Int.tdiv q 10 <= 9223372036854775807:=by omega
   obtain ⟨r,hr⟩:∃ r,Int.tmod q 10 = r:=⟨_,rfl⟩;obtain ⟨t,ht⟩:∃ t,Int.tdiv q 10 = t:=⟨_,rfl⟩;have hz1:0 <= q -> 0 <= t:=fun h => by rw [<- ht]; exact Int.tdiv_nonneg h (by decide)
   have hz2:q <= 0 -> t <= 0:=fun h => by rw [<- ht]; (have hh:=Int.tdiv_nonneg (a:=-q) (b:=10) (by omega) (by decide); rw [Int.neg_tdiv] at hh; omega)
   rw [hr] at tm;rw [ht] at ta hb1 hb2;have hd10:r.natAbs < 10:=by omega
   have P:=digs_at hd10;rw [<- ta,<- tm] at st;have HST:=Lib.hid st;have hmeas:t.natAbs < q.natAbs:=by omega
   clear st tm ta;by_cases hr0:r < 0
   ·obtain ⟨d,rfl⟩:∃ d:Nat,r = -(d:Int):=⟨r.natAbs,by omega⟩
    have e1:(-(d:Int)).natAbs = d:=by omega
    rw [e1] at P hd10 HST;have i1:(0:Int) <= d:=by omega
    have i2:(d:Int) + 1 <= 10:=by omega
    go_wp2;go_roundw
    case rel => exact ⟨_,t,rfl,rfl,hb1,hb2,by simpa using HST.out,fun h => hz1 (hs1 h),fun h => hz2 (hs2 h),by first | rfl | trivial⟩
    case measure => simp only [intOf]; exact hmeas
   ·obtain ⟨d,rfl⟩:∃ d:Nat,r = (d:Int):=⟨r.natAbs,by omega⟩
    have e1:((d:Int)).natAbs = d:=by omega
    rw [e1] at P hd10 HST;have i1:(0:Int) <= d:=by omega
    have i2:(d:Int) + 1 <= 10:=by omega
    go_wp2;go_roundw
    case rel => exact ⟨_,t,rfl,rfl,hb1,hb2,by simpa using HST.out,fun h => hz1 (hs1 h),fun h => hz2 (hs2 h),by first | rfl | trivial⟩
    case measure => simp only [intOf]; exact hmeas
def TenTab (w : World) : Prop := Lib.TabIs Tryz.prog w "internal/strconv.uint64pow10" .u64 Lib.pow10Tab
theorem tenG : Tryz.prog.globalNamed "internal/strconv.uint64pow10" = some 4 := by kernel_rfl
theorem TenTab.lt {w:World} (h:TenTab w):4 < w.heap.size:=zen (Lib.TabIs.cell h tenG 0 (by decide))
theorem TenTab.below' {B:Nat} {w w':World} (h:TenTab w) (hb:Below B w w') (hB:4 < B):TenTab w':=var?_below hb tenG hB h
theorem TenTab.below {w w':World} (h:TenTab w) (hb:Below w.heap.size w w'):TenTab w':=h.below' hb h.lt
end
section
open Go.RowKit Go.Lib
def ErrTab (w : World) : Prop := (∃ tp p, w.var? Tryz.prog "strconv.ErrSyntax" = some #[.iface tp p]) ∧ ∃ tp p, w.var? Tryz.prog "strconv.ErrRange" = some #[.iface tp p]
theorem synG : Tryz.prog.globalNamed "strconv.ErrSyntax" = some 2 := by kernel_rfl
theorem rngG : Tryz.prog.globalNamed "strconv.ErrRange" = some 3 := by kernel_rfl
theorem zfe (s:L8) (w:World) (hs:s.length <= 281474976710656) (hT:TenTab w) (hE:ErrTab w) :
  Calls Tryz.prog 102 #[.string ⟨s.toArray⟩] w fun e w' => e = .returned (.tuple #[.int .i64 (rdN s),.bool (rdB s)]) /\ Below w.heap.size w w':=by
 obtain ⟨⟨t1,p1,e1⟩,t2,p2,e2⟩:=hE;have hsz:(⟨s.toArray⟩:ByteArray).size = s.length:=by simp [ByteArray.size]
 cases ha:atoiAll s
 case ok v =>
  have hv:=atoiAll_bounds ha;have hA:=Lib.hid (fun w => Tryz.strconv_Atoi_ok ⟨s.toArray⟩ (by rw [hsz]; omega) v (by simpa using ha) w);have hI:=Lib.hid (fun w hT => Tryz.strconv_Itoa v hv.1 hv.2 w hT);by_cases hi:itoa v = s
  ·have hr:=Lib.hid (rd_yes hv hi)
   have hi':=Lib.hid hi;clear hi
   go_enter Tryz.func102,Tryz.ntmps102
   go_wp2_with (first | (go_at_call 106; refine (hA.out _).mono ?_; rintro e w1 ⟨rfl,hw⟩; have hb1:Below w.heap.size w w1:=(by rcases hw with rfl | ⟨t,rfl⟩; exact Below.refl _ _; exact Lib.bytesWorld_below _ _ _); clear hw; have hT1:=hT.below hb1) | (go_at_call 107; refine (hI.out _ hT1).mono ?_; rw [hi'.out]; rintro e w2 ⟨rfl,k,os,rfl⟩))
   go_ret2
   exact ⟨by rw [hr.out.1,hr.out.2]; rfl,hb1.trans ((Lib.below_grow _ _ lR _ _).mono hb1.size)⟩
  ·have hr:=Lib.hid (show rdN s = 0 /\ rdB s = false by simp [rdN,rdB,rdD,ha,hi])
   have hbe:(itoa v == s) = false:=by simpa using hi
   go_enter Tryz.func102,Tryz.ntmps102
   go_wp2_with (first | (go_at_call 106; refine (hA.out _).mono ?_; rintro e w1 ⟨rfl,hw⟩; have hb1:Below w.heap.size w w1:=(by rcases hw with rfl | ⟨t,rfl⟩; exact Below.refl _ _; exact Lib.bytesWorld_below _ _ _); clear hw; have hT1:=hT.below hb1) | (go_at_call 107; refine (hI.out _ hT1).mono ?_; rintro e w2 ⟨rfl,k,os,rfl⟩))
   all_goals first
    | (exfalso; rename_i hq; rw [hbe] at hq; cases hq)
    | (go_ret2; exact ⟨by rw [hr.out.1,hr.out.2]; rfl,hb1.trans ((Lib.below_grow _ _ lR _ _).mono hb1.size)⟩)
 case range =>
  have hr:=Lib.hid (show rdN s = 0 /\ rdB s = false by simp [rdN,rdB,rdD,ha]);have hc:w.cell? ⟨3,0,none⟩ = some (.iface t2 p2):=by have:=World.var?_cell rngG e2 0; simpa using this
  have hA:=Lib.hid (Tryz.strconv_Atoi_range ⟨s.toArray⟩ (by rw [hsz]; omega) (by simpa using ha) (.iface t2 p2) w hc (.inr ⟨_,_,rfl⟩));generalize atoiSat s = sat at hA
  go_enter Tryz.func102,Tryz.ntmps102
  go_wp2_with (go_at_call 106; refine hA.out.mono ?_; rintro e w1 ⟨N,rfl,_,_,hb1⟩)
  go_ret2
  exact ⟨by rw [hr.out.1,hr.out.2]; rfl,hb1⟩
 have hr:=Lib.hid (show rdN s = 0 /\ rdB s = false by simp [rdN,rdB,rdD,ha]);have hc:w.cell? ⟨2,0,none⟩ = some (.iface t1 p1):=by have:=World.var?_cell synG e1 0; simpa using this
 have hA:=Lib.hid (Tryz.strconv_Atoi_syntax ⟨s.toArray⟩ (by rw [hsz]; omega) (by simpa using ha) (.iface t1 p1) w hc (.inr ⟨_,_,rfl⟩))
 go_enter Tryz.func102,Tryz.ntmps102
 go_wp2_with (go_at_call 106; refine hA.out.mono ?_; rintro e w1 ⟨N,rfl,_,_,hb1⟩)
 go_ret2
 exact ⟨by rw [hr.out.1,hr.out.2]; rfl,hb1⟩
theorem ErrTab.low {n:Nat} {w w':World} (h1:2 < n) (h2:3 < n) (hk:∀ k,k < n -> w'.heap[k]? = w.heap[k]?) (h:ErrTab w):ErrTab w':=by
 have key:∀ (nm:String) (g:Nat) (v:Array Value),Tryz.prog.globalNamed nm = some g -> g < n -> w.var? Tryz.prog nm = some v -> w'.var? Tryz.prog nm = some v:=by
  intro nm g v hg hlt hv;unfold World.var? at hv ⊢;simp only [hg,Option.bind_some] at hv ⊢;rw [hk g hlt];exact hv
 obtain ⟨⟨t1,p1,e1⟩,t2,p2,e2⟩:=h;exact ⟨⟨t1,p1,key _ _ _ synG h1 e1⟩,t2,p2,key _ _ _ rngG h2 e2⟩
end
section
theorem FnV.oldT {E:Env} {f:Nat} {args:List PV} {a b:Value} (ha:a.oneCell' = true) (hb1:b.oneCell' = true) (h:∀ (w:World) (C:Cx) (vs:List Value),(∀ b o,C.F b o -> b < w.heap.size) -> E.NG <= w.heap.size -> E.T w -> vs.length = args.length -> (∀ (j:Nat) (x:PV) (y:Value),args[j]? = some x -> vs[j]? = some y -> RpV C w x y) ->
  Calls E.P f vs.toArray w fun e w' => e = .returned (.tuple #[a,b]) /\ Below w.heap.size w w'):FnV E f args (.tup [.d (.v a),.d (.v b)]):=by
 intro C w vs hI hnt hold hl hv;refine (h w C vs hI.fin hI.ng hI.t hl hv).mono ?_;rintro e w' ⟨rfl,hb⟩;have hF:Fix C w w':=.of (fun b o hF => World.cell?_of_block (a:=⟨b,o,none⟩) (hb.block b (hI.fin b o hF))) hb.block
 refine ⟨_,.tup [.d (.v a),.d (.v b)],[],fun _ => False,C,rfl,rfl,⟨hI.nb,fun p cs hp => by simp at hp,fun p hp => by simp at hp,fun p hp => by simp at hp,fun p q hp => by simp at hp,fun t ht => ht.elim,fun t s b ht => ht.elim,fun b o h => Nat.lt_of_lt_of_le (hI.fin b o h) hb.size,Nat.le_trans hI.ng hb.size,E.low w w' hI.t hb.size (fun k hk => hb.block k (Nat.lt_of_lt_of_le hk hI.ng))⟩,
  ⟨hb.os,hb.tape,hb.output,hb.size,fun _ _ h => h,hF,fun k hk _ _ => hb.block k hk,⟨lR,fun _ _ => rfl⟩,fun _ _ h => .inl h,fun t b ht => ht.elim,(fun p hp hp2 => by simp at hp2),⟨lR,fun _ _ => ⟨rfl,rfl,rfl,rfl⟩⟩⟩,.tup _ [a,b] rfl ?_⟩
 intro j x y hx hy
 match j with
 | 0 => simp at hx hy; subst hx; subst hy; exact .d _ _ (.v a ha)
 | 1 => simp at hx hy; subst hx; subst hy; exact .d _ _ (.v b hb1)
 | j + 2 => simp at hx
end
section
variable {T:World -> Prop} {hT:Low ngl T}
theorem zf7 (hTen:∀ w,T w -> TenTab w) (hErr:∀ w,T w -> ErrTab w) (s:L8) (hs:s.length <= 2147483647):FnV (env T hT) 102 [.d (pS s)] (.tup [.d (pI (rdN s)),.d (pB (rdB s))]):=by
 refine FnV.oldT rfl rfl fun w C vs hF _ ht hlen hv => ?_
 match vs,hlen with
 | [x],_ =>
  have h1:x = .string ⟨s.toArray⟩:=by
   have h:=hv 0 _ _ rfl rfl
   cases h with
   | d _ _ h => cases h; rfl
  subst h1;exact zfe s w (by omega) (hTen w ht) (hErr w ht)
theorem zez {C:Cx} {W:World} {n:Int} {y:Value} (h:RpV C W (.d (pI n)) y):y = .int .i64 n:=by
 cases h with
 | d _ _ h => cases h; rfl
theorem within_fn (n a b:Int):FnV (env T hT) 89 [.d (pI n),.d (pI a),.d (pI b)] (.d (pB (decide (a <= n /\ n <= b)))):=by
 refine FnV.old rfl fun w C vs hF _ _ hlen hv => ?_
 match vs,hlen with
 | [x,y,z],_ =>
  have h1:=zez (hv 0 _ _ rfl rfl); have h2:=zez (hv 1 _ _ rfl rfl); have h3:=zez (hv 2 _ _ rfl rfl)
  subst h1; subst h2; subst h3
  refine (zbY n a b w).mono ?_;rintro e w' ⟨rfl,rfl⟩;refine ⟨?_,Below.refl _ _⟩;by_cases h:a <= n /\ n <= b
  ·rw [zaF h,decide_eq_true h]
  ·rw [za2 h,decide_eq_false h]
end
section
variable {T:World -> Prop} {hT:Low ngl T}
attribute [local irreducible] po mw pt
theorem zcK (hTen:∀ w,T w -> TenTab w) (hErr:∀ w,T w -> ErrTab w) (s:L8) (hs:s.length <= 2147483647):FnV (env T hT) 93 [.d (pS s)] (.d (pI (ixI s))):=by
 refine zaU (zaf zfc) (by show 1 <= 18; decide) fun B hB => ?_
 unfold m_i_indexOf;refine mP ?_;refine mQ ?_;refine zac (args:=[.d (pS s)]) rfl (zf7 (T:=T) (hT:=hT) hTen hErr s hs) ?_;refine mN ?_;refine mM ?_;refine mS ?_
 cases hb:rdB s with
 | false =>
  (iterate 2 refine mS ?_);refine mZ ?_;refine mT ?_;refine mP ?_;refine zab ⟨.inr rfl,[.d (pI (-1))],rfl,?_⟩
  unfold ixI; rw [hb,if_neg (fun h => by cases h.1)]; rfl
 | true =>
  (iterate 3 refine mS ?_);refine zaM (b:=true) (args:=[.d (pI (rdN s)),.d (pI 0),.d (pI 999999)]) rfl (fun _ => rfl) (fun _ => within_fn (T:=T) (hT:=hT) (rdN s) 0 999999) ?_;by_cases hw:0 <= rdN s /\ rdN s <= 999999
  ·rw [decide_eq_true hw]
   refine mK ?_;refine mP ?_;refine zab ⟨.inr rfl,[.d (pI (rdN s))],rfl,?_⟩;unfold ixI; rw [hb,if_pos ⟨rfl,hw⟩]; rfl
  ·rw [decide_eq_false hw]
   refine mT ?_;refine mP ?_;refine zab ⟨.inr rfl,[.d (pI (-1))],rfl,?_⟩;unfold ixI; rw [hb,if_neg (fun h => hw h.2)]; rfl
theorem zdb (hTen:∀ w,T w -> TenTab w) (hErr:∀ w,T w -> ErrTab w) (v:V) (s:L8) (hl:v.kids.length <= 4294967295) (hs:s.length <= 2147483647):FnV (env T hT) 79 [.ag (vC v),.d (pS s)] (.d (pI (kidI v s))):=by
 have hfl:=findV_le v s;refine zaU (zaf lk_i_kidAt) (by show 2 <= 38; decide) fun B hB => ?_
 unfold m_i_kidAt;refine mO ?_;refine zal (cs:=vC v) rfl ?_;refine mN ?_;refine zaS (fun _ => kidI v s = -1) ?_ ?_
 ·refine mO ?_
  (iterate 2 refine mS ?_);refine zaj ?_;refine zak ?_;refine mO ?_;by_cases h7:v.kind = 7
  ·refine zah rfl rfl (beq_iff_eq.2 h7) ?_
   refine mT ?_;refine mQ ?_;refine zac (args:=[.d (pS s)]) rfl (zcK (T:=T) (hT:=hT) hTen hErr s hs) ?_;refine mN ?_;refine mO ?_;(iterate 3 refine mS ?_);refine zay (n:=v.kids.length) rfl rfl (zam _) ?_;by_cases hi:ixI s < v.kids.length
   ·refine zah rfl rfl (decide_eq_true hi) ?_
    refine mT ?_;refine mP ?_;refine zab ⟨.inr rfl,[.d (pI (ixI s))],rfl,?_⟩;unfold kidI; rw [if_pos h7,if_pos hi]; rfl
   ·refine zan rfl rfl (decide_eq_false hi) ?_
    refine mK ?_;show kidI v s = -1;unfold kidI; rw [if_pos h7,if_neg hi]
  refine zan rfl rfl (beq_eq_false_iff_ne.2 h7) ?_;refine mF ?_;refine mO ?_;by_cases h8:v.kind = 8
  ·refine zah rfl rfl (beq_iff_eq.2 h8) ?_
   refine mT ?_;refine mO ?_;refine zaa (p:=0) (cs:=vC v) rfl rfl rfl rfl ?_;refine mS ?_;refine zac (args:=[.ag (vC v),.d (pS s)]) (congrArg (fun l => some [PV.ag l,PV.d (pS s)]) (zai v)) (find_fn (T:=T) (hT:=hT) v s hl) ?_;refine mN ?_;refine mQ ?_;by_cases hi:0 <= findV v s
   ·refine zah rfl rfl (decide_eq_true hi) ?_
    refine mT ?_;refine mQ ?_;refine zaZ (n:=findV v s + 1) rfl rfl rfl (by omega) (by omega) ?_;refine mN ?_;refine zab ⟨.inr rfl,[.d (pI (findV v s + 1))],rfl,?_⟩;unfold kidI; rw [if_neg h7,if_pos h8,if_pos hi]; rfl
   ·refine zan rfl rfl (decide_eq_false hi) ?_
    refine mK ?_;show kidI v s = -1;unfold kidI; rw [if_neg h7,if_pos h8,if_neg hi]
  refine zan rfl rfl (beq_eq_false_iff_ne.2 h8) ?_;refine mF ?_;refine mO ?_;by_cases h9:v.kind = 9
  ·refine zah rfl rfl (beq_iff_eq.2 h9) ?_
   refine mT ?_;refine mQ ?_;refine zd7 (la:=s) (lb:=[116,97,103]) rfl rfl rfl ?_;by_cases ht:s = [116,97,103]
   ·rw [decide_eq_true ht]
    (iterate 3 refine mS ?_);refine zay (n:=v.kids.length) rfl rfl (zam _) ?_;by_cases hk:0 < v.kids.length
    ·refine zah rfl rfl (decide_eq_true (by omega)) ?_
     refine mT ?_;refine mP ?_;refine zab ⟨.inr rfl,[.d (pI 0)],rfl,?_⟩;unfold kidI; rw [if_neg h7,if_neg h8,if_pos h9,if_pos ⟨ht,hk⟩]; rfl
    ·refine zan rfl rfl (decide_eq_false (by omega)) ?_
     refine mK ?_;show kidI v s = -1;unfold kidI; rw [if_neg h7,if_neg h8,if_pos h9,if_neg (fun h => hk h.2)]
   ·rw [decide_eq_false ht]
    refine mS ?_;refine mZ ?_;refine mK ?_;show kidI v s = -1;unfold kidI; rw [if_neg h7,if_neg h8,if_pos h9,if_neg (fun h => ht h.1)]
  refine zan rfl rfl (beq_eq_false_iff_ne.2 h9) ?_;refine mK ?_;show kidI v s = -1;unfold kidI; rw [if_neg h7,if_neg h8,if_neg h9]
 rintro tm bx nt live h;refine mP ?_;exact zab ⟨.inr rfl,[.d (pI (-1))],rfl,by rw [h]; rfl⟩
end
section
variable {T:World -> Prop} {hT:Low ngl T}
theorem zaX (v:V) (_hw:v.wf) (hb:v.bulk <= 4294967295):FnO (env T hT) 38 [.ag (vC v)] (.ag (vC v)):=by
 have h:FnO (env T hT) 38 [.ag (vC v)] (.ag v.d.pc):=by
  refine FnO.old (V.wfd v) fun w C vs hF _ _ hlen hv => ?_
  match vs,hlen with
  | [y],_ =>
   have h0:=hv 0 _ _ rfl rfl;rw [<- v.pc_eq] at h0;obtain ⟨cs,rfl,hr⟩:=vRd hF (V.wfd v) h0;exact own_any v cs w hr hb
 rw [v.pc_eq] at h;exact h
theorem own2_fn (v:V) (hw:v.wf) (hb:v.bulk <= 4294967295):FnV (env T hT) 38 [.ag (vC v)] (.ag (vC v)):=(zaX v hw hb).v
end
section
variable {T:World -> Prop} {hT:Low ngl T}
attribute [local irreducible] po mw pt
def CyR (nt:Nat) (live:List Nat) (v:V) (x:PV) (n:Nat) (l:List Nat):Prop:=∃ cs,x = .ag cs /\ NR nt live n l cs /\ erL cs = vC v /\ RowT cs
def CyP (T:World -> Prop) (hT:Low ngl T) (N:Nat):Prop:=∀ (v:V) (cs:List PC) (nt:Nat) (live:List Nat),v.nodes <= N -> v.nodes <= 4294967295 -> erL cs = vC v -> 2 <= nt -> FnG (env T hT) 28 [.ag cs] [] nt live (fun x _ n l => x.lw 0 /\ CyR nt live v x n l)
def CaR (nt:Nat) (live:List Nat) (ks:List V) (x:PV) (n:Nat) (l:List Nat):Prop:=∃ (q:Nat) (out:LP PC),x = .d (.sl q out) /\ 2 <= q /\ NR nt live n l [.sl q out] /\ erLL out = vK ks
def CaI (nt:Nat) (live:List Nat) (t:Nat) (rows:LP PC) (ks:List V) (m:Nat) (st:St):Prop :=
 ∃ (i q:Nat) (out:LP PC),i <= ks.length /\ m = ks.length - i /\ has st.tm [(0,.d (.sl t rows)),(3,.d (.sl q out)),(4,.d (pI i))] /\ NR nt live st.nt st.live [.sl q out] /\ 2 <= q /\ erLL out = vK (ks.take i)
theorem zf8 {N:Nat} (ih:CyP T hT N) (ks:List V) (hk:∀ x ∈ ks,x.nodes <= N) (hb:V.nodess ks <= 4294967295) {rows:LP PC} (t:Nat) (he:erLL rows = vK ks) (nt:Nat) (live:List Nat) (hn:2 <= nt) :
  FnG (env T hT) 52 [.d (.sl t rows)] [] nt live (fun x _ n l => x.lw 0 /\ CaR nt live ks x n l):=by
 have hkn:=V.kids_nodes ks;have hrl:=zet he;refine zbN (zaf zbV) (by show 1 <= 21; decide) fun B hB => ?_
 unfold m_s_l02CopyAll;refine mP ?_;refine mO ?_;refine zbO (es:=[]) rfl ?_;refine mN ?_;refine zaS (fun st => ∃ (q:Nat) (out:LP PC),has st.tm [(3,.d (.sl q out))] /\ NR nt live st.nt st.live [.sl q out] /\ 2 <= q /\ erLL out = vK ks) ?_ ?_
 ·refine mP ?_
  refine zak ?_;refine zaY (CaI nt live t rows ks) ks.length ⟨0,nt,[],Nat.zero_le _,rfl,⟨rfl,rfl,rfl,trivial⟩,NR.lit (es:=[]) hn (NR.refl nt live),hn,rfl⟩ ?_;rintro m tm bx n1 l1 ⟨i,q,out,hi,rfl,ht,hN,hq,ho⟩;obtain ⟨tm1,rfl⟩:=zaq ht;simp only at hN;clear ht;have hol:=zet ho;rw [length_take] at hol;refine mM ?_;(iterate 2 refine mS ?_);refine zay (n:=ks.length) rfl rfl hrl ?_;refine po_b rfl rfl (fun b hb => ?_);refine zaj ?_;refine zdy (p:=(i:Int) < ks.length) hb rfl (fun him _ => ?_) (fun him _ => ?_)
  rotate_left
  ·refine za4 ?_
   have:i = ks.length:=by omega
   subst this;rw [take_length] at ho;exact ⟨q,out,⟨rfl,trivial⟩,hN,hq,ho⟩
  have hia:i < ks.length:=by omega
  obtain ⟨e,hge,hee⟩:=erk_get he hia;have hlwe:=vlw hee;have hcall:=fun nt live h2 => ih ks[i] e nt live (hk _ (getElem_mem hia)) (by have:=V.nodes_get ks i hia; omega) hee h2
  obtain ⟨te,re,hse,hre⟩:=vform hee;rw [hse] at hge hlwe hcall;have hn1:=hN.n2 hn;refine za0 ?_;refine zau (zak (zap ?_));(iterate 3 refine mS ?_);refine za5 (es:=rows) (e:=vcs ks[i].kind ks[i].num ks[i].exp ks[i].text te re) rfl rfl rfl ⟨by omega,by rw [Int.toNat_natCast]; exact hge⟩ rfl ?_;refine mS ?_;refine po_g rfl (FnG.lift0 (hcall n1 l1 hn1) ⟨hlwe,trivial⟩) ?_;rintro x b' n2 l2 ⟨rfl,cs',rfl,hN2,he2,hR2⟩;have hqm:=hN.mem q (sl_tok hq);have hle2:=hN2.le;refine zbO (es:=[cs']) (litP1 (a:=cs') rfl (er_len he2)) ?_;refine zb4 (t:=q) (t':=n2) (es:=out) (ds:=[cs']) rfl rfl (.inr (mem_cons_of_mem _ (hN2.keep q hqm.2.2 hq hqm.2.1))) (by simp only [length_cons,length_nil]; omega) (fun e he => by simp only [mem_singleton] at he; subst he; exact er_len he2) (erk_wid ho) ?_;refine mN ?_;refine zap ?_;refine mS ?_;refine zaZ (n:=((i + 1:Nat):Int)) rfl rfl rfl (by omega) (by omega) ?_
  refine mN ?_;have hNa:=NR.app (a:=[]) (b:=[]) (rows:=out) (ds:=[cs']) hn (.inr hq) (by simpa using hN.trans hN2.up);exact ⟨_,by show ks.length - (i + 1) < ks.length - i; omega,i + 1,n2 + 1,out ++ [cs'],by omega,rfl,⟨rfl,rfl,rfl,trivial⟩,hNa,by omega,by rw [take_succ_eq_append_getElem hia]; exact erk_app ho (erk_one he2)⟩
 rintro tm bx n1 l1 ⟨q,out,ht,hN,hq,ho⟩;obtain ⟨tm1,rfl⟩:=zaq ht;simp only at hN;refine mP ?_;exact zab ⟨.inr rfl,[.d (.sl q out)],rfl,(hN.lw (k:=0)).1,q,out,rfl,hq,hN,ho⟩
theorem cpy_step {N:Nat} (ih:CyP T hT N):CyP T hT (N + 1):=by
 intro v cs nt live hv hb he hn;have hnk:=V.nodes_eq0 v;obtain ⟨t,rows,rfl,hr⟩:=vform he
 have hall:=zf8 ih v.kids (fun x hx => by
  obtain ⟨i,hi,rfl⟩:=List.getElem_of_mem hx;exact V.nodes_kid hv i hi) (by omega) t hr nt live hn
 have hlw:=vlw he
 have hlr:lwVs 0 [PV.d (.sl t rows)]:=by
  have h2:=hlw;simp only [vcs,lwL,PC.lw,pI,pS,and_true,true_and] at h2;exact ⟨h2,trivial⟩
 refine zbN (zaf zcU) (by show 1 <= 10; decide) fun B hB => ?_
 unfold m_s_l02Copy;refine mO ?_;refine zal (cs:=vcs v.kind v.num v.exp v.text t rows) rfl ?_;refine mN ?_;refine mO ?_;refine zaa (p:=0) (cs:=vcs v.kind v.num v.exp v.text t rows) rfl rfl rfl rfl ?_;refine zdX (cs:=vcs v.kind v.num v.exp v.text t rows) rfl rfl rfl rfl ?_;refine mN ?_;refine mO ?_;(iterate 2 refine mS ?_);refine po_g rfl (FnG.lift0 hall hlr) ?_;rintro x b' n2 l2 ⟨rfl,q,out,rfl,hq,hN,ho⟩;refine mS ?_;refine zaC (p:=2) (o':=4) (cs:=[.sl q out]) (z:=vcs v.kind v.num v.exp v.text t rows) rfl rfl rfl ⟨rfl,by show 4 + 1 <= 5; decide⟩ rfl ?_;refine zaj ?_;refine mO ?_;refine zaa (p:=2) (cs:=vcs v.kind v.num v.exp v.text q out) rfl rfl rfl rfl ?_;refine zad (p:=1) (cs:=vcs v.kind v.num v.exp v.text q out) rfl rfl rfl rfl rfl rfl ?_;refine mN ?_;have hNv:NR nt live n2 l2 (vcs v.kind v.num v.exp v.text q out):=hN.plain (by simpa [ownedL,vcs,PC.owned,pI,pS] using hN.own) rfl
 refine zab ⟨.inr rfl,[.ag (vcs v.kind v.num v.exp v.text q out)],rfl,hNv.lw,_,rfl,hNv,?_,⟨_,_,_,_,q,out,rfl,.inr hq⟩⟩;obtain ⟨k,n,e,s,ks⟩:=v;show [pI k,pI n,pI e,pS s,.sl 0 (erLL out)] = _;rw [ho]; rfl
theorem cpy_all:∀ N,CyP T hT N:=by
 intro N
 induction N with
 | zero => intro v cs nt live hv; have:=v.nodes_pos; omega
 | succ N ih => exact cpy_step ih
theorem cpy_g (v:V) {cs:List PC} (hb:v.nodes <= 4294967295) (he:erL cs = vC v) {bx:LP PC} {nt:Nat} (live:List Nat) (hn:2 <= nt):FnG (env T hT) 28 [.ag cs] bx nt live (fun x b n l => b = bx /\ CyR nt live v x n l) :=
 FnG.lift0 (cpy_all v.nodes v cs nt live lR hb he hn) ⟨vlw he,trivial⟩
end
section
variable {T:World -> Prop} {hT:Low ngl T}
theorem decT_fn (n:Int) (hn:i64ok n):FnV (env T hT) 97 [.d (pI n)] (.d (pS (Lib.itoa n))):=by
 refine FnV.old rfl fun w C vs hF _ _ hlen hv => ?_
 match vs,hlen with
 | [x],_ =>
  have h1:=zez (hv 0 _ _ rfl rfl);subst h1;exact zfd n w hn
end
section
def m_s_l01In:M:=so [qo 6 (.mv (cB false))] (so [qm 7 0,qm 8 1,qo 9 (.bin .geq false 7 8),qm 10 9,qg 11 0 10 true,qg 12 2 10 true,⟨some 13,.bin .leq false 11 12,some (10,true),[]⟩,qo 14 (.pick 10 13 (cB false)),qm 6 14] .ret)
theorem lk_s_l01In:look Tryz.prog 83 = some (15,m_s_l01In,[.tm 6]):=by kernel_rfl
end
section
variable {T:World -> Prop} {hT:Low ngl T}
theorem in_fn (x a b:Int):FnV (env T hT) 83 [.d (pI x),.d (pI a),.d (pI b)] (.d (pB (decide (a <= x /\ x <= b)))):=by
 refine zaU (zaf lk_s_l01In) (by show 3 <= 15; decide) fun B hB => ?_
 unfold m_s_l01In;refine mO ?_;refine po_q rfl rfl ?_;refine zaj ?_;refine mO ?_
 iterate 2 (refine po_q rfl rfl ?_)
 refine po_b rfl rfl (fun b1 hb1 => ?_);refine po_q rfl rfl ?_
 cases b1
 ·refine mZ ?_
  iterate 2 (refine po_q rfl rfl ?_)
  refine zaj ?_;refine zab ⟨.inr rfl,_,rfl,?_⟩;have h1:¬ x ≥ a:=of_decide_eq_false hb1.symm;rw [decide_eq_false (by omega)]; rfl
 ·iterate 2 (refine po_q rfl rfl ?_)
  refine po_b rfl rfl (fun b2 hb2 => ?_)
  iterate 2 (refine po_q rfl rfl ?_)
  refine zaj ?_;refine zab ⟨.inr rfl,_,rfl,?_⟩;have h1:x ≥ a:=of_decide_eq_true hb1.symm;have e:decide (a <= x /\ x <= b) = b2:=by rw [hb2]; exact decide_eq_decide.2 ⟨fun h => h.2,fun h => ⟨h1,h⟩⟩
  rw [e]; rfl
end
section
def m_s_ReadDec:M:=so [qo 2 (.mv (ci 0)),qo 3 (.mv (cB false))] (so [qm 7 0,qm 4 7] (.seq (so [qm 8 4,qo 9 (.lens 8),qo 10 (.bin .gtr false 9 (ci 0)),qm 11 10,qg 12 4 11 true,⟨some 13,.ixs 12 (ci 0),some (11,true),[]⟩,⟨some 14,.bin .eql false 13 (.c (.int .u8 45)),some (11,true),[]⟩,qo 15 (.pick 11 14 (cB false))] (.cond 15 (.ops [qm 16 4,qo 17 (.slcs 16 (some (ci 1)) none),qm 4 17]) .skip)) (so [qo 5 (.mv (ci 0))] (.seq (so [qo 6 (.mv (ci 0))] (.block 0 (.loop (.seq (so [qm 18 6,qm 19 4,qo 20 (.lens 19),qo 21 (.bin .lss false 18 20)] (.cond 21 .skip (.exit 0))) (.seq (.block 1 (.seq (so [qm 24 4,qm 25 6,qo 26 (.ixs 24 25),qo 27 (.conv .i64 26),qc 28 83 [27,ci 48,ci 57] 1,qo 29 (.not 28),qm 30 29,qg 31 4 30 false,⟨some 32,.lens 31,some (30,false),[]⟩,⟨some 33,.bin .gtr false 32 (ci 19),some (30,false),[]⟩,qo 34 (.pick 30 (cB true) 33)] (.cond 34 (so [qo 2 (.mv (ci 0)),qo 3 (.mv (cB false))] .ret) .skip)) (.ops [qm 35 5,qo 36 (.bin .mul false (ci 10) 35),qm 37 4,qm 38 6,qo 39 (.ixs 37 38),qo 40 (.conv .i64 39),qo 41 (.bin .add false 36 40),qo 42 (.bin .sub false 41 (ci 48)),qm 5 42]))) (.ops [qm 22 6,qo 23 (.bin .add false 22 (ci 1)),qm 6 23])))))) (.seq (so [qm 43 4,qm 44 0,qo 45 (.bin .neq false 43 44)] (.cond 45 (.ops [qm 46 5,qo 47 (.neg 46),qm 5 47]) .skip)) (.seq (so [qm 48 4,⟨some 49,.bin .eql false 48 (.c (.string ⟨[].toArray⟩)),none,[]⟩,qm 50 49,qg 51 5 50 false,⟨some 52,.call 97 [51],some (50,false),[.f 1]⟩,qg 53 0 50 false,⟨some 54,.bin .neq false 52 53,some (50,false),[]⟩,qo 55 (.pick 50 (cB true) 54)] (.cond 55 (so [qo 2 (.mv (ci 0)),qo 3 (.mv (cB false))] .ret) .skip)) (so [qm 56 5,qm 2 56,qo 3 (.mv (cB true))] .ret)))))))
theorem zff:look Tryz.prog 84 = some (57,m_s_ReadDec,[.tm 2,.tm 3]):=by kernel_rfl
end
section
variable {T:World -> Prop} {hT:Low ngl T}
attribute [local irreducible] po mw pt
theorem po_nes {E:Env} {K:St -> Prop} {tm:Nat -> PV} {bx:LP PC} {nt d:Nat} {live:List Nat} {r:List MOpr} {g:Option (Nat × Bool)} {c:List X} {x y:X} {la lb:L8} {f:Bool} (hg:gd g tm = some true) (hx:ev tm x = .d (pS la)) (hy:ev tm y = .d (pS lb)) (h:po E r K ⟨up d (.d (pB (!decide (la = lb)))) tm,bx,nt,live⟩):po E (⟨some d,.bin .neq f x y,g,c⟩ :: r) K ⟨tm,bx,nt,live⟩:=by
 refine po_q hg ?_ h;simp only [qf,hx,hy,pS];show some (PV.d (.v (.bool (!((ByteArray.mk la.toArray).toList == (ByteArray.mk lb.toArray).toList))))) = _;rw [ByteArray.toList_eq,ByteArray.toList_eq];show some (PV.d (.v (.bool (!(la == lb))))) = some (PV.d (.v (.bool (!decide (la = lb)))));have e:(la == lb) = decide (la = lb):=by by_cases h:la = lb <;> simp [h]
 rw [e]
def RdI (s:L8) (m:Nat) (st:St):Prop:=∃ i:Nat,i <= (unsgn s).length /\ m = (unsgn s).length - i /\ has st.tm [(0,.d (pS s)),(4,.d (pS (unsgn s))),(5,.d (pI (IntKind.wrap .i64 (dvL ((unsgn s).take i):Nat)))),(6,.d (pI i))] /\ st.bx = []
theorem rd_wrap (a:Nat) (c:Int) (h:48 <= c /\ c <= 57):IntKind.wrap .i64 (IntKind.wrap .i64 (IntKind.wrap .i64 (10 * IntKind.wrap .i64 (a:Int)) + c) - 48) = IntKind.wrap .i64 ((a * 10 + (c.toNat - 48):Nat):Int):=by
 simp only [IntKind.wrap_i64]; omega
theorem wrap_ok (a:Int):i64ok (IntKind.wrap .i64 a):=by unfold i64ok; rw [IntKind.wrap_i64]; omega
theorem readDec_fn (s:L8) (hs:s.length <= 2147483647):FnV (env T hT) 84 [.d (pS s)] (.tup [.d (pI (rdN s)),.d (pB (rdB s))]):=by
 refine zaU (zaf zff) (by show 1 <= 57; decide) fun B hB => ?_
 unfold m_s_ReadDec;have hul:(unsgn s).length <= s.length:=by unfold unsgn; split; rw [length_drop]; omega; exact lR
 refine mP ?_;refine mP ?_;refine zaS (fun st => has st.tm [(0,.d (pS s)),(4,.d (pS (unsgn s)))] /\ st.bx = []) ?_ ?_
 ·refine mQ ?_
  refine po_q (v:=.d (pI s.length)) rfl rfl ?_
  cases s with
  | nil =>
   refine zan rfl rfl rfl ?_;refine mS ?_;refine mZ ?_;refine mK ?_
   exact ⟨⟨rfl,rfl,trivial⟩,rfl⟩
  | cons c r =>
   refine zah rfl rfl (decide_eq_true (show (((c :: r).length:Nat):Int) > 0 by simp only [length_cons]; omega)) ?_;(iterate 2 refine mS ?_);refine po_ixs (k:=0) (b:=c) rfl rfl rfl rfl rfl ?_;by_cases hc:c = 45
   ·subst hc
    refine zah rfl rfl rfl ?_;refine mT ?_;refine zap ?_;refine mS ?_;refine po_slcs (a:=1) (b:=(((45:UInt8) :: r).length)) (rs:=unsgn (45 :: r)) rfl rfl rfl rfl (by simp only [length_cons]; omega) (by simp [unsgn]) ?_;refine mN ?_;exact ⟨⟨rfl,rfl,trivial⟩,rfl⟩
   ·have hc':c.toNat ≠ 45:=fun h => hc (UInt8.toNat_inj.1 h)
    refine zan rfl rfl (by show ((c.toNat:Int) == 45) = false; rw [beq_eq_false_iff_ne]; omega) ?_;refine mK ?_;refine ⟨⟨rfl,?_,trivial⟩,rfl⟩
    have:unsgn (c :: r) = c :: r:=by unfold unsgn; rw [if_neg (by simpa using hc)]
    rw [this]; rfl
 rintro tm bx nt live ⟨ht,hbx⟩;obtain ⟨tm0,rfl⟩:=zaq ht;simp only at hbx; subst hbx
 clear ht;obtain ⟨t,htu⟩:∃ t,t = unsgn s:=⟨_,rfl⟩;have no:(¬ (unsgn s ≠ [] /\ (unsgn s).length <= 19 /\ ∀ c ∈ unsgn s,48 <= c.toNat /\ c.toNat <= 57)) -> rdN s = 0 /\ rdB s = false:=fun h => rd_no fun n h1 h2 => h (unsgn_dec h1 h2)
 refine mP ?_;refine zaS (fun st => has st.tm [(0,.d (pS s)),(4,.d (pS (unsgn s))),(5,.d (pI (IntKind.wrap .i64 (dvL (unsgn s):Nat))))] /\ st.bx = []) ?_ ?_
 ·refine mP ?_
  refine zak ?_;refine zaY (RdI s) (unsgn s).length ⟨0,Nat.zero_le _,rfl,⟨rfl,rfl,rfl,rfl,trivial⟩,rfl⟩ ?_;rintro m tm bx nt live ⟨i,hi,rfl,ht,hbx⟩;obtain ⟨tm0,rfl⟩:=zaq ht;simp only at hbx; subst hbx
  clear ht;refine mM ?_;(iterate 2 refine mS ?_);refine po_q (v:=.d (pI (unsgn s).length)) rfl rfl ?_;refine po_b rfl rfl (fun b hb => ?_);refine zaj ?_;refine zdy (p:=(i:Int) < (unsgn s).length) hb rfl (fun h _ => ?_) (fun h _ => ?_)
  ·have hil:i < (unsgn s).length:=by omega
   refine za0 ?_;refine zau (zak (zau (zau (zap ?_))));(iterate 2 refine mS ?_);refine po_ixs (k:=i) (b:=(unsgn s)[i]) rfl rfl rfl rfl (getElem?_eq_getElem hil) ?_;have hct:=((unsgn s)[i]).toNat_lt;refine po_cv (n:=(((unsgn s)[i]).toNat:Int)) rfl rfl (by rw [IntKind.wrap_i64]; omega) ?_;refine zac rfl (in_fn (T:=T) (hT:=hT) (((unsgn s)[i]).toNat:Int) 48 57) ?_;by_cases hd:48 <= (((unsgn s)[i]).toNat:Int) /\ (((unsgn s)[i]).toNat:Int) <= 57
   case neg =>
    rw [decide_eq_false hd];obtain ⟨e1,e2⟩:=no fun ⟨_,_,h⟩ => hd (by have:=h _ (getElem_mem hil); omega)
    (iterate 2 refine mS ?_);refine mZ ?_;refine mT ?_;refine mP ?_;rw [e1,e2];exact mR
   rw [decide_eq_true hd];(iterate 3 refine mS ?_);refine po_q (v:=.d (pI (unsgn s).length)) rfl rfl ?_;by_cases h19:(unsgn s).length <= 19
   case neg =>
    obtain ⟨e1,e2⟩:=no fun ⟨_,h,_⟩ => h19 h
    refine zah rfl rfl (decide_eq_true (show (((unsgn s).length:Nat):Int) > 19 by omega)) ?_;refine mT ?_;refine mP ?_;rw [e1,e2];exact mR
   refine zan rfl rfl (decide_eq_false (show ¬ (((unsgn s).length:Nat):Int) > 19 by omega)) ?_;refine mK ?_;refine zap ?_;refine mS ?_;refine po_q (v:=.d (pI (IntKind.wrap .i64 (10 * IntKind.wrap .i64 (dvL ((unsgn s).take i):Nat))))) rfl rfl ?_;(iterate 2 refine mS ?_);refine po_ixs (k:=i) (b:=(unsgn s)[i]) rfl rfl rfl rfl (getElem?_eq_getElem hil) ?_;refine po_cv (n:=(((unsgn s)[i]).toNat:Int)) rfl rfl (by rw [IntKind.wrap_i64]; omega) ?_;refine po_q (v:=.d (pI (IntKind.wrap .i64 (IntKind.wrap .i64 (10 * IntKind.wrap .i64 (dvL ((unsgn s).take i):Nat)) + (((unsgn s)[i]).toNat:Int))))) rfl rfl ?_
   have hst:IntKind.wrap .i64 (IntKind.wrap .i64 (IntKind.wrap .i64 (10 * IntKind.wrap .i64 (dvL ((unsgn s).take i):Nat)) + (((unsgn s)[i]).toNat:Int)) - 48) = IntKind.wrap .i64 (dvL ((unsgn s).take (i + 1)):Nat):=by
    rw [rd_wrap _ _ (by omega),zeN _ _ hil,dvL_snoc,Int.toNat_natCast]
   refine po_q (v:=.d (pI (IntKind.wrap .i64 (dvL ((unsgn s).take (i + 1)):Nat)))) rfl (by rw [<- hst]; rfl) ?_;refine mN ?_;refine zap ?_;refine mS ?_;refine zaZ (n:=((i + 1:Nat):Int)) rfl rfl rfl (by omega) (by omega) ?_;refine mN ?_;refine ⟨_,?_,i + 1,by omega,rfl,⟨rfl,rfl,rfl,rfl,trivial⟩,rfl⟩;show (unsgn s).length - (i + 1) < (unsgn s).length - i;omega
  ·refine za4 ?_
   have hie:i = (unsgn s).length:=by omega
   subst hie;refine ⟨⟨rfl,rfl,?_,trivial⟩,rfl⟩;show PV.d (pI (IntKind.wrap .i64 (dvL ((unsgn s).take (unsgn s).length):Nat))) = _;rw [take_length]
 rintro tm bx nt live ⟨ht,hbx⟩;obtain ⟨tm0,rfl⟩:=zaq ht;simp only at hbx; subst hbx
 clear ht;obtain ⟨n,hn⟩:∃ n,n = (if unsgn s = s then IntKind.wrap .i64 (dvL (unsgn s):Nat) else IntKind.wrap .i64 (0 - IntKind.wrap .i64 (dvL (unsgn s):Nat))):=⟨_,rfl⟩;have hnok:i64ok n:=by rw [hn]; split <;> exact wrap_ok _
 refine zaS (fun st => has st.tm [(0,.d (pS s)),(4,.d (pS (unsgn s))),(5,.d (pI n))] /\ st.bx = []) ?_ ?_
 ·refine mO ?_
  (iterate 2 refine mS ?_);refine po_nes rfl rfl rfl ?_;by_cases hu:unsgn s = s
  ·rw [decide_eq_true hu]
   refine zaj ?_;refine mwF ?_;refine za0 ?_;refine ⟨⟨rfl,rfl,?_,trivial⟩,rfl⟩;rw [hn,if_pos hu]; rfl
  ·rw [decide_eq_false hu]
   refine zaj ?_;refine mwT ?_;refine zap ?_;refine mS ?_;refine po_q (v:=.d (pI n)) rfl (by rw [hn,if_neg hu]; rfl) ?_;refine mN ?_;exact ⟨⟨rfl,rfl,rfl,trivial⟩,rfl⟩
 rintro tm bx nt live ⟨ht,hbx⟩;obtain ⟨tm0,rfl⟩:=zaq ht;simp only at hbx; subst hbx
 clear ht;refine mM ?_;refine mS ?_;refine zd7 (lb:=[]) rfl rfl rfl ?_;by_cases h0:unsgn s = []
 ·rw [decide_eq_true h0]
  obtain ⟨e1,e2⟩:=no fun ⟨h,_⟩ => h h0
  refine mS ?_;refine mZ ?_;refine mT ?_;refine mP ?_;rw [e1,e2];exact mR
 rw [decide_eq_false h0];(iterate 2 refine mS ?_);refine zaM (b:=true) (args:=[.d (pI n)]) rfl (fun _ => rfl) (fun _ => decT_fn (T:=T) (hT:=hT) n hnok) ?_;refine mS ?_;refine po_nes rfl rfl rfl ?_;by_cases hi:Lib.itoa n = s
 ·obtain ⟨e1,e2⟩:=rd_yes hnok hi
  rw [decide_eq_true hi];refine mK ?_;refine mP ?_;rw [e1,e2];exact mR
 ·have hrd:rdN s = 0 /\ rdB s = false:=rd_no fun n' h1 h2 => hi (by
   have:=rd_loop h1 h2
   rw [<- hn] at this;rw [this]; exact h2)
  rw [decide_eq_false hi];refine mT ?_;refine mP ?_;rw [hrd.1,hrd.2];exact mR
theorem numS_fn (s:L8) (hs:s.length <= 2147483647):FnV (env T hT) 65 [.d (pS s)] (.d (pI (ixI s))):=by
 refine zaU (zaf zdY) (by show 1 <= 18; decide) fun B hB => ?_
 unfold m_s_l08Number;refine mP ?_;refine mQ ?_;refine zac (args:=[.d (pS s)]) rfl (readDec_fn (T:=T) (hT:=hT) s hs) ?_;refine mN ?_;refine mM ?_;refine mS ?_
 cases hb:rdB s with
 | false =>
  (iterate 2 refine mS ?_);refine mZ ?_;refine mT ?_;refine mP ?_;refine zab ⟨.inr rfl,[.d (pI (-1))],rfl,?_⟩
  unfold ixI; rw [hb,if_neg (fun h => by cases h.1)]; rfl
 | true =>
  (iterate 3 refine mS ?_);refine zaM (b:=true) (args:=[.d (pI (rdN s)),.d (pI 0),.d (pI 999999)]) rfl (fun _ => rfl) (fun _ => in_fn (T:=T) (hT:=hT) (rdN s) 0 999999) ?_;by_cases hw:0 <= rdN s /\ rdN s <= 999999
  ·rw [decide_eq_true hw]
   refine mK ?_;refine mP ?_;refine zab ⟨.inr rfl,[.d (pI (rdN s))],rfl,?_⟩;unfold ixI; rw [hb,if_pos ⟨rfl,hw⟩]; rfl
  ·rw [decide_eq_false hw]
   refine mT ?_;refine mP ?_;refine zab ⟨.inr rfl,[.d (pI (-1))],rfl,?_⟩;unfold ixI; rw [hb,if_neg (fun h => hw h.2)]; rfl
theorem vKs_arg (ks:List V) (s:L8):PV.dats [.d (.sl 0 (vK ks)),.d (pS s)] = some [.d (.sl 0 (vK ks)),.d (pS s)]:=by
 show some [PV.d (.sl 0 (erLL (vK ks))),.d (pS s)] = _;rw [zcX]
def KyI (ks:List V) (key:L8) (m:Nat) (st:St):Prop :=
 ∃ i:Nat,i <= ks.length + 1 /\ m = ks.length + 1 - i /\ has st.tm [(0,.d (.sl 0 (vK ks))),(1,.d (pS key)),(5,.d (pI i))] /\ findK key ks 0 = findK key (ks.drop i) i
theorem keyS_fn (ks:List V) (key:L8) (hl:ks.length <= 4294967295):FnV (env T hT) 66 [.d (.sl 0 (vK ks)),.d (pS key)] (.d (pI (findK key ks 0))):=by
 refine zaU (zaf zf6) (by show 2 <= 29; decide) fun B hB => ?_
 unfold m_s_l02Key;refine mP ?_;refine zaS (fun st => findK key ks 0 = -1) ?_ ?_
 ·refine mP ?_
  refine zak ?_;refine zaY (KyI ks key) (ks.length + 1) ⟨0,Nat.zero_le _,rfl,⟨rfl,rfl,rfl,trivial⟩,by rw [drop_zero]⟩ ?_;rintro m tm bx nt live ⟨i,hi,rfl,ht,hf⟩;obtain ⟨tm1,rfl⟩:=zaq ht;clear ht;refine mM ?_;refine mS ?_;refine zaZ (n:=((i + 1:Nat):Int)) rfl rfl rfl (by omega) (by omega) ?_;refine mS ?_;refine zay (n:=ks.length) rfl rfl (zam _) ?_;by_cases hil:i + 1 < ks.length
  ·refine zah rfl rfl (decide_eq_true (by omega)) ?_
   refine mT ?_;refine za0 ?_;have hat:=findK_at (key:=key) hil i;refine zau (zak (zau (zap ?_)));(iterate 2 refine mS ?_);refine za5 (es:=vK ks) (e:=vC ks[i]) rfl rfl rfl ⟨by omega,by rw [Int.toNat_natCast]; exact zbj (by omega)⟩ rfl ?_;(iterate 2 refine mS ?_);by_cases h5:ks[i].kind = 5
   ·refine zah rfl rfl (beq_iff_eq.2 h5) ?_
    (iterate 3 refine mS ?_);refine za5 (es:=vK ks) (e:=vC ks[i]) rfl rfl rfl ⟨by omega,by rw [Int.toNat_natCast]; exact zbj (by omega)⟩ rfl ?_;(iterate 3 refine mS ?_);refine zd7 (la:=ks[i].text) (lb:=key) rfl rfl rfl ?_;by_cases hk:ks[i].text = key
    ·rw [decide_eq_true hk]
     refine mT ?_;refine mP ?_;refine zab ⟨.inr rfl,[.d (pI i)],rfl,?_⟩;rw [hf,hat,if_pos ⟨h5,hk⟩]; rfl
    ·rw [decide_eq_false hk]
     refine mK ?_;refine zap ?_;refine mS ?_;refine zaZ (n:=((i + 2:Nat):Int)) rfl rfl rfl (by omega) (by omega) ?_;refine mN ?_;exact ⟨ks.length + 1 - (i + 2),by omega,i + 2,by omega,rfl,⟨rfl,rfl,rfl,trivial⟩,by rw [hf,hat,if_neg (fun h => hk h.2)]⟩
   ·refine zan rfl rfl (beq_eq_false_iff_ne.2 h5) ?_
    refine mS ?_;refine mZ ?_;refine mK ?_;refine zap ?_;refine mS ?_;refine zaZ (n:=((i + 2:Nat):Int)) rfl rfl rfl (by omega) (by omega) ?_;refine mN ?_;exact ⟨ks.length + 1 - (i + 2),by omega,i + 2,by omega,rfl,⟨rfl,rfl,rfl,trivial⟩,by rw [hf,hat,if_neg (fun h => h5 h.1)]⟩
  ·refine zan rfl rfl (decide_eq_false (by omega)) ?_
   refine mF ?_;refine za4 ?_;show findK key ks 0 = -1;rw [hf,ze3 (by rw [length_drop]; omega)]
 rintro tm bx nt live h;refine mP ?_;exact zab ⟨.inr rfl,[.d (pI (-1))],rfl,by rw [h]; rfl⟩
theorem zf9 (v:V) (s:L8) (hl:v.kids.length <= 4294967295) (hs:s.length <= 2147483647):FnV (env T hT) 51 [.ag (vC v),.d (pS s)] (.d (pI (kidI v s))):=by
 have hfl:=findV_le v s;refine zaU (zaf zf4) (by show 2 <= 39; decide) fun B hB => ?_
 unfold m_s_l08Kid;refine mO ?_;refine zal (cs:=vC v) rfl ?_;refine mN ?_;refine zaS (fun _ => kidI v s = -1) ?_ ?_
 ·refine mO ?_
  (iterate 2 refine mS ?_);refine zaj ?_;refine zak ?_;refine mO ?_;by_cases h7:v.kind = 7
  ·refine zah rfl rfl (beq_iff_eq.2 h7) ?_
   refine mT ?_;refine mQ ?_;refine zac (args:=[.d (pS s)]) rfl (numS_fn (T:=T) (hT:=hT) s hs) ?_;refine mN ?_;refine mO ?_;(iterate 3 refine mS ?_);refine zay (n:=v.kids.length) rfl rfl (zam _) ?_;by_cases hi:ixI s < v.kids.length
   ·refine zah rfl rfl (decide_eq_true hi) ?_
    refine mT ?_;refine mP ?_;refine zab ⟨.inr rfl,[.d (pI (ixI s))],rfl,?_⟩;unfold kidI; rw [if_pos h7,if_pos hi]; rfl
   ·refine zan rfl rfl (decide_eq_false hi) ?_
    refine mK ?_;show kidI v s = -1;unfold kidI; rw [if_pos h7,if_neg hi]
  refine zan rfl rfl (beq_eq_false_iff_ne.2 h7) ?_;refine mF ?_;refine mO ?_;by_cases h8:v.kind = 8
  ·refine zah rfl rfl (beq_iff_eq.2 h8) ?_
   refine mT ?_;have hfk:findK s v.kids 0 = findV v s:=by unfold findV; rw [if_pos h8]
   refine mO ?_;(iterate 3 refine mS ?_);refine zac (args:=[.d (.sl 0 (vK v.kids)),.d (pS s)]) (vKs_arg v.kids s) (keyS_fn (T:=T) (hT:=hT) v.kids s hl) ?_;rw [hfk];refine mN ?_;refine mQ ?_;by_cases hi:0 <= findV v s
   ·refine zah rfl rfl (decide_eq_true hi) ?_
    refine mT ?_;refine mQ ?_;refine zaZ (n:=findV v s + 1) rfl rfl rfl (by omega) (by omega) ?_;refine mN ?_;refine zab ⟨.inr rfl,[.d (pI (findV v s + 1))],rfl,?_⟩;unfold kidI; rw [if_neg h7,if_pos h8,if_pos hi]; rfl
   ·refine zan rfl rfl (decide_eq_false hi) ?_
    refine mK ?_;show kidI v s = -1;unfold kidI; rw [if_neg h7,if_pos h8,if_neg hi]
  refine zan rfl rfl (beq_eq_false_iff_ne.2 h8) ?_;refine mF ?_;refine mO ?_;by_cases h9:v.kind = 9
  ·refine zah rfl rfl (beq_iff_eq.2 h9) ?_
   refine mT ?_;refine mQ ?_;refine zd7 (la:=s) (lb:=[116,97,103]) rfl rfl rfl ?_;by_cases ht:s = [116,97,103]
   ·rw [decide_eq_true ht]
    (iterate 3 refine mS ?_);refine zay (n:=v.kids.length) rfl rfl (zam _) ?_;by_cases hk:0 < v.kids.length
    ·refine zah rfl rfl (decide_eq_true (by omega)) ?_
     refine mT ?_;refine mP ?_;refine zab ⟨.inr rfl,[.d (pI 0)],rfl,?_⟩;unfold kidI; rw [if_neg h7,if_neg h8,if_pos h9,if_pos ⟨ht,hk⟩]; rfl
    ·refine zan rfl rfl (decide_eq_false (by omega)) ?_
     refine mK ?_;show kidI v s = -1;unfold kidI; rw [if_neg h7,if_neg h8,if_pos h9,if_neg (fun h => hk h.2)]
   ·rw [decide_eq_false ht]
    refine mS ?_;refine mZ ?_;refine mK ?_;show kidI v s = -1;unfold kidI; rw [if_neg h7,if_neg h8,if_pos h9,if_neg (fun h => ht h.1)]
  refine zan rfl rfl (beq_eq_false_iff_ne.2 h9) ?_;refine mK ?_;show kidI v s = -1;unfold kidI; rw [if_neg h7,if_neg h8,if_neg h9]
 rintro tm bx nt live h;refine mP ?_;exact zab ⟨.inr rfl,[.d (pI (-1))],rfl,by rw [h]; rfl⟩
end
section
def m_s_l02Str:M:=so [⟨some 2,.zero [.int .i64 0,.int .i64 0,.int .i64 0,.string ⟨[].toArray⟩,.slice none 0 0],none,[]⟩] (so [qm 3 0,⟨some 4,.build [.int .i64 0,.int .i64 0,.int .i64 0,.string ⟨[].toArray⟩,.slice none 0 0] [(0,1,ci 5),(3,1,3)],none,[]⟩,qS 5 2 4] .ret)
theorem zga:look Tryz.prog 82 = some (5,m_s_l02Str,[.cell true 5 2]):=by kernel_rfl
end
section
variable {T:World -> Prop} {hT:Low ngl T}
attribute [local irreducible] po mw pt
theorem str_fn (s:L8):FnV (env T hT) 82 [.d (pS s)] (.ag (vC (.mk 5 0 0 s []))):=by
 refine zaU (zaf zga) (by show 1 <= 5; decide) fun B hB => ?_
 unfold m_s_l02Str;refine mP ?_;refine mO ?_;(iterate 2 refine mS ?_);refine zad (p:=0) (cs:=[pI 5,pI 0,pI 0,pS s,.sl 1 []]) rfl rfl rfl rfl rfl rfl ?_;refine mN ?_;exact zab ⟨.inr rfl,[.ag [pI 5,pI 0,pI 0,pS s,.sl 1 []]],rfl,rfl⟩
mutual
theorem V.nodes_bulkN:∀ v:V,v.nodes <= v.bulk + 1
 | .mk k n e s kids => by have:=V.nodess_bulkN kids; simp only [V.nodes,V.bulk]; omega
theorem V.nodess_bulkN:∀ vs:List V,V.nodess vs <= vs.length + V.bulks vs
 | [] => by simp [V.nodess]
 | v :: vs => by have:=V.nodes_bulkN v; have:=V.nodess_bulkN vs; simp only [V.nodess,V.bulks,length_cons]; omega
end
theorem newS_fn (v x:V) (s:L8) (ahead:Bool) (hb:v.bulk <= 4294967290) (hs:s.length <= 2147483647):FnV (env T hT) 63 [.ag (vC v),.d (pS s),.ag (vC x),.d (pB ahead)] (.tup [.ag (vC (newS v s x ahead).1),.d (pB (newS v s x ahead).2)]):=by
 have hnb:=v.nodes_bulkN;have hkl:v.kids.length <= 4294967290:=by rw [V.bulk_eq] at hb; omega
 refine zaU (zaf zf5) (by show 4 <= 75; decide) fun B hB => ?_
 unfold m_s_l08New;refine mO ?_;refine zal (cs:=vC v) rfl ?_;refine zal (cs:=vC x) rfl ?_;refine mN ?_;refine mO ?_;refine zaa (p:=0) (cs:=vC v) rfl rfl rfl rfl ?_;refine po_g rfl (cpy_g (T:=T) (hT:=hT) v (by omega) (zai v) _ (Nat.le_refl 2)) ?_;rintro y b n l ⟨rfl,cs,rfl,hN,he,hRT⟩;obtain ⟨t,rows,rfl,hr⟩:=vform he
 have ht:t = 1 /\ rows = [] \/ 2 <= t:=by
  obtain ⟨_,_,_,_,t',rows',e,h⟩:=hRT;simp only [vcs,cons.injEq,PC.sl.injEq,and_true] at e;obtain ⟨_,_,_,_,rfl,rfl⟩:=e;exact h
 have htl:t = 1 \/ t ∈ l:=ht.imp And.left fun h => (hN.mem t (by simp [vcs,toksL,PC.toks,h])).2.2
 have hrl:=zet hr;have hrw:=erk_wid hr;refine zdX (cs:=vcs v.kind v.num v.exp v.text t rows) rfl rfl rfl rfl ?_;refine mN ?_;refine mQ ?_;refine zac (args:=[.d (pS s)]) rfl (numS_fn (T:=T) (hT:=hT) s hs) ?_;refine mN ?_;refine zaS (fun st => newS v s x ahead = (v,false) /\ has st.tm [(8,.ref 2 0),(10,.ref 3 0)] /\ st.bx = [vC v,vC x,[pI 0,pI 0,pI 0,pS [],.sl 1 []],vcs v.kind v.num v.exp v.text t rows]) ?_ ?_
 ·refine zak ?_
  refine mO ?_;(iterate 2 refine mS ?_);by_cases h8:v.kind = 8
  ·refine zah rfl rfl (beq_iff_eq.2 h8) ?_
   (iterate 4 refine mS ?_);refine zaM (b:=true) rfl (fun _ => vKs_arg v.kids s) (fun _ => keyS_fn (T:=T) (hT:=hT) v.kids s (by omega)) ?_;by_cases hf:findK s v.kids 0 < 0
   ·refine zah rfl rfl (decide_eq_true hf) ?_
    refine mT ?_;have hc:newS v s x ahead = (v.withK (v.kids ++ [.mk 5 0 0 s [],x]),true):=by unfold newS; rw [if_pos ⟨h8,hf⟩]
    refine mO ?_;(iterate 3 refine mS ?_);refine zaa (p:=1) (cs:=vC x) rfl rfl rfl rfl ?_;refine zac (args:=[.d (pS s)]) rfl (str_fn (T:=T) (hT:=hT) s) ?_;refine zf0 (es:=[vC (.mk 5 0 0 s []),vC x]) rfl ?_
    have hwk:∀ e ∈ [vC (.mk 5 0 0 s []),vC x],e.length = 5:=fun e he => by
     rcases mem_cons.1 he with rfl | he
     ·rfl
     ·rw [mem_singleton] at he; subst he; rfl
    refine zb4 (t:=t) (t':=0) (es:=rows) (ds:=[vC (.mk 5 0 0 s []),vC x]) rfl rfl htl (by rw [hrl]; simp only [length_cons,length_nil]; omega) hwk hrw ?_;refine mS ?_;refine zaC (p:=3) (o':=4) (cs:=[.sl n (rows ++ [vC (.mk 5 0 0 s []),vC x])]) (z:=vcs v.kind v.num v.exp v.text t rows) rfl rfl rfl ⟨rfl,Nat.le_of_ble_eq_true rfl⟩ rfl ?_;refine zaj ?_;refine mO ?_;refine zaa (p:=3) (cs:=vcs v.kind v.num v.exp v.text n (rows ++ [vC (.mk 5 0 0 s []),vC x])) rfl rfl rfl rfl ?_;refine zad (p:=2) (cs:=vcs v.kind v.num v.exp v.text n (rows ++ [vC (.mk 5 0 0 s []),vC x])) rfl rfl rfl rfl rfl rfl ?_;refine mN ?_;refine zab ⟨.inr rfl,[.ag (vcs v.kind v.num v.exp v.text n (rows ++ [vC (.mk 5 0 0 s []),vC x])),.d (pB true)],rfl,?_⟩;rw [hc];refine congrArg (fun l => some (PV.tup [.ag l,.d (pB true)])) ?_;show [pI v.kind,pI v.num,pI v.exp,pS v.text,.sl 0 (erLL (rows ++ [vC (.mk 5 0 0 s []),vC x]))] = vC (v.withK (v.kids ++ [.mk 5 0 0 s [],x]))
    have e1:erLL (rows ++ [vC (.mk 5 0 0 s []),vC x]) = vK (v.kids ++ [.mk 5 0 0 s [],x]):=erk_app hr (by
     show [erL (vC (.mk 5 0 0 s [])),erL (vC x)] = [V.d _ |>.pc,V.d _ |>.pc];rw [zai,zai,V.pc_eq,V.pc_eq])
    rw [e1]; rfl
   have hc:¬ (v.kind = 8 /\ findK s v.kids 0 < 0):=fun h => hf h.2
   refine zan rfl rfl (decide_eq_false hf) ?_;refine mF ?_;refine mO ?_;(iterate 2 refine mS ?_);have h7:¬ v.kind = 7:=by omega
   have hno:newS v s x ahead = (v,false):=by unfold newS; rw [if_neg hc,if_neg (fun h => h7 h.1)]
   refine zan rfl rfl (beq_eq_false_iff_ne.2 h7) ?_;refine mS ?_;refine mZ ?_;refine mK ?_;exact ⟨hno,⟨rfl,rfl,trivial⟩,rfl⟩
  have hc:¬ (v.kind = 8 /\ findK s v.kids 0 < 0):=fun h => h8 h.1
  refine zan rfl rfl (beq_eq_false_iff_ne.2 h8) ?_;refine mS ?_;refine mZ ?_;refine mF ?_;refine mO ?_;(iterate 2 refine mS ?_);by_cases h7:v.kind = 7
  ·refine zah rfl rfl (beq_iff_eq.2 h7) ?_
   (iterate 4 refine mS ?_);refine zay (n:=v.kids.length) rfl rfl (zam _) ?_;by_cases hn:ixI s = v.kids.length
   ·have hj:0 <= ixI s /\ (ixI s).toNat <= v.kids.length:=⟨by omega,by omega⟩
    have hyes:ixI s = v.kids.length \/ ahead = true /\ 0 <= ixI s /\ ixI s <= v.kids.length - 1:=.inl hn;refine zah rfl rfl (beq_iff_eq.2 hn) ?_;refine mS ?_;refine mZ ?_;refine mT ?_;have hj0:0 <= ixI s:=hj.1;have hjl:(ixI s).toNat <= v.kids.length:=hj.2;have hcj:newS v s x ahead = (v.withK (v.kids.take (ixI s).toNat ++ x :: v.kids.drop (ixI s).toNat),true):=by unfold newS; rw [if_neg hc,if_pos ⟨h7,hyes⟩]
    refine mO ?_;(iterate 3 refine mS ?_);refine zcw (l:=0) (h:=(ixI s).toNat) (es:=rows) (rs:=rows.take (ixI s).toNat) rfl rfl rfl (zbt (i:=ixI s) rfl (by omega)) ⟨Nat.zero_le _,by omega⟩ hrw (by rw [drop_zero,Nat.sub_zero]) ?_;refine zaa (p:=1) (cs:=vC x) rfl rfl rfl rfl ?_;refine zf0 (es:=vK [x]) (by rw [zdD]; rfl) ?_;(iterate 3 refine mS ?_);refine zcw (l:=(ixI s).toNat) (h:=rows.length) (es:=rows) (rs:=rows.drop (ixI s).toNat) rfl rfl (zbt (i:=ixI s) rfl (by omega)) rfl ⟨by omega,lR⟩ hrw (by rw [<- length_drop,take_length]) ?_;refine zbO (es:=[]) rfl ?_;refine zb4 (t:=n) (t':=0) (es:=[]) (ds:=rows.take (ixI s).toNat) rfl rfl (.inr (mem_cons_self ..)) (by rw [length_take]; simp only [length_nil]; omega) (fun e he => hrw e (mem_of_mem_take he)) (fun e he => by cases he) ?_;rw [nil_append];refine zb4 (t:=n + 1) (t':=0) (es:=rows.take (ixI s).toNat) (ds:=vK [x]) rfl rfl (.inr (mem_cons_self ..)) (by rw [length_take,zam,length_singleton]; omega) (za7 _) (fun e he => hrw e (mem_of_mem_take he)) ?_
    refine zb4 (t:=n + 1 + 1) (t':=0) (es:=rows.take (ixI s).toNat ++ vK [x]) (ds:=rows.drop (ixI s).toNat) rfl rfl (.inr (mem_cons_self ..)) (by rw [length_append,length_take,zam,length_drop,length_singleton]; omega) (fun e he => hrw e (mem_of_mem_drop he)) (fun e he => (mem_append.1 he).elim (fun h => hrw e (mem_of_mem_take h)) (za7 _ e)) ?_;refine mS ?_;refine zaC (p:=3) (o':=4) (cs:=[.sl (n + 1 + 1 + 1) (rows.take (ixI s).toNat ++ vK [x] ++ rows.drop (ixI s).toNat)]) (z:=vcs v.kind v.num v.exp v.text t rows) rfl rfl rfl ⟨rfl,Nat.le_of_ble_eq_true rfl⟩ rfl ?_;refine zaj ?_;refine mO ?_;refine zaa (p:=3) (cs:=vcs v.kind v.num v.exp v.text (n + 1 + 1 + 1) (rows.take (ixI s).toNat ++ vK [x] ++ rows.drop (ixI s).toNat)) rfl rfl rfl rfl ?_;refine zad (p:=2) (cs:=vcs v.kind v.num v.exp v.text (n + 1 + 1 + 1) (rows.take (ixI s).toNat ++ vK [x] ++ rows.drop (ixI s).toNat)) rfl rfl rfl rfl rfl rfl ?_
    refine mN ?_;refine zab ⟨.inr rfl,[.ag (vcs v.kind v.num v.exp v.text (n + 1 + 1 + 1) (rows.take (ixI s).toNat ++ vK [x] ++ rows.drop (ixI s).toNat)),.d (pB true)],rfl,?_⟩;rw [hcj];refine congrArg (fun l => some (PV.tup [.ag l,.d (pB true)])) ?_;show [pI v.kind,pI v.num,pI v.exp,pS v.text,.sl 0 (erLL (rows.take (ixI s).toNat ++ vK [x] ++ rows.drop (ixI s).toNat))] = vC (v.withK (v.kids.take (ixI s).toNat ++ x :: v.kids.drop (ixI s).toNat))
    have e1:erLL (rows.take (ixI s).toNat ++ vK [x] ++ rows.drop (ixI s).toNat) = vK (v.kids.take (ixI s).toNat ++ x :: v.kids.drop (ixI s).toNat):=by
     rw [zas,map_append,map_append,map_take,map_drop,<- zas,<- zas,hr,zcX,zbW,show x :: v.kids.drop (ixI s).toNat = [x] ++ v.kids.drop (ixI s).toNat from rfl,zbW,<- append_assoc];simp only [vK,map_take,map_drop]
    rw [e1]; rfl
   refine zan rfl rfl (beq_eq_false_iff_ne.2 hn) ?_;(iterate 3 refine mS ?_)
   cases ahead with
   | false =>
    have hno:newS v s x false = (v,false):=by unfold newS; rw [if_neg hc,if_neg (fun h => h.2.elim hn (fun h => Bool.noConfusion h.1))]
    refine mZ ?_;refine mK ?_
    exact ⟨hno,⟨rfl,rfl,trivial⟩,rfl⟩
   | true =>
    (iterate 3 refine mS ?_);refine zay (n:=v.kids.length) rfl rfl (zam _) ?_;refine po_sub (n:=(v.kids.length:Int) - 1) rfl rfl rfl (by omega) (by omega) ?_;refine zaM (b:=true) (args:=[.d (pI (ixI s)),.d (pI 0),.d (pI ((v.kids.length:Int) - 1))]) rfl (fun _ => rfl) (fun _ => in_fn (T:=T) (hT:=hT) (ixI s) 0 ((v.kids.length:Int) - 1)) ?_;by_cases hin:0 <= ixI s /\ ixI s <= (v.kids.length:Int) - 1
    ·rw [decide_eq_true hin]
     have hj:0 <= ixI s /\ (ixI s).toNat <= v.kids.length:=⟨hin.1,by omega⟩;have hyes:ixI s = v.kids.length \/ true = true /\ 0 <= ixI s /\ ixI s <= v.kids.length - 1:=.inr ⟨rfl,hin⟩;refine mT ?_;have hj0:0 <= ixI s:=hj.1;have hjl:(ixI s).toNat <= v.kids.length:=hj.2;have hcj:newS v s x true = (v.withK (v.kids.take (ixI s).toNat ++ x :: v.kids.drop (ixI s).toNat),true):=by unfold newS; rw [if_neg hc,if_pos ⟨h7,hyes⟩]
     refine mO ?_;(iterate 3 refine mS ?_);refine zcw (l:=0) (h:=(ixI s).toNat) (es:=rows) (rs:=rows.take (ixI s).toNat) rfl rfl rfl (zbt (i:=ixI s) rfl (by omega)) ⟨Nat.zero_le _,by omega⟩ hrw (by rw [drop_zero,Nat.sub_zero]) ?_;refine zaa (p:=1) (cs:=vC x) rfl rfl rfl rfl ?_;refine zf0 (es:=vK [x]) (by rw [zdD]; rfl) ?_;(iterate 3 refine mS ?_);refine zcw (l:=(ixI s).toNat) (h:=rows.length) (es:=rows) (rs:=rows.drop (ixI s).toNat) rfl rfl (zbt (i:=ixI s) rfl (by omega)) rfl ⟨by omega,lR⟩ hrw (by rw [<- length_drop,take_length]) ?_;refine zbO (es:=[]) rfl ?_;refine zb4 (t:=n) (t':=0) (es:=[]) (ds:=rows.take (ixI s).toNat) rfl rfl (.inr (mem_cons_self ..)) (by rw [length_take]; simp only [length_nil]; omega) (fun e he => hrw e (mem_of_mem_take he)) (fun e he => by cases he) ?_;rw [nil_append];refine zb4 (t:=n + 1) (t':=0) (es:=rows.take (ixI s).toNat) (ds:=vK [x]) rfl rfl (.inr (mem_cons_self ..)) (by rw [length_take,zam,length_singleton]; omega) (za7 _) (fun e he => hrw e (mem_of_mem_take he)) ?_
     refine zb4 (t:=n + 1 + 1) (t':=0) (es:=rows.take (ixI s).toNat ++ vK [x]) (ds:=rows.drop (ixI s).toNat) rfl rfl (.inr (mem_cons_self ..)) (by rw [length_append,length_take,zam,length_drop,length_singleton]; omega) (fun e he => hrw e (mem_of_mem_drop he)) (fun e he => (mem_append.1 he).elim (fun h => hrw e (mem_of_mem_take h)) (za7 _ e)) ?_;refine mS ?_;refine zaC (p:=3) (o':=4) (cs:=[.sl (n + 1 + 1 + 1) (rows.take (ixI s).toNat ++ vK [x] ++ rows.drop (ixI s).toNat)]) (z:=vcs v.kind v.num v.exp v.text t rows) rfl rfl rfl ⟨rfl,Nat.le_of_ble_eq_true rfl⟩ rfl ?_;refine zaj ?_;refine mO ?_;refine zaa (p:=3) (cs:=vcs v.kind v.num v.exp v.text (n + 1 + 1 + 1) (rows.take (ixI s).toNat ++ vK [x] ++ rows.drop (ixI s).toNat)) rfl rfl rfl rfl ?_;refine zad (p:=2) (cs:=vcs v.kind v.num v.exp v.text (n + 1 + 1 + 1) (rows.take (ixI s).toNat ++ vK [x] ++ rows.drop (ixI s).toNat)) rfl rfl rfl rfl rfl rfl ?_
     refine mN ?_;refine zab ⟨.inr rfl,[.ag (vcs v.kind v.num v.exp v.text (n + 1 + 1 + 1) (rows.take (ixI s).toNat ++ vK [x] ++ rows.drop (ixI s).toNat)),.d (pB true)],rfl,?_⟩;rw [hcj];refine congrArg (fun l => some (PV.tup [.ag l,.d (pB true)])) ?_;show [pI v.kind,pI v.num,pI v.exp,pS v.text,.sl 0 (erLL (rows.take (ixI s).toNat ++ vK [x] ++ rows.drop (ixI s).toNat))] = vC (v.withK (v.kids.take (ixI s).toNat ++ x :: v.kids.drop (ixI s).toNat))
     have e1:erLL (rows.take (ixI s).toNat ++ vK [x] ++ rows.drop (ixI s).toNat) = vK (v.kids.take (ixI s).toNat ++ x :: v.kids.drop (ixI s).toNat):=by
      rw [zas,map_append,map_append,map_take,map_drop,<- zas,<- zas,hr,zcX,zbW,show x :: v.kids.drop (ixI s).toNat = [x] ++ v.kids.drop (ixI s).toNat from rfl,zbW,<- append_assoc];simp only [vK,map_take,map_drop]
     rw [e1]; rfl
    ·rw [decide_eq_false hin]
     have hno:newS v s x true = (v,false):=by unfold newS; rw [if_neg hc,if_neg (fun h => h.2.elim hn (fun h => hin h.2))]
     refine mK ?_;exact ⟨hno,⟨rfl,rfl,trivial⟩,rfl⟩
  have hno:newS v s x ahead = (v,false):=by unfold newS; rw [if_neg hc,if_neg (fun h => h7 h.1)]
  refine zan rfl rfl (beq_eq_false_iff_ne.2 h7) ?_;refine mS ?_;refine mZ ?_;refine mK ?_;exact ⟨hno,⟨rfl,rfl,trivial⟩,rfl⟩
 rintro tm bx nt live ⟨hno,ht2,hbx⟩;obtain ⟨tm1,rfl⟩:=zaq ht2;simp only at hbx; subst hbx
 refine mO ?_;refine zaa (p:=3) (cs:=vcs v.kind v.num v.exp v.text t rows) rfl rfl rfl rfl ?_;refine zad (p:=2) (cs:=vcs v.kind v.num v.exp v.text t rows) rfl rfl rfl rfl rfl rfl ?_;refine mN ?_;refine zab ⟨.inr rfl,[.ag (vcs v.kind v.num v.exp v.text t rows),.d (pB false)],rfl,?_⟩;rw [hno];exact congrArg (fun l => some (PV.tup [.ag l,.d (pB false)])) he
end
section
theorem RepCs.append {S:Nat -> Prop} {w:World}:∀ {ds es:List D} {c1 c2:List Value},RepCs S w ds c1 -> RepCs S w es c2 -> RepCs S w (ds ++ es) (c1 ++ c2)
 | [],es,c1,c2,h,k => by simp only [RepCs] at h; subst h; exact k
 | d :: ds,es,c1,c2,h,k => by
  simp only [RepCs] at h; obtain ⟨e1,e2,rfl,hl,h1,h2⟩:=h
  simp only [cons_append,RepCs];exact ⟨e1,e2 ++ c2,by simp,hl,h1,RepCs.append h2 k⟩
theorem RepCs.one {S:Nat -> Prop} {w:World} {d:D} {c:List Value} (h:RepC S w d c):RepCs S w [d] c:=by
 simp only [RepCs]; exact ⟨c,[],by simp,h.len,h,rfl⟩
section
variable {H:Type} {enc:TypeId × Value -> H} {P:Program} {w:World} {base:Nat} {spare:Nat -> Bool} {held:Bool}
theorem zgb {α:Type} {t e:TypeId} {n0:Nat} {f:α -> D} {ok:α -> Prop} (ht:P.underlying t = some (.slice e)) (hc:P.cellsOf e = n0) (hn:0 < n0) (hw:∀ x,D.width (f x) = n0)
  {fuel:Nat} (helem:∀ n cs y,n < fuel -> DataW.trod enc P w base spare held n e cs = some y -> ∃ x:α,Rd w (f x) cs /\ ok x)
  {cs:List Value} {y:DataW H × List MemPlace} (h:DataW.trod enc P w base spare held fuel t cs = some y) :
  ∃ (xs:List α) (v:Value),cs = [v] /\ Rd w (.sl n0 (xs.map f)) [v] /\ (∀ x ∈ xs,ok x) /\ xs.length <= maxLen:=by
 rcases DataW.trod_slice ht h with ⟨rfl,_⟩ | ⟨a,len,cap,elems,rest,n,hfu,rfl,_,_,hl,hm,hlen,hel,_,_⟩
 ·exact ⟨[],_,rfl,by simp [Rd,RepC],by simp,by simp⟩
 ·have key:∀ k,k <= len -> ∃ (xs:List α) (flat:List Value),xs.length = k /\ flat.length = n0 * k /\ RepCs (· < w.heap.size) w (xs.map f) flat /\ (∀ x ∈ xs,ok x) /\ ∀ (j:Nat) u,flat[j]? = some u -> w.cell? (a.add j) = some u:=by
   intro k
   induction k with
   | zero => intro _; exact ⟨[],[],rfl,rfl,by simp [RepCs],by simp,by simp⟩
   | succ k ih =>
    intro hk;obtain ⟨xs,flat,h1,h2,h3,h4,h5⟩:=ih (by omega);have hek:=hel k (by omega);rw [getElem?_eq_getElem (by omega)] at hek
    cases hcs:w.cells? base (a.add (k * P.cellsOf e)) (P.cellsOf e) with
    | none => rw [hcs] at hek; simp at hek
    | some cs' =>
     rw [hcs,Option.bind_some] at hek;obtain ⟨x,hx1,hx2⟩:=helem n _ _ (by omega) hek;obtain ⟨_,hcl,hcc⟩:=World.cells?_some hcs;refine ⟨xs ++ [x],flat ++ cs',by simp [h1],by rw [length_append,h2,hcl,hc,Nat.mul_succ],?_,?_,?_⟩
     ·rw [map_append]; exact RepCs.append h3 (RepCs.one hx1)
     ·intro z hz; rcases mem_append.1 hz with hz | hz
      ·exact h4 z hz
      ·simp at hz; subst hz; exact hx2
     ·intro j u hj
      by_cases hjl:j < flat.length
      ·rw [getElem?_append_left hjl] at hj; exact h5 j u hj
      ·rw [getElem?_append_right (by omega)] at hj
       have hjn:j - flat.length < cs'.length:=by
        rcases Nat.lt_or_ge (j - flat.length) cs'.length with h | h
        ·exact h
        ·simp [getElem?_eq_none h] at hj
       have:=hcc (j - flat.length) (by omega)
       rw [Addr.add_add,hc,h2,Nat.mul_comm k n0,show n0 * k + (j - n0 * k) = j by omega] at this;rw [this,<- h2]; exact hj
  obtain ⟨xs,flat,h1,h2,h3,h4,h5⟩:=key len lR;refine ⟨xs,_,rfl,?_,h4,by omega⟩;simp only [Rd,RepC];refine ⟨some a,cap,by simp [h1],fun hne => ?_⟩
  have hpos:0 < len:=by
   rcases Nat.eq_zero_or_pos len with h0 | h0
   ·exfalso; apply hne; rw [map_eq_nil_iff,<- length_eq_zero_iff]; omega
   ·exact h0
  have hfl:0 < flat.length:=by rw [h2]; exact Nat.mul_pos hn hpos
  have hc0:=h5 0 flat[0] (by simp)
  have hsp:a.spot = none:=by
   have:=World.cell?_spot hc0
   simpa [Addr.add] using this
  obtain ⟨b,o,s⟩:=a;simp only at hsp;subst hsp
  have hb:b < w.heap.size:=by
   rw [zav] at hc0;by_cases hlt:b < w.heap.size
   ·exact hlt
   ·simp [World.cell?,Array.getElem?_eq_none (Nat.not_lt.1 hlt)] at hc0
  refine ⟨hn,by simpa [h1] using hl,hm,b,o,flat,rfl,hb,fun j u hj => ?_,?_,h3⟩
  ·have:=h5 j u hj; rwa [zav] at this
  ·intro x hx; rw [mem_map] at hx; obtain ⟨z,_,rfl⟩:=hx; exact hw z
theorem zdc {t:TypeId} (ht:P.underlying t = some (.int .i64)) {fuel:Nat} {cs:List Value} {y:DataW H × List MemPlace} (h:DataW.trod enc P w base spare held fuel t cs = some y):∃ n,cs = [.int .i64 n] /\ i64ok n:=by
 obtain ⟨n,h1,_,h2⟩:=DataW.trod_int ht h; exact ⟨n,h1,i64ok_wf h2⟩
theorem trod_str {t:TypeId} (ht:P.underlying t = some .string) {fuel:Nat} {cs:List Value} {y:DataW H × List MemPlace} (h:DataW.trod enc P w base spare held fuel t cs = some y):∃ l:L8,cs = [.string ⟨l.toArray⟩] /\ strok l:=by
 obtain ⟨s,h1,_,h2⟩:=DataW.trod_string ht h;exact ⟨s.data.toList,by simpa using h1,h2⟩
theorem trod_strs {t e:TypeId} (ht:P.underlying t = some (.slice e)) (he:P.underlying e = some .string) (hc:P.cellsOf e = 1)
  {fuel:Nat} {cs:List Value} {y:DataW H × List MemPlace} (h:DataW.trod enc P w base spare held fuel t cs = some y):∃ (ls:List (L8)) (v:Value),cs = [v] /\ Rd w (dSs ls) [v] /\ (∀ s ∈ ls,strok s) /\ ls.length <= maxLen :=
 zgb (f:=dS) (ok:=strok) ht hc (by decide) (fun _ => rfl) (fun n cs y _ h => by
  obtain ⟨l,rfl,hl⟩:=trod_str he h; exact ⟨l,by simp [Rd,dS,RepC],hl⟩) h
end
end
end Go.Proofs.YtaofmfkcfmcmpaaGreatDoor
