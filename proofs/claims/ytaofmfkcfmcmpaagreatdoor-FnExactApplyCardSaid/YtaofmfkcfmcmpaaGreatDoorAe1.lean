/- For all arguments the program's Apply returns what the reference's Apply returns, leaves its arguments as they were, and returns memory of its own. -/
import Derived.Test.YtaofmfkcfmcmpaaGreatDoorAb5
import Derived.Lib.SmallJoins
import Derived.Test.YtaofmfkcfmcmpaaGreatDoorTie
import Derived.Test.YtaofmfkcfmcmpaaGreatDoorCards
namespace Go.Proofs.YtaofmfkcfmcmpaaGreatDoor.FnExactApply
open Go.ChangeShapes Go.WideShapes Go.ChangeAt Go.RowKit Go.Joins
open Go.ChangeMaps (open_string shut_string)
theorem own:ownKnob Tryz.prog.godebug = none:=by kernel_rfl
theorem laidOut:laidOutB Tryz.prog = true:=by kernel_rfl
set_option maxRecDepth 100000 in
theorem lifted (os:Os) (started:os.Started) (H:Type) (enc:TypeId × Value -> H) :
  ReturnsInHanded {} Tryz.checked os 4 .any (fun w args => (Rows.fnExactApplySpec.pre enc Tryz.prog Tryz.f4 Rows.fnExactApplyRow.domain false w args /\ laidMetH Tryz.prog Rows.fnExactApplyRow.laid w) /\ sizedMet enc Tryz.prog Tryz.f4 (OpenSpec.ofChange Rows.fnExactApplySpec) false w args) (Rows.fnExactApplySpec.post enc Tryz.prog Tryz.f4 false true false false):=by
 refine laid_of (C:=Tryz.checked) Rows.fnExactApplyRow.laid own started (by kernel_rfl) Tryz.func4
  (ChangeSpec.witness_shaped (enc:=enc) (C:=Tryz.checked) (os:=os) (X:=fun w _ => laidMetH Tryz.prog Rows.fnExactApplyRow.laid w) false (World.laidAll Tryz.prog os Rows.fnExactApplyRow.laid) #[.agg #[.int .i64 0,.int .i64 0,.int .i64 0,.string ⟨#[]⟩,.slice none 0 0],.slice none 0 0] 8 (World.laidAll_os _ _ _)
   (World.shaped_of_ZipB (by kernel_rfl) (by kernel_rfl)) (by kernel_rfl) (by kernel_rfl) (by kernel_rfl)
   (by rw [MakeChecks.laidMetH_plain _ _ _ (by kernel_rfl)]; exact laidMet_laidAll _ (by kernel_rfl) (by kernel_rfl))) ?_
 intro W base args ds gs before hsh hL hval0 hW hcnd;have hval:∀ (j:Nat) t v,Tryz.f4.params[j]? = some t -> args[j]? = some v -> Value.okWide Tryz.prog W .any base t v:=hval0;have hW':=hW;obtain ⟨p,q,hA0,hV,rfl,hfz,hnd⟩:=hW;have hA:DataW.TrodAll enc Tryz.prog W 0 (fun _ => true) true Tryz.f4.params.toList args.toList ds p:=hA0;rw [Tryz.params4] at hA hval;obtain ⟨v0,vs0,d0,ds0,p0,q0,hargs,rfl,rfl,h0,r0⟩:=trodAll_cons hA;obtain ⟨v1,vs1,d1,ds1,p1,q1,rfl,rfl,rfl,h1,r1⟩:=trodAll_cons r0;obtain ⟨rfl,rfl,rfl⟩:=trodAll_nil r1
 obtain rfl:args = #[v0,v1]:=by cases args; simp_all
 obtain ⟨rfl,rfl⟩:=trodVars_none hV;have k0:=h0;have lt0:∀ x ∈ p0,x.block < W.heap.size:=by obtain ⟨m,hm⟩:=k0; exact DataW.trod_lt m _ _ _ hm
 have k1:=h1;have lt1:∀ x ∈ p1,x.block < W.heap.size:=by obtain ⟨m,hm⟩:=k1; exact DataW.trod_lt m _ _ _ hm
 obtain ⟨a0,rfl,_⟩:=okWide_struct Tryz.underlying24 (hval 0 24 v0 rfl rfl);obtain ⟨fu0,hf0⟩:=h0;obtain ⟨x0,hr0,hw0⟩:=zed fu0 _ _ hf0;obtain ⟨c0⟩:=a0;obtain ⟨pa1,pl1,pc1,rfl⟩:=okWide_slice Tryz.underlying44 (hval 1 44 v1 rfl rfl);obtain ⟨fu1,hf1⟩:=h1;obtain ⟨x1,w1,e1,hx1⟩:=trod_ops fu1 _ _ hf1
 obtain rfl:w1 = .slice pa1 pl1 pc1:=by simpa [Value.cells,eq_comm] using e1
 clear hA0 hval0;have hL2:=hL;rw [MakeChecks.laidMetH_plain _ _ _ (by kernel_rfl)] at hL2;have hT:TS W:=⟨tabs_of (Lib.laidMet.reads hL2 (.tail _ (.tail _ (.tail _ (.tail _ (.tail _ (.tail _ (.head _)))))))) (Lib.laidMet.reads hL2 (.tail _ (.tail _ (.tail _ (.head _))))),tenTab_of (Lib.laidMet.reads hL2 (.tail _ (.tail _ (.head _)))),errTab_of (Lib.laidMet.reads hL2 (.tail _ (.tail _ (.tail _ (.tail _ (.tail _ (.head _))))))) (Lib.laidMet.reads hL2 (.tail _ (.tail _ (.tail _ (.tail _ (.head _))))))⟩;refine (zgt x0 c0 x1 (.slice pa1 pl1 pc1) W (ngl_of hsh) hT hr0 hw0 hx1).mono fun e W' ⟨he,bel⟩ => ?_
 subst he;exact ⟨_,rfl,_,_,_,[],_,[],hW',trodAll_mk1 (shut_bool Tryz.underlying4 _),(trodAll_cons_mk (Below.trod laidOut (by kernel_rfl) (of_decide_eq_true (by kernel_rfl)) k0 bel lt0) (trodAll_cons_mk (Below.trod laidOut (by kernel_rfl) (of_decide_eq_true (by kernel_rfl)) k1 bel lt1) trodAll_mk0)),rfl,bel.frame _,fun h => by cases h⟩
set_option maxHeartbeats 8000000 in
theorem closed:joinedFacts Tryz.prog 4 Tryz.f4 Rows.fnExactApplySpec Rows.fnExactApplyRow = true:=by
 unfold joinedFacts;simp only [Bool.and_eq_true];refine ⟨⟨⟨⟨⟨⟨⟨⟨⟨⟨⟨⟨⟨⟨⟨⟨⟨⟨⟨⟨⟨⟨⟨⟨⟨⟨⟨⟨⟨⟨⟨?_,?_⟩,?_⟩,?_⟩,?_⟩,?_⟩,?_⟩,?_⟩,?_⟩,?_⟩,?_⟩,?_⟩,?_⟩,?_⟩,?_⟩,?_⟩,?_⟩,?_⟩,?_⟩,?_⟩,?_⟩,?_⟩,?_⟩,?_⟩,?_⟩,?_⟩,?_⟩,?_⟩,?_⟩,?_⟩,?_⟩,?_⟩
 ·as_aux_lemma => kernel_rfl
 ·as_aux_lemma => kernel_rfl
 ·as_aux_lemma => kernel_rfl
 ·as_aux_lemma => kernel_rfl
 ·as_aux_lemma => kernel_rfl
 ·as_aux_lemma => kernel_rfl
 ·as_aux_lemma => kernel_rfl
 ·as_aux_lemma => kernel_rfl
 ·as_aux_lemma => kernel_rfl
 ·as_aux_lemma => kernel_rfl
 ·as_aux_lemma => kernel_rfl
 ·as_aux_lemma => kernel_rfl
 ·as_aux_lemma => kernel_rfl
 ·as_aux_lemma => kernel_rfl
 ·as_aux_lemma => kernel_rfl
 ·as_aux_lemma => kernel_rfl
 ·as_aux_lemma => kernel_rfl
 ·as_aux_lemma => kernel_rfl
 ·as_aux_lemma => kernel_rfl
 ·as_aux_lemma => kernel_rfl
 ·as_aux_lemma => kernel_rfl
 ·as_aux_lemma => kernel_rfl
 ·as_aux_lemma => kernel_rfl
 ·as_aux_lemma => kernel_rfl
 ·as_aux_lemma => kernel_rfl
 ·as_aux_lemma => kernel_rfl
 ·as_aux_lemma => kernel_rfl
 ·as_aux_lemma => kernel_rfl
 ·as_aux_lemma => kernel_rfl
 ·as_aux_lemma => kernel_rfl
 ·as_aux_lemma => kernel_rfl
 ·as_aux_lemma => kernel_rfl
theorem wf0:Rows.fnExactApplyRow.wfByText (OpenSpec.ofChange Rows.fnExactApplySpec) = true:=by kernel_rfl
theorem main0:Tryz.prog.mainIs = some (Rows.fnExactApplyCard.stood.harness.1,Rows.fnExactApplyCard.stood.harness.2.toList):=by kernel_rfl
theorem looks0:true = Tryz.prog.looks []:=by kernel_rfl
theorem goes0:false = Rows.fnExactApplyRow.goesBy Tryz.prog:=by kernel_rfl
theorem held:Rows.FnExactApplySaid :=
 OpenClaim.holds_of_wide 4 Tryz.f4 rfl rfl rfl rfl rfl rfl rfl ⟨rfl,rfl,rfl,rfl,rfl⟩ rfl rfl rfl rfl rfl (by kernel_rfl) Tryz.func4 closed
  (of_decide_eq_true (by kernel_rfl)) (by unfold Func.isWrapper; first | (rw [if_pos (by decide +kernel)]; kernel_rfl) | (rw [if_neg (by decide +kernel)]; exact ⟨rfl,rfl⟩))
  (fun os started H enc _ => lifted os started H enc)
theorem proved:Rows.FnExactApplyCardSaid :=
 Claim7.holds_tied_plain_at .later [] [.data,.data,.data,.data,.sentinel,.sentinel,.pinned] true Rows.fnExactApplyCard.stood.harness true
  held (fun _ h => by cases h) wf0 (fun _ h => by cases h) fnExactApply_row_tie rfl ⟨rfl,rfl⟩ main0 rfl
  (fun f fn hf hfn => by
   obtain rfl : f = 4 := Option.some.inj ((show Tryz.prog.funcNamed "loop.example/g00421/laws.FnExactApply" = some 4 by kernel_rfl).symm.trans hf) |>.symm
   obtain rfl:fn = Tryz.f4:=(Option.some.inj (Tryz.func4.symm.trans hfn)).symm
   refine ⟨looks0,fun j t ht => ?_⟩;rw [Tryz.params4] at ht;have hm:t ∈ [24,44]:=by simpa using Array.mem_of_getElem? ht
   have hall:([24,44].all fun u => !Tryz.prog.wantsStandIn u) = true:=by kernel_rfl
   exact (show Tryz.prog.wantsStandIn t = false by simpa using List.all_eq_true.1 hall t hm))
  goes0
end Go.Proofs.YtaofmfkcfmcmpaaGreatDoor.FnExactApply
