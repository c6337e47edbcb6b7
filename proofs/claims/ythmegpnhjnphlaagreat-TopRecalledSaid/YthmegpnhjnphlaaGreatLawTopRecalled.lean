/-
  TopRecalled: for every input the law returns true, and the arguments read behind the call as they read before. Conditions: none.
-/
import Derived.Test.YthmegpnhjnphlaaGreatTopHA
set_option maxHeartbeats 4000000
set_option maxRecDepth 100000
namespace Go.Proofs.YthmegpnhjnphlaaGreat.topRecalled
open Go.ChangeShapes Go.WideShapes Go.ChangeAt Go.RowKit
open Go.ChangeMaps (open_string shut_string)
theorem own:ownKnob Tryz.prog.godebug=none:=by kernel_rfl
theorem laidOut:laidOutB Tryz.prog=true:=by kernel_rfl
theorem lifted(os:Os)(L:os.Started)(H:Type)(enc:TypeId×Value->H):ReturnsInHanded {} Tryz.checked os 3 .any (Rows.topRecalledSpec.pre6 enc Tryz.prog Tryz.f3 Rows.topRecalledRow.domain false) (Rows.topRecalledSpec.post enc Tryz.prog Tryz.f3 false true false false):=by
 refine returnsInHanded_of_change_sized (C:=Tryz.checked) own L (by kernel_rfl) Tryz.func3 (ChangeSpec.witness6 (enc:=enc) (C:=Tryz.checked) false ⟨#[],#[.agg #[.int .i64 0,.int .i64 0,.int .i64 0,.slice none 0 0,.slice none 0 0,.slice none 0 0,.slice none 0 0,.slice none 0 0,.slice none 0 0,.slice none 0 0],.int .i64 0,.agg #[.int .i64 0,.int .i64 0]],[]⟩ 8 (by kernel_rfl) (by kernel_rfl) (by kernel_rfl) (by kernel_rfl)) ?_;intro W base args ds U before c b _ u _;have hval:∀(j:Nat) t v,Tryz.f3.params[j]?=some t->args[j]?=some v->Value.okWide Tryz.prog W .any base t v:=c;have r:=b;obtain⟨p,q,hA0,hV,rfl,X,Y⟩:=b;have hA:DataW.TrodAll enc Tryz.prog W 0 (λ_=>true) true Tryz.f3.params.toList args.toList ds p:=hA0;rw[Tryz.params3]at hA hval;obtain⟨k,bk,o,R,E,Z,V,rfl,rfl,a,I⟩:=trodAll_cons hA;obtain⟨v1,bq,P,S,F,bc,rfl,rfl,rfl,h1,J⟩:=trodAll_cons I;obtain⟨v2,bs,Q,T,G,bj,rfl,rfl,rfl,h2,K⟩:=trodAll_cons J;obtain⟨rfl,rfl,rfl⟩:=trodAll_nil K;obtain rfl:args=#[k,v1,v2]:=by cases args;simp_all
 obtain⟨rfl,rfl⟩:=trodVars_none hV;have f:=a;have A:∀x∈E,x.block<W.heap.size:=by obtain⟨m,hm⟩:=f;exact DataW.trod_lt m _ _ _ hm
 obtain⟨l,M,rfl,w,y⟩:=r9 (hval 0 32 k rfl rfl) a;have g:=h1;have B:∀x∈F,x.block<W.heap.size:=by obtain⟨m,hm⟩:=g;exact DataW.trod_lt m _ _ _ hm
 obtain⟨z,rfl,_⟩:=s0 Tryz.underlying3 (hval 1 3 v1 rfl rfl) h1;have i:=h2;have D:∀x∈G,x.block<W.heap.size:=by obtain⟨m,hm⟩:=i;exact DataW.trod_lt m _ _ _ hm
 obtain⟨N,rfl⟩:=vu (hval 2 34 v2 rfl rfl) h2;have s:(l.x.rn+1)*16<=140737488355328:=by
  have h:=y reachBytes λn hn=>by have h1:=Am.1 u n (Bw (j:=0) (t:=32) (d:=o) (by rw[Tryz.params3];rfl) (by simp) n hn);simpa using h1
  simp only[reachBytes]at h;omega
 clear hA0 c;refine(ux W l M w s z N).mono λe O ⟨he,aC⟩=>?_;subst he;exact⟨_,rfl,_,_,_,[],_,[],r,trodAll_mk1 (shut_bool Tryz.underlying4 _),(trodAll_cons_mk (Below.trod laidOut (by kernel_rfl) (of_decide_eq_true (by kernel_rfl)) f aC A) (trodAll_cons_mk (Below.trod laidOut (by kernel_rfl) (of_decide_eq_true (by kernel_rfl)) g aC B) (trodAll_cons_mk (Below.trod laidOut (by kernel_rfl) (of_decide_eq_true (by kernel_rfl)) i aC D) trodAll_mk0))),rfl,aC.frame _,λh=>by cases h⟩
theorem over:Rows.topRecalledRow.holds Tryz.pinned (OpenSpec.ofChange Rows.topRecalledSpec):=OpenClaim.holds_of_wide 3 Tryz.f3 rfl rfl rfl rfl rfl rfl rfl ⟨rfl,rfl,rfl,rfl,rfl⟩ rfl rfl rfl rfl rfl (by kernel_rfl) Tryz.func3 (by kernel_rfl) (of_decide_eq_true (by kernel_rfl)) (by unfold Func.isWrapper;first|(rw[yK (by decide+kernel)];kernel_rfl)|(rw[yB (by decide+kernel)];exact⟨rfl,rfl⟩)) (λos a H enc _=>lifted os a H enc)
theorem proved:Rows.TopRecalledSaid:=over
#print axioms proved
end Go.Proofs.YthmegpnhjnphlaaGreat.topRecalled
