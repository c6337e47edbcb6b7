import Derived.Test.YthmegpnhjnphlaaGreatSimP
import Derived.Deep.RegionHeld3
import Derived.Deep.RegionLaw
import Derived.Deep.DeepCutAuto
import Derived.BigQuiet
import Derived.StillTailTactics
set_option maxHeartbeats 4000000
set_option maxRecDepth 100000
namespace Go.Proofs.YthmegpnhjnphlaaGreat
open Go.RowKit
structure Rd(α:Type) where
 at_:(Nat->Prop)->World->List Value->α->Prop
 bC:∀{P:Nat->Prop}{w w':World}{cs:List Value}{x:α},at_ P w cs x->w.heap.size<=w'.heap.size->(∀p:Addr,P p.block->p.block<w.heap.size->w'.cell? p=w.cell? p)->at_ P w' cs x
 mono:∀{P Q:Nat->Prop}{w:World}{cs:List Value}{x:α},at_ P w cs x->(∀b,b<w.heap.size->P b->Q b)->at_ Q w cs x
namespace Rd
variable {α:Type} {R:Rd α} {P Q:Nat->Prop} {w w':World} {cs:List Value} {x:α}
theorem ad(h:R.at_ P w cs x){B:Nat}(a:Below B w w')(hB:w.heap.size<=B):R.at_ P w' cs x:=R.bC h a.size λp _ hp=>a.cell (yx hp hB)
theorem eo(h:R.at_ P w cs x)(a:Below w.heap.size w w'):R.at_ P w' cs x:=R.bC h a.size λp _ hp=>a.cell hp
theorem aE(h:R.at_ P w cs x){p:Addr}(hp:¬P p.block)(v:Value):R.at_ P (w.setCell p v) cs x:=R.bC h (by rw[zs];exact yq _) λq a _=>yN _ _ _ _ λe=>hp (e▸a)
theorem grown{row:Option Nat}(h:R.at_ P w cs x)(hg:w.grownBy w' row)(a:∀b,row=some b->¬P b\/w.heap.size<=b):R.at_ P w' cs x:=R.bC h hg.size λp hp hl=>by
 apply z7;refine hg.block p.block hl λe=>?_;rcases a _ e.symm with h1|h1;.exact h1 hp
 .omega
theorem but(h:R.at_ P w cs x){g:Nat}(hg:w.heap.size<=g):R.at_ (λb=>P b/\b≠g) w cs x:=R.mono h λb a hp=>⟨hp,by omega⟩
theorem up(h:R.at_ (λb=>P b/\Q b) w cs x):R.at_ P w cs x:=R.mono h λ_ _ hp=>hp.1
end Rd
def AllAt{α:Type}(R:Rd α)(P:Nat->Prop)(w:World)(xs:List (List Value))(ys:List α):Prop:=xs.length=ys.length/\∀(i:Nat)(x:List Value)(y:α),xs[i]?=some x->ys[i]?=some y->R.at_ P w x y
namespace AllAt
variable {α:Type} {R:Rd α} {P Q:Nat->Prop} {w w':World} {xs:List (List Value)} {ys:List α}
theorem nil:AllAt R P w [] []:=⟨rfl,λi x y hx=>by simp at hx⟩
theorem bC(h:AllAt R P w xs ys)(a:w.heap.size<=w'.heap.size)(hk:∀p:Addr,P p.block->p.block<w.heap.size->w'.cell? p=w.cell? p):AllAt R P w' xs ys:=⟨h.1,λi x y hx hy=>R.bC (h.2 i x y hx hy) a hk⟩
theorem mono(h:AllAt R P w xs ys)(hm:∀b,b<w.heap.size->P b->Q b):AllAt R Q w xs ys:=⟨h.1,λi x y hx hy=>R.mono (h.2 i x y hx hy) hm⟩
theorem eo(h:AllAt R P w xs ys)(a:Below w.heap.size w w'):AllAt R P w' xs ys:=h.bC a.size λ_ _ hp=>a.cell hp
theorem aE(h:AllAt R P w xs ys){p:Addr}(hp:¬P p.block)(v:Value):AllAt R P (w.setCell p v) xs ys:=⟨h.1,λi x y hx hy=>Rd.aE (h.2 i x y hx hy) hp v⟩
theorem grown{row:Option Nat}(h:AllAt R P w xs ys)(hg:w.grownBy w' row)(a:∀b,row=some b->¬P b\/w.heap.size<=b):AllAt R P w' xs ys:=⟨h.1,λi x y hx hy=>Rd.grown (h.2 i x y hx hy) hg a⟩
theorem but(h:AllAt R P w xs ys){g:Nat}(hg:w.heap.size<=g):AllAt R (λb=>P b/\b≠g) w xs ys:=h.mono λb a hp=>⟨hp,by omega⟩
theorem up(h:AllAt R (λb=>P b/\Q b) w xs ys):AllAt R P w xs ys:=h.mono λ_ _ hp=>hp.1
theorem get(h:AllAt R P w xs ys){i:Nat}{y:α}(hy:ys[i]?=some y):∃x,xs[i]?=some x/\R.at_ P w x y:=by obtain⟨hi,_⟩:=yp.1 hy;exact⟨xs[i]'(by rw[h.1];exact hi),yk _,h.2 i _ y (yk _) hy⟩
theorem snoc(h:AllAt R P w xs ys){x:List Value}{y:α}(hx:R.at_ P w x y):AllAt R P w (xs++[x]) (ys++[y]):=by
 refine⟨by simp[h.1],λi a b c d=>?_⟩;rw[Ay]at c d;rw[h.1]at c;split at c;.rename_i hi;rw[yK hi]at d;exact h.2 i a b c d
 .rename_i hi;rw[yB hi]at d;by_cases e:i-ys.length=0;.rw[e]at c d;simp at c d;subst c d;exact hx
  .rw[yV (by simp;omega)]at c;cases c
theorem append{xs':List (List Value)}{f:List α}(h:AllAt R P w xs ys)(e:AllAt R P w xs' f):AllAt R P w (xs++xs') (ys++f):=by
 refine⟨by simp[h.1,e.1],λi a b c d=>?_⟩;rw[Ay]at c d;rw[h.1]at c;split at c;.rename_i hi;rw[yK hi]at d;exact h.2 i a b c d
 .rename_i hi;rw[yB hi]at d;exact e.2 _ a b c d
theorem take(h:AllAt R P w xs ys)(k:Nat):AllAt R P w (xs.take k) (ys.take k):=by
 refine⟨by simp[h.1],λi a b c d=>?_⟩;rw[AH]at c d;split at c;.rename_i hi;rw[yK hi]at d;exact h.2 i a b c d
 .cases c
theorem drop(h:AllAt R P w xs ys)(k:Nat):AllAt R P w (xs.drop k) (ys.drop k):=by refine⟨by simp[h.1],λi a b c d=>?_⟩;rw[Ac]at c d;exact h.2 _ a b c d
end AllAt
def SlR{α:Type}(R:Rd α)(size:Nat)(P:Nat->Prop)(w:World)(A:Option Addr)(n:Nat)(ys:List α):Prop:=∃xs,Sl w size A n xs/\AllAt R P w xs ys/\(∀x∈xs,x.length=size)/\∀a,A=some a->xs≠[]->P a.block
namespace SlR
variable {α:Type} {R:Rd α} {size:Nat} {P Q:Nat->Prop} {w w':World} {A:Option Addr} {n:Nat} {ys:List α}
theorem len(h:SlR R size P w A n ys):ys.length=n:=by obtain⟨xs,h1,h2,_⟩:=h;rw[<-h2.1];exact h1.len
theorem bl:SlR R size P w A 0 []:=⟨[],Sl.bl _ _ _,AllAt.nil,(λx hx=>nomatch hx),λa _ h=>absurd rfl h⟩
theorem bC(h:SlR R size P w A n ys)(k:w.heap.size<=w'.heap.size)(hk:∀p:Addr,P p.block->p.block<w.heap.size->w'.cell? p=w.cell? p):SlR R size P w' A n ys:=by
 obtain⟨xs,h1,h2,c,a⟩:=h;refine⟨xs,⟨h1.1,λi x hx=>?_⟩,h2.bC k hk,c,a⟩;obtain⟨b,o,hA,f,hc⟩:=h1.2 i x hx;have d:P b:=a _ hA λe=>by rw[e]at hx;simp at hx
 exact⟨b,o,hA,by omega,λj v g=>(hk ⟨b,_,none⟩ d f).trans (hc j v g)⟩
theorem mono(h:SlR R size P w A n ys)(hm:∀b,b<w.heap.size->P b->Q b):SlR R size Q w A n ys:=by
 obtain⟨xs,h1,h2,e,f⟩:=h;refine⟨xs,h1,h2.mono hm,e,λa c d=>?_⟩;obtain⟨x,hx⟩:∃x,xs[0]?=some x:=by
  cases xs with
  |nil=>exact absurd rfl d
  |cons x r=>exact⟨x,rfl⟩
 obtain⟨b,o,hA,g,_⟩:=h1.2 0 x hx;rw[c]at hA;injection hA with hA;subst hA;exact hm _ g (f _ c d)
theorem at_(h:SlR R size P w A n ys){i:Nat}{y:α}(hy:ys[i]?=some y):∃b o x,A=some ⟨b,o,none⟩/\b<w.heap.size/\P b/\(∀j v,x[j]?=some v->w.cell? ⟨b,o+i*size+j,none⟩=some v)/\x.length=size/\R.at_ P w x y:=by obtain⟨xs,h1,h2,a,c⟩:=h;obtain⟨x,hx,f⟩:=h2.get hy;obtain⟨b,o,hA,d,hc⟩:=h1.2 i x hx;exact⟨b,o,x,hA,d,c _ hA (λe=>by rw[e]at hx;simp at hx),hc,a x (yr hx),f⟩
end SlR
def gK{α:Type}(R:Rd α)(size:Nat):Rd (List α) where
 at_:=λP w cs ys=>∃A n c,cs=[.slice A n c]/\n<=c/\SlR R size P w A n ys
 bC:=λ⟨A,n,c,h1,h2,a⟩ b hk=>⟨A,n,c,h1,h2,a.bC b hk⟩
 mono:=λ⟨A,n,c,h1,h2,a⟩ hm=>⟨A,n,c,h1,h2,a.mono hm⟩
def gN:Rd Int where
 at_:=λ_ _ cs k=>cs=[.int .i64 k]
 bC:=λh _ _=>h
 mono:=λh _=>h
def IntP(P:Nat->Prop)(w:World)(A:Option Addr)(n:Nat)(ks:List Int):Prop:=Sl w 1 A n (ks.map λk=>[.int .i64 k])/\∀a,A=some a->ks≠[]->P a.block
namespace IntP
variable {P Q:Nat->Prop} {w w':World} {A:Option Addr} {n:Nat} {ks:List Int}
theorem len(h:IntP P w A n ks):ks.length=n:=by have:=h.1.len;simpa using this
theorem bl:IntP P w A 0 []:=⟨Sl.bl _ _ _,λ_ _ h=>absurd rfl h⟩
theorem bC(h:IntP P w A n ks)(g:w.heap.size<=w'.heap.size)(hk:∀p:Addr,P p.block->p.block<w.heap.size->w'.cell? p=w.cell? p):IntP P w' A n ks:=by
 obtain⟨h1,a⟩:=h;refine⟨⟨h1.1,λi x hx=>?_⟩,a⟩;obtain⟨b,o,hA,d,hc⟩:=h1.2 i x hx;have c:P b:=a _ hA λe=>by rw[e]at hx;simp at hx
 exact⟨b,o,hA,by omega,λj v f=>(hk ⟨b,_,none⟩ c d).trans (hc j v f)⟩
theorem mono(h:IntP P w A n ks)(hm:∀b,b<w.heap.size->P b->Q b):IntP Q w A n ks:=by
 refine⟨h.1,λa c d=>?_⟩;obtain⟨x,hx⟩:∃x,ks[0]?=some x:=by
  cases ks with
  |nil=>exact absurd rfl d
  |cons x r=>exact⟨x,rfl⟩
 obtain⟨b,o,hA,e,_⟩:=h.1.2 0 [.int .i64 x] (by rw[yG,hx];rfl);rw[c]at hA;injection hA with hA;subst hA;exact hm _ e (h.2 _ c d)
theorem eo(h:IntP P w A n ks)(a:Below w.heap.size w w'):IntP P w' A n ks:=h.bC a.size λ_ _ hp=>a.cell hp
theorem at_(h:IntP P w A n ks){i:Nat}{k:Int}(hk:ks[i]?=some k):∃b o,A=some ⟨b,o,none⟩/\b<w.heap.size/\P b/\w.cell? ⟨b,o+i,none⟩=some (.int .i64 k):=by obtain⟨b,o,hA,a,hc⟩:=h.1.2 i [.int .i64 k] (by rw[yG,hk];rfl);have:=hc 0 _ rfl;rw[zl,y9]at this;exact⟨b,o,hA,a,h.2 _ hA (λe=>by rw[e]at hk;simp at hk),this⟩
theorem aE(h:IntP P w A n ks){p:Addr}(hp:¬P p.block)(v:Value):IntP P (w.setCell p v) A n ks:=h.bC (by rw[zs];exact yq _) λq a _=>yN _ _ _ _ λe=>hp (e▸a)
end IntP
def og:Rd (List Int) where
 at_:=λP w cs ks=>∃A n c,cs=[.slice A n c]/\n<=c/\IntP P w A n ks
 bC:=λ⟨A,n,c,h1,h2,a⟩ b hk=>⟨A,n,c,h1,h2,a.bC b hk⟩
 mono:=λ⟨A,n,c,h1,h2,a⟩ hm=>⟨A,n,c,h1,h2,a.mono hm⟩
def dz(n:Nat):List Int:=(ai n).map λ(d:Nat)=>(d:Int)
def bL:Rd Rat where
 at_:=λP w cs q=>∃A n c A' n' c',cs=[.int .i64 q.num.sign,.slice A n c,.int .i64 1,.slice A' n' c']/\n<=c/\n'<=c'/\IntP P w A n (dz q.num.natAbs)/\IntP P w A' n' (dz q.den)
 bC:=λ⟨A,n,c,A',n',c',h1,h2,a,b,d⟩ e hk=>⟨A,n,c,A',n',c',h1,h2,a,b.bC e hk,d.bC e hk⟩
 mono:=λ⟨A,n,c,A',n',c',h1,h2,a,b,d⟩ hm=>⟨A,n,c,A',n',c',h1,h2,a,b.mono hm,d.mono hm⟩
def bF:Rd (Nat×Rat) where
 at_:=λP w cs t=>∃f,cs=.int .i64 (t.1:Int)::f/\bL.at_ P w f t.2
 bC:=λ⟨f,h1,h2⟩ a hk=>⟨f,h1,bL.bC h2 a hk⟩
 mono:=λ⟨f,h1,h2⟩ hm=>⟨f,h1,bL.mono h2 hm⟩
def bE(P:Nat->Prop)(w:World):Prop:=∀b,w.heap.size<=b->P b
theorem bE.ad{P:Nat->Prop}{w w':World}{B:Nat}(h:bE P w)(a:Below B w w'):bE P w':=λb c=>h b (yt a.size c)
theorem bE.alloc{P:Nat->Prop}{w:World}(h:bE P w)(o:Obj):bE P (w.alloc o):=λb a=>h b (by simp at a;omega)
theorem bE.but{P:Nat->Prop}{w w':World}{g:Nat}(h:bE P w)(c:w.heap.size<=w'.heap.size)(hg:g<w'.heap.size):bE (λb=>P b/\b≠g) w':=λb a=>⟨h b (by omega),by omega⟩
end Go.Proofs.YthmegpnhjnphlaaGreat
namespace Go.Proofs.YthmegpnhjnphlaaGreat
open Go.RowKit
theorem wQ(z:Array Value)(b:0<z.size):∀n:Nat,(madeCells z (n*z.size)).toList=(List.replicate n z.toList).flatten:=by
 intro n;apply za;intro t;have h1:∀x∈List.replicate n z.toList,x.length=z.size:=λx hx=>by rw[z4 hx];simp
 by_cases a:t<n*z.size
 .have hi:t/z.size<n:=by rw[AW b];exact a
  have hm:t%z.size<z.size:=Ap _ b;have h2:=jv (List.replicate n z.toList) h1 (t/z.size) (t%z.size) z.toList (z[t%z.size]) (by simp[hi]) (by simp[hm]);rw[zi,Nat.div_add_mod]at h2;rw[h2];simp[madeCells,a,hm]
 .rw[yV (by simp[madeCells];omega),yV (by simp;omega)]
theorem wpList_make_own{P:Program}(w:World){ops:Array Oper}{rest:List Oper}{o:Oper}{a:Act}{Q:Exit->Act->World->Prop}(hg:o.guard=none)(l c:Operand)(t:TypeId)(q:o.op=Op.makeSlice t l c)(base:Nat)(e:TypeId)(i:TypeInfo)(z:Value)(size bytes:Nat)(h1:P.underlying t=some (.slice e))(h2:P.info? e=some i)(h:i.zero=some z)(j:i.size=size)(m:i.bytes=bytes)(g:z.cells.size=size)(r:0<size)(n:Nat)(hl:a.eval l=.int .i64 (n:Int))(hc:a.eval c=.int .i64 (n:Int))(b2:bytes*n<=281474976710656)(b3:n<=maxLen)(b4:base<=w.heap.size)(p:∀w',Own w' base e size (.slice (some ⟨w.heap.size,0,none⟩) n n) n (List.replicate n z.cells.toList)->Below w.heap.size w w'->w.heap.size<w'.heap.size->wpList P ops Q rest (a.put o.dst (.slice (some ⟨w.heap.size,0,none⟩) n n)) w'):wpList P ops Q (o::rest) a w:=by refine wpList_make_full w hg l c t q base e i z size h1 h2 h j .i64 .i64 _ _ n hl hc rfl rfl (by rw[m];exact b2) b3 b4 λw' d b=>?_;have f:=wQ z.cells (by omega) n;rw[g]at f;rw[f]at d;refine p w' ⟨d,λx hx=>by rw[z4 hx];simpa using g,by simp⟩ ⟨b.os,b.tape,b.output,b.size,λk hk=>b.block k hk (by simp)⟩ ?_;exact(d.lt w.heap.size rfl).2
def nz(l:List Nat):List Int:=l.map λ(d:Nat)=>(d:Int)
theorem fM(l:List Nat):(nz l).length=l.length:=y8 ..
theorem dK{l:List Nat}{i d:Nat}(h:l[i]?=some d):(nz l)[i]?=some (d:Int):=by unfold nz;rw[yG,h];rfl
theorem ko(l:List Nat)(k:Nat):(nz l).take k=nz (l.take k):=(AE ..).symm
def ao(ks:List Int):List (List Value):=ks.map λk=>[.int .i64 k]
theorem lX{ks:List Int}{i:Nat}{k:Int}(h:ks[i]?=some k):(ao ks)[i]?=some [.int .i64 k]:=by unfold ao;rw[yG,h];rfl
theorem dO{w:World}{A:Option Addr}{n i:Nat}{ks:List Int}{k:Int}(h:Sl w 1 A n (ao ks))(hk:ks[i]?=some k):∃b o,A=some ⟨b,o,none⟩/\b<w.heap.size/\w.cell? ⟨b,o+i,none⟩=some (.int .i64 k):=by obtain⟨b,o,hA,a,hc⟩:=h.2 i [.int .i64 k] (lX hk);have:=hc 0 _ rfl;rw[zl,y9]at this;exact⟨b,o,hA,a,this⟩
section
variable {w:World} {base g c n i:Nat} {e:TypeId} {ks:List Int} {k:Int}
theorem fX(h:Own w base e 1 (.slice (some ⟨g,0,none⟩) n c) n (ao ks))(hk:ks[i]?=some k):w.cell? ⟨g,i,none⟩=some (.int .i64 k)/\(∀j,w.frozen? ⟨g,j,none⟩=false)/\g<w.heap.size/\base<=g:=by obtain⟨l,c',he,d,f,hcell,b⟩:=h.at_ (lX hk);cases he;have a:=hcell 0 _ rfl;rw[y9,zl]at a;exact⟨a,b,f,d⟩
theorem gx(h:Own w base e 1 (.slice (some ⟨g,0,none⟩) n c) n (ao ks))(hi:i<ks.length)(x:Int):Own (w.setCell ⟨g,i,none⟩ (.int .i64 x)) base e 1 (.slice (some ⟨g,0,none⟩) n c) n (ao (ks.set i x)):=by
 have a:∀l:List Int,ao l=(l.map (Value.int .i64)).map λv=>[v]:=λl=>by unfold ao;rw[List.map_map];rfl
 rw[a]at h⊢;rw[z'];exact h.aL (by rw[y8];exact hi) _
theorem sN(h:Own w base e 1 (.slice (some ⟨g,0,none⟩) n c) n (ao ks)):ks.length=n:=by have:=h.2.2;simpa[ao]using this
end
theorem gv{os:List Nat}{i k d:Nat}(hl:os.length=i)(r:List Nat):(nz (os++(k::r))).set i (d:Int)=nz (os++[d]++r):=by subst hl;unfold nz;rw[<-z' (f:=λ(d:Nat)=>(d:Int)),B_,yB (by omega),Ao,Ab];simp
theorem gB{os:List Nat}{i k:Nat}(hl:os.length=i)(r:List Nat):(nz (os++(k::r)))[i]?=some (k:Int):=by apply dK;rw[zN (by omega),hl,Ao];rfl
theorem mL{n i:Nat}(h:i<n):List.replicate (n-i) (0:Nat)=0::List.replicate (n-(i+1)) 0:=by rw[show n-i=(n-(i+1))+1 by omega,BD]
theorem iW:∀{l:List Nat},Dg l->l.take (ai (aq l)).length=ai (aq l)/\(ai (aq l)).length<=l.length
 |[],_=>by simp[aq,dy]
 |d::r,h=>by
  have b:=iW h.tail;have hd:=h.head;rcases yJ (aq (d::r))with a|a;.rw[a,dy];simp
  . (have e:ai (aq (d::r))=d::ai (aq r):=by rw[gP a];have:aq (d::r)=d+1048576*aq r:=rfl;rw[this,show(d+1048576*aq r)%1048576=d by omega,show(d+1048576*aq r)/1048576=aq r by omega]);rw[e];simp only[zh,List.take_succ_cons,b.1];exact⟨trivial,by omega⟩
theorem ei:(Tryz.prog.info? 3).map (λi=>(i.zero,i.size,i.bytes))=some (some (.int .i64 0),1,8):=by kernel_rfl
theorem x1(x:Nat):dz x=nz (ai x):=rfl
theorem od{w:World}{base:Nat}{e:TypeId}{size n c k:Nat}{A:Option Addr}{xs:List (List Value)}(h:Own w base e size (.slice A n c) n xs)(hk:k<=n):Own w base e size (.slice A k c) k (xs.take k):=by
 obtain⟨⟨h1,h2⟩,b,i⟩:=h;refine⟨⟨?_,?_⟩,λx hx=>b x (z5 hx),by rw[yS];omega⟩;.rw[hY _ (λx hx=>b x (z5 hx)),yS,i,y3 hk]
 .rcases h2 with⟨d,hn⟩|⟨l,cap,a,d,m,hg,r,o,hcs,p⟩;.injection d with f q g;subst f g;(have:k=0:=by omega);subst this;exact .inl ⟨rfl,rfl⟩
  .injection d with f q g;subst g;refine .inr ⟨l,c,a,by rw[<-f],m,hg,by omega,o,hcs,?_⟩;(have j:a.toList.take (k*size)=(a.toList.take (n*size)).take (k*size):=by rw[Bz,y3 (yU _ hk)]);rw[j,p];(conv=>lhs;rw[<-zR k xs,A7]);rw[List.take_left' (by rw[hY _ (λx hx=>b x (z5 hx)),yS,i,y3 hk])]
theorem fF{w:World}{base:Nat}{e:TypeId}{size n c:Nat}{A:Option Addr}{xs:List (List Value)}(h:Own w base e size (.slice A n c) n xs):n<=c:=by
 rcases h.1.2 with⟨a,hn⟩|⟨d,cap,b,a,f,hg,i,g,hcs,j⟩;.omega
 .injection a with k l m;omega
def fA(w w':World)(v:Value)(x:Nat):Prop:=∃A c,v=.slice A (ai x).length c/\Own w' w.heap.size 3 1 (.slice A (ai x).length c) (ai x).length (ao (dz x))/\Below w.heap.size w w'
theorem l6{w w':World}{n c:Nat}{A:Option Addr}{ds:List Nat}(h:Own w' w.heap.size 3 1 (.slice A n c) n (ao (nz ds)))(hd:Dg ds)(d:Below w.heap.size w w'):fA w w' (.slice A (ai (aq ds)).length c) (aq ds):=by
 have hl:ds.length=n:=by have:=h.2.2;simpa[ao,nz]using this
 obtain⟨h1,h2⟩:=iW hd;have a:=od h (k:=(ai (aq ds)).length) (by omega);have b:(ao (nz ds)).take (ai (aq ds)).length=ao (dz (aq ds)):=by unfold ao;rw[<-AE,ko,h1];rfl
 rw[b]at a;exact⟨_,_,rfl,a,d⟩
theorem nt(ks:List Int):∀x∈ao ks,x.length=1:=by intro x hx;obtain⟨l,_,rfl⟩:=yF.1 hx;rfl
theorem mR(ks:List Int):∀x∈ao ks,∀u∈x,u.oneCell'=true:=by intro x hx u hu;obtain⟨l,_,rfl⟩:=yF.1 hx;simp only[zd,List.not_mem_nil,or_false]at hu;subst hu;rfl
theorem Sl.al{w:World}{size n:Nat}{xs:List (List Value)}(h:Sl w size none n xs):n=0:=by
 rcases yJ n with a|a;.exact a
 .obtain⟨l,hl⟩:∃x,xs[0]?=some x:=⟨_,yk (by rw[h.1];exact a)⟩;obtain⟨b,o,he,_⟩:=h.2 0 l hl;cases he
def pQ(t:TypeId)(size:Nat)(w:World)(n:Nat)(xs:List (List Value))(e:Ending)(w':World):Prop:=∃A c,e=.returned (.slice A n c)/\Own w' w.heap.size t size (.slice A n c) n xs/\Below w.heap.size w w'
def dx(x y:Int):Int:=if x<y then-1 else if y<x then 1 else 0
theorem jX(x:Int)(w:World):Calls Tryz.prog 161 #[.int .i64 x] w λe w'=>e=.returned (.bool false)/\w=w':=by go_enter Tryz.func161,Tryz.ntmps161;go_wp2_with(fail);go_ret;exact⟨cW (by simp),rfl⟩
theorem nU(x y r:Int)(w:World)(c:dx x y=r):Calls Tryz.prog 160 #[.int .i64 x,.int .i64 y] w λe w'=>e=.returned (.int .i64 r)/\w=w':=by
 subst c;unfold dx;by_cases h1:x<y;.rw[yK h1];go_enter Tryz.func160,Tryz.ntmps160;go_wp2_with(first|((with_reducible refine(jX x w).mono ?_);rintro _ b⟨rfl,a⟩;obtain rfl:=a)|((with_reducible refine(jX y w).mono ?_);rintro _ b⟨rfl,a⟩;obtain rfl:=a));go_ret;exact⟨rfl,rfl⟩
 .rw[yB h1];by_cases h2:y<x;.rw[yK h2];(have d:y<=x:=by omega);go_enter Tryz.func160,Tryz.ntmps160;go_wp2_with(first|((with_reducible refine(jX x w).mono ?_);rintro _ b⟨rfl,a⟩;obtain rfl:=a)|((with_reducible refine(jX y w).mono ?_);rintro _ b⟨rfl,a⟩;obtain rfl:=a));go_ret;exact⟨rfl,rfl⟩
  .rw[yB h2];(obtain rfl:x=y:=by omega);go_enter Tryz.func160,Tryz.ntmps160;go_wp2_with((with_reducible refine(jX x w).mono ?_);rintro _ b⟨rfl,a⟩;obtain rfl:=a);go_ret;exact⟨rfl,rfl⟩
theorem hR(w:World)(A:Option Addr)(n c:Nat)(ds:List Nat)(hs:Sl w 1 A n (ao (nz ds)))(hc:n<=c)(hm:n<=1000000000000)(hd:Dg ds):Calls Tryz.prog 131 #[.slice A n c] w λe w'=>e=.returned (.slice A (ai (aq ds)).length c)/\w=w':=by
 have hl:ds.length=n:=by have:=hs.len;simpa[ao,nz]using this
 have m:=yj hs;have a:=yj hl;have j:=yj hd;clear hs hl hd;go_enter Tryz.func131,Tryz.ntmps131;go_wp2_with(fail);go_loopw[3] (λg wr=>∃k:Nat,k<=n/\g=.int .i64 (k:Int)/\(∀i,k<=i->i<n->ds[i]?=some 0)/\wr=w) (λg _=>(intOf g).toNat);case atStart=>exact⟨n,yq _,rfl,λi h1 h2=>by omega,rfl⟩
 case round=>
  obtain⟨k,hk,rfl,l,p⟩:=hrel;obtain rfl:=p.symm;have f:=yj l;clear l;rcases yJ k with rfl|u;.go_wp2_with(fail);go_ret;have h:=ow (n:=0) j.out (λi h1 h2=>f.out i h1 (by rw[a.out]at h2;exact h2)) (yw _) (.inl rfl);rw[<-h];exact⟨by simp,rfl⟩
  .obtain⟨d,hd⟩:∃d,ds[k-1]?=some d:=⟨_,yk (by rw[a.out];omega)⟩;obtain⟨b,o,rfl,r,q⟩:=dO m.out (dK hd);(have v:(0:Int)<(k:Int):=by omega);(have z:IntKind.i64.wrap ((k:Int)-1)=((k-1:Nat):Int):=by rw[BH _ (by omega)];omega);(have x:((k-1:Nat):Int)<(n:Int):=by omega);have y:(0:Int)<=((k-1:Nat):Int):=yo _;rcases yJ d with rfl|s;(.go_wp2_with(fail);go_roundw;(case rel=>exact⟨k-1,by omega,by go_num,λi h1 h2=>by by_cases e:i=k-1;(.subst e;exact hd);.exact f.out i (by omega) h2,trivial⟩);case measure=>simp[intOf];omega);. (have t:¬((d:Int)=0):=by omega);go_wp2_with(fail);go_ret;have h:=ow (n:=k) j.out (λi h1 h2=>f.out i h1 (by rw[a.out]at h2;exact h2)) (by rw[a.out];exact hk) (.inr (by rw[hd];intro e;injection e with e;omega));rw[<-h];exact⟨by rw[yS,a.out,y3 hk];rfl,rfl⟩
