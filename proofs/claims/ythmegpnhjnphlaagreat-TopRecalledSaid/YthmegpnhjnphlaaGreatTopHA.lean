import Derived.Lib.SmallJoins
import Derived.Test.YthmegpnhjnphlaaGreatTopGA
namespace Go.Proofs.YthmegpnhjnphlaaGreat
open Go.ChangeShapes Go.WideShapes Go.RowKit Go.Deep Go.Joins
theorem vt{α:Type}{n:Nat}{p:Nat->α->Prop}(h:∀i,i<n->∃x,p i x):∃l:List α,l.length=n/\∀i x,l[i]?=some x->p i x:=by
 induction n with
 |zero=>exact⟨[],rfl,λi x hx=>by simp at hx⟩
 |succ n a=>
  obtain⟨l,hl,hp⟩:=a λi hi=>h i (by omega);obtain⟨y,hy⟩:=h n (by omega);refine⟨l++[y],by simp[hl],λi x hx=>?_⟩;by_cases hi:i<n;.rw[Bd (by omega)]at hx;exact hp i x hx
  .rw[zN (by omega),hl]at hx;(have:i=n:=by rcases zA n i with h1|h1;(.rw[yV (by simp;omega)]at hx;cases hx);.omega);subst this;simp at hx;subst hx;exact hy
section
variable {H:Type} {enc:TypeId×Value->H} {P:Program} {w:World} {base:Nat} {spare:Nat->Bool} {held:Bool}
theorem vF{α:Type}{t e size:Nat}(O:P.underlying t=some (.slice e))(G:P.cellsOf e=size)(W:0<size)(cells:α->List Value)(Q:α->Prop)(I:∀(n:Nat)(cs:List Value)(x:DataW H×List MemPlace),DataW.trod enc P w base spare held n e cs=some x->cs.length=size->∃l:α,cs=cells l/\Q l){fuel:Nat}{v:Value}{y:DataW H×List MemPlace}(h:DataW.trod enc P w base spare held fuel t [v]=some y):∃(A:Option Addr)(n c:Nat)(d:List α),v=.slice A n c/\Sl w size A n (d.map cells)/\n<=maxLen/\∀l∈d,Q l:=by
 rcases open_slice O h with⟨hcs,_⟩|⟨a,len,cap,m,k,D,Pl,hcs,U,hl,hm,M,_,hi⟩;.simp only[Ar,Au]at hcs;subst hcs;exact⟨none,0,0,[],rfl,Sl.bl _ _ _,yw _,λl hl=>by cases hl⟩
 .simp only[Ar,Au]at hcs;subst hcs;have V:len<=m:=by rw[M];split<;>omega
  rw[G]at hi;obtain⟨d,L,hp⟩:=vt (α:=α) (p:=λi l=>Q l/\∃g,w.cells? base (a.add (i*size)) size=some g/\g=cells l) (n:=len) (λi K=>by obtain⟨g,h1,h2⟩:=hi i (by omega);obtain⟨_,u,_⟩:=B4 h1;obtain⟨l,r,s⟩:=I _ _ _ h2 u;exact⟨l,s,g,h1,r⟩);refine⟨some a,len,cap,d,rfl,⟨by simpa using L,λi x hx=>?_⟩,by omega,λl f=>?_⟩;.rw[yG]at hx;rcases f:d[i]? with _|l;(.rw[f]at hx;cases hx);.rw[f]at hx;simp only[B9,zL]at hx;subst hx;obtain⟨_,g,h1,rfl⟩:=hp i l f;obtain⟨_,u,r⟩:=B4 h1;obtain⟨b,o,sp⟩:=a;have K:i<d.length:=(yp.1 f).1;(have N:sp=none:=by obtain⟨_,R,E,S⟩:=hp 0 (d[0]'(by omega)) (yk _);obtain⟨_,T,F⟩:=B4 E;have q:=F 0 (by omega);rw[yk (by omega),zz]at q;exact World.cell?_spot (a:=⟨b,o,sp⟩) q);subst N;(have z:∀x y:Nat,((⟨b,o,none⟩:Addr).add x).add y=⟨b,o+x+y,none⟩:=by intro x y;simp only[Addr.add];split<;>split<;>simp_all);have q:=r 0 (by omega);rw[yk (by omega)]at q;have B:=World.block_lt_of_cell? w _ q;rw[z]at B;refine⟨b,o,rfl,B,λj X C=>?_⟩;have s:=r j (by rw[<-u];exact(yp.1 C).1);rw[z,C]at s;exact s
  .obtain⟨i,J,rfl⟩:=A3.1 f;exact(hp i _ (yk J)).1
theorem s0{r:Reach}{b t:Nat}{v:Value}{d:DataW H}{p:List MemPlace}(c:P.underlying t=some (.int .i64))(e:Value.okWide P w r b t v)(h:DataW.Trod enc P w base spare held t v d p):∃a:Int,v=.int .i64 a/\-9223372036854775808<=a/\a<=9223372036854775807:=by obtain⟨a,rfl,_,_,wf⟩:=open_int c e h;have:=bounds_i64 wf;exact⟨a,rfl,this.1,this.2⟩
end
section
set_option maxRecDepth 100000
variable {H:Type} {enc:TypeId×Value->H} {w:World} {base:Nat} {spare:Nat->Bool} {held:Bool}
theorem tu:Tryz.prog.cellsOf 86=3:=by kernel_rfl
theorem wP:Tryz.prog.cellsOf 88=6:=by kernel_rfl
theorem tI:Tryz.prog.cellsOf 149=6:=by kernel_rfl
theorem oF:Tryz.prog.cellsOf 34=2:=by kernel_rfl
theorem w_:Tryz.prog.cellsOf 151=4:=by kernel_rfl
theorem vQ:Tryz.prog.cellsOf 64=3:=by kernel_rfl
theorem xO:Tryz.prog.cellsOf 67=2:=by kernel_rfl
theorem h3:Tryz.prog.cellsOf 3=1:=by kernel_rfl
theorem wq:Tryz.prog.cellsOf 4=1:=by kernel_rfl
theorem rS:Tryz.prog.cellsOf 28=8:=by kernel_rfl
theorem xE:Tryz.prog.cellsOf 32=10:=by kernel_rfl
theorem sE:Tryz.prog.bytesOf 34=16:=by kernel_rfl
theorem c9{n:Nat}{a:Value}{xs:List (DataW H×List MemPlace)}{i:Nat}(hi:i<xs.length)(h:DataW.trod enc Tryz.prog w base spare held n 3 [a]=xs[i]?):∃k:Int,a=.int .i64 k:=by rw[yk hi]at h;obtain⟨k,e,_⟩:=DataW.trod_int Tryz.underlying3 h;simp at e;exact⟨k,e⟩
theorem sB{n:Nat}{a:Value}{xs:List (DataW H×List MemPlace)}{i:Nat}(hi:i<xs.length)(h:DataW.trod enc Tryz.prog w base spare held n 4 [a]=xs[i]?):∃k:Bool,a=.bool k:=by rw[yk hi]at h;obtain⟨k,e,_⟩:=DataW.trod_bool Tryz.underlying4 h;simp at e;exact⟨k,e⟩
theorem xK(n:Nat)(cs:List Value)(x:DataW H×List MemPlace)(h:DataW.trod enc Tryz.prog w base spare held n 86 cs=some x)(hl:cs.length=3):∃l:dW,cs=l.cs/\True:=by
 match cs,hl with
 |[f,g,i],_=>obtain⟨xs,m,_,_,_,hx,a⟩:=z0 Tryz.underlying86 h;have b:=a 0 _ rfl;have h1:=a 1 _ rfl;have h2:=a 2 _ rfl;simp[h3]at b h1 h2;simp at hx;obtain⟨c,rfl⟩:=c9 (by omega) b;obtain⟨d,rfl⟩:=c9 (by omega) h1;obtain⟨e,rfl⟩:=c9 (by omega) h2;exact⟨⟨c,d,e⟩,rfl,trivial⟩
theorem s7(n:Nat)(cs:List Value)(x:DataW H×List MemPlace)(h:DataW.trod enc Tryz.prog w base spare held n 64 cs=some x)(hl:cs.length=3):∃l:b8,cs=l.cs/\True:=by
 match cs,hl with
 |[f,g,i],_=>obtain⟨xs,m,_,_,_,hx,a⟩:=z0 Tryz.underlying64 h;have b:=a 0 _ rfl;have h1:=a 1 _ rfl;have h2:=a 2 _ rfl;simp[h3]at b h1 h2;simp at hx;obtain⟨c,rfl⟩:=c9 (by omega) b;obtain⟨d,rfl⟩:=c9 (by omega) h1;obtain⟨e,rfl⟩:=c9 (by omega) h2;exact⟨⟨c,d,e⟩,rfl,trivial⟩
theorem xZ(n:Nat)(cs:List Value)(x:DataW H×List MemPlace)(h:DataW.trod enc Tryz.prog w base spare held n 34 cs=some x)(hl:cs.length=2):∃l:bS,cs=l.cs/\True:=by
 match cs,hl with
 |[e,f],_=>obtain⟨xs,m,_,_,_,hx,b⟩:=z0 Tryz.underlying34 h;have a:=b 0 _ rfl;have h1:=b 1 _ rfl;simp[h3]at a h1;simp at hx;obtain⟨c,rfl⟩:=c9 (by omega) a;obtain⟨d,rfl⟩:=c9 (by omega) h1;exact⟨⟨c,d⟩,rfl,trivial⟩
theorem rG(n:Nat)(cs:List Value)(x:DataW H×List MemPlace)(h:DataW.trod enc Tryz.prog w base spare held n 67 cs=some x)(hl:cs.length=2):∃l:fe,cs=l.cs/\True:=by
 match cs,hl with
 |[e,f],_=>obtain⟨xs,m,_,_,_,hx,b⟩:=z0 Tryz.underlying67 h;have a:=b 0 _ rfl;have h1:=b 1 _ rfl;simp[h3]at a h1;simp at hx;obtain⟨c,rfl⟩:=c9 (by omega) a;obtain⟨d,rfl⟩:=c9 (by omega) h1;exact⟨⟨c,d⟩,rfl,trivial⟩
theorem ss(n:Nat)(cs:List Value)(x:DataW H×List MemPlace)(h:DataW.trod enc Tryz.prog w base spare held n 151 cs=some x)(hl:cs.length=4):∃l:im,cs=l.cs/\True:=by
 match cs,hl with
 |[i,j,k,o],_=>obtain⟨xs,m,_,_,_,hx,a⟩:=z0 Tryz.underlying151 h;have b:=a 0 _ rfl;have h1:=a 1 _ rfl;have h2:=a 2 _ rfl;have c:=a 3 _ rfl;simp[h3]at b h1 h2 c;simp at hx;obtain⟨d,rfl⟩:=c9 (by omega) b;obtain⟨e,rfl⟩:=c9 (by omega) h1;obtain⟨f,rfl⟩:=c9 (by omega) h2;obtain⟨g,rfl⟩:=c9 (by omega) c;exact⟨⟨d,e,f,g⟩,rfl,trivial⟩
theorem s4(n:Nat)(cs:List Value)(x:DataW H×List MemPlace)(h:DataW.trod enc Tryz.prog w base spare held n 149 cs=some x)(hl:cs.length=6):∃l:b7,cs=l.cs/\True:=by
 match cs,hl with
 |[p,q,r,s,t,u],_=>obtain⟨xs,m,_,_,_,hx,a⟩:=z0 Tryz.underlying149 h;have b:=a 0 _ rfl;have h1:=a 1 _ rfl;have h2:=a 2 _ rfl;have c:=a 3 _ rfl;have d:=a 4 _ rfl;have e:=a 5 _ rfl;simp[h3]at b h1 h2 c d e;simp at hx;obtain⟨f,rfl⟩:=c9 (by omega) b;obtain⟨g,rfl⟩:=c9 (by omega) h1;obtain⟨i,rfl⟩:=c9 (by omega) h2;obtain⟨j,rfl⟩:=c9 (by omega) c;obtain⟨k,rfl⟩:=c9 (by omega) d;obtain⟨o,rfl⟩:=c9 (by omega) e;exact⟨⟨f,g,i,j,k,o⟩,rfl,trivial⟩
theorem vL(n:Nat)(cs:List Value)(x:DataW H×List MemPlace)(h:DataW.trod enc Tryz.prog w base spare held n 88 cs=some x)(hl:cs.length=6):∃l:bG,cs=l.cs/\True:=by
 match cs,hl with
 |[p,q,r,s,t,u],_=>obtain⟨xs,m,_,_,_,hx,a⟩:=z0 Tryz.underlying88 h;have b:=a 0 _ rfl;have h1:=a 1 _ rfl;have h2:=a 2 _ rfl;have c:=a 3 _ rfl;have d:=a 4 _ rfl;have e:=a 5 _ rfl;simp[h3,wq]at b h1 h2 c d e;simp at hx;obtain⟨f,rfl⟩:=c9 (by omega) b;obtain⟨g,rfl⟩:=c9 (by omega) h1;obtain⟨i,rfl⟩:=c9 (by omega) h2;obtain⟨j,rfl⟩:=c9 (by omega) c;obtain⟨k,rfl⟩:=c9 (by omega) d;obtain⟨o,rfl⟩:=sB (by omega) e;exact⟨⟨f,g,i,j,k,o⟩,rfl,trivial⟩
theorem iv{α:Type}{t e size:Nat}(f:Tryz.prog.underlying t=some (.slice e))(g:Tryz.prog.cellsOf e=size)(o:0<size)(cells:α->List Value)(j:∀(n:Nat)(cs:List Value)(x:DataW H×List MemPlace),DataW.trod enc Tryz.prog w base spare held n e cs=some x->cs.length=size->∃l:α,cs=cells l/\True){n:Nat}{a:Value}{xs:List (DataW H×List MemPlace)}{i:Nat}(hi:i<xs.length)(h:DataW.trod enc Tryz.prog w base spare held n t [a]=xs[i]?):∃(A:Option Addr)(n c:Nat)(d:List α),a=.slice A n c/\Sl w size A n (d.map cells)/\n<=c/\∃y,xs[i]?=some y/\(n=0\/∃es p,y.1=.slice es p/\n<=es.length):=by
 rw[yk hi]at h⊢;obtain⟨A,n,c,d,rfl,h1,_,_⟩:=vF f g o cells (λ_=>True) j h;rcases open_slice f h with⟨hcs,_⟩|⟨b,len,cap,m,k,D,Pl,hcs,_,hl,_,_,hx,_⟩;.simp only[Ar,Au,zT]at hcs;exact⟨A,n,c,d,rfl,h1,by omega,_,rfl,.inl hcs.2.1⟩
 .simp only[Ar,Au,zT]at hcs;refine⟨A,n,c,d,rfl,h1,by omega,_,rfl,.inr ⟨_,_,by rw[hx],?_⟩⟩;rw[y8,BR];omega
theorem r9{r:Reach}{I:Nat}{v:Value}{d:DataW H}{p:List MemPlace}(Z:Value.okWide Tryz.prog w r I 32 v)(h:DataW.Trod enc Tryz.prog w base spare held 32 v d p):∃(y:TC)(t:aI),v=y.v t/\TrAt0 w y t/\∀N,(∀n∈d.weights Tryz.prog 32,n<=N)->y.x.rn*16<=N:=by
 obtain⟨cs,rfl,s⟩:=okWide_struct Tryz.underlying32 Z;obtain⟨fuel,Y⟩:=h;rw[xE]at s;obtain⟨cs⟩:=cs;match cs,s with
 |[cG,cH,cI,cM,cO,cV,cY,c1,c',dg],_=>
  obtain⟨cx,m,_,hd,_,bk,hg⟩:=z0 Tryz.underlying32 Y;have b:=hg 0 _ rfl;have c:=hg 1 _ rfl;have e:=hg 2 _ rfl;simp[Value.cells,rS]at b c e;have P:Tryz.prog.cellsOf 29=1:=by kernel_rfl
  have Q:Tryz.prog.cellsOf 30=1:=by kernel_rfl
  simp[P,Q]at c e;simp at bk;obtain⟨cw,u⟩:∃z,cx[0]?=some z:=⟨_,yk (by omega)⟩;rw[u]at b;obtain⟨xs,k,_,he,_,hx,a⟩:=z0 Tryz.underlying28 b;have f:=a 0 _ rfl;have h1:=a 1 _ rfl;have h2:=a 2 _ rfl;have g:=a 3 _ rfl;have i:=a 4 _ rfl;have l:=a 5 _ rfl;have o:=a 6 _ rfl;have q:=a 7 _ rfl;have R:Tryz.prog.cellsOf 22=1:=by kernel_rfl
  have S:Tryz.prog.cellsOf 23=1:=by kernel_rfl
  have T:Tryz.prog.cellsOf 24=1:=by kernel_rfl
  have U:Tryz.prog.cellsOf 25=1:=by kernel_rfl
  have V:Tryz.prog.cellsOf 26=1:=by kernel_rfl
  simp[h3,R,S,T,U,V]at f h1 h2 g i l o q;simp at hx;obtain⟨bq,rfl⟩:=c9 (by omega) f;obtain⟨bs,rfl⟩:=c9 (by omega) h1;obtain⟨bu,rfl⟩:=c9 (by omega) h2;obtain⟨A,bK,b3,l3,rfl,cb,bT,_⟩:=iv Tryz.underlying22 tu (by omega) dW.cs xK (by omega) g;obtain⟨B,bN,b4,l4,rfl,ce,bU,_⟩:=iv Tryz.underlying23 wP (by omega) bG.cs vL (by omega) i;obtain⟨C,bO,J,bv,rfl,cg,bV,_⟩:=iv Tryz.underlying24 tI (by omega) b7.cs s4 (by omega) l;obtain⟨D,x,K,bw,rfl,ci,bY,ct,bj,bc⟩:=iv Tryz.underlying25 oF (by omega) bS.cs xZ (by omega) o;obtain⟨E,bP,L,bz,rfl,co,bZ,_⟩:=iv Tryz.underlying26 w_ (by omega) im.cs ss (by omega) q;obtain⟨F,bQ,M,bA,rfl,cp,b0,_⟩:=iv Tryz.underlying29 vQ (by omega) b8.cs s7 (by omega) c;obtain⟨G,bR,O,bB,rfl,cr,b',_⟩:=iv Tryz.underlying30 xO (by omega) fe.cs rG (by omega) e;refine⟨⟨⟨A,bK,b3,B,bN,b4,C,bO,J,D,x,K,E,bP,L⟩,F,bQ,M,G,bR,O⟩,⟨⟨bq,bs,bu,l3,l4,bv,bw,bz⟩,bA,bB⟩,rfl,⟨cb,ce,cg,ci,co,cp,cr,bT,bU,bV,bY,bZ,b0,b'⟩,λN W=>?_⟩;show x*16<=N;rcases bc with h|⟨es,ca,X,hle⟩;.subst h;omega
  .simp only[Prod.mk.injEq]at hd;(have hm:(es.length+ca.length)*16∈d.weights Tryz.prog 32:=by rw[hd.1];simp only[DataW.weights,Tryz.underlying32];refine Bw (j:=0) (t:=28) (d:=cw.1) rfl (by rw[yG,u];rfl) _ ?_;rw[he];simp only[DataW.weights,Tryz.underlying28];refine Bw (j:=6) (t:=25) (d:=ct.1) rfl (by rw[yG,bj];rfl) _ ?_;rw[X];simp only[DataW.weights,Tryz.underlying25,sE];exact y5 ..);have:=W _ hm;omega
theorem vu{r:Reach}{c:Nat}{v:Value}{d:DataW H}{p:List MemPlace}(f:Value.okWide Tryz.prog w r c 34 v)(h:DataW.Trod enc Tryz.prog w base spare held 34 v d p):∃x:bS,v=.agg #[.int .i64 x.scale,.int .i64 x.since]:=by obtain⟨i,v1,j,k,n,rfl,_,_,e,h1⟩:=open_agg2 Tryz.underlying34 (by kernel_rfl) oF f h;obtain⟨n0,a,_⟩:=DataW.trod_int Tryz.underlying3 e;obtain⟨g,b,_⟩:=DataW.trod_int Tryz.underlying3 h1;simp at a b;subst a b;exact⟨⟨_,_⟩,rfl⟩
end
