import Derived.Test.YthmegpnhjnphlaaGreatTopCI
namespace Go.Proofs.YthmegpnhjnphlaaGreat
open Go.RowKit
structure k4(P:Nat->Prop)(w:World)(f:FC)(d:Int)(b:Bool)(A:Option Addr)(n c cl:Nat)(a:ep):Prop where
 sm:a.high.isSome=b
 high:∀h,a.high=some h->d=1/\Fr P w f h
 fs:Sl w 1 A n (ao a.a2)
 cap:n<=c
 cl:a.bX=cl
theorem k4.ad{P:Nat->Prop}{w w':World}{f:FC}{d:Int}{b:Bool}{A:Option Addr}{n c cl:Nat}{a:ep}(h:k4 P w f d b A n c cl a)(e:Below w.heap.size w w'):k4 P w' f d b A n c cl a:=⟨h.sm,λx hx=>⟨(h.high x hx).1,(h.high x hx).2.ad e⟩,h.fs.ad e,h.cap,h.cl⟩
theorem Own.keeps{w w':World}{base:Nat}{e:TypeId}{size:Nat}{v:Value}{n:Nat}{xs:List (List Value)}{F:Nat->Prop}(h:Own w base e size v n xs)(hk:aw F w w')(hF:∀b,v.ownBlock=some b->¬F b):Own w' base e size v n xs:=by
 refine⟨⟨h.1.1,?_⟩,h.2⟩;rcases h.1.2 with c|⟨g,cap,a,f,d,hg,r⟩;.exact .inl c
 .subst f;exact .inr ⟨g,cap,a,rfl,d,(hk.block g (zO.1 hg).1 (hF g rfl)).trans hg,r⟩
structure c3 where
 f:FC
 d:Int
 b:Bool
 s:Value
 cl:Nat
abbrev c3.cs(x:c3):List Value:=[.int .i64 x.f.s,.slice x.f.A x.f.n x.f.c,.int .i64 x.d,.slice x.f.A' x.f.n' x.f.c',.bool x.b,x.s,.int .i64 (x.cl:Int)]
def c3.zero:c3:=⟨⟨0,none,0,0,none,0,0⟩,0,false,.slice none 0 0,0⟩
def KS(G:Nat)(L:List c3):List (Option Nat):=some G::L.map λx=>x.s.ownBlock
structure kJ(Q:Nat->Prop)(base:Nat)(w:World)(x:c3)(a:ep):Prop where
 sm:a.high.isSome=x.b
 hi:∀h,a.high=some h->x.d=1/\Fr Q w x.f h
 fs:Own w base 3 1 x.s a.a2.length (ao a.a2)
 cl:a.bX=x.cl
structure KnB(R:Nat->Prop)(w0 w:World)(G:Nat)(L:List c3)(M:List ep):Prop where
 arr:Own w w0.heap.size 117 7 (.slice (some ⟨G,0,none⟩) L.length L.length) L.length (L.map c3.cs)
 len:M.length=L.length
 m:∀(i:Nat)(x:c3)(a:ep),L[i]?=some x->M[i]?=some a->kJ (λb=>R b/\some b∉KS G L) w0.heap.size w x a
 nd:(KS G L).Pairwise Dj
 aC:Below w0.heap.size w0 w
theorem kJ.keeps{Q Q' F:Nat->Prop}{base:Nat}{w w':World}{x:c3}{a:ep}(h:kJ Q base w x a)(hk:aw F w w')(hF:∀b,F b->¬Q b/\x.s.ownBlock≠some b)(e:∀b,b<w.heap.size->Q b->Q' b):kJ Q' base w' x a:=⟨h.sm,λy hy=>⟨(h.hi y hy).1,(((h.hi y hy).2.mono (Q:=λb=>Q' b/\Q b) λb d c=>⟨e b d c,c⟩).keeps hk λb d c=>(hF b d).1 c.2).mono λb _ c=>c.1⟩,h.fs.keeps hk λb d f=>(hF b f).2 d,h.cl⟩
namespace KnB
variable {R:Nat->Prop} {w0 w w':World} {G:Nat} {L:List c3} {M:List ep}
theorem ad(h:KnB R w0 w G L M)(b:Below w.heap.size w w'):KnB R w0 w' G L M:=⟨h.arr.ad b,h.len,λi x a hx c=>(h.m i x a hx c).keeps (aw.ad b (F:=λ_=>False)) (λ_ h=>h.elim) λ_ _ h=>h,h.nd,h.aC.trans (b.mono h.aC.size)⟩
theorem lt(h:KnB R w0 w G L M):∀b,some b∈KS G L->w0.heap.size<=b/\b<w.heap.size:=λb c=>by
 rcases zd.1 c with e|c;.injection e with e;subst e;exact h.arr.lt _ rfl
 .obtain⟨x,hx,e⟩:=yF.1 c;obtain⟨i,hi⟩:=List.mem_iff_getElem?.1 hx;obtain⟨a,d⟩:∃a,M[i]?=some a:=⟨_,yk (by rw[h.len];exact(yp.1 hi).1)⟩;exact(h.m i x a hi d).fs.lt _ e
theorem mi(h:KnB R w0 w G L M){i:Nat}{x f:c3}{a a':ep}(hx:L[i]?=some x)(p:M[i]?=some a)(hk:aw (λb=>b=G\/x.s.ownBlock=some b) w w')(q:Own w' w0.heap.size 117 7 (.slice (some ⟨G,0,none⟩) L.length L.length) L.length ((L.set i f).map c3.cs))(l:f.s.ownBlock=x.s.ownBlock\/f.s.ownBlock=some w.heap.size)(hm:kJ (λb=>R b/\some b∉KS G (L.set i f)) w0.heap.size w' f a'):KnB R w0 w' G (L.set i f) (M.set i a'):=by
 have o:KS G (L.set i f)=(KS G L).set (i+1) f.s.ownBlock:=by simp[KS,z']
 have t:∀b,some b∈KS G L->b<w.heap.size:=λb l=>(h.lt b l).2;have hu:(KS G L)[i+1]?=some x.s.ownBlock:=by simp[KS,hx]
 have s:∀b,some b∈KS G (L.set i f)->some b∈KS G L\/b=w.heap.size:=λb m=>by
  rw[o]at m;rcases zj m with h1|h1;.exact .inl h1
  .rcases l with e|e;(.exact .inl (by rw[h1,e];exact yr hu));.rw[e]at h1;injection h1 with h1;exact .inr h1
 refine⟨by rw[yW];exact q,by rw[yW,yW];exact h.len,λj y c hy hc=>?_,?_,?_⟩
 .rw[yZ]at hy hc;by_cases n:i=j;.subst n;rw[yK rfl]at hy hc;have h1:=(yp.1 hx).1;have h2:=(yp.1 p).1;rw[yK h1]at hy;rw[yK h2]at hc;injection hy with hy;injection hc with hc;subst hy hc;exact hm
  .rw[yB n]at hy hc;(have g:(KS G L)[j+1]?=some y.s.ownBlock:=by simp[KS,hy]);refine(h.m j y c hy hc).keeps hk (λb d=>⟨λk=>?_,λe=>?_⟩) λb u k=>⟨k.1,λm=>?_⟩;(.rcases d with rfl|d;(.exact k.2 (y5 ..));.exact k.2 (by rw[<-d];exact yr hu));(.rcases d with rfl|d;(.have:=zt.1 h.nd 0 (j+1) (by simp[KS]) (yp.1 g).1 (by omega) b (by simp[KS]);rw[(yp.1 g).2]at this;exact this e);.rcases BK n with r|r;(.have:=zt.1 h.nd (i+1) (j+1) (yp.1 hu).1 (yp.1 g).1 (by omega) b (by rw[(yp.1 hu).2,d]);rw[(yp.1 g).2]at this;exact this e);.have:=zt.1 h.nd (j+1) (i+1) (yp.1 g).1 (yp.1 hu).1 (by omega) b (by rw[(yp.1 g).2,e]);rw[(yp.1 hu).2]at this;exact this d);.rcases s b m with h1|h1;(.exact k.2 h1);.omega
 .rw[o];exact j2 h.nd t hu l
 .exact h.aC.trans (hk.toBelow (B:=w0.heap.size) (λb d=>by rcases d with rfl|e;(.exact(h.lt _ (y5 ..)).1);.exact(h.lt b (by rw[<-e];exact yr hu)).1) h.aC.size)
end KnB
end Go.Proofs.YthmegpnhjnphlaaGreat
namespace Go.Proofs.YthmegpnhjnphlaaGreat
open Go.RowKit
def c0(t:aI)(kind:Int)(a:Nat×Nat×Nat)(j:Nat)(x:bG):ep where
 high:=if j<a.1 then(cj t kind j x).high else none
 a2:=((t.a2.take a.2.1).filter λf=>decide (f.kind=kind)&&decide (f.move=(j:Int))).map (·.bM)
 bX:=((t.bX.take a.2.2).filter λc=>decide (c.kind=kind)&&decide (c.move=(j:Int))).length
def dh(t:aI)(kind:Int)(a:Nat×Nat×Nat):List ep:=t.ev.au.mapIdx λj x=>c0 t kind a j x
variable {t:aI} {kind:Int} {a b:Nat×Nat×Nat} {p i:Nat} {x:bG}
theorem hJ(j:Nat):(dh t kind a)[j]?=(t.ev.au[j]?).map (c0 t kind a j):=by unfold dh;rw[y_]
theorem qA:(dh t kind a).length=t.ev.au.length:=by simp[dh]
theorem nL(h:∀j x,t.ev.au[j]?=some x->c0 t kind a j x=c0 t kind b j x):dh t kind a=dh t kind b:=za λj=>by
 rw[hJ,hJ];cases hx:t.ev.au[j]? with
 |none=>rfl
 |some x=>simp[h j x hx]
theorem mU(hx:t.ev.au[p]?=some x)(h:∀j x,j≠p->c0 t kind a j x=c0 t kind b j x):dh t kind a=(dh t kind b).set p (c0 t kind a p x):=za λj=>by
 rw[yZ,hJ,hJ];by_cases c:p=j;.subst c;rw[yK rfl,yK (by rw[qA];exact(yp.1 hx).1),hx];rfl
 .rw[yB c];cases t.ev.au[j]? with
  |none=>rfl
  |some y=>simp[h j y (λe=>c e.symm)]
theorem sV{k c:Nat}(hx:t.ev.au[i]?=some x):dh t kind (i+1,k,c)=(dh t kind (i,k,c)).set i (c0 t kind (i+1,k,c) i x):=mU hx λj y a=>by
 unfold c0;have:(j<i+1)↔(j<i):=by omega
 simp only[this]
theorem ue{k c:Nat}:c0 t kind (i+1,k,c) i x={c0 t kind (i,k,c) i x with high:=(cj t kind i x).high}:=by unfold c0;simp
theorem tz{k c:Nat}(hx:t.ev.au[i]?=some x)(h:(cj t kind i x).high=none):dh t kind (i+1,k,c)=dh t kind (i,k,c):=nL λj y hy=>by
 unfold c0;by_cases a:j=i;.subst a;rw[hx]at hy;injection hy with hy;subst hy;simp[h]
 .have:(j<i+1)↔(j<i):=by omega
  simp only[this]
theorem u6{k c:Nat}{f:b8}(a:t.a2[k]?=some f)(hk:f.kind=kind)(hp:f.move=(p:Int))(hx:t.ev.au[p]?=some x):dh t kind (i,k+1,c)=(dh t kind (i,k,c)).set p {c0 t kind (i,k,c) p x with a2:=(c0 t kind (i,k,c) p x).a2++[f.bM]}:=by
 rw[mU hx (b:=(i,k,c)) λj y d=>by
  unfold c0;simp only[yz,a,zm];have:¬(p:Int)=(j:Int):=by omega
  simp[hp,this]]
 congr 1;unfold c0;simp[yz,a,zm,hk,hp]
theorem w7{k c:Nat}{f:b8}(a:t.a2[k]?=some f)(hk:¬f.kind=kind):dh t kind (i,k+1,c)=dh t kind (i,k,c):=nL λj y hy=>by unfold c0;simp[yz,a,zm,hk]
theorem uF{k c:Nat}{f:fe}(a:t.bX[c]?=some f)(hk:f.kind=kind)(hp:f.move=(p:Int))(hx:t.ev.au[p]?=some x):dh t kind (i,k,c+1)=(dh t kind (i,k,c)).set p {c0 t kind (i,k,c) p x with bX:=(c0 t kind (i,k,c) p x).bX+1}:=by
 rw[mU hx (b:=(i,k,c)) λj y d=>by
  unfold c0;simp only[yz,a,zm];have:¬(p:Int)=(j:Int):=by omega
  simp[hp,this]]
 congr 1;unfold c0;simp[yz,a,zm,hk,hp]
theorem v8{k c:Nat}{f:fe}(a:t.bX[c]?=some f)(hk:¬f.kind=kind):dh t kind (i,k,c+1)=dh t kind (i,k,c):=nL λj y hy=>by unfold c0;simp[yz,a,zm,hk]
theorem vG:dh t kind (t.ev.au.length,t.a2.length,t.bX.length)=fQ t kind:=za λj=>by
 unfold fQ;rw[hJ,y_];cases hx:t.ev.au[j]? with
 |none=>rfl
 |some x=>have:=(yp.1 hx).1;simp[c0,this,cj]
theorem tW(j:Nat)(y:ep)(h:(dh t kind (0,0,0))[j]?=some y):y=⟨none,[],0⟩:=by
 rw[hJ]at h;cases hx:t.ev.au[j]? with
 |none=>rw[hx]at h;cases h
 |some x=>rw[hx]at h;injection h with h;rw[<-h];simp[c0]
theorem KnB.start{R:Nat->Prop}{w0 w:World}{G n:Nat}(hn:n=t.ev.au.length)(h:Own w w0.heap.size 117 7 (.slice (some ⟨G,0,none⟩) n n) n (List.replicate n c3.zero.cs))(c:Below w0.heap.size w0 w):KnB R w0 w G (List.replicate n c3.zero) (dh t kind (0,0,0)):=by
 refine⟨by simpa using h,by rw[qA,zJ,hn],λi x a hx d=>?_,?_,c⟩;.have h1:x=c3.zero:=z4 (yr hx);subst h1;rw[tW i a d];exact⟨rfl,(λ_ h=>nomatch h),Own.bl _ _ _ _,rfl⟩
 .have e:(List.replicate n c3.zero).map (λx=>x.s.ownBlock)=List.replicate n none:=by simp[c3.zero,Value.ownBlock]
  rw[KS,e,BL];refine⟨λb c k _=>?_,List.pairwise_replicate.2 (.inr λk h=>nomatch h)⟩;rw[z4 c];exactλh=>nomatch h
structure lJ(t:aI):Prop where
 ev:ib t.ev
 fn:t.a2.length<=20
 kn:t.bX.length<=50
 fi:∀f∈t.a2,0<=f.move/\f.move<(t.ev.au.length:Int)/\1<=f.bM/\f.bM<=1099511627776
 cl:∀c∈t.bX,0<=c.move/\c.move<(t.ev.au.length:Int)
theorem o7{e:bf}{m k:Int}(h:gm e m k=0):0<=m/\m<(e.au.length:Int):=by
 unfold gm at h;split at h;.cases h
 .omega
theorem oJ{e:bf}:∀{l:List b8},eZ e l=0->∀f∈l,0<=f.move/\f.move<(e.au.length:Int)/\1<=f.bM/\f.bM<=1099511627776
 |f::l,h,x,hx=>by
  rw[eZ]at h;split at h;.contradiction
  .rename_i h1;split at h;(.cases h);.rename_i h2;rcases zd.1 hx with rfl|hx;(.have:=o7 (z9.1 h1);omega);.exact oJ h x hx
theorem q0{e:bf}:∀{l:List fe},gR e l=0->∀c∈l,0<=c.move/\c.move<(e.au.length:Int)
 |c::l,h,x,hx=>by
  rw[gR]at h;split at h;.contradiction
  .rename_i h1;rcases zd.1 hx with rfl|hx;(.exact o7 (z9.1 h1));.exact q0 h x hx
theorem cN{t:aI}(h:cT t=0):lJ t:=by
 have a:=kI h;unfold cT at h;rw[yB (by simp[a])]at h;split at h;.cases h
 .rename_i h1;split at h;.contradiction
  .rename_i h2;exact⟨mw a,by omega,by omega,oJ (z9.1 h2),q0 h⟩
namespace KnB
variable {R:Nat->Prop} {w0 w w':World} {G:Nat} {L:List c3} {M:List ep} {y:c3} {m:ep}
theorem get(h:KnB R w0 w G L M)(hx:L[i]?=some y):G<w.heap.size/\(∀j u,y.cs[j]?=some u->w.cell? ⟨G,i*7+j,none⟩=some u)/\∀j,w.frozen? ⟨G,j,none⟩=false:=by obtain⟨g,c,e,-,h1,h2,a⟩:=h.arr.at_ (i:=i) (x:=y.cs) (by rw[yG,hx];rfl);simp only[zT,zL,Ai,Au,A9]at e;obtain⟨rfl,rfl⟩:=e;exact⟨h1,h2,a⟩
theorem oZ{d:World}(h:KnB R d w G L M)(c:Below w0.heap.size w0 d):KnB R w0 w G L M:=⟨h.arr.mono c.size,h.len,λi x a hx b=>⟨(h.m i x a hx b).sm,(h.m i x a hx b).hi,(h.m i x a hx b).fs.mono c.size,(h.m i x a hx b).cl⟩,h.nd,c.trans (h.aC.mono c.size)⟩
theorem high(h:KnB R w0 w G L M)(hx:L[i]?=some y)(c:M[i]?=some m)(f:FC)(d:Int)(b:Bool)(hi:Option Rat)(t:hi.isSome=b)(g:∀z,hi=some z->d=1/\Fr (λb=>R b/\some b∉KS G L) w f z):KnB R w0 (((((w.setCell ⟨G,i*7,none⟩ (.int .i64 f.s)).setCell ⟨G,i*7+1,none⟩ (.slice f.A f.n f.c)).setCell ⟨G,i*7+2,none⟩ (.int .i64 d)).setCell ⟨G,i*7+3,none⟩ (.slice f.A' f.n' f.c')).setCell ⟨G,i*7+4,none⟩ (.bool b)) G (L.set i {y with f:=f,d:=d,b:=b}) (M.set i {m with high:=hi}):=by
 have hk:∀(u:World) o v,aw (λb=>b=G) u (u.setCell ⟨G,o,none⟩ v):=λu o v=>aw.setCell (F:=λb=>b=G) (p:=⟨G,o,none⟩) rfl v;have a:aw (λb=>b=G) w (((((w.setCell ⟨G,i*7,none⟩ (.int .i64 f.s)).setCell ⟨G,i*7+1,none⟩ (.slice f.A f.n f.c)).setCell ⟨G,i*7+2,none⟩ (.int .i64 d)).setCell ⟨G,i*7+3,none⟩ (.slice f.A' f.n' f.c')).setCell ⟨G,i*7+4,none⟩ (.bool b)):=((((hk _ _ _).trans' (hk _ _ _)).trans' (hk _ _ _)).trans' (hk _ _ _)).trans' (hk _ _ _);have hs:KS G (L.set i {y with f:=f,d:=d,b:=b})=KS G L:=by unfold KS;rw[z'];congr 1;exact za λj=>by rw[yZ];by_cases l:i=j;(.subst l;rw[yK rfl,yG,hx,yK (by simpa using(yp.1 hx).1)];rfl);.rw[yB l]
 have hl:=(yp.1 hx).1;have hm:=h.m i y m hx c;refine h.mi hx c ⟨a.os,a.tape,a.output,a.size,λk A B=>a.block k A λe=>B (.inl e)⟩ ?_ (.inl rfl) ?_;.have h1:=h.arr.stored (i:=i) (j:=0) (x:=y.cs) (by rw[yG,hx];rfl) (by decide) (.int .i64 f.s);have h2:=h1.stored (i:=i) (j:=1) (x:=y.cs.set 0 (.int .i64 f.s)) (by simp[hl]) (by decide) (.slice f.A f.n f.c);have q:=h2.stored (i:=i) (j:=2) (x:=(y.cs.set 0 (.int .i64 f.s)).set 1 (.slice f.A f.n f.c)) (by simp[hl]) (by decide) (.int .i64 d);have r:=q.stored (i:=i) (j:=3) (x:=((y.cs.set 0 (.int .i64 f.s)).set 1 (.slice f.A f.n f.c)).set 2 (.int .i64 d)) (by simp[hl]) (by decide) (.slice f.A' f.n' f.c');have s:=r.stored (i:=i) (j:=4) (x:=(((y.cs.set 0 (.int .i64 f.s)).set 1 (.slice f.A f.n f.c)).set 2 (.int .i64 d)).set 3 (.slice f.A' f.n' f.c')) (by simp[hl]) (by decide) (.bool b);simpa[z']using s
 .rw[hs];exact⟨t,λz n=>⟨(g z n).1,(g z n).2.keeps a (by rintro b rfl C;exact C.2 (y5 ..))⟩,hm.fs.keeps a (by rintro b e rfl;have:=zt.1 h.nd 0 (i+1) (by simp[KS]) (by simp[KS,hl]) (by omega) b (by simp[KS]);exact this (by simpa[KS,(yp.1 hx).2]using e)),hm.cl⟩
theorem find(h:KnB R w0 w G L M)(hx:L[i]?=some y)(o:M[i]?=some m)(g:Int)(v:Value)(u:Own w' w0.heap.size 3 1 v (m.a2++[g]).length (ao (m.a2++[g])))(hg:w.grownBy w' y.s.ownBlock)(l:v.ownBlock=y.s.ownBlock\/v.ownBlock=some w.heap.size):KnB R w0 (w'.setCell ⟨G,i*7+5,none⟩ v) G (L.set i {y with s:=v}) (M.set i {m with a2:=m.a2++[g]}):=by
 have hl:=(yp.1 hx).1;have hm:=h.m i y m hx o;have r:∀b,y.s.ownBlock=some b->b≠G:=by rintro b e rfl;have:=zt.1 h.nd 0 (i+1) (by simp[KS]) (by simp[KS,hl]) (by omega) b (by simp[KS]);exact this (by simpa[KS,(yp.1 hx).2]using e)
 have C:=h.arr.lt G rfl;have A:∀b,v.ownBlock=some b->b≠G:=λb e=>by
  rcases l with h1|h1;.exact r b (h1▸e)
  .rw[h1]at e;injection e with e;omega
 have hk:aw (λb=>b=G\/y.s.ownBlock=some b) w (w'.setCell ⟨G,i*7+5,none⟩ v):=aw.trans' ⟨hg.os,hg.tape,hg.output,hg.size,λk h1 h2=>hg.block k h1 λe=>h2 (.inr e.symm)⟩ (aw.setCell (F:=λb=>b=G\/y.s.ownBlock=some b) (p:=⟨G,i*7+5,none⟩) (.inl rfl) v);have h1:Own w' w0.heap.size 117 7 (.slice (some ⟨G,0,none⟩) L.length L.length) L.length (L.map c3.cs):=h.arr.kept hg (.inr λe=>r G e.symm rfl);refine h.mi hx o hk ?_ l ⟨hm.sm,λz t=>⟨(hm.hi z t).1,?_⟩,u.other (λe=>A G e rfl) v,hm.cl⟩;.have h2:=h1.stored (i:=i) (j:=5) (x:=y.cs) (by rw[yG,hx];rfl) (by decide) v;simpa[z']using h2
 .have hu:some G∈KS G L:=y5 ..;refine((((hm.hi z t).2.mono (Q:=λb=>(R b/\some b∉KS G (L.set i {y with s:=v}))/\(R b/\some b∉KS G L)) λb D a=>⟨⟨a.1,λn=>?_⟩,a⟩)).keeps hk ?_).mono λb _ a=>a.1;.rcases zd.1 n with e|n;(.exact a.2 (e▸hu));.obtain⟨q,B,c⟩:=yF.1 n;rcases zj B with d|d;(.exact a.2 (yL _ (yF.2 ⟨q,d,c⟩)));.subst d;rcases l with f|f;(.exact a.2 (yL _ (yF.2 ⟨y,yr hx,by rw[<-f];exact c⟩)));.rw[show({y with s:=v}:c3).s.ownBlock=v.ownBlock from rfl,f]at c;injection c with c;omega
  .rintro b(rfl|e) a;(.exact a.2.2 hu);.exact a.2.2 (yL _ (yF.2 ⟨y,yr hx,e⟩))
theorem clean(h:KnB R w0 w G L M)(hx:L[i]?=some y)(a:M[i]?=some m):KnB R w0 (w.setCell ⟨G,i*7+6,none⟩ (.int .i64 ((y.cl+1:Nat):Int))) G (L.set i {y with cl:=y.cl+1}) (M.set i {m with bX:=m.bX+1}):=by
 have hl:=(yp.1 hx).1;have hm:=h.m i y m hx a;have hk:aw (λb=>b=G) w (w.setCell ⟨G,i*7+6,none⟩ (.int .i64 ((y.cl+1:Nat):Int))):=aw.setCell (F:=λb=>b=G) (p:=⟨G,i*7+6,none⟩) rfl _;have hs:KS G (L.set i {y with cl:=y.cl+1})=KS G L:=by unfold KS;rw[z'];congr 1;exact za λj=>by rw[yZ];by_cases c:i=j;(.subst c;rw[yK rfl,yG,hx,yK (by simpa using hl)];rfl);.rw[yB c]
 refine h.mi hx a ⟨hk.os,hk.tape,hk.output,hk.size,λk f g=>hk.block k f λe=>g (.inl e)⟩ ?_ (.inl rfl) ?_;.have h1:=h.arr.stored (i:=i) (j:=6) (x:=y.cs) (by rw[yG,hx];rfl) (by decide) (.int .i64 ((y.cl+1:Nat):Int));rw[z'];exact h1
 .rw[hs];exact⟨hm.sm,λz d=>⟨(hm.hi z d).1,(hm.hi z d).2.keeps hk (by rintro b rfl l;exact l.2 (y5 ..))⟩,hm.fs.keeps hk (by rintro b e rfl;have:=zt.1 h.nd 0 (i+1) (by simp[KS]) (by simp[KS,hl]) (by omega) b (by simp[KS]);exact this (by simpa[KS,(yp.1 hx).2]using e)),by show m.bX+1=y.cl+1;rw[hm.cl]⟩
end KnB
