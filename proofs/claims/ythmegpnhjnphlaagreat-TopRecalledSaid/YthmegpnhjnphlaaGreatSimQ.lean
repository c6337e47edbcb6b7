import Derived.Test.YthmegpnhjnphlaaGreatTopG
set_option maxHeartbeats 4000000
set_option maxRecDepth 100000
namespace Go.Proofs.YthmegpnhjnphlaaGreat
open Go.RowKit
theorem eR{x y:Int}(h:x<y):dx x y=-1:=yK h
theorem eN{x y:Int}(h:y<x):dx x y=1:=by unfold dx;rw[yB (by omega),yK h]
theorem gC{x y:Int}(h:x=y):dx x y=0:=by unfold dx;rw[yB (by omega),yB (by omega)]
theorem tO{a b:List Nat}{i d e:Nat}(c:a[i]?=some d)(f:b[i]?=some e)(h:a.drop (i+1)=b.drop (i+1))(g:d=e):a.drop i=b.drop i:=by rw[kB c,kB f,h,g]
theorem ja(w:World)(A B:Option Addr)(n c m d:Nat)(x y:Nat)(j:Sl w 1 A n (ao (dz x)))(l:Sl w 1 B m (ao (dz y)))(hn:n<=100000000000)(hm:m<=100000000000)(r:Int)(t:dx x y=r):Calls Tryz.prog 148 #[.slice A n c,.slice B m d] w λe w'=>e=.returned (.int .i64 r)/\Below w.heap.size w w':=by
 have C:(ai x).length=n:=by have:=j.len;simpa[ao,dz]using this
 have D:(ai y).length=m:=by have:=l.len;simpa[ao,dz]using this
 have P:=yj j;have Q:=yj l;have v:=yj C;have z:=yj D;by_cases N:n=m
 .subst N;have J:=yj t;clear j l C D t hm;go_enter Tryz.func148,Tryz.ntmps148;go_wp2_with(fail);go_loopw[5] (λF wr=>∃k:Nat,k<=n/\F=.int .i64 ((k:Int)-1)/\(ai x).drop k=(ai y).drop k/\Below w.heap.size w wr) (λF _=>((intOf F)+1).toNat);case atStart=>exact⟨n,yq _,by go_num,by rw[ze (by rw[v.out];exact yq _),ze (by rw[z.out];exact yq _)],yl _ _⟩
  case round=>obtain⟨k,hk,s,hd,M⟩:=hrel;obtain⟨G,rfl⟩:∃G:World,G=wr:=⟨_,rfl⟩;have g:=yj M;clear M;rcases k with _|k;(.rw[show(((0:Nat):Int)-1)=-1 by omega]at s;subst s;have Z:x=y:=m' (by simpa using hd);have e:=J.out;rw[gC (by rw[Z])]at e;subst e;clear hd;go_wp2_with(fail);go_ret;exact⟨rfl,g.out⟩);.rw[show(((k+1:Nat):Int)-1)=(k:Int) by omega]at s;subst s;obtain⟨p,hp⟩:∃I,(ai x)[k]?=some I:=⟨_,yk (by rw[v.out];omega)⟩;obtain⟨q,f⟩:∃I,(ai y)[k]?=some I:=⟨_,yk (by rw[z.out];omega)⟩;obtain⟨b,o,rfl,bq,K⟩:=dO (P.out.ad g.out) (dK hp);obtain⟨V,bc,rfl,bs,L⟩:=dO (Q.out.ad g.out) (dK f);(have bv:(k:Int)<(n:Int):=by omega);have bu:(0:Int)<=(k:Int):=yo _;by_cases O:p=q;(.subst O;have T:=yj (tO hp f hd rfl);clear hp f hd;go_wp2_with(fail);go_quiet(fail);go_wp2_with(fail);go_roundw;(case rel=>exact⟨k,by omega,by go_num,T.out,fP g.out _⟩);case measure=>simp[intOf]);. (have X:¬((p:Int)=(q:Int)):=by omega);(have E:(ai x).length=(ai y).length:=by rw[v.out,z.out]);(have i:dx (p:Int) (q:Int)=r:=by rw[<-J.out];rcases BK O with h|h;(.have:=oP E (dj x) hp f hd h;rw[cm,cm]at this;rw[eR (by omega),eR (by omega)]);.have:=oP E.symm (dj y) f hp hd.symm h;rw[cm,cm]at this;rw[eN (by omega),eN (by omega)]);have S:Hid (∀W,Calls Tryz.prog 160 #[.int .i64 (p:Int),.int .i64 (q:Int)] W λe w'=>e=.returned (.int .i64 r)/\w'=W):=yj (λW=>(nU (p:Int) (q:Int) r W i).mono λ_ _ h=>⟨h.1,h.2.symm⟩);clear hp f hd i E;go_wp2_with(fail);go_quiet(fail);go_wp2_with(fail);generalize u:G.drewN _=H at*;(have bj:H.cell? ⟨b,o+k,none⟩=some (.int .i64 (p:Int)):=by rw[<-u];exact K);(have bk:H.cell? ⟨V,bc+k,none⟩=some (.int .i64 (q:Int)):=by rw[<-u];exact L);have U:Hid (Below w.heap.size w H):=yj (by rw[<-u];exact fP g.out _);clear u K L;go_quiet((go_at_call 160;exact Calls.quiet_of_same (S.out _)));go_wp2_with(fail);go_ret;exact⟨rfl,fP U.out _⟩
 .have i:dx (n:Int) (m:Int)=r:=by rw[<-t];rcases BK N with h|h;(.have:=p1 (a:=x) (b:=y) (by omega);rw[eR (by omega),eR (by omega)]);.have:=p1 (a:=y) (b:=x) (by omega);rw[eN (by omega),eN (by omega)]
  have X:¬((n:Int)=(m:Int)):=by omega
  have R:=yj (λW=>nU (n:Int) (m:Int) r W i);clear j l C D t i;go_enter Tryz.func148,Tryz.ntmps148;go_wp2_with((with_reducible refine(R.out _).mono ?_);rintro _ bw⟨rfl,Y⟩;obtain rfl:=Y);go_ret;exact⟨rfl,yl _ _⟩
end Go.Proofs.YthmegpnhjnphlaaGreat
namespace Go.Proofs.YthmegpnhjnphlaaGreat
theorem pR{s:Nat}(a:0<s)(h1:s<1048576):ai s=[s]:=by rw[gP a,show s/1048576=0 by omega,dy,BX h1]
theorem tw{l:List Nat}{k:Nat}(hl:l.length=k+3)(hd:Dg l):∃u1 u2 u3,l[k+2]?=some u1/\l[k+1]?=some u2/\l[k]?=some u3/\u1<1048576/\u2<1048576/\u3<1048576/\aq l=aq (l.take k)+1048576^k*(u3+1048576*(u2+1048576*u1))/\aq (l.take k)<1048576^k:=by
 obtain⟨u1,h1⟩:∃x,l[k+2]?=some x:=⟨_,yk (by omega)⟩;obtain⟨u2,h2⟩:∃x,l[k+1]?=some x:=⟨_,yk (by omega)⟩;obtain⟨u3,a⟩:∃x,l[k]?=some x:=⟨_,yk (by omega)⟩;refine⟨u1,u2,u3,h1,h2,a,hd.get h1,hd.get h2,hd.get a,?_,?_⟩;.rw[iy l k (by omega),jh a,jh h2,jh h1,ze (by omega)];simp[aq]
 .have:=gy (hd.take k);rwa[yS,y3 (by omega)]at this
theorem vS{l:List Nat}{k:Nat}(hl:l.length=k+2)(hd:Dg l):∃v1 v2,l[k+1]?=some v1/\l[k]?=some v2/\v1<1048576/\v2<1048576/\aq l=aq (l.take k)+1048576^k*(v2+1048576*v1)/\aq (l.take k)<1048576^k:=by
 obtain⟨u1,h1⟩:∃x,l[k+1]?=some x:=⟨_,yk (by omega)⟩;obtain⟨u2,h2⟩:∃x,l[k]?=some x:=⟨_,yk (by omega)⟩;refine⟨u1,u2,h1,h2,hd.get h1,hd.get h2,?_,?_⟩;.rw[iy l k (by omega),jh h2,jh h1,ze (by omega)];simp[aq]
 .have:=gy (hd.take k);rwa[yS,y3 (by omega)]at this
structure ig(W V v1 v2 u3 top g rest:Nat):Prop where
 sum:g*v1+rest=top
 ge:W/V<=g
structure Lead(W V v1 v2 u3 top:Nat):Prop where
 ll:0<v1
 rX:v1<1048576
 oC:v2<1048576
 uy:u3<1048576
 oE:top<1099511627776
 uj:0<V
 ex:∃P,0<P/\W<(top*1048576+u3+1)*P/\(top*1048576+u3)*P<=W/\(v1*1048576+v2)*P<=V/\V<(v1*1048576+v2+1)*P/\W<(top+1)*(1048576*P)/\v1*(1048576*P)<=V/\1048576*P<=V
namespace Lead
variable {W V v1 v2 u3 top g rest:Nat}
theorem start(h:Lead W V v1 v2 u3 top):ig W V v1 v2 u3 top (top/v1) (top%v1):=by obtain⟨P,c,_,_,_,_,a,b,_⟩:=h.ex;exact⟨by rw[zi];exact Nat.div_add_mod _ _,ta h.ll a b⟩
theorem big(_:Lead W V v1 v2 u3 top)(hi:ig W V v1 v2 u3 top g rest)(a:W/V<1048576)(hg:1048576<=g):ig W V v1 v2 u3 top (g-1) (rest+v1):=by
 refine⟨?_,by omega⟩;have:=hi.sum;have h1:(g-1)*v1+v1=g*v1:=by rw[<-A8];congr 1;omega
 omega
theorem more(h:Lead W V v1 v2 u3 top)(hi:ig W V v1 v2 u3 top g rest)(hg:rest*1048576+u3<g*v2):0<g/\ig W V v1 v2 u3 top (g-1) (rest+v1):=by
 obtain⟨P,d,h1,_,b,_⟩:=h.ex;have c:0<g:=by
  rcases yJ g with rfl|a;.rw[zz]at hg;omega
  .exact a
 refine⟨c,?_,wG h1 rfl b hi.sum hg h.uj⟩;have:=hi.sum;have h1:(g-1)*v1+v1=g*v1:=by rw[<-A8];congr 1;omega
 omega
theorem stop(h:Lead W V v1 v2 u3 top)(hi:ig W V v1 v2 u3 top g rest)(hg:g<1048576)(hs:1048576<=rest\/g*v2<=rest*1048576+u3):g<=W/V+1:=by obtain⟨P,c,_,h2,_,a,_,_,b⟩:=h.ex;exact rT hg h2 rfl a b hi.sum h.oC c hs
end Lead
theorem wV{c b:List Nat}{k:Nat}(x:Dg c)(v:Dg b)(y:c.length=k+3)(l:b.length=k+2)(d:fB b):∃u1 u2 u3 v1 v2,c[k+2]?=some u1/\c[k+1]?=some u2/\c[k]?=some u3/\b[k+1]?=some v1/\b[k]?=some v2/\u1<1048576/\u2<1048576/\Lead (aq c) (aq b) v1 v2 u3 (u1*1048576+u2):=by
 obtain⟨u1,u2,u3,m,n,o,p,b2,b3,u,A⟩:=tw y x;obtain⟨v1,v2,e,q,r,s,hV,z⟩:=vS l v;have w:0<v1:=by
  rcases yJ v1 with rfl|h;.exfalso;unfold fB at d;rw[AA,l]at d;exact d e
  .exact h
 have t:0<1048576^k:=AI (by omega);refine⟨u1,u2,u3,v1,v2,m,n,o,e,q,p,b2,w,r,s,b3,by omega,?_,1048576^k,t,?_⟩;.rw[hV];have:1048576^k*1<=1048576^k*(v2+1048576*v1):=yQ _ (by omega);omega
 .generalize 1048576^k=P at*;generalize aq (c.take k)=C at*;generalize aq (b.take k)=B at*;rw[u,hV];have f:∀a,(a+1)*P=P*a+P:=λa=>by rw[zI,AJ,zi]
  have g:∀a,a*P=P*a:=λa=>zi _ _;have i:(u1*1048576+u2)*1048576+u3=u3+1048576*(u2+1048576*u1):=by grind
  have j:v1*1048576+v2=v2+1048576*v1:=by rw[zi v1,AO]
  refine⟨?_,?_,?_,?_,?_,?_,?_⟩;.rw[i,f];omega
  .rw[i,g];omega
  .rw[j,g];omega
  .rw[j,f];omega
  .have h1:P*(u3+1048576*(u2+1048576*u1)+1)<=P*((u1*1048576+u2+1)*1048576):=yQ _ (by omega);(have h2:(u1*1048576+u2+1)*(1048576*P)=P*((u1*1048576+u2+1)*1048576):=by rw[<-zy,zi]);rw[h2];rw[zg]at h1;omega
  .have h1:P*(v1*1048576)<=P*(v2+1048576*v1):=yQ _ (by omega);(have h2:v1*(1048576*P)=P*(v1*1048576):=by rw[<-zy,zi]);rw[h2];omega
  .have h1:P*1048576<=P*(v2+1048576*v1):=yQ _ (by omega);rw[zi 1048576 P];omega
structure hP(X V j:Nat)(us qs:List Nat):Prop where
 h0:Dg us
 mS:Dg qs
 sum:X=aq qs*1048576^j*V+aq us
 lt:aq us<1048576^j*V
theorem hP.win{X V i m:Nat}{us qs:List Nat}(h:hP X V (i+1) us qs)(hV:V<1048576^m)(hl:i+m+1<=us.length):aq ((us.drop i).take (m+1))<V*1048576/\aq us=aq (us.take i)+1048576^i*aq ((us.drop i).take (m+1))/\aq (us.drop (i+m+1))=0:=by
 have h1:=iy us i (by omega);have h2:=iy (us.drop i) (m+1) (by rw[Al];omega);rw[AP,<-zU]at h2;have f:0<1048576^i:=AI (by omega);have c:=h.lt;have d:aq (us.drop (i+m+1))=0:=by
  rcases yJ (aq (us.drop (i+m+1)))with a|a;.exact a
  .exfalso;rw[h1,h2,zg,<-zy,<-A2]at c;have b:1048576^(i+(m+1))*1<=1048576^(i+(m+1))*aq (us.drop (i+m+1)):=yQ _ a;have e:1048576^(i+1)*V<=1048576^(i+1)*1048576^m:=yQ _ (yT hV);rw[<-A2,show i+1+m=i+(m+1) by omega]at e;omega
 rw[d,BP,y9]at h2;rw[h2]at h1;refine⟨?_,h1,d⟩;rw[h1,zM,zy]at c;have b:1048576^i*aq ((us.drop i).take (m+1))<1048576^i*(1048576*V):=by omega
 have:=Nat.lt_of_mul_lt_mul_left b;rw[zi V];exact this
theorem hP.next{X V i m:Nat}{us qs a:List Nat}(h:hP X V (i+1) us qs)(hV:V<1048576^m)(b:0<V)(hl:i+m+1<=us.length)(g:Dg a)(k:a.length=m+1)(j:aq a=aq ((us.drop i).take (m+1))%V):hP X V i (us.take i++a++us.drop (i+m+1)) ((aq ((us.drop i).take (m+1))/V)::qs):=by
 obtain⟨h1,h2,c⟩:=h.win hV hl;have hval:aq (us.take i++a++us.drop (i+m+1))=aq (us.take i)+1048576^i*(aq ((us.drop i).take (m+1))%V):=by rw[iJ,c,BP,y9,iJ,j,yS,y3 (by omega)]
 have d:=gy (h.h0.take i);rw[yS,y3 (by omega)]at d;generalize aq ((us.drop i).take (m+1))=W at*;have e:=Aq W V;have f:=Ap W b;refine⟨((h.h0.take i).append g).append (h.h0.drop _),Dg.cons ((AW b).2 (by rw[zi];exact h1)) h.mS,?_,?_⟩;.rw[hval,aq,h.sum,h2,zM];generalize W/V=q at*;generalize W%V=r at*;subst e;grind
 .rw[hval];have:1048576^i*(W%V+1)<=1048576^i*V:=yQ _ f;rw[zg]at this;omega
theorem hP.start{X V m K:Nat}(hm:(ai V).length=m)(c:0<m)(b:(ai X).length+1=K+m):hP X V K (ai X++[0]) []:=by
 have h1:aq (ai X++[0])=X:=by rw[h6,cm];simp
 refine⟨(dj X).append (Dg.cons (by omega) Dg.nil),Dg.nil,by rw[h1];simp[aq],?_⟩;rw[h1];have h2:1048576^(m-1)<=V:=by
  rcases zA V (1048576^(m-1))with h|h;.have:=ck h;omega
  .exact h
 have a:=g2 X;rw[show(ai X).length=K+(m-1) by omega,A2]at a;exact yx a (yQ _ h2)
theorem xm{t s j:Nat}(hs:s=2^j)(b:0<t)(a:t*s<524288):(t+1)*(s*2)<=1048576/\s*2=2^(j+1)/\s<=524287:=by
 have e:s<=t*s:=Nat.le_mul_of_pos_left _ b;have d:j<19:=by
  rcases zA j 19 with h|h;.exact h
  .exfalso;have:2^19<=2^j:=zw (by omega) h;(have c:(2:Nat)^19=524288:=by decide);omega
 have hk:s*2^(19-j)=524288:=by rw[hs,<-A2,show j+(19-j)=19 by omega]
 refine⟨?_,by rw[hs,zM],by omega⟩;rw[<-hk,zi s]at a;have h1:=Cf a;have h2:(t+1)*s<=2^(19-j)*s:=yU _ h1;rw[zi (2^(19-j)) s,hk]at h2;rw[<-zy];omega
theorem vE{y s t m:Nat}(hm:(ai y).length=m+1)(d:(ai y)[m]?=some t)(b:0<s)(hs:(t+1)*s<=1048576):(ai (y*s)).length=m+1:=by
 have h1:y<1048576^m*(t+1):=by have h2:=e4 d;rw[yv (by omega),cm]at h2;have a:=gy ((dj y).take m);rw[yS,y3 (by omega)]at a;rw[zg];omega
 have h2:y*s<1048576^(m+1):=by have a:y*s<1048576^m*(t+1)*s:=Nat.mul_lt_mul_of_pos_right h1 b;rw[zy]at a;have c:1048576^m*((t+1)*s)<=1048576^m*1048576:=yQ _ hs;rw[zM];omega
 have a:=ck h2;have c:=fz (Bi y b);omega
end Go.Proofs.YthmegpnhjnphlaaGreat
namespace Go.Proofs.YthmegpnhjnphlaaGreat
open Go.RowKit
def eu(w w':World)(v:Value)(x:Nat):Prop:=∃A c,v=.slice A (ai x).length c/\(ai x).length<=c/\b9 w w' 1 A (ai x).length (ao (dz x))
theorem fA.f{w w':World}{v:Value}{x:Nat}(h:fA w w' v x):eu w w' v x:=by obtain⟨A,c,rfl,a,b⟩:=h;exact⟨A,c,rfl,fF a,a.sl',a.fresh⟩
theorem eu.mono{w w0 w':World}{v:Value}{x:Nat}(h:eu w w' v x)(a:w0.heap.size<=w.heap.size):eu w0 w' v x:=by obtain⟨A,c,rfl,h1,h2⟩:=h;exact⟨A,c,rfl,h1,h2.mono a⟩
theorem b9.ad{w a b:World}{size n:Nat}{A:Option Addr}{xs:List (List Value)}(h:b9 w a size A n xs)(c:Below a.heap.size a b):b9 w b size A n xs:=⟨h.1.ad c,h.2⟩
theorem eu.ad{w a b:World}{v:Value}{x:Nat}(h:eu w a v x)(d:Below a.heap.size a b):eu w b v x:=by obtain⟨A,c,rfl,h1,h2⟩:=h;exact⟨A,c,rfl,h1,h2.ad d⟩
theorem eu.nil(w w':World):eu w w' (.slice none 0 0) 0:=⟨none,0,by rw[dy];rfl,by rw[dy];exact yq _,by rw[dz,dy];exact b9.bl _ _ _⟩
theorem Sl.aD{w:World}{size n k:Nat}{A:Option Addr}{xs:List (List Value)}(h:Sl w size A n xs)(hk:k<=n):Sl w size A k (xs.take k):=by
 refine⟨by rw[yS,h.1];omega,λi x hx=>?_⟩;rw[AH]at hx;split at hx;.exact h.2 i x hx
 .cases hx
theorem n_(w:World)(A:Option Addr)(n c d:Nat)(x:Nat)(a:Sl w 1 A n (ao (dz x)))(hn:n<=100000000000)(b:0<d)(f:d<1048576)(q r:Nat)(g:x/d=q)(h:x%d=r):Calls Tryz.prog 157 #[.slice A n c,.int .i64 (d:Int)] w λe w'=>∃v,e=.returned (.tuple #[v,.int .i64 (r:Int)])/\fA w w' v q:=by subst g h;exact sQ w A n c d x a hn b f
theorem kf(W:World)(v:Nat)(_:v<1048576):Sl (W.alloc (.cells #[.int .i64 (v:Int)] 3)) 1 (some ⟨W.heap.size,0,none⟩) 1 (ao (nz [v])):=Sl.C W 3 [.int .i64 (v:Int)]
theorem div_lt(w:World)(A B:Option Addr)(n c m d:Nat)(x y:Nat)(b:Sl w 1 A n (ao (dz x)))(l:Sl w 1 B m (ao (dz y)))(hn:n<=10000000000)(hm:m<=10000000000)(s:x<y):Calls Tryz.prog 144 #[.slice A n c,.slice B m d] w λe w'=>∃v1 v2,e=.returned (.tuple #[v1,v2])/\eu w w' v1 (x/y)/\eu w w' v2 (x%y)/\Below w.heap.size w w':=by
 have q:(ai x).length=n:=by have:=b.len;simpa[ao,dz]using this
 have u:=yj (ja w A B n c m d x y b l (by omega) (by omega) (-1) (eR (by omega)));have t:=yj (λW (h:Below w.heap.size w W)=>js A n c _ W (b.ad h) (by omega));have j:=yj s;have i:=yj q;clear b l s q;go_enter Tryz.func144,Tryz.ntmps144;go_wp2_with(first|((with_reducible refine(u.out).mono ?_);rintro _ z⟨rfl,o⟩;have a:=yj o;clear o)|((with_reducible refine(t.out _ a.out).mono ?_);rintro _ C⟨f,k,rfl,r,p⟩;have v:=yj r;have g:=yj p;clear r p));go_ret2;refine⟨_,_,rfl,?_,?_,a.out.trans (g.out.mono a.out.size)⟩;.rw[BZ j.out];exact eu.nil _ _
 .rw[BX j.out];have h:fA z C (.slice f n k) x:=⟨f,k,by rw[i.out],by rw[i.out];exact v.out,g.out⟩;exact h.f.mono a.out.size
theorem div_one(w:World)(A B:Option Addr)(n c d:Nat)(x y:Nat)(t:Sl w 1 A n (ao (dz x)))(i:Sl w 1 B 1 (ao (dz y)))(hn:n<=10000000000)(Y:y<=x):Calls Tryz.prog 144 #[.slice A n c,.slice B 1 d] w λe w'=>∃v1 v2,e=.returned (.tuple #[v1,v2])/\eu w w' v1 (x/y)/\eu w w' v2 (x%y)/\Below w.heap.size w w':=by
 have k:(ai y).length=1:=by have:=i.len;simpa[ao,dz]using this
 have m:0<y:=by
  rcases yJ y with rfl|h;.rw[dy]at k;cases k
  .exact h
 have p:y<1048576:=by have:=g2 y;rw[k]at this;simpa using this
 have L:(ai y)[0]?=some y:=by rw[pR m p];rfl
 obtain⟨r,C⟩:∃r,dx (x:Int) (y:Int)=r:=⟨_,rfl⟩;have bw:0<=r:=by
  rw[<-C];rcases zA y x with h|h;.rw[eN (by omega)];decide
  .rw[gC (by omega)];decide
 have M:=yj (ja w A B n c 1 d x y t i (by omega) (by omega) r C);obtain⟨q,K⟩:∃q,x/y=q:=⟨_,rfl⟩;obtain⟨a,D⟩:∃q,x%y=q:=⟨_,rfl⟩;have O:=yj (λW (h:Below w.heap.size w W)=>n_ W A n c y x (t.ad h) (by omega) m p q a K D);have G:=yj (λW (h:Below w.heap.size w W)=>dO (i.ad h) (dK L));rw[K,D];have g:Hid (a<1048576):=yj (by rw[<-D];exact Nat.lt_trans (Ap _ m) p);have P:=yj (λW=>hR _ _ 1 1 [a] (kf W a g.out) (yq _) (by omega) (Dg.cons g.out Dg.nil));clear t i Y k m p L C;obtain⟨bz,bq,bs,bu,bv⟩:=yR ei;obtain⟨b,o,rfl,_,_⟩:=G.out w (yl _ _);go_enter Tryz.func144,Tryz.ntmps144;go_wp2_with((with_reducible refine(M.out).mono ?_);rintro _ Z⟨rfl,u⟩;have f:=yj u;obtain⟨bj,bA,z,bk,Q⟩:=G.out _ u;injection z with z;injection z with S T;subst S T;rw[y9]at Q;clear u);go_wp2_with(first|((with_reducible refine(O.out _ f.out).mono ?_);rintro _ E⟨v,rfl,J⟩;have N:=yj J;clear J)|((with_reducible refine(P.out _).mono ?_);rintro _ bB⟨rfl,X⟩;obtain rfl:=X));go_ret2;have U:=N.out;obtain⟨F,H,rfl,V,j⟩:=U;have I:=az E (.cells #[.int .i64 (a:Int)] 3);refine⟨_,_,rfl,?_,?_,(f.out.trans (j.mono f.out.size)).trans (I.mono (yt f.out.size j.size))⟩;.have h:fA Z E (.slice F (ai (q)).length H) (q):=⟨F,H,rfl,V,j⟩;exact(h.f.mono f.out.size).ad I
 .have h:=kf E a g.out;obtain⟨h1,h2⟩:=iW (l:=[a]) (Dg.cons g.out Dg.nil);have R:aq [a]=a:=by simp[aq]
  rw[R]at h1 h2⊢;refine⟨_,_,rfl,h2,?_,λbc e=>by injection e with e;rw[<-e];exact yt f.out.size j.size⟩;have s:=Sl.aD h h2;unfold ao at s;rw[<-AE,ko,h1]at s;exact s
end Go.Proofs.YthmegpnhjnphlaaGreat
namespace Go.Proofs.YthmegpnhjnphlaaGreat
def Fit(k:Nat)(q:Rat):Prop:=q.num.natAbs<1048576^k/\q.den<1048576^k
theorem gJ{k l:Nat}(h:k<=l):1048576^k<=1048576^l:=zw (by omega) h
theorem o9(k:Nat):0<1048576^k:=AI (by omega)
theorem Fit.mono{k l:Nat}{q:Rat}(h:Fit k q)(hk:k<=l):Fit l q:=⟨yx h.1 (gJ hk),yx h.2 (gJ hk)⟩
theorem mZ{k:Nat}{n:Int}{d:Nat}(hn:n.natAbs<1048576^k)(hd:d<1048576^k)(hk:0<k):Fit k (mkRat n d):=by
 refine⟨?_,?_⟩
 .rw[Rat.num_mkRat];split;.exact o9 _
  .exact A_ (by rw[Int.natAbs_ediv_of_dvd (Int.ofNat_dvd_left.2 (AN _ _))];exact Bs _ _) hn
 .rw[Rat.den_mkRat];split;.have:1048576^1<=1048576^k:=gJ hk;omega
  .exact A_ (Bs _ _) hd
theorem jr{a b k l:Nat}(c:a<1048576^k)(d:b<1048576^l):a*b<1048576^(k+l):=by rw[A2];exact Nat.mul_lt_mul'' c d
theorem Fit.mul{k l:Nat}{a b:Rat}(c:Fit k a)(d:Fit l b)(hk:0<k):Fit (k+l) (a*b):=by rw[Rat.mul_def'];exact mZ (by rw[AQ];exact jr c.1 d.1) (jr c.2 d.2) (by omega)
theorem Fit.add{k l:Nat}{a b:Rat}(c:Fit k a)(d:Fit l b):Fit (k+l+1) (a+b):=by
 rw[Rat.add_def'];refine mZ ?_ (yx (jr c.2 d.2) (gJ (by omega))) (by omega);have h1:(a.num*b.den).natAbs<1048576^(k+l):=by rw[AQ,yy];exact jr c.1 d.2
 have h2:(b.num*a.den).natAbs<1048576^(k+l):=by rw[AQ,yy,AO];exact jr d.1 c.2
 have e:=Int.natAbs_add_le (a.num*b.den) (b.num*a.den);rw[zM];omega
theorem Fit.neg{k:Nat}{a:Rat}(b:Fit k a):Fit k (-a):=⟨by rw[By,zk];exact b.1,by rw[Rat.neg_den];exact b.2⟩
theorem Fit.sub{k l:Nat}{a b:Rat}(c:Fit k a)(d:Fit l b):Fit (k+l+1) (a-b):=by rw[Rat.sub_eq_add_neg];exact c.add d.neg
theorem Fit.inv{k:Nat}{a:Rat}(b:Fit k a)(hk:0<k):Fit k a⁻¹:=by
 have h1:1048576^1<=1048576^k:=gJ hk;refine⟨?_,?_⟩
 .rw[Rat.num_inv,AQ,yy];have h2:a.num.sign.natAbs<=1:=by rcases zb a.num 0 with h|h|h;(.rw[yD h];decide);(.rw[h];decide);.rw[yA h];decide
  exact A_ (by have:=yU a.den h2;omega) b.2
 .rw[Rat.den_inv];split;.omega
  .exact b.1
theorem Fit.div{k l:Nat}{a b:Rat}(c:Fit k a)(d:Fit l b)(hk:0<k)(hl:0<l):Fit (k+l) (a/b):=by rw[Aa];exact c.mul (d.inv hl) hk
theorem fu{k:Nat}(hk:0<k):Fit k 0:=by have:1048576^1<=1048576^k:=gJ hk;exact⟨by simp;omega,by simp;omega⟩
theorem hD{k:Nat}(hk:0<k):Fit k 1:=by have:1048576^1<=1048576^k:=gJ hk;exact⟨by simp;omega,by simp;omega⟩
namespace Dict
section
variable {m n:Nat}
structure e0(m n k:Nat)(D:Dict):Prop where
 v:∀i,i<m->Fit k (D.v i)
 a:∀i j,i<m->j<n->Fit k (D.a i j)
 g:∀j,j<n->Fit k (D.g j)
theorem e0.mono{k l:Nat}{D:Dict}(h:e0 m n k D)(hl:k<=l):e0 m n l D:=⟨λi hi=>(h.v i hi).mono hl,λi j hi a=>(h.a i j hi a).mono hl,λj a=>(h.g j a).mono hl⟩
theorem e0.a8{k:Nat}{D:Dict}(h:e0 m n k D)(hk:0<k){r s:Nat}(b:r<m)(hs:s<n):e0 m n (5*k) (D.a8 r s):=by
 have hp:=h.a r s b hs;have h1:Fit k (1/D.a r s):=by rw[Aa,Rat.one_mul];exact hp.inv hk
 refine⟨λi hi=>?_,λi j hi a=>?_,λj a=>?_⟩
 .simp only[Dict.a8];split;.exact((h.v r b).div hp hk hk).mono (by omega)
  .exact((h.v i hi).sub ((h.a i s hi hs).mul ((h.v r b).div hp hk hk) hk)).mono (by omega)
 .simp only[Dict.a8];split<;>split;.exact h1.mono (by omega)
  .exact((h.a r j b a).div hp hk hk).mono (by omega)
  .exact((fu (k:=1) (by omega)).sub ((h.a i s hi hs).mul h1 hk)).mono (by omega)
  .exact((h.a i j hi a).sub ((h.a i s hi hs).mul ((h.a r j b a).div hp hk hk) hk)).mono (by omega)
 .simp only[Dict.a8];split;.exact((fu (k:=1) (by omega)).sub ((h.g s hs).mul h1 hk)).mono (by omega)
  .exact((h.g j a).sub ((h.g s hs).mul ((h.a r j b a).div hp hk hk) hk)).mono (by omega)
inductive Path(m n:Nat)(D:Dict):Nat->Dict->Prop|here:Path m n D 0 D|step {t:Nat} {E:Dict} {r s:Nat}:Path m n D t E->r<m->s<n->E.a r s≠0->Path m n D (t+1) (E.a8 r s)
theorem Path.ok{D E:Dict}{t:Nat}(h:Path m n D t E)(a:D.Ok m n):E.Ok m n:=by
 induction h with
 |here=>exact a
 |step _ b hs _ c=>exact c.a8 b hs
theorem Path.same{D E:Dict}{t:Nat}(h:Path m n D t E):Same m n D E:=by
 induction h with
 |here=>exact Same.refl _
 |step _ a hs hp b=>exact b.trans (Same.a8 a hs hp)
theorem Path.fit{D E:Dict}{t k:Nat}(h:Path m n D t E)(hk:0<k)(a:e0 m n k D):e0 m n (5^t*k) E:=by
 induction h with
 |here=>simpa using a
 |step _ b hs _ c=>have:=c.a8 (Be (AI (by omega)) hk) b hs;rw[zM,zi _ 5,zy];exact this
def eK(n:Nat)(D:Dict)(k:Nat):Prop:=∃j,j<n/\D.free j=k
noncomputable def apart(n:Nat)(D D':Dict):Nat->Nat|0=>0|j+1=>apart n D D' j+(open Classical in if eK n D' (D.free j)then 0 else 1)
theorem sP(D D':Dict)(j:Nat):apart n D D' j<=j:=by
 induction j with
 |zero=>exact yq _
 |succ j a=>simp only[apart];split<;>omega
theorem w1{D E D':Dict}{j:Nat}(h:∀i,i<j->(eK n D' (D.free i)↔eK n D' (E.free i))):apart n D D' j=apart n E D' j:=by
 induction j with
 |zero=>rfl
 |succ j a=>
  simp only[apart];rw[a λi hi=>h i (by omega)];have:=h j (by omega);by_cases e:eK n D' (D.free j);.rw[yK e,yK (this.1 e)]
  .rw[yB e,yB λe'=>e (this.2 e')]
theorem w5{D D':Dict}{r s j:Nat}(hs:s<j)(b:¬eK n D' (D.free s))(h1:eK n D' (D.own r)):apart n (D.a8 r s) D' j+1=apart n D D' j:=by
 induction j with
 |zero=>omega
 |succ j c=>
  simp only[apart];by_cases e:s=j;.subst e;rw[w1 (D:=D.a8 r s) (E:=D) λi hi=>by simp only[a8];rw[yB (by omega)]];(have a:(D.a8 r s).free s=D.own r:=by simp[a8]);rw[a,yK h1,yB b]
  .have:=c (by omega);(have a:(D.a8 r s).free j=D.free j:=by simp only[a8];rw[yB (by omega)]);rw[a];omega
theorem xX{D D':Dict}{j:Nat}(h:apart n D D' j=0):∀i,i<j->eK n D' (D.free i):=by
 induction j with
 |zero=>intro i hi;omega
 |succ j a=>
  simp only[apart]at h;intro i hi;by_cases e:i=j;.subst e;refine zF λhn=>?_;rw[yB hn]at h;omega
  .exact a (by omega) i (by omega)
theorem sI{D D':Dict}{j:Nat}(h:0<apart n D D' j):∃i,i<j/\¬eK n D' (D.free i):=by
 induction j with
 |zero=>simp[apart]at h
 |succ j b=>
  by_cases e:eK n D' (D.free j);.simp only[apart,yK e]at h;obtain⟨i,hi,a⟩:=b h;exact⟨i,by omega,a⟩
  .exact⟨j,by omega,e⟩
theorem wv{D D':Dict}(h:D.Ok m n)(d:D'.Ok m n)(hs:Same m n D D'){s:Nat}(b:s<n)(f:¬eK n D' (D.free s)):∃r,r<m/\D.a r s≠0/\eK n D' (D.own r):=by
 refine zF λhn=>?_;have p:∀r,r<m->eK n D' (D.own r)->D.a r s=0:=λr q hF=>zF λc=>hn ⟨r,q,c,hF⟩;have c:∀j,j<n->D.dir m n s (D'.free j)-D.cu m n (D'.free j)=0:=by
  intro j a;rcases h.all (D'.free j) (d.lt.2 j a)with⟨i,hi,e⟩|⟨v,g,e⟩;.rw[<-e,iR h hi b,gi h hi,p i hi ⟨j,a,e.symm⟩];grind
  .rw[<-e,hT h g b,fg h g,yB];(.grind);.rintro rfl;exact f ⟨j,a,e.symm⟩
 have o:=(hs.dJ _).1 (eM h λ_=>0);have hd:=(hs.dJ _).1 (eM h λk=>if k=D.free s then 1 else 0);rcases d.all (D.free s) (h.lt.2 s b)with⟨i,hi,e⟩|⟨j,a,e⟩
 .have h1:=o i hi;have h2:=hd i hi;have t:(a4 n λj=>D'.a i j*D.dir m n s (D'.free j))=a4 n λj=>D'.a i j*D.cu m n (D'.free j):=dV λj a=>by have:=c j a;grind
  have l:=hT h b b;have u:=fg h b;rw[yK rfl]at l;rw[e]at h1 h2;unfold dir cu at*;grind
 .exact f ⟨j,a,e⟩
theorem pN{D':Dict}(g:D'.Ok m n):∀(d:Nat)(D:Dict),D.Ok m n->Same m n D D'->apart n D D' n=d->∃E,Path m n D d E/\∀j,j<n->eK n D' (E.free j)
 |0,D,_,_,i=>⟨D,.here,xX i⟩
 |d+1,D,h,hs,i=>by
  obtain⟨s,e,k⟩:=sI (n:=n) (D:=D) (D':=D') (j:=n) (by omega);obtain⟨r,f,hp,hF⟩:=wv h g hs e k;obtain⟨E,l,o⟩:=pN g d (D.a8 r s) (h.a8 f e) ((Same.a8 f e hp).symm.trans hs) (by have:=w5 (n:=n) (j:=n) e k hF;omega);have key:∀t F,Path m n (D.a8 r s) t F->Path m n D (t+1) F:=by
   intro t F hF;induction hF with
   |here=>exact .step .here f e hp
   |step _ a b c p=>exact .step p a b c
  exact⟨E,key _ _ l,o⟩
theorem w2{D E:Dict}(h:D.Ok m n)(v:E.Ok m n)(hs:Same m n D E){k:Nat}(t:e0 m n k E)(h1:∀j,j<n->eK n E (D.free j))(h2:∀j,j<n->eK n D (E.free j)):e0 m n k D:=by
 have w:∀i,i<m->∃b,b<m/\E.own b=D.own i:=by
  intro i hi;rcases v.all (D.own i) (h.lt.1 i hi)with p|⟨j,a,e⟩;.exact p
  .obtain⟨d,l,e'⟩:=h2 j a;exact absurd (e.symm.trans e'.symm) (h.of i d hi l)
 have B:=(hs.dJ _).1 (eM h λ_=>0);have x:∀j,j<n->D.cu m n (E.free j)=0:=λj a=>by obtain⟨d,l,e⟩:=h2 j a;rw[<-e,fg h l]
 have A:∀i b,i<m->b<m->E.own b=D.own i->D.v i=E.v b:=by intro i b hi o e;have p:=B b o;rw[dV (g:=λ_=>0) λj a=>by have:=x j a;unfold cu at this;rw[this];grind,h9]at p;have r:=gi h hi;unfold cu at r;rw[e]at p;grind
 have y:∀s s',s<n->s'<n->E.free s'=D.free s->∀j,j<n->D.dir m n s (E.free j)=if j=s' then 1 else 0:=by
  intro s s' hs1 q e j a;obtain⟨d,l,e'⟩:=h2 j a;rw[<-e',hT h l hs1];by_cases g:d=s;.subst g;rw[yK rfl,yK (v.fi _ _ a q (e'.symm.trans e.symm))]
  .rw[yB g,yB];rintro rfl;exact g (h.fi _ _ l hs1 (e'.trans e))
 have z:∀s s',s<n->s'<n->E.free s'=D.free s->∀f:Nat->Rat,(a4 n λj=>f j*D.dir m n s (E.free j))=f s':=by intro s s' hs1 q e f;rw[h7 q,dV (g:=λ_=>0) λj a=>by by_cases g:j=s';(.rw[yK g]);.rw[yB g,y s s' hs1 q e j a,yB g];grind,h9,y s s' hs1 q e s' q,yK rfl];grind
 refine⟨λi hi=>?_,λi j hi a=>?_,λj a=>?_⟩;.obtain⟨b,o,e⟩:=w i hi;rw[A i b hi o e];exact t.v b o
 .obtain⟨b,o,e⟩:=w i hi;obtain⟨d,l,e'⟩:=h1 j a;have p:=(hs.dJ _).1 (eM h λk=>if k=D.free j then 1 else 0) b o;have r:=z j d a l e' (E.a b);have u:=iR h hi a;unfold dir at r u;rw[r,e]at p;have:D.a i j=E.a b d:=by have:=A i b hi o e;grind
  rw[this];exact t.a b d o l
 .obtain⟨d,l,e'⟩:=h1 j a;obtain⟨c,hc⟩:=hs.obj;have p:=hc _ (eM h λk=>if k=D.free j then 1 else 0);have r:=hc _ (eM h λ_=>0);have u:E.obj n (D.dir m n j)=E.g d:=z j d a l e' E.g;have C:E.obj n (D.cu m n)=0:=by rw[obj,dV (g:=λ_=>0) λi hi=>by rw[x i hi];grind,h9]
  have F:=lO h a;have G:=iX h;have:D.g j=E.g d:=by unfold dir cu at*;grind
  rw[this];exact t.g d l
theorem u0{D E:Dict}(h:D.Ok m n)(h1:∀j,j<n->eK n D (E.free j))(r:E.Ok m n):∀j,j<n->eK n E (D.free j):=by
 intro j s;rcases r.all (D.free j) (h.lt.2 j s)with⟨i,hi,e⟩|u
 .exfalso;have f:∀b,b<m->∃c,c<m/\c≠i/\E.own c=D.own b:=by intro b k;rcases r.all (D.own b) (h.lt.1 b k)with⟨c,v,d⟩|⟨y,w,d⟩;(.refine⟨c,v,?_,d⟩;rintro rfl;exact h.of b j k s (d.symm.trans e));.obtain⟨z,x,a⟩:=h1 y w;exact absurd (d.symm.trans a.symm) (h.of b z k x)
  obtain⟨p,q,B,C,a⟩:=mD m (λt=>if l:t<m then(Classical.choose (f t l))else i) λt _=>by split;(.rename_i l;exact(zS (f t l)).1);.exact hi
  have hp:p<m:=by omega
  simp only[dif_pos hp]at a;have o:=zS (f p hp);by_cases g:q<m;.simp only[dif_pos g]at a;have A:=zS (f q g);rw[a]at o;have:=h.oi _ _ hp g (o.2.2.symm.trans A.2.2);omega
  .simp only[dif_neg g]at a;exact o.2.1 a
 .exact u
theorem pV{a D:Dict}(c:a.Ok m n)(h:D.Ok m n)(hs:Same m n a D){k:Nat}(hk:0<k)(f:e0 m n k a):e0 m n (5^n*k) D:=by obtain⟨E,b,e⟩:=pN h (apart n a D n) a c hs rfl;have d:=b.ok c;have h1:=b.fit hk f;have h2:=w2 h d (hs.symm.trans b.same) h1 (u0 h e d) e;exact h2.mono (yU _ (zw (by omega) (sP a D n)))
end
end Dict
