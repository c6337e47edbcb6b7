import Derived.Test.YthmegpnhjnphlaaGreatTopEC
set_option maxHeartbeats 4000000
set_option maxRecDepth 100000
namespace Go.Proofs.YthmegpnhjnphlaaGreat
open Go.RowKit
theorem tB(w:World)(y:TC)(t:aI)(h:aV w y t)(m:cT t=0)(kind:Int)(k:Nat)(o:0<=kind->kind<8->SB (bp t kind) k)(l:0<=kind->kind<8->∀set,SB (fS t.ev (bp t kind) set) k)(g:t.ev.hh<=8):Calls Tryz.prog 14 #[y.v t,.int .i64 kind] w (qE t kind w):=by have q:=yj (λW (x:aV W y t)=>xG W y t x m kind k o l g);have e:=yj h;have a:=yj (yl w.heap.size w);clear h m o l g;go_enter Tryz.func14,Tryz.ntmps14;go_upto_region 1 with(fail);generalize f:w.alloc (.cells #[.int .i64 t.ev.bd,.int .i64 t.ev.hh,.int .i64 t.ev.bn,.slice y.x.PA y.x.pn y.x.pc,.slice y.x.MA y.x.mn y.x.mc,.slice y.x.CA y.x.cn y.x.cc,.slice y.x.RA y.x.rn y.x.rc,.slice y.x.UA y.x.un y.x.uc,.slice y.FA y.fn y.fc,.slice y.KA y.kn y.kc] 32)=F at*;have X:=yj (aA f);have d:=aB f;replace a:=yj (a.out.trans (d.mono a.out.size));replace e:=yj (e.out.ad d);have C:=yj d;clear f d;obtain⟨B,z,r⟩:=X.out;go_wp2_with(fail);clear B z r;((with_reducible refine(q.out _ e.out).mono ?_);rintro _ G⟨i,A,n,c,err,rfl,j⟩);have E:=a.out.size;replace a:=yj (a.out.trans (i.mono a.out.size));clear i X;have p:=yj j;clear j;go_wp2_with(fail);go_ret2;exact⟨a.out,A,n,c,err,rfl,p.out.imp_right λ⟨h1,h2,s,u,v⟩=>⟨h1,h2,s,u,v.mono λb _ D=>by omega⟩⟩
def ij(e:bf)(m bd:Int):Bool:=!(decide (bd<e.bd)||decide (6<e.hh)||decide (6<e.bn)||decide ((12:Int)<(e.places.length:Int)))&&(decide ((e.au.length:Int)<=m)&&decide ((e.cq.length:Int)<=10)&&decide ((e.cf.length:Int)<=4)&&decide ((e.gT.length:Int)<=6))
structure qx(y:TC)(t:aI):Prop where
 pl:t.ev.places.length=y.x.pn
 mv:t.ev.au.length=y.x.mn
 ce:t.ev.cq.length=y.x.cn
 re:t.ev.cf.length=y.x.rn
 pu:t.ev.gT.length=y.x.un
 fi:t.a2.length=y.fn
 cl:t.bX.length=y.kn
theorem wL(w:World)(x:EC)(e:bf)(f:e.places.length=x.pn)(g:e.au.length=x.mn)(h:e.cq.length=x.cn)(i:e.cf.length=x.rn)(j:e.gT.length=x.un)(m bd:Int)(r:Bool)(b:ij e m bd=r):Calls Tryz.prog 17 #[x.v e,.int .i64 m,.int .i64 bd] w λE w'=>E=.returned (.bool r)/\Below w.heap.size w w':=by
 have a:=yj (yl w.heap.size w);unfold ij at b;rw[f,g,h,i,j]at b;have k:=yj b;clear f g h i j b;go_enter Tryz.func17,Tryz.ntmps17;go_upto_region 1 with(fail);generalize d:w.alloc (.cells #[.int .i64 e.bd,.int .i64 e.hh,.int .i64 e.bn,.slice x.PA x.pn x.pc,.slice x.MA x.mn x.mc,.slice x.CA x.cn x.cc,.slice x.RA x.rn x.rc,.slice x.UA x.un x.uc] 28)=q at*;have X:=yj (aA d);have c:=aB d;replace a:=yj (a.out.trans (c.mono a.out.size));have p:=yj c;clear d c;obtain⟨o,n,l⟩:=X.out;go_wp2_with(fail);clear o n l;all_goals go_ret
 all_goals refine⟨?_,a.out⟩
 all_goals rw[<-k.out]
 all_goals simp[*]
 all_goals omega
def gO(t:aI)(m:Int):Bool:=ij t.ev m 3&&decide (t.ev.hh<=4)&&decide ((t.a2.length:Int)<=6)&&decide ((t.bX.length:Int)<=6)
theorem s6(w:World)(y:TC)(t:aI)(h:qx y t)(m:Int)(r:Bool)(d:gO t m=r):Calls Tryz.prog 5 #[y.v t,.int .i64 m] w λE w'=>E=.returned (.bool r)/\Below w.heap.size w w':=by
 have l:=h.fi;have n:=h.cl;obtain⟨b,f⟩:∃b,ij t.ev m 3=b:=⟨_,rfl⟩;have p:=yj (λW=>wL W y.x t.ev h.pl h.mv h.ce h.re h.pu m 3 b f);unfold gO at d;rw[l,n,f]at d;have o:=yj d;have a:=yj (yl w.heap.size w);clear h l n d f;go_enter Tryz.func5,Tryz.ntmps5;go_upto_region 1 with(fail);generalize g:w.alloc (.cells #[.int .i64 t.ev.bd,.int .i64 t.ev.hh,.int .i64 t.ev.bn,.slice y.x.PA y.x.pn y.x.pc,.slice y.x.MA y.x.mn y.x.mc,.slice y.x.CA y.x.cn y.x.cc,.slice y.x.RA y.x.rn y.x.rc,.slice y.x.UA y.x.un y.x.uc,.slice y.FA y.fn y.fc,.slice y.KA y.kn y.kc] 32)=s at*;have X:=yj (aA g);have c:=aB g;replace a:=yj (a.out.trans (c.mono a.out.size));have q:=yj c;clear g c;obtain⟨j,i,e⟩:=X.out;go_wp2_with(fail);clear j i e;((with_reducible refine(p.out _).mono ?_);rintro _ u⟨rfl,k⟩);have c:=k;replace a:=yj (a.out.trans (c.mono a.out.size));replace X:=yj (X.out.ad c);clear c k;obtain⟨j,i,e⟩:=X.out;go_wp2_with(fail);clear j i e;all_goals go_ret
 all_goals refine⟨?_,a.out⟩
 all_goals rw[<-o.out]
 all_goals simp[*]
 all_goals omega
structure Sm(t:aI):Prop where
 ok:cT t=0
 mv:t.ev.au.length<=6
 hh:t.ev.hh<=4
 pl:t.ev.places.length<=12
 fn:t.a2.length<=6
 kn:t.bX.length<=6
theorem mV{t:aI}{m:Int}(h:gO t m=true)(hm:m<=6)(a:cT t=0):Sm t:=by simp[gO,ij]at h;exact⟨a,by omega,by omega,by omega,by omega,by omega⟩
theorem qG(p:Int):∀(ms:List bG)(i N:Nat),i+ms.length<=N->bh N i (cC p i ms)
 |[],_,_,_=>trivial
 |y::l,i,N,h=>by
  rw[zh]at h;have a:=qG p l (i+1) N (by omega);rw[cC];split;.exact⟨yq _,by omega,by decide,a⟩
  .split;(.exact⟨yq _,by omega,by decide,a⟩);.exact mI a (by omega)
theorem qb(p:Int):∀(ms:List bG)(i N:Nat),i+ms.length<N->bh N i (cC p i ms++[(i+ms.length,-1)])
 |[],i,N,h=>⟨yq _,by simpa using h,by decide,trivial⟩
 |y::l,i,N,h=>by
  rw[zh]at h;have a:=qb p l (i+1) N (by omega);rw[show i+1+l.length=i+(y::l).length by rw[zh];omega]at a;rw[cC,yO];split;.exact⟨yq _,by omega,by decide,a⟩
  .split;(.exact⟨yq _,by omega,by decide,a⟩);.exact mI a (by omega)
theorem oW(p:Int):∀(ms:List bG)(i:Nat),∀t∈cC p i ms,t.2=1\/t.2=-1
 |[],_,t,a=>nomatch a
 |y::l,i,t,a=>by
  rw[cC,y1]at a;rcases a with a|a;.split at a;(.rw[zq]at a;subst a;exact .inl rfl);.split at a;(.rw[zq]at a;subst a;exact .inr rfl);.cases a
  .exact oW p l _ t a
theorem nb{k:Nat}(hk:0<k):Fit k (-1:Rat):=iN (n:=-1) (by have h:1048576^1<=1048576^k:=gJ hk;show 1<1048576^k;omega) hk
theorem qt{k:Nat}(hk:0<k)(p:Int)(ms:List bG)(i:Nat):br k (cC p i ms):=λt a=>by
 rcases oW p ms i t a with h|h<;>rw[h];.exact hD hk
 .exact nb hk
theorem qf{t:aI}{kind:Int}{i:Nat}{x:bG}{h:Rat}(hh:(cj t kind i x).high=some h):Fit 15 h/\0<=h:=by
 unfold cj at hh;dsimp only at hh;split at hh;.cases hh
 .unfold gX at hh;split at hh;.cases hh
  .rename_i c hc;split at hh;(.cases hh);.rename_i h1;simp only[B9,zL]at hh;simp only[As,AR,not_or,Bool.not_eq_false,Bool.not_eq_true]at h1;have b:=l8 hc (λx hx=>nomatch hx);have f:=o_ b h1.2;have a:=h1.2;simp only[cD,y7,zf]at a;have g:Fit 7 (x.reading:Rat):=iN (by omega) (by decide);subst hh;refine⟨Fit.mono (k:=7+7+1) (g.add f) (by decide),?_⟩;simp only[eP,cD,y7,zf]at b;obtain⟨⟨⟨⟨⟨⟨⟨⟨h1,h2⟩,n⟩,o⟩,p⟩,d⟩,e⟩,q⟩,r⟩:=b;(have j:(0:Rat)<=(x.reading:Rat):=by exact_mod_cast a.1);(have l:(0:Rat)<=mkRat (c.dt*x.reading) 1000:=by rw[Rat.mkRat_eq_div,Aa];refine Aj ?_ (by first|exact Rat.inv_nonneg (by decide)|exact Rat.le_of_lt (Rat.inv_pos.2 (by decide))|grind);have:=BB d.1 a.1;exact_mod_cast this);(have m:(0:Rat)<=((c.bM+c.cZ*(x.day-c.aK):Int):Rat):=by have:0<=c.cZ*(x.day-c.aK):=BB e.1 (by omega);exact_mod_cast (by omega:0<=c.bM+c.cZ*(x.day-c.aK)));unfold g7;grind
theorem ng{t:aI}(j:lJ t){kind:Int}{r:a9}(h:r∈(bp t kind).rows):r.Ok t.ev.au.length/\Fit 15 r.value/\br 15 r.terms:=by
 obtain⟨i,x,hx,h⟩:=nE.1 h;have hi:=(yp.1 hx).1;have c:∀(b:Nat)(v:Rat),b<3->Fit 15 v->(cz i b v).Ok t.ev.au.length/\Fit 15 (cz i b v).value/\br 15 (cz i b v).terms:=λb v hk d=>⟨⟨⟨yw _,hi,by decide,trivial⟩,hk⟩,d,iF (by decide)⟩;unfold fN at h;rw[y1,y1,y1]at h;rcases h with h|h|h|h
 .split at h;.cases h
  .rw[zq]at h;subst h;refine⟨⟨?_,?_⟩,fu (by decide),?_⟩;(.have h1:=qb x.aK (t.ev.au.take i) 0 t.ev.au.length (by simp;omega);simp only[yS,y3 (yT hi),y6]at h1;exact h1);(.unfold fT;dsimp only;split<;>decide);.intro z a;unfold fT at a;dsimp only at a;rw[y1,zq]at a;rcases a with a|rfl;(.exact qt (by decide) _ _ _ z a);.exact nb (by decide)
 .split at h;.cases h
  .rename_i v d;rw[zq]at h;subst h;exact c 1 v (by decide) (qf d).1
 .obtain⟨g,hg,rfl⟩:=yF.1 h;unfold cj at hg;dsimp only at hg;obtain⟨f,e,rfl⟩:=yF.1 hg;have h1:=j.fi f (zC.1 e).1;exact c 0 _ (by decide) (Fit.mono (k:=7) (iN (by omega) (by decide)) (by decide))
 .rw[BM]at h;rw[h.2];exact c 2 0 (by decide) (fu (by decide))
theorem oS{α a:Type}{B:Nat}:∀(l:List α)(f:Nat->α->List a),(∀i x,(f i x).length<=B)->(l.mapIdx f).flatten.length<=B*l.length|[],_,_=>by simp|x::l,f,h=>by have c:=oS l (λi=>f (i+1)) λi x=>h (i+1) x;have b:=h 0 x;rw[List.mapIdx_cons,Ag,yM,zh,Nat.mul_succ];omega
theorem uh(t:aI)(kind:Int):(bp t kind).rows.length<=(2+t.a2.length+t.bX.length)*t.ev.au.length:=by
 refine oS _ _ λi x=>?_;have h1:=yX (λf:b8=>decide (f.kind=kind)&&decide (f.move=(i:Int))) t.a2;have h2:=yX (λc:fe=>decide (c.kind=kind)&&decide (c.move=(i:Int))) t.bX;have d:(if b1 t.ev x then[]else[fT t.ev i x]).length<=1:=by split<;>simp
 have a:(cj t kind i x).a2.length=(t.a2.filter λf=>decide (f.kind=kind)&&decide (f.move=(i:Int))).length:=by simp[cj]
 have b:(cj t kind i x).bX=(t.bX.filter λc=>decide (c.kind=kind)&&decide (c.move=(i:Int))).length:=rfl;unfold fN;cases(cj t kind i x).high<;>simp only[yM,y8,zJ,B',zh,a,b]<;>omega
theorem oM{α:Type}{p:α->Bool}{l:List α}{v:Int}(h:v∈idxs p 0 l):0<=v/\v<(l.length:Int):=by have:=(q9 p l 0).2 v h;omega
theorem ni{n:Nat}{rows:List a9}(hn:n<=6)(hl:rows.length<=6000)(a:∀r∈rows,r.Ok n/\Fit 15 r.value/\br 15 r.terms):SB ⟨n,rows⟩ 40:=by
 have hp:5^n<=5^6:=zw (by decide) hn;have c:5^n*40<=625000:=by have:=yU 40 hp;omega
 refine⟨⟨by show n<=1500;omega,hl,λr h=>(a r h).1⟩,by decide,λr h=>⟨(a r h).2.1.mono (by decide),λz b=>((a r h).2.2 z b).mono (by decide)⟩,?_,by show 5^n*40<=80000000;omega⟩;show(2*(5^n*40)+1)*(n+3)<=1000000000;exact yt (zG (show _<=1250001 by omega) (show n+3<=9 by omega)) (by decide)
theorem n5{e:bf}{v:Int}(a:0<=v)(b:v<(e.au.length:Int)):(cz v.toNat 2 0).Ok e.au.length/\Fit 15 (cz v.toNat 2 0).value/\br 15 (cz v.toNat 2 0).terms:=⟨⟨⟨yw _,by omega,by decide,trivial⟩,(by decide:2<3)⟩,fu (by decide),iF (by decide)⟩
theorem oT(t:aI)(set:List Int):∀k,(er t.ev set k).length<=k*t.ev.au.length
 |0=>by simp[er]
 |k+1=>by
  have a:=oT t set k;have h1:(iG t.ev set k).length<=t.ev.au.length:=by unfold iG;split;(.simp);.have h2:=e8 (fG t.ev k) t.ev.au 0;rw[y8];omega
  rw[k7,yM,A8];omega
namespace Sm
variable {t:aI} (h:Sm t)
include h
theorem rows(kind:Int):(bp t kind).rows.length<=84:=by refine yt (uh t kind) ?_;have h1:=h.mv;have h2:=h.fn;have a:=h.kn;exact yt (zG (show _<=14 by omega) h1) (by decide)
theorem sb(kind:Int):SB (bp t kind) 40:=ni h.mv (yt (h.rows kind) (by decide)) λ_ a=>ng (cN h.ok) a
theorem u2(kind:Int)(set:List Int):SB (fS t.ev (bp t kind) set) 40:=by
 refine ni h.mv ?_ λr a=>?_;.have h1:=h.rows kind;have h2:=oT t set t.ev.hh.toNat;have c:=h.mv;have e:=h.hh;have f:t.ev.hh.toNat*t.ev.au.length<=4*6:=zG (by omega) c;rw[yM];omega
 .rcases y1.1 a with a|a;.exact ng (cN h.ok) a
  .unfold er iG at a;rw[List.mem_flatMap]at a;obtain⟨k,_,a⟩:=a;split at a;(.cases a);.obtain⟨v,d,rfl⟩:=yF.1 a;obtain⟨b,h1⟩:=oM d;exact n5 b h1
theorem bare:Sm (e1 t):=⟨qn h.ok,h.mv,h.hh,h.pl,yw _,h.kn⟩
theorem qY(kind v:Int):∀r∈(b5 t kind v).rows,r.Ok t.ev.au.length/\Fit 15 r.value/\br 15 r.terms:=λr a=>by
 unfold b5 at a;dsimp only at a;rcases y1.1 a with a|a;.exact ng (cN h.bare.ok) a
 .unfold fj at a;obtain⟨u,hu,rfl⟩:=yF.1 a;obtain⟨b,h1⟩:=oM (zC.1 hu).1;exact n5 b h1
theorem mF(kind v:Int):SB (b5 t kind v) 40:=by
 refine ni h.mv ?_ (h.qY kind v);have h1:=h.bare.rows kind;have h2:(fj (idxs (b1 t.ev) 0 t.ev.au) v).length<=6:=by unfold fj;rw[y8];exact yt (yX _ _) (yt (e8 _ _ _) h.mv)
 rw[yM];omega
end Sm
theorem m2:∀l:List (Nat×Rat),aM l (λ_=>0)=0|[]=>rfl|t::l=>by rw[cR,m2 l];grind
theorem rl(t:aI)(kind v:Int):(b5 t kind v).Holds λ_=>0:=by
 have b:(bp (e1 t) kind).Holds λ_=>0:=(lF _ _ _).2 λi x hx=>⟨by decide,λ_=>by unfold gl;rw[m2];decide,λ_ _=>by unfold gl;rw[m2],λh hh=>(qf hh).2,λg hg=>by simp[cj]at hg,λ_=>rfl⟩;refine⟨λk _=>(by decide:(0:Rat)<=0),λr a=>?_⟩;rcases y1.1 a with a|a;.exact b.2 r a
 .unfold fj at a;obtain⟨u,hu,rfl⟩:=yF.1 a;exact(hb _ _ _ _).2 ⟨λ_=>by decide,λ_=>by decide⟩
theorem qz{e:bf}{g:List (Nat×Rat)}(hg:g∈dc e):bh e.au.length 0 g/\br 1 g:=by
 unfold dc at hg;rcases y1.1 hg with hg|hg;.obtain⟨i,hi,rfl⟩:=yF.1 hg;exact⟨lD (Ba.1 hi),iF (by decide)⟩
 .obtain⟨i,hi,rfl⟩:=Bt.1 hg;unfold jL fH;split;.exact⟨trivial,λt a=>nomatch a⟩
  .exact⟨qG _ _ _ _ (by omega),qt (by decide) _ _ _⟩
theorem Sm.ac{t:aI}(h:Sm t):iY t 40:=by
 have hg:(dc t.ev).length=t.ev.au.length+t.ev.places.length:=by simp[dc]
 have h1:=h.mv;have h2:=h.pl;have hp:5^t.ev.au.length<=5^6:=zw (by decide) h1;have a:5^t.ev.au.length*40<=625000:=by have:=yU 40 hp;omega
 refine⟨h.ok,λp hp v=>⟨h.mF _ _,by omega,by omega,?_,?_,?_⟩,λp hp v=>⟨_,rl _ _ _⟩,λg hg=>qz hg⟩;.rw[hg];exact yt (zG (show _<=21 by omega) (show 2*(5^t.ev.au.length*40)+2<=1250002 by omega)) (by decide)
 .exact yt (zG (show 2*(2*(5^t.ev.au.length*40)+2)+1<=2500005 by omega) (show t.ev.au.length+1<=7 by omega)) (by decide)
 .have:=(cN h.ok).fi p hp;show 0<t.ev.au.length;omega
end Go.Proofs.YthmegpnhjnphlaaGreat
namespace Go.Proofs.YthmegpnhjnphlaaGreat
open Go.RowKit
theorem ia(x:Nat->Rat):∀l:List (Nat×Rat),aM (dn l) x=-(aM l x)|[]=>by show aM [] x=_;rw[ew];grind|t::l=>by have a:=ia x l;show aM ((t.1,t.2*-1)::dn l) x=_;rw[cR,cR,a];grind
theorem nB{s:a1}{g:List (Nat×Rat)}(hg:bh s.n 0 g)(hc:∀t∈g,0<=t.2){x:Nat->Rat}(hx:s.Holds x):0<=aM g x:=mA λt a=>Aj (hc t a) (hx.1 _ (g9 hg t a))
theorem oD{s:a1}(hs:s.Ok){g:List (Nat×Rat)}(hg:bh s.n 0 g)(hc:∀t∈g,0<=t.2)(hx:∃x,s.Holds x):(dd s g=2/\∀x,s.Holds x->0<aM g x)\/(dd s g=0/\∀x,s.Holds x->aM g x=0)\/(dd s g=1/\(∃x,s.Holds x/\aM g x=0)/\∃x,s.Holds x/\0<aM g x):=by
 have q:=oR hs hg hc hx;rcases fE hs hg with h1|h1|h1
 .obtain⟨-,-,a,o,m⟩:=h1;unfold dd;rw[o];dsimp only;have r:=nB hg hc a;by_cases d:0<aM g (pt (aW s g).X);.rw[yK d];exact .inl ⟨rfl,λx h=>by have:=m x h;grind⟩
  .rw[yB d];(have c:aM g (pt (aW s g).X)=0:=by grind);rcases fE hs (gh hg)with h2|h2|h2;(.obtain⟨f,-,b,p,n⟩:=h2;rw[yB (by omega),p];dsimp only;rw[ia];by_cases e:-(aM g (pt (aW s (dn g)).X))<0;(.rw[yK e];exact .inr (.inr ⟨rfl,⟨_,a,c⟩,⟨_,b,by grind⟩⟩));.rw[yB e];exact .inr (.inl ⟨rfl,λx h=>by have i:=n x h;rw[ia,ia]at i;have j:=nB hg hc h;grind⟩));(.obtain⟨x,hx⟩:=hx;exact absurd hx (h2.2.2.2 x));.obtain⟨f,-,-,-,b,k,l⟩:=h2;rw[yK f];rw[ia]at l;have j:=nB hg hc b;exact .inr (.inr ⟨rfl,⟨_,a,c⟩,⟨_,k,by rw[lC];grind⟩⟩)
 .omega
 .omega
theorem wx{s:a1}(hs:s.Ok){g:List (Nat×Rat)}(hg:bh s.n 0 g)(hn:∀x,s.Holds x->0<=aM g x)(hx:∃x,s.Holds x):s.Holds (pt (df s g).1)/\((∃y,s.Holds y/\0<aM g y)->0<aM g (pt (df s g).1)):=by
 unfold df;rcases fE hs (gh hg)with h2|h2|h2;.obtain⟨b,-,a,j,f⟩:=h2;rw[yB (by omega)];exact⟨a,λ⟨y,h1,h2⟩=>by have c:=f y h1;rw[ia,ia]at c;grind⟩
 .obtain⟨x,hx⟩:=hx;exact absurd hx (h2.2.2.2 x)
 .obtain⟨b,h,i,-,a,d,e⟩:=h2;rw[yK b];have he:pt (List.zipWith (·+·) (aW s (dn g)).X (aW s (dn g)).eI)=λk=>pt (aW s (dn g)).X k+pt (aW s (dn g)).eI k:=by funext k;unfold pt;by_cases hk:k<s.n;(.rw[yu,yu,yu,zK,yk (by rw[h];exact hk),yk (by rw[i];exact hk)];rfl);.rw[yu,yu,yu,zK,yV (by omega),yV (by omega)];show(0:Rat)=0+0;grind
  dsimp only;rw[he];rw[ia]at e;exact⟨d,λ_=>by rw[lC];have:=hn _ a;grind⟩
theorem mG:∀a:List Rat,(∀r∈a,0<=r)->0<=a.sum|[],_=>by rw[List.sum_nil];exact zZ|r::a,h=>by rw[BG];have h1:=h r (y5 ..);have h2:=mG a λq b=>h q (yL _ b);grind
theorem pJ:∀b:List Rat,(∀r∈b,0<=r)->(∃r∈b,0<r)->0<b.sum
 |[],_,h=>by obtain⟨r,c,_⟩:=h;cases c
 |r::b,h,hx=>by
  rw[BG];have h1:=h r (y5 ..);have h2:=mG b λq a=>h q (yL _ a);obtain⟨q,a,hp⟩:=hx;rcases zd.1 a with rfl|a;.grind
  .have d:=pJ b (λq a=>h q (yL _ a)) ⟨q,a,hp⟩;grind
theorem pe:∀a:List Rat,0<a.sum->∃r∈a,0<r
 |[],h=>by rw[List.sum_nil]at h;exact absurd h (by decide)
 |r::a,h=>by
  rw[BG]at h;by_cases c:0<r;.exact⟨r,y5 ..,c⟩
  .obtain⟨q,b,hp⟩:=pe a (by grind);exact⟨q,yL _ b,hp⟩
theorem mB{l:List (List (Nat×Rat))}{os:List Bool}{x:Nat->Rat}{r:Rat}:r∈((l.zip os).map λp=>if p.2 then 0 else aM p.1 x)↔∃(i:Nat)(g:List (Nat×Rat))(o:Bool),l[i]?=some g/\os[i]?=some o/\r=if o then 0 else aM g x:=by
 rw[yF];constructor;.rintro⟨⟨g,o⟩,hp,rfl⟩;obtain⟨i,hi⟩:=z6 hp;rw[AB]at hi;exact⟨i,g,o,hi.1,hi.2,rfl⟩
 .rintro⟨i,g,o,h1,h2,rfl⟩;exact⟨(g,o),yr (AB.2 ⟨h1,h2⟩),rfl⟩
theorem n6{l:List (List (Nat×Rat))}{os:List Bool}{x:List Rat}{i:Nat}{g:List (Nat×Rat)}{o:Bool}(hg:l[i]?=some g)(a:os[i]?=some o):(eF l os x)[i]?=some (o||gj g x):=by rw[eF,zK,hg,a]
theorem qF(x:List Rat):∀(l:List (List (Nat×Rat)))(os:List Bool),l.length=os.length->eD os<=eD (eF l os x)/\(eF l os x=os\/eD os<eD (eF l os x))
 |[],[],_=>⟨yq _,.inl rfl⟩
 |[],_::_,h=>by simp at h
 |_::_,[],h=>by simp at h
 |g::l,o::os,h=>by have a:=qF x l os (by simpa using h);have e:eF (g::l) (o::os) x=(o||gj g x)::eF l os x:=rfl;rw[e];simp only[eD,List.countP_cons,id]at a⊢;cases o<;>cases gj g x<;>simp<;>omega
theorem mE(s:a1){l:List (List (Nat×Rat))}:∀(n:Nat)(os:List Bool),l.length=os.length->(eX s l n os).length=os.length
 |0,_,_=>rfl
 |n+1,os,h=>by
  rw[eX];split;.rfl
  .have h1:(gb s l os).length=os.length:=ho h _;rw[mE s n _ (h.trans h1.symm),h1]
section
variable {s:a1} (hs:s.Ok) (hx:∃x,s.Holds x) {l:List (List (Nat×Rat))} (hl:∀g∈l,bh s.n 0 g/\br 1 g) (hn:∀g∈l,∀x,s.Holds x->0<=aM g x)
include hs hx hl hn
theorem iH{os:List Bool}(n:l.length=os.length):s.Holds (pt (df s (cX l os [])).1)/\((∃(i:Nat)(g:List (Nat×Rat))(y:Nat->Rat),l[i]?=some g/\os[i]?=some false/\s.Holds y/\0<aM g y)->∃(i:Nat)(g:List (Nat×Rat)),l[i]?=some g/\os[i]?=some false/\0<aM g (pt (df s (cX l os [])).1)):=by
 have q:=(iZ l os [] 0 trivial (λt u=>nomatch u) hl).1;have hval:∀y,aM (cX l os []) y=((l.zip os).map λp=>if p.2 then 0 else aM p.1 y).sum:=λy=>by rw[q' y l os [] n,ew];grind
 have d:∀y,s.Holds y->∀r∈((l.zip os).map λp=>if p.2 then 0 else aM p.1 y),0<=r:=λy hy r a=>by
  obtain⟨i,g,o,h1,h2,rfl⟩:=mB.1 a;split;.exact zZ
  .exact hn g (yr h1) y hy
 have h:=wx hs q (λy hy=>by rw[hval];exact mG _ (d y hy)) hx;refine⟨h.1,λ⟨i,g,y,h1,h2,b,f⟩=>?_⟩;have c:=h.2 ⟨y,b,by rw[hval];exact pJ _ (d y b) ⟨aM g y,mB.2 ⟨i,g,false,h1,h2,by simp⟩,f⟩⟩;rw[hval]at c;obtain⟨r,a,hp⟩:=pe _ c;obtain⟨j,e,o,k,m,rfl⟩:=mB.1 a;cases o;.exact⟨j,e,k,m,by simpa using hp⟩
 .simp at hp
theorem p8:∀(n:Nat)(os:List Bool),l.length=os.length->(∀i:Nat,os[i]?=some true->∃(g:List (Nat×Rat))(x:Nat->Rat),l[i]?=some g/\s.Holds x/\0<aM g x)->∀i:Nat,(eX s l n os)[i]?=some true->∃(g:List (Nat×Rat))(x:Nat->Rat),l[i]?=some g/\s.Holds x/\0<aM g x
 |0,_,_,h=>h
 |n+1,os,a,h=>by
  rw[eX];split;.exact h
  .refine p8 n _ (a.trans (ho a _).symm) λi hi=>?_;(have b:i<os.length:=by have:=(yp.1 hi).1;unfold gb at this;rw[ho a]at this;exact this);obtain⟨g,hg⟩:∃g,l[i]?=some g:=⟨_,yk (by rw[a];exact b)⟩;obtain⟨o,c⟩:∃o,os[i]?=some o:=⟨_,yk b⟩;rw[gb,n6 hg c]at hi;cases o;(.refine⟨g,_,hg,(iH hs hx hl hn a).1,?_⟩;(have:gj g (df s (cX l os [])).1=true:=by simpa using hi);exact of_decide_eq_true this);.exact h i c
theorem pE:∀(n:Nat)(os:List Bool),l.length=os.length->os.length<n+eD os->∀(i:Nat)(g:List (Nat×Rat)),l[i]?=some g->(eX s l n os)[i]?=some false->∀x,s.Holds x->¬0<aM g x
 |0,os,b,hc=>by have:=j' os;omega
 |n+1,os,b,hc=>by
  rw[eX];split;.rename_i he;intro i g hg hi x d hp;obtain⟨j,e,h1,h2,a⟩:=(iH hs hx hl hn b).2 ⟨i,g,x,hg,hi,d,hp⟩;have c:=n6 (x:=(df s (cX l os [])).1) h1 h2;rw[show eF l os (df s (cX l os [])).1=os from he,h2]at c;simp[gj,a]at c
  .rename_i he;have h1:(gb s l os).length=os.length:=ho b _;have h2:=qF (df s (cX l os [])).1 l os b;refine pE n _ (b.trans h1.symm) ?_;rcases h2.2 with a|a;(.exact absurd a he);.have c:eD os<eD (gb s l os):=a;omega
theorem tY{i:Nat}{g:List (Nat×Rat)}(hg:l[i]?=some g):(eX s l (l.length+1) (List.replicate l.length false)).getD i false=true↔∃x,s.Holds x/\0<aM g x:=by
 have hi:=(yp.1 hg).1;have b:l.length=(List.replicate l.length false).length:=by simp
 obtain⟨o,c⟩:∃o,(eX s l (l.length+1) (List.replicate l.length false))[i]?=some o:=⟨_,yk (by rw[mE s _ _ b];simpa using hi)⟩;rw[yu,c];constructor;.intro h;have h:o=true:=h;subst h;obtain⟨e,x,h1,h2,d⟩:=p8 hs hx hl hn _ _ b (λj a=>by rw[Bl]at a;split at a<;>simp at a) i c;rw[hg]at h1;injection h1 with h1;subst h1;exact⟨x,h2,d⟩
 .rintro⟨x,h1,h2⟩;cases o;.exact absurd h2 (pE hs hx hl hn _ _ b (by simp;omega) i g hg c x h1)
  .rfl
end
theorem pM{t:aI}{kind:Int}{z:Nat->Rat}(h:kx t kind z){p:Int}(hp:eE t.ev p≠0):∀k,0<=gl (t.ev.au.take k) z p
 |0=>by unfold gl;rw[Av];show 0<=aM [] z;rw[ew];exact zZ
 |k+1=>by
  have a:=pM h hp k;rcases hx:t.ev.au[k]? with _|x;.rw[yv (by have:=z1.1 hx;omega),<-yv (z1.1 hx)];exact a
  .rw[sZ hx];have hm:=h k x hx;have b:=hm.nr;split;(.grind);.split;(.rename_i h1;have h2:=hm.most (by unfold b1;rw[<-h1];simpa using hp);rw[<-h1]at h2;grind);.grind
theorem nP(t:aI)(kind v:Int)(z:Nat->Rat):(b5 t kind v).Holds z↔kx (e1 t) kind z/\∀u∈idxs (b1 t.ev) 0 t.ev.au,u≠v->z u.toNat=0:=by
 rw[<-lF];constructor;.intro h;refine⟨⟨h.1,λr a=>h.2 r (List.mem_append_left _ a)⟩,λu hu c=>?_⟩;have h1:=(hb _ _ _ _).1 (h.2 (cz u.toNat 2 0) (Ae _ (yF.2 ⟨u,zC.2 ⟨hu,by simpa using c⟩,rfl⟩)));have h2:=h1.1 (by decide);have b:=h1.2 (by decide);grind
 .rintro⟨h1,h2⟩;refine⟨h1.1,λr a=>?_⟩;rcases y1.1 a with a|a;.exact h1.2 r a
  .obtain⟨u,hu,rfl⟩:=yF.1 a;obtain⟨d,e⟩:=zC.1 hu;have b:=h2 u d (by simpa using e);exact(hb _ _ _ _).2 ⟨λ_=>by rw[b];exact zZ,λ_=>by rw[b];exact zZ⟩
theorem wM{t:aI}{kind v:Int}{g:List (Nat×Rat)}(hg:g∈dc t.ev){x:Nat->Rat}(hx:(b5 t kind v).Holds x):0<=aM g x:=by
 unfold dc at hg;rcases y1.1 hg with hg|hg;.obtain⟨i,hi,rfl⟩:=yF.1 hg;rw[cR,ew];have:=hx.1 i (Ba.1 hi);grind
 .obtain⟨p,hp,rfl⟩:=Bt.1 hg;unfold jL fH;split;.rw[ew];exact zZ
  .rename_i hk;have h1:=pM ((nP _ _ _ _).1 hx).1 (p:=(p:Int)) (by unfold eE;simp only[zE];rw[yk hp];exact hk) t.ev.au.length;unfold gl at h1;rw[yv (yq _)]at h1;exact h1
theorem Sm.reach{t:aI}(h:Sm t)(kind v:Int){i:Nat}{g:List (Nat×Rat)}(hg:(dc t.ev)[i]?=some g):(eB t kind v).getD i false=true↔∃x,(b5 t kind v).Holds x/\0<aM g x:=tY (h.mF kind v).ok ⟨_,rl t kind v⟩ (λg hg=>qz hg) (λg hg x hx=>wM hg hx) hg
abbrev sd(e:bf)(x:bS):bf:={e with cf:=e.cf++[x]}
abbrev bW(t:aI)(x:bS):aI:={t with ev:=sd t.ev x}
theorem xJ{t:aI}{x:bS}{kind:Int}{i:Nat}{m:bG}{h:Rat}(hh:(cj (bW t x) kind i m).high=some h):(cj t kind i m).high=some h:=by
 unfold cj gX at hh⊢;dsimp only at hh⊢;split at hh;.cases hh
 .rename_i h1;rw[yB h1];split at hh;.cases hh
  .rename_i c hc;split at hh;(.cases hh);.rename_i h2;rw[yB ?_];(.exact hh);.intro a;apply h2;unfold kz at a⊢;rw[List.any_append];simp only[As]at a⊢;rcases a with a|a;(.exact .inl (.inl a));.exact .inr a
theorem oQ{t:aI}{kind:Int}{z:Nat->Rat}(x:bS)(h:kx t kind z):kx (bW t x) kind z:=λi m hm=>have a:=h i m hm;⟨a.nr,a.most,a.all,λv b=>a.high v (xJ b),a.a2,a.bX⟩
theorem kM{t:aI}{kind:Int}{z:Nat->Rat}(x:bS)(h:(bp t kind).Holds z):(bp (bW t x) kind).Holds z:=(lF _ _ _).2 (oQ x ((lF _ _ _).1 h))
theorem sn{t:aI}{kind v:Int}{z:Nat->Rat}(x:bS)(h:(b5 t kind v).Holds z):(b5 (bW t x) kind v).Holds z:=by obtain⟨h1,h2⟩:=(nP _ _ _ _).1 h;exact(nP _ _ _ _).2 ⟨oQ (t:=e1 t) x h1,h2⟩
theorem oj(e:bf)(hh:Int):∀t∈dv e hh,0<=t.2:=λt a=>by obtain⟨v,_,rfl⟩:=yF.1 a;show(0:Rat)<=1;decide
theorem om{t:aI}(h:Sm t){kind:Int}(hk:(aW (bp t kind) []).kind≠1):∃z,(bp t kind).Holds z:=by
 rcases fE (h.sb kind).ok (g:=[]) trivial with h1|h1|h1;.exact⟨_,h1.2.2.1⟩
 .exact absurd h1.1 hk
 .exact⟨_,h1.2.2.2.2.1⟩
theorem wI{t:aI}{x:bS}(h:Sm t)(f:Sm (bW t x)){kind hh:Int}(hk:(aW (bp t kind) []).kind≠1)(a:dd (bp (bW t x) kind) (dv (bW t x).ev hh)≠1):dd (bp t kind) (dv t.ev hh)=dd (bp (bW t x) kind) (dv (bW t x).ev hh):=by
 have hg:dv (bW t x).ev hh=dv t.ev hh:=rfl;rw[hg]at a⊢;obtain⟨z,b⟩:=om h hk;have d:=kM x b;rcases oD (f.sb kind).ok (nR t.ev hh) (oj t.ev hh) ⟨z,d⟩with⟨e',h1⟩|⟨e',h1⟩|⟨e',-⟩<;>rcases oD (h.sb kind).ok (nR t.ev hh) (oj t.ev hh) ⟨z,b⟩with⟨e,h2⟩|⟨e,h2⟩|⟨e,⟨y,hy,j⟩,⟨u,hu,i⟩⟩;.rw[e,e']
 .have c:=h1 z d;have g:=h2 z b;grind
 .have c:=h1 y (kM x hy);grind
 .have c:=h1 z d;have g:=h2 z b;grind
 .rw[e,e']
 .have c:=h1 u (kM x hu);grind
 .exact absurd e' a
 .exact absurd e' a
 .exact absurd e' a
theorem mQ{t:aI}{x:bS}(h:Sm t)(a:Sm (bW t x)){kind v:Int}{i:Nat}(hi:(eB t kind v).getD i false=true):(eB (bW t x) kind v).getD i false=true:=by
 rcases hg:(dc t.ev)[i]? with _|g;.exfalso;have h1:=z1.1 hg;rw[yu,yV (by unfold eB;rw[mE _ _ _ (by simp)];simpa using h1)]at hi;cases hi
 .obtain⟨z,h1,h2⟩:=(h.reach kind v hg).1 hi;exact(a.reach kind v (i:=i) (g:=g) hg).2 ⟨z,sn x h1,h2⟩
theorem xt{t:aI}{x:bS}(h:Sm t)(a:Sm (bW t x)){p:b8}{v:Int}(c:v∈g3 t p):v∈g3 (bW t x) p:=by obtain⟨r,b,rfl⟩:=yF.1 c;obtain⟨h1,h2⟩:=zC.1 b;obtain⟨u,hu,rfl⟩:=yF.1 h1;exact yF.2 ⟨_,zC.2 ⟨yF.2 ⟨u,hu,rfl⟩,mQ h a h2⟩,rfl⟩
theorem w8{t:aI}{x:bS}(h:Sm t)(a:Sm (bW t x)){p:b8}{i:Nat}(hi:ft t p i=true):ft (bW t x) p i=true:=by obtain⟨r,b,c⟩:=B1.1 hi;obtain⟨h1,h2⟩:=zC.1 b;obtain⟨u,hu,rfl⟩:=yF.1 h1;exact B1.2 ⟨_,zC.2 ⟨yF.2 ⟨u,hu,rfl⟩,mQ h a h2⟩,mQ h a c⟩
theorem rJ{t:aI}{x:bS}(h:Sm t)(a:Sm (bW t x)){p:b8}{k:Nat}{v:Int}(c:v∈dT t p k):v∈dT (bW t x) p k:=by obtain⟨j,b,rfl⟩:=yF.1 c;obtain⟨h1,h2⟩:=zC.1 b;simp only[y7]at h2;exact yF.2 ⟨j,zC.2 ⟨h1,by simp only[y7];exact⟨h2.1,w8 h a h2.2⟩⟩,rfl⟩
