import Derived.Test.YthmegpnhjnphlaaGreatTopAA
set_option maxHeartbeats 8000000
set_option maxRecDepth 100000
namespace Go.Proofs.YthmegpnhjnphlaaGreat
open Go.RowKit
theorem rK{r:Int}(h:r=1\/r=-1\/r=0):IntKind.i64.wrap (r*1)=r:=by rw[Int.mul_one];exact jd h
theorem sK(w:World)(a b:Value)(x y:Rat){K:Nat}(cg:cS w a x)(l:cS w b y)(hx:Fit K x)(hy:Fit K y)(ce:K<=1000000000):Calls Tryz.prog 137 #[a,b,.int .i64 1] w λe w'=>∃v,e=.returned (.tuple #[v,.int .i64 0])/\dE w w' v (if d_ x y<0 then y else x)/\Below w.heap.size w w':=by
 have bj:=yj (λW (h:Below w.heap.size w W)=>pA W a b x y (cg.ad h) (l.ad h) hx hy ce _ rfl);obtain⟨A,c,A',c',rfl,hc,bv,hs,bK⟩:=cg;obtain⟨B,d,L,d',rfl,hd,bA,bQ,bR⟩:=l;have b0:=yj (λW (h:Below w.heap.size w W)=>fo (w:=W) hc (hs.ad h));have bZ:=yj (λW (h:Below w.heap.size w W)=>fq (w:=W) bv (bK.ad h));have ca:=yj (λW (h:Below w.heap.size w W)=>fo (w:=W) hd (bQ.ad h));have b':=yj (λW (h:Below w.heap.size w W)=>fq (w:=W) bA (bR.ad h));have bV:=yj (λW (h:Below w.heap.size w W)=>e7 W _ x ⟨A,c,A',c',rfl,hc,bv,hs.ad h,bK.ad h⟩ hx (by omega));have bY:=yj (λW (h:Below w.heap.size w W)=>e7 W _ y ⟨B,d,L,d',rfl,hd,bA,bQ.ad h,bR.ad h⟩ hy (by omega));have cI:(ai x.num.natAbs).length<=K:=ck hx.1;have cH:(ai x.den).length<=K:=ck hx.2;have cO:(ai y.num.natAbs).length<=K:=ck hy.1;have cM:(ai y.den).length<=K:=ck hy.2;have cs:=yj (λW (h:Below w.heap.size w W)=>kH W _ x.num (b0.out W h) (by omega));have cr:=yj (λW (h:Below w.heap.size w W)=>kH W _ (x.den:Int) (bZ.out W h) (by rw[yy];omega));have cw:=yj (λW (h:Below w.heap.size w W)=>kH W _ y.num (ca.out W h) (by omega));have ct:=yj (λW (h:Below w.heap.size w W)=>kH W _ (y.den:Int) (b'.out W h) (by rw[yy];omega));have co:=yj x.den_pos;have cp:=yj y.den_pos;obtain⟨r,bB⟩:∃r,d_ x y=r:=⟨_,rfl⟩;have ci:r=1\/r=-1\/r=0:=by rw[<-bB];exact p5 x y
 have dk:IntKind.i64.wrap (r*1)=r:=rK ci;have dl:IntKind.i64.wrap r=r:=jd ci;rw[bB]at bj⊢;clear cI cH cO cM b0 bZ ca b' hc bv hd bA hs bK bQ bR hx hy ce bB;have f:=yj (yl w.heap.size w);by_cases cb:r<0
 .rw[yK cb];have N:-1<=r:=by omega
  go_enter Tryz.func137,Tryz.ntmps137;go_wp2_with(fail);((with_reducible refine(bV.out _ (b3 _ _ _)).mono ?_);rintro _ c1⟨rfl,N⟩);obtain⟨H,Q,I,g⟩:=eU N;have X:=yj H;have Y:=yj Q;have Z:=yj I;clear H Q I;replace f:=yj (f.out.trans (g.mono f.out.size));clear g N;obtain⟨o,n,m⟩:=X.out;obtain⟨E,D,z⟩:=Y.out;obtain⟨F,kZ,C⟩:=Z.out;go_wp2_with(fail);((with_reducible refine(bY.out _ f.out).mono ?_);rintro _ dg⟨rfl,R⟩);have g:=R;replace f:=yj (f.out.trans (g.mono f.out.size));replace X:=yj (X.out.ad g);replace Y:=yj (Y.out.ad g);replace Z:=yj (Z.out.ad g);clear g R o n m E D z F kZ C;obtain⟨o,n,m⟩:=X.out;obtain⟨E,D,z⟩:=Y.out;obtain⟨F,kZ,C⟩:=Z.out;go_wp2_with(fail);((with_reducible refine(bj.out _ f.out).mono ?_);rintro _ w3⟨rfl,S⟩);have g:=S;replace f:=yj (f.out.trans (g.mono f.out.size));replace X:=yj (X.out.ad g);replace Y:=yj (Y.out.ad g);replace Z:=yj (Z.out.ad g);clear g S o n m E D z F kZ C;obtain⟨o,n,m⟩:=X.out;obtain⟨E,D,z⟩:=Y.out;obtain⟨F,kZ,C⟩:=Z.out;go_upto_region 5 with(fail);obtain⟨i,bU⟩:∃i,(((w3.setCell ⟨w.heap.size,0,none⟩ (.int .i64 y.num.sign)).setCell ⟨w.heap.size,1,none⟩ (.slice B (ai y.num.natAbs).length d)).setCell ⟨w.heap.size,2,none⟩ (.int .i64 1)).setCell ⟨w.heap.size,3,none⟩ (.slice L (ai y.den).length d')=i:=⟨_,rfl⟩;have H:=(((X.out.aE 0 (.int .i64 y.num.sign)).aE 1 (.slice B (ai y.num.natAbs).length d)).aE 2 (.int .i64 1)).aE 3 (.slice L (ai y.den).length d');have I:=(((Z.out.u (p:=⟨w.heap.size,0,none⟩) (by simp;omega) (.int .i64 y.num.sign)).u (p:=⟨w.heap.size,1,none⟩) (by simp;omega) (.slice B (ai y.num.natAbs).length d)).u (p:=⟨w.heap.size,2,none⟩) (by simp;omega) (.int .i64 1)).u (p:=⟨w.heap.size,3,none⟩) (by simp;omega) (.slice L (ai y.den).length d');have hB:=bH f.out (b:=w.heap.size) (yq _) (.int .i64 y.num.sign) (.slice B (ai y.num.natAbs).length d) (.int .i64 1) (.slice L (ai y.den).length d');rw[bU]at H I hB;simp only[bU];have X:=yj H;have Z:=yj I;have f:=yj hB;clear H I hB bU o n m E D z F kZ C;have P:Hid (∀w',Below (w.heap.size+1+1) i w'->w'.cell? ⟨w.heap.size,0,none⟩=some (.int .i64 y.num.sign)/\w'.cell? ⟨w.heap.size,1,none⟩=some (.slice B (ai y.num.natAbs).length d)/\w'.cell? ⟨w.heap.size,2,none⟩=some (.int .i64 1)/\w'.cell? ⟨w.heap.size,3,none⟩=some (.slice L (ai y.den).length d')/\Below (w.heap.size+1+1) i w'):=yj λw' l=>⟨(l.cell (p:=⟨w.heap.size,0,none⟩) (by simp;omega)).trans (X.out.cell 0),(l.cell (p:=⟨w.heap.size,1,none⟩) (by simp;omega)).trans (X.out.cell 1),(l.cell (p:=⟨w.heap.size,2,none⟩) (by simp;omega)).trans (X.out.cell 2),(l.cell (p:=⟨w.heap.size,3,none⟩) (by simp;omega)).trans (X.out.cell 3),l⟩;have J:w.heap.size+1+1<i.heap.size:=Z.out.lt;obtain⟨o,n,m⟩:=X.out;go_wp2_with(fail);go_region_held3(λw'=>w'.cell? ⟨w.heap.size,0,none⟩=some (.int .i64 y.num.sign)/\w'.cell? ⟨w.heap.size,1,none⟩=some (.slice B (ai y.num.natAbs).length d)/\w'.cell? ⟨w.heap.size,2,none⟩=some (.int .i64 1)/\w'.cell? ⟨w.heap.size,3,none⟩=some (.slice L (ai y.den).length d')/\Below (w.heap.size+1+1) i w') (first|exact P.out _ j|(refine P.out _ ?_;repeat(first|exact j|exact yl _ _|refine Below.drew ?_|refine Below.alloc ?_ (by first|omega|exact j.size|(simp<;>omega)|(have:=j.size;omega)|(have:=j.size;simp;omega)) _|refine Below.setCell ?_ (by first|exact yq _|omega|exact j.size|(simp<;>omega)) _))) (first|((with_reducible refine(cw.out _ ?hs1).mono ?_);(case hs1=>exact f.out.trans (Below.mono (by go_split_ands;assumption) (by omega)));rintro e U⟨cV,rfl,⟨q,t,rfl,bw,hs5⟩,k⟩;have bk:=yj hs5;have bc:=yj bw;have G:Hid (Below i.heap.size i U):=yj (by first|exact k|exact cK k);have j:Below (w.heap.size+1+1) i U:=G.out.mono (yT J))|((with_reducible refine(ct.out _ ?hs1).mono ?_);(case hs1=>exact f.out.trans (Below.mono (by go_split_ands;assumption) (by omega)));rintro e V⟨cY,rfl,bT,k⟩;obtain⟨s,u,rfl,bz,bN⟩:=bT.ak cp.out;have O:=yj (And.intro bc.out bz);have bs:=yj bN;have bq:=yj (bk.out.ad (by first|exact k|exact cK k));have M:Hid (Below i.heap.size i V):=yj (G.out.trans (Below.mono (by first|exact k|exact cK k) G.out.size));have j:Below (w.heap.size+1+1) i V:=M.out.mono (yT J);obtain⟨di,cG,cx⟩:=Z.out.ad M.out));have bO:=yj ((bq.out.mono (w0:=i) (by first|exact yq _|(simp;done))).E J (.int .i64 y.num.sign) (.slice q (ai y.num.natAbs).length t) (.int .i64 1) (.slice s (ai y.den).length u));have bP:=yj ((bs.out.mono (w0:=i) G.out.size).E J (.int .i64 y.num.sign) (.slice q (ai y.num.natAbs).length t) (.int .i64 1) (.slice s (ai y.den).length u));have bu:=yj (bH (f.out.trans (M.out.mono f.out.size)) (b:=w.heap.size+1+1) (by omega) (.int .i64 y.num.sign) (.slice q (ai y.num.natAbs).length t) (.int .i64 1) (.slice s (ai y.den).length u));have T:=f.out.size;clear j;go_wp2_with(fail);refine yC (v:=.tuple #[.agg #[.int .i64 y.num.sign,.slice q (ai y.num.natAbs).length t,.int .i64 1,.slice s (ai y.den).length u],.int .i64 0]) (by simp[results,Tryz.results137,go_sem, *]) rfl ?_;exact⟨_,rfl,⟨q,t,s,u,rfl,O.out.1,O.out.2,bO.out.mono T,bP.out.mono T⟩,bu.out⟩
 .rw[yB cb];have N:r<=1:=by omega
  go_enter Tryz.func137,Tryz.ntmps137;go_wp2_with(fail);((with_reducible refine(bV.out _ (b3 _ _ _)).mono ?_);rintro _ c1⟨rfl,N⟩);obtain⟨H,Q,I,g⟩:=eU N;have X:=yj H;have Y:=yj Q;have Z:=yj I;clear H Q I;replace f:=yj (f.out.trans (g.mono f.out.size));clear g N;obtain⟨o,n,m⟩:=X.out;obtain⟨E,D,z⟩:=Y.out;obtain⟨F,kZ,C⟩:=Z.out;go_wp2_with(fail);((with_reducible refine(bY.out _ f.out).mono ?_);rintro _ dg⟨rfl,R⟩);have g:=R;replace f:=yj (f.out.trans (g.mono f.out.size));replace X:=yj (X.out.ad g);replace Y:=yj (Y.out.ad g);replace Z:=yj (Z.out.ad g);clear g R o n m E D z F kZ C;obtain⟨o,n,m⟩:=X.out;obtain⟨E,D,z⟩:=Y.out;obtain⟨F,kZ,C⟩:=Z.out;go_wp2_with(fail);((with_reducible refine(bj.out _ f.out).mono ?_);rintro _ i⟨rfl,S⟩);have g:=S;replace f:=yj (f.out.trans (g.mono f.out.size));replace X:=yj (X.out.ad g);replace Y:=yj (Y.out.ad g);replace Z:=yj (Z.out.ad g);clear g S o n m E D z F kZ C;obtain⟨o,n,m⟩:=X.out;obtain⟨E,D,z⟩:=Y.out;obtain⟨F,kZ,C⟩:=Z.out;clear o n m;have P:Hid (∀w',Below (w.heap.size+1+1) i w'->w'.cell? ⟨w.heap.size,0,none⟩=some (.int .i64 x.num.sign)/\w'.cell? ⟨w.heap.size,1,none⟩=some (.slice A (ai x.num.natAbs).length c)/\w'.cell? ⟨w.heap.size,2,none⟩=some (.int .i64 1)/\w'.cell? ⟨w.heap.size,3,none⟩=some (.slice A' (ai x.den).length c')/\Below (w.heap.size+1+1) i w'):=yj λw' l=>⟨(l.cell (p:=⟨w.heap.size,0,none⟩) (by simp;omega)).trans (X.out.cell 0),(l.cell (p:=⟨w.heap.size,1,none⟩) (by simp;omega)).trans (X.out.cell 1),(l.cell (p:=⟨w.heap.size,2,none⟩) (by simp;omega)).trans (X.out.cell 2),(l.cell (p:=⟨w.heap.size,3,none⟩) (by simp;omega)).trans (X.out.cell 3),l⟩;have J:w.heap.size+1+1<i.heap.size:=Z.out.lt;obtain⟨o,n,m⟩:=X.out;go_wp2_with(fail);go_region_held3(λw'=>w'.cell? ⟨w.heap.size,0,none⟩=some (.int .i64 x.num.sign)/\w'.cell? ⟨w.heap.size,1,none⟩=some (.slice A (ai x.num.natAbs).length c)/\w'.cell? ⟨w.heap.size,2,none⟩=some (.int .i64 1)/\w'.cell? ⟨w.heap.size,3,none⟩=some (.slice A' (ai x.den).length c')/\Below (w.heap.size+1+1) i w') (first|exact P.out _ j|(refine P.out _ ?_;repeat(first|exact j|exact yl _ _|refine Below.drew ?_|refine Below.alloc ?_ (by first|omega|exact j.size|(simp<;>omega)|(have:=j.size;omega)|(have:=j.size;simp;omega)) _|refine Below.setCell ?_ (by first|exact yq _|omega|exact j.size|(simp<;>omega)) _))) (first|((with_reducible refine(cs.out _ ?hs1).mono ?_);(case hs1=>exact f.out.trans (Below.mono (by go_split_ands;assumption) (by omega)));rintro e U⟨cV,rfl,⟨q,t,rfl,bw,hs5⟩,k⟩;have bk:=yj hs5;have bc:=yj bw;have G:Hid (Below i.heap.size i U):=yj (by first|exact k|exact cK k);have j:Below (w.heap.size+1+1) i U:=G.out.mono (yT J))|((with_reducible refine(cr.out _ ?hs1).mono ?_);(case hs1=>exact f.out.trans (Below.mono (by go_split_ands;assumption) (by omega)));rintro e V⟨cY,rfl,bT,k⟩;obtain⟨s,u,rfl,bz,bN⟩:=bT.ak co.out;have O:=yj (And.intro bc.out bz);have bs:=yj bN;have bq:=yj (bk.out.ad (by first|exact k|exact cK k));have M:Hid (Below i.heap.size i V):=yj (G.out.trans (Below.mono (by first|exact k|exact cK k) G.out.size));have j:Below (w.heap.size+1+1) i V:=M.out.mono (yT J);obtain⟨di,cG,cx⟩:=Z.out.ad M.out));have bO:=yj ((bq.out.mono (w0:=i) (by first|exact yq _|(simp;done))).E J (.int .i64 x.num.sign) (.slice q (ai x.num.natAbs).length t) (.int .i64 1) (.slice s (ai x.den).length u));have bP:=yj ((bs.out.mono (w0:=i) G.out.size).E J (.int .i64 x.num.sign) (.slice q (ai x.num.natAbs).length t) (.int .i64 1) (.slice s (ai x.den).length u));have bu:=yj (bH (f.out.trans (M.out.mono f.out.size)) (b:=w.heap.size+1+1) (by omega) (.int .i64 x.num.sign) (.slice q (ai x.num.natAbs).length t) (.int .i64 1) (.slice s (ai x.den).length u));have T:=f.out.size;clear j;go_wp2_with(fail);refine yC (v:=.tuple #[.agg #[.int .i64 x.num.sign,.slice q (ai x.num.natAbs).length t,.int .i64 1,.slice s (ai x.den).length u],.int .i64 0]) (by simp[results,Tryz.results137,go_sem, *]) rfl ?_;exact⟨_,rfl,⟨q,t,s,u,rfl,O.out.1,O.out.2,bO.out.mono T,bP.out.mono T⟩,bu.out⟩
theorem sU(w:World)(a b:Value)(x y:Rat){K:Nat}(D:cS w a x)(E:cS w b y)(hx:Fit K x)(hy:Fit K y)(t:K<=1000000000):Calls Tryz.prog 107 #[a,b] w λe w'=>∃v,e=.returned (.tuple #[v,.int .i64 0])/\dE w w' v (if d_ x y<0 then y else x)/\Below w.heap.size w w':=by
 have s:=yj (λW (h:Below w.heap.size w W)=>sK W a b x y (D.ad h) (E.ad h) hx hy t);obtain⟨A,c,A',c',rfl,-,-,-,-⟩:=D;obtain⟨B,d,R,d',rfl,-,-,-,-⟩:=E;obtain⟨q,J⟩:∃q,(if d_ x y<0 then y else x)=q:=⟨_,rfl⟩;rw[J]at s⊢;have n:=yj (yl w.heap.size w);clear hx hy t J;go_enter Tryz.func107,Tryz.ntmps107;go_wp2_with(fail);((with_reducible refine(s.out _ (b3 _ _ _)).mono ?_);rintro _ T⟨v,rfl,⟨f,i,g,j,rfl,H,I,hs5,L⟩,F⟩;have r:=yj (And.intro H I);have M:=yj hs5;have N:=yj L;clear H I hs5 L);obtain⟨u,z,C,G⟩:=eU F;have X:=yj u;have Y:=yj z;have Z:=yj C;clear u z C;replace n:=yj (n.out.trans (G.mono n.out.size));clear G F;obtain⟨U,kZ,S⟩:=Z.out;have o:∀k l m:Obj,w.heap.size+1+1<(((w.alloc k).alloc l).alloc m).heap.size:=by intro k l m;simp
 have p:∀k l m:Obj,w.heap.size<=(((w.alloc k).alloc l).alloc m).heap.size:=by intro k l m;simp;omega
 have P:=yj ((M.out.E (o _ _ _) (.int .i64 q.num.sign) (.slice f (ai q.num.natAbs).length i) (.int .i64 1) (.slice g (ai q.den).length j)).mono (p _ _ _));have Q:=yj ((N.out.E (o _ _ _) (.int .i64 q.num.sign) (.slice f (ai q.num.natAbs).length i) (.int .i64 1) (.slice g (ai q.den).length j)).mono (p _ _ _));have O:=yj (bH n.out (b:=w.heap.size+1+1) (by omega) (.int .i64 q.num.sign) (.slice f (ai q.num.natAbs).length i) (.int .i64 1) (.slice g (ai q.den).length j));clear o p;go_wp2_with(fail);refine yC (v:=.tuple #[.agg #[.int .i64 q.num.sign,.slice f (ai q.num.natAbs).length i,.int .i64 1,.slice g (ai q.den).length j],.int .i64 0]) (by simp[results,Tryz.results107,go_sem, *]) rfl ?_;exact⟨_,rfl,⟨f,i,g,j,rfl,r.out.1,r.out.2,P.out,Q.out⟩,O.out⟩
theorem fA.sl{w w':World}{v:Value}{x:Nat}(h:fA w w' v x):∃A c,v=.slice A (ai x).length c/\(ai x).length<=c/\b9 w w' 1 A (ai x).length (ao (dz x))/\Below w.heap.size w w':=by obtain⟨A,c,rfl,a,d⟩:=h;exact⟨A,c,rfl,fF a,⟨a.sl',λb e=>a.fresh b e⟩,d⟩
theorem lH(w:World)(A:Option Addr)(n c:Nat)(ks:List Int)(v:Int)(hs:Sl w 1 A n (ao ks))(hn:n<=100000000000)(r:Bool)(s:decide (v∈ks)=r):Calls Tryz.prog 10 #[.slice A n c,.int .i64 v] w λe w'=>e=.returned (.bool r)/\w=w':=by
 have t:=yj hs;have g:Hid (ks.length=n):=yj (by have:=hs.len;simpa[ao]using this);have m:=yj s;clear hs s;go_enter Tryz.func10,Tryz.ntmps10;go_wp2_with(fail);go_loopw[5] (λd wr=>∃i:Nat,i<=n/\d=.int .i64 (i:Int)/\v∉ks.take i/\wr=w) (λd _=>n-(intOf d).toNat);case atStart=>exact⟨0,yw _,rfl,by simp,rfl⟩
 case round=>
  obtain⟨i,hi,rfl,q,z⟩:=hrel;obtain rfl:=z.symm;have l:=yj q;clear q;by_cases a:i<n;.obtain⟨k,hk⟩:∃k,ks[i]?=some k:=⟨_,yk (by rw[g.out];exact a)⟩;obtain⟨b,o,rfl,C,B⟩:=dO t.out hk;(have u:(i:Int)<(n:Int):=by omega);have D:(0:Int)<=(i:Int):=yo _;have j:=yj a;have f:=yj hk;clear a hk;by_cases p:k=v;(.subst p;(have y:r=true:=by rw[<-m.out];exact zp (yr f.out));subst y;go_wp2_with(fail);go_ret;exact⟨rfl,rfl⟩);.go_wp2_with(fail);go_roundw;(case rel=>refine⟨i+1,j.out,by go_num,?_,trivial⟩;rw[yz,f.out];simp only[y1,BJ,zq];exactλh=>h.elim l.out (λe=>p e.symm));case measure=>have:=j.out;simp[intOf];omega
  . (obtain rfl:i=n:=by omega);(have u:¬((i:Int)<(i:Int)):=by omega);(have x:r=false:=by rw[<-m.out];have h:=l.out;rw[yv (by rw[g.out];exact yq _)]at h;exact y0 h);subst x;go_wp2_with(fail);go_ret;exact⟨rfl,rfl⟩
theorem kX(w:World)(A B:Option Addr)(n c m d:Nat)(ks f:List Int)(hs:Sl w 1 A n (ao ks))(u:Sl w 1 B m (ao f))(hn:n<=100000000000)(hm:m<=100000000000)(r:Bool)(F:decide (ks=f)=r):Calls Tryz.prog 15 #[.slice A n c,.slice B m d] w λe w'=>e=.returned (.bool r)/\Below w.heap.size w w':=by
 have I:=yj hs;have J:=yj u;have j:Hid (ks.length=n):=yj (by have:=hs.len;simpa[ao]using this);have p:Hid (f.length=m):=yj (by have:=u.len;simpa[ao]using this);have q:=yj F;clear hs u F;by_cases E:n=m;case neg=>
  have t:r=false:=by rw[<-q.out];exact y0 (λe=>E (by rw[<-j.out,<-p.out,e]))
  subst t;have h1:((n:Int)!=(m:Int))=true:=bne_iff_ne.2 (by omega);have h2:¬((n:Int)=(m:Int)):=by omega
  go_enter Tryz.func15,Tryz.ntmps15;go_wp2_with(fail);go_ret;exact⟨rfl,yl _ _⟩
 subst E;go_enter Tryz.func15,Tryz.ntmps15;go_wp2_with(fail);go_loopw[5] (λv wr=>∃i:Nat,i<=n/\v=.int .i64 (i:Int)/\ks.take i=f.take i/\Below w.heap.size w wr) (λv _=>n-(intOf v).toNat);case atStart=>exact⟨0,yw _,rfl,by simp,yl _ _⟩
 case round=>
  obtain⟨i,hi,rfl,G,D⟩:=hrel;obtain⟨H,rfl⟩:∃H:World,H=wr:=⟨_,rfl⟩;have C:=yj G;have a:=yj D;clear G D;by_cases g:i<n;.obtain⟨k,hk⟩:∃k,ks[i]?=some k:=⟨_,yk (by rw[j.out];exact g)⟩;obtain⟨l,hl⟩:∃k,f[i]?=some k:=⟨_,yk (by rw[p.out];exact g)⟩;obtain⟨b,o,rfl,P,N⟩:=dO (I.out.ad a.out) hk;obtain⟨M,S,rfl,Q,O⟩:=dO (J.out.ad a.out) hl;(have K:(i:Int)<(n:Int):=by omega);have R:(0:Int)<=(i:Int):=yo _;have z:=yj g;have x:=yj hk;have y:=yj hl;clear g hk hl;by_cases s:k=l;(.subst s;go_wp2_with(fail);go_quiet(fail);go_wp2_with(fail);go_roundw;(case rel=>exact⟨i+1,z.out,by go_num,by rw[yz,yz,x.out,y.out,C.out],fP a.out _⟩);case measure=>have:=z.out;simp[intOf];omega);.have h1:(k !=l)=true:=bne_iff_ne.2 s;(have t:r=false:=by rw[<-q.out];refine y0 (λe=>s ?_);have h2:=x.out;rw[e,y.out]at h2;injection h2 with h2;exact h2.symm);subst t;go_wp2_with(fail);go_quiet(fail);go_wp2_with(fail);go_ret;exact⟨rfl,fP a.out _⟩
  . (obtain rfl:i=n:=by omega);(have K:¬((i:Int)<(i:Int)):=by omega);(have L:r=true:=by rw[<-q.out];have h:=C.out;rw[yv (by rw[j.out];exact yq _),yv (by rw[p.out];exact yq _)]at h;exact zp h);subst L;go_wp2_with(fail);go_ret;exact⟨rfl,a.out⟩
theorem pH{P:Nat->Prop}{w:World}{cs:List Value}{q:Rat}(h:bL.at_ P w cs q):cS w (.agg cs.toArray) q:=by
 obtain⟨A,n,c,A',n',c',rfl,h1,h2,a,b⟩:=h;have d:n=(ai q.num.natAbs).length:=by have:=a.len;rw[<-this];simp[dz]
 have e:n'=(ai q.den).length:=by have:=b.len;rw[<-this];simp[dz]
 subst d e;exact⟨A,c,A',c',rfl,h1,h2,a.1,b.1⟩
end Go.Proofs.YthmegpnhjnphlaaGreat
namespace Go.Proofs.YthmegpnhjnphlaaGreat
structure a9 where
 terms:List (Nat×Rat)
 kind:Nat
 value:Rat
structure a1 where
 n:Nat
 rows:List a9
def bh(n:Nat):Nat->List (Nat×Rat)->Prop|_,[]=>True|lo,(v,c)::l=>lo<=v/\v<n/\c≠0/\bh n (v+1) l
def a9.Ok(n:Nat)(r:a9):Prop:=bh n 0 r.terms/\r.kind<3
def a1.Ok(s:a1):Prop:=s.n<=1500/\s.rows.length<=6000/\∀r∈s.rows,r.Ok s.n
def aM(l:List (Nat×Rat))(x:Nat->Rat):Rat:=l.foldl (λo t=>o+t.2*x t.1) 0
def a9.holds(r:a9)(x:Nat->Rat):Prop:=(r.kind≠1->r.value<=aM r.terms x)/\(r.kind≠0->aM r.terms x<=r.value)
def a1.Holds(s:a1)(x:Nat->Rat):Prop:=(∀k,k<s.n->0<=x k)/\∀r∈s.rows,r.holds x
theorem m8(x:Nat->Rat):∀(l:List (Nat×Rat))(o:Rat),l.foldl (λo t=>o+t.2*x t.1) o=o+aM l x|[],o=>by simp[aM];grind|t::l,o=>by unfold aM;rw[zH,zH,m8 x l,m8 x l (0+t.2*x t.1)];grind
theorem cR(t:Nat×Rat)(l:List (Nat×Rat))(x:Nat->Rat):aM (t::l) x=t.2*x t.1+aM l x:=by have:=m8 x l (0+t.2*x t.1);unfold aM at this⊢;rw[zH,this];grind
theorem ew(x:Nat->Rat):aM [] x=0:=rfl
structure Dic where
 rows:List (Rat×List Rat)
 goal:List Rat
 own:List Nat
 free:List Nat
def aT(n:Nat):List Rat:=List.replicate n 0
def dU(n:Nat)(l:List (Nat×Rat))(b:Bool):List Rat:=l.foldl (λa t=>a.set t.1 (if b then-t.2 else t.2)) (aT n)
def gU(i:Nat)(r:a9):List (Nat×Bool):=(if r.kind≠0 then[(i,false)]else[])++if r.kind≠1 then[(i,true)]else[]
def cB:Nat->List a9->List (Nat×Bool)|_,[]=>[]|i,r::l=>gU i r++cB (i+1) l
def eL(n:Nat)(r:a9)(a:Bool):Rat×List Rat:=(if a then-r.value else r.value,dU n r.terms a)
def fW(n:Nat)(r:a9):List (Rat×List Rat):=(if r.kind≠0 then[eL n r false]else[])++if r.kind≠1 then[eL n r true]else[]
def aP(n:Nat):List a9->List (Rat×List Rat)|[]=>[]|r::l=>fW n r++aP n l
def b6(s:a1)(goal:List (Nat×Rat)):Dic where
 rows:=aP s.n s.rows
 goal:=dU s.n goal true
 own:=(List.range (aP s.n s.rows).length).map λi=>s.n+i
 free:=List.range s.n
def eg(a row:List Rat)(s:Nat):List Rat:=(List.zipWith (λx y=>x-a.getD s 0*y) a row).set s (0-a.getD s 0*row.getD s 0)
def cU(row:Rat×List Rat)(s:Nat):Rat×List Rat:=(row.1/row.2.getD s 0,(row.2.map λx=>x/row.2.getD s 0).set s (1/row.2.getD s 0))
def cJ(D:Dic)(r s:Nat):Dic where
 rows:=D.rows.mapIdx λi l=>if i=r then cU l s else(l.1-l.2.getD s 0*(cU (D.rows.getD r (0,[])) s).1,eg l.2 (cU (D.rows.getD r (0,[])) s).2 s)
 goal:=eg D.goal (cU (D.rows.getD r (0,[])) s).2 s
 own:=D.own.set r (D.free.getD s 0)
 free:=D.free.set s (D.own.getD r 0)
def fk(vars:List Nat)(p:Nat->Bool):Nat->Option Nat
 |0=>none
 |k+1=>match fk vars p k with|none=>if p k then some k else none|some b=>if p k&&decide (vars.getD k 0<vars.getD b 0)then some k else some b
def eG(vars:List Nat)(p:Nat->Bool):Option Nat:=fk vars p vars.length
def hz(D:Dic)(i:Nat):Bool:=decide ((D.rows.getD i (0,[])).1<0)
def hr(D:Dic)(j:Nat):Bool:=decide (0<D.goal.getD j 0)
def bJ(D:Dic)(i j:Nat):Rat:=(D.rows.getD i (0,[])).2.getD j 0
inductive Go|best|row (r:Nat)|bI (s:Nat)|a8 (r s:Nat)
def gY(D:Dic)(r:Nat):Go:=match eG D.free λj=>decide (bJ D r j<0)with|none=>.row r|some s=>.a8 r s
def g0(D:Dic)(s:Nat):Go:=match eG D.own λi=>decide (0<bJ D i s)with|none=>.bI s|some r=>.a8 r s
def b_(D:Dic):Go:=match eG D.own (hz D),eG D.free (hr D)with|none,none=>.best|some r,none=>gY D r|some r,some s=>if D.own.getD r 0<D.free.getD s 0 then gY D r else g0 D s|none,some s=>g0 D s
def de:Nat->Dic->Option (Dic×Option Nat×Option Nat)
 |0,_=>none
 |f+1,D=>match b_ D with|.best=>some (D,none,none)|.row r=>some (D,some r,none)|.bI s=>some (D,none,some s)|.a8 r s=>de f (cJ D r s)
theorem kQ(vars:List Nat)(p:Nat->Bool):∀k,(fk vars p k=none->∀i,i<k->p i=false)/\(∀b,fk vars p k=some b->b<k/\p b=true/\∀i,i<k->vars.getD i 0<vars.getD b 0->p i=false)
 |0=>⟨λ_ i hi=>by omega,λb h=>by cases h⟩
 |k+1=>by
  obtain⟨h1,h2⟩:=kQ vars p k;simp only[fk];cases hk:fk vars p k with
  |none=>
   have a:=h1 hk;cases hp:p k with
   |false=>simp only[zo,zX];exact⟨λ_ i hi=>by by_cases e:i=k;(subst e;exact hp);exact a i (by omega),λb h=>by cases h⟩
   |true=>simp only[if_true];refine⟨λh=>(by cases h),λb h=>?_⟩;injection h with h;subst h;exact⟨by omega,hp,λi hi hl=>by by_cases e:i=k;(subst e;omega);exact a i (by omega)⟩
  |some b=>
   obtain⟨a,f,c⟩:=h2 b hk;cases hp:p k&&decide (vars.getD k 0<vars.getD b 0)with
   |false=>
    simp only[hp,zo,zX];refine⟨λh=>(by cases h),λd h=>?_⟩;injection h with h;subst h;refine⟨by omega,f,λi hi hl=>?_⟩;by_cases e:i=k
    .subst e;cases g:p i with
     |false=>rfl
     |true=>rw[g,BI,zr]at hp;omega
    .exact c i (by omega) hl
   |true=>simp only[hp,if_true];simp only[y7,zf]at hp;refine⟨λh=>(by cases h),λd h=>?_⟩;injection h with h;subst h;refine⟨by omega,hp.1,λi hi hl=>?_⟩;by_cases e:i=k;(.subst e;omega);.exact c i (by omega) (by omega)
theorem km{vars:List Nat}{p:Nat->Bool}(h:eG vars p=none):∀i,i<vars.length->p i=false:=(kQ vars p _).1 h
theorem j_{vars:List Nat}{p:Nat->Bool}{b:Nat}(h:eG vars p=some b):b<vars.length/\p b=true/\∀i,i<vars.length->vars.getD i 0<vars.getD b 0->p i=false:=(kQ vars p _).2 b h
namespace Dic
def fn(D:Dic):Dict where
 own:=λi=>D.own.getD i 0
 free:=λj=>D.free.getD j 0
 v:=λi=>(D.rows.getD i (0,[])).1
 a:=bJ D
 g:=λj=>D.goal.getD j 0
structure dM(m n:Nat)(D:Dic):Prop where
 rows:D.rows.length=m
 own:D.own.length=m
 free:D.free.length=n
 goal:D.goal.length=n
 row:∀i,i<m->(D.rows.getD i (0,[])).2.length=n
variable {m n:Nat} {D:Dic}
theorem f_{α:Type}(l:List α)(i j:Nat)(x d:α)(hi:i<l.length):(l.set i x).getD j d=if j=i then x else l.getD j d:=by
 simp only[yu,yZ];by_cases e:i=j;.subst e;simp[hi]
 .rw[yB e,yB (λh=>e h.symm)]
theorem uG(a b:List Rat)(f:Rat)(hl:a.length=b.length)(j:Nat):(List.zipWith (λx y=>x-f*y) a b).getD j 0=a.getD j 0-f*b.getD j 0:=by
 simp only[yu,zK];by_cases h:j<a.length;.rw[yk h,yk (by omega)];rfl
 .rw[yV (by omega),yV (by omega)];simp;grind
theorem uD(a:List Rat)(p:Rat)(j:Nat):(a.map λx=>x/p).getD j 0=a.getD j 0/p:=by
 simp only[yu,yG];cases a[j]? with
 |none=>simp[Aa]
 |some x=>rfl
theorem iw{a row:List Rat}(s:Nat)(hl:a.length=row.length):(eg a row s).length=a.length:=by unfold eg;rw[yW,Ah,hl,Bq]
theorem lU{a row:List Rat}{s:Nat}(hl:a.length=row.length)(hs:s<a.length)(j:Nat):(eg a row s).getD j 0=if j=s then 0-a.getD s 0*row.getD s 0 else a.getD j 0-a.getD s 0*row.getD j 0:=by unfold eg;rw[f_ _ _ _ _ _ (by rw[Ah];omega),uG _ _ _ hl]
theorem kt{row:Rat×List Rat}{s:Nat}(hs:s<row.2.length)(j:Nat):(cU row s).2.getD j 0=if j=s then 1/row.2.getD s 0 else row.2.getD j 0/row.2.getD s 0:=by unfold cU;rw[f_ _ _ _ _ _ (by rw[y8];exact hs),uD]
theorem j4(row:Rat×List Rat)(s:Nat):(cU row s).2.length=row.2.length:=by simp[cU]
theorem mq(D:Dic)(r s i:Nat)(hi:i<D.rows.length):(cJ D r s).rows.getD i (0,[])=if i=r then cU (D.rows.getD i (0,[])) s else((D.rows.getD i (0,[])).1-(D.rows.getD i (0,[])).2.getD s 0*(cU (D.rows.getD r (0,[])) s).1,eg (D.rows.getD i (0,[])).2 (cU (D.rows.getD r (0,[])) s).2 s):=by simp only[cJ,yu,y_,yk hi,B9,AY]
theorem dM.a8(h:D.dM m n){r s:Nat}(b:r<m):(cJ D r s).dM m n:=by
 have a:=h.row r b;refine⟨by simp[cJ,h.rows],by simp[cJ,h.own],by simp[cJ,h.free],?_,λi hi=>?_⟩;.show(eg _ _ _).length=n;rw[iw _ (by rw[j4,a,h.goal])];exact h.goal
 .rw[mq D r s i (by rw[h.rows];exact hi)];split;.rw[j4];exact h.row i hi
  .show(eg _ _ _).length=n;rw[iw _ (by rw[j4,a,h.row i hi])];exact h.row i hi
theorem kG(h:D.dM m n){r s:Nat}(c:r<m)(hs:s<n):(cJ D r s).fn=D.fn.a8 r s:=by
 have b:=h.row r c;have hl:=h.a8 (s:=s) c;unfold fn Dict.a8;congr 1;.funext i;show(D.own.set r _).getD i 0=_;rw[f_ _ _ _ _ _ (by rw[h.own];exact c)]
 .funext j;show(D.free.set s _).getD j 0=_;rw[f_ _ _ _ _ _ (by rw[h.free];exact hs)]
 .funext i;by_cases hi:i<m;.rw[mq D r s i (by rw[h.rows];exact hi)];by_cases e:i=r;(.subst e;simp[cU,bJ]);.simp only[e,zX];rfl
  .rw[yu,yV (by rw[hl.rows];omega),yB (by omega)];show(0:Rat)=(D.rows.getD i (0,[])).1-bJ D i s*_;unfold bJ;rw[yu,yV (by rw[h.rows];omega)];simp;grind
 .funext i j;unfold bJ;by_cases hi:i<m;.rw[mq D r s i (by rw[h.rows];exact hi)];by_cases e:i=r;(.subst e;simp only[if_true];rw[kt (by rw[b];exact hs)]);.simp only[e,zX];rw[lU (by rw[j4,b,h.row i hi]) (by rw[h.row i hi];exact hs),kt (by rw[b];exact hs),kt (by rw[b];exact hs)];simp only[if_true];by_cases a:j=s;(.simp[a]);.simp[a]
  . (have d:D.rows.getD i (0,[])=(0,[]):=by rw[yu,yV (by rw[h.rows];omega)];rfl);(have a:(cJ D r s).rows.getD i (0,[])=(0,[]):=by rw[yu,yV (by rw[hl.rows];omega)];rfl);rw[a,yB (by omega)];simp only[d];simp;grind
 .funext j;show(eg _ _ _).getD j 0=_;rw[lU (by rw[j4,b,h.goal]) (by rw[h.goal];exact hs),kt (by rw[b];exact hs),kt (by rw[b];exact hs)];simp only[if_true];by_cases a:j=s;.simp[a,bJ]
  .simp[a,bJ]
def Ends(m n:Nat)(D:Dict):Option Nat->Option Nat->Prop|none,none=>(∀i,i<m->0<=D.v i)/\∀j,j<n->D.g j<=0|some r,none=>r<m/\D.v r<0/\∀j,j<n->0<=D.a r j|none,some s=>s<n/\0<D.g s/\∀i,i<m->D.a i s<=0|some _,some _=>False
theorem tj(h:D.dM m n){r:Nat}(hp:Dict.nx m n D.fn r):(∃s,gY D r=.a8 r s/\Dict.fR m n D.fn r s)\/(gY D r=.row r/\Ends m n D.fn (some r) none):=by
 unfold gY;split;.rename_i h1;refine .inr ⟨rfl,hp.lt,hp.neg,λj a=>?_⟩;have:=km h1 j (by rw[h.free];exact a);simp only[zr]at this;exact AX.1 this
 .rename_i s h1;obtain⟨h2,b,c⟩:=j_ h1;refine .inl ⟨s,rfl,.inl ⟨hp,by rw[h.free]at h2;exact h2,of_decide_eq_true b,λj a hl=>?_⟩⟩;have:=c j (by rw[h.free];exact a) hl;simp only[zr]at this;exact AX.1 this
theorem rZ(h:D.dM m n){s:Nat}(hp:Dict.kN m n D.fn s):(∃r,g0 D s=.a8 r s/\Dict.fR m n D.fn r s)\/(g0 D s=.bI s/\Ends m n D.fn none (some s)):=by
 unfold g0;split;.rename_i h1;refine .inr ⟨rfl,hp.lt,hp.pos,λi hi=>?_⟩;have:=km h1 i (by rw[h.own];exact hi);simp only[zr]at this;exact AX.1 this
 .rename_i r h1;obtain⟨h2,a,b⟩:=j_ h1;refine .inl ⟨r,rfl,.inr ⟨hp,by rw[h.own]at h2;exact h2,of_decide_eq_true a,λi hi hl=>?_⟩⟩;have:=b i (by rw[h.own];exact hi) hl;simp only[zr]at this;exact AX.1 this
theorem iH(h:D.dM m n):(∃r s,b_ D=.a8 r s/\Dict.fR m n D.fn r s)\/(b_ D=.best/\Ends m n D.fn none none)\/(∃r,b_ D=.row r/\Ends m n D.fn (some r) none)\/(∃s,b_ D=.bI s/\Ends m n D.fn none (some s)):=by
 have d:∀i,hz D i=false->0<=D.fn.v i:=λi hi=>by unfold hz at hi;simp only[zr]at hi;exact AX.1 hi
 have hg:∀j,hr D j=false->D.fn.g j<=0:=λj a=>by unfold hr at a;simp only[zr]at a;exact AX.1 a
 have o:∀r,Dict.nx m n D.fn r->b_ D=gY D r->(∃r s,b_ D=.a8 r s/\Dict.fR m n D.fn r s)\/(b_ D=.best/\Ends m n D.fn none none)\/(∃r,b_ D=.row r/\Ends m n D.fn (some r) none)\/(∃s,b_ D=.bI s/\Ends m n D.fn none (some s)):=by
  intro r p e;rw[e];rcases tj h p with⟨s,h1,h2⟩|⟨h1,h2⟩;.exact .inl ⟨r,s,h1,h2⟩
  .exact .inr (.inr (.inl ⟨r,h1,h2⟩))
 have l:∀s,Dict.kN m n D.fn s->b_ D=g0 D s->(∃r s,b_ D=.a8 r s/\Dict.fR m n D.fn r s)\/(b_ D=.best/\Ends m n D.fn none none)\/(∃r,b_ D=.row r/\Ends m n D.fn (some r) none)\/(∃s,b_ D=.bI s/\Ends m n D.fn none (some s)):=by
  intro s hs e;rw[e];rcases rZ h hs with⟨r,h1,h2⟩|⟨h1,h2⟩;.exact .inl ⟨r,s,h1,h2⟩
  .exact .inr (.inr (.inr ⟨s,h1,h2⟩))
 cases h1:eG D.own (hz D)with
 |none=>
  have k:=km h1;cases h2:eG D.free (hr D)with
  |none=>have b:=km h2;exact .inr (.inl ⟨by unfold b_;rw[h1,h2],λi hi=>d i (k i (by rw[h.own];exact hi)),λj a=>hg j (b j (by rw[h.free];exact a))⟩)
  |some s=>obtain⟨b,g,c⟩:=j_ h2;rw[h.free]at b c;exact l s ⟨b,of_decide_eq_true g,λj a hl=>hg j (c j a hl),λi hi _=>d i (k i (by rw[h.own];exact hi))⟩ (by unfold b_;rw[h1,h2])
 |some r=>
  obtain⟨b2,b3,b4⟩:=j_ h1;rw[h.own]at b2 b4;cases h2:eG D.free (hr D)with
  |none=>have b:=km h2;exact o r ⟨b2,of_decide_eq_true b3,λi hi hl=>d i (b4 i hi hl),λj a _=>hg j (b j (by rw[h.free];exact a))⟩ (by unfold b_;rw[h1,h2])
  |some s=>obtain⟨b,g,c⟩:=j_ h2;rw[h.free]at b c;by_cases f:D.own.getD r 0<D.free.getD s 0;(.exact o r ⟨b2,of_decide_eq_true b3,λi hi hl=>d i (b4 i hi hl),λj a hl=>hg j (c j a (Nat.lt_trans hl f))⟩ (by unfold b_;rw[h1,h2];simp only[f,if_true]));.exact l s ⟨b,of_decide_eq_true g,λj a hl=>hg j (c j a hl),λi hi hl=>d i (b4 i hi (yx hl (Nat.le_of_not_lt f)))⟩ (by unfold b_;rw[h1,h2];simp only[f,zX])
def after(D:Dic):Nat->Dic
 |0=>D
 |t+1=>match b_ (after D t)with|.a8 r s=>cJ (after D t) r s|_=>after D t
theorem px{D:Dic}{t r s:Nat}(e:b_ (after D t)=.a8 r s):after D (t+1)=cJ (after D t) r s:=by rw[after,e]
def rh(D:Dic):Prop:=∃r s,b_ D=.a8 r s
theorem tf(h:D.dM m n)(hk:D.fn.Ok m n){K:Nat}(hg:∀t,t<K->rh (after D t)):(∀t,t<=K->(after D t).dM m n)/\∃r s,Dict.Run m n K (λt=>(after D t).fn) r s:=by
 have d:∀t,t<=K->(after D t).dM m n:=by
  intro t;induction t with
  |zero=>intro _;exact h
  |succ t f=>intro a;have h1:=f (by omega);obtain⟨r,s,e⟩:=hg t (by omega);(rcases iH h1 with⟨g,s',e',hp⟩|⟨e',_⟩|⟨_,e',_⟩|⟨_,e',_⟩<;>rw[e]at e'<;>try(cases e';done));injection e' with b c;subst b c;rw[px e];exact h1.a8 hp.ok.1
 refine⟨d,?_⟩;have hx:∀t,∃r s,t<K->b_ (after D t)=.a8 r s/\Dict.fR m n (after D t).fn r s:=by
  intro t;by_cases a:t<K;.obtain⟨r,s,e⟩:=hg t a;(rcases iH (d t (by omega))with⟨g,s',e',hp⟩|⟨e',_⟩|⟨_,e',_⟩|⟨_,e',_⟩<;>rw[e]at e'<;>try(cases e';done));injection e' with b c;subst b c;exact⟨r,s,λ_=>⟨e,hp⟩⟩
  .exact⟨0,0,λh=>absurd h a⟩
 refine⟨λt=>Classical.choose (hx t),λt=>Classical.choose (zS (hx t)),hk,λt a=>?_,λt a=>?_⟩;.exact(zS (zS (hx t)) a).2
 .have h1:=zS (zS (hx t)) a;show(after D (t+1)).fn=_;rw[px h1.1];exact kG (d t (by omega)) h1.2.ok.1 h1.2.ok.2.1
theorem qj:∀(f:Nat)(D:Dic),de f D=none->∀t,t<f->rh (after D t)
 |0,D,_,t,b=>by omega
 |f+1,D,h,t,b=>by
  unfold de at h;cases a:b_ D with
  |best=>rw[a]at h;cases h
  |row r=>rw[a]at h;cases h
  |bI s=>rw[a]at h;cases h
  |a8 r s=>
   rw[a]at h;have h1:=qj f _ h;have h2:∀u,after D (u+1)=after (cJ D r s) u:=by
    intro u;induction u with
    |zero=>simp only[after,a]
    |succ u c=>rw[after,c];rfl
   cases t with
   |zero=>exact⟨r,s,a⟩
   |succ t=>rw[h2];exact h1 t (by omega)
theorem lA(h:D.dM m n)(hk:D.fn.Ok m n):∃x,de (2^(n+m)) D=some x:=by
 cases hs:de (2^(n+m)) D with
 |some x=>exact⟨x,rfl⟩
 |none=>obtain⟨_,r,s,a⟩:=tf h hk (qj _ _ hs);have:=a.len;omega
theorem lK{f:Nat}{D:Dic}{D':Dic}{row bI:Option Nat}(h:D.dM m n)(hk:D.fn.Ok m n)(hs:de f D=some (D',row,bI)):D'.dM m n/\D'.fn.Ok m n/\Dict.Same m n D.fn D'.fn/\Ends m n D'.fn row bI:=by
 induction f generalizing D with
 |zero=>cases hs
 |succ f j=>
  unfold de at hs;rcases iH h with⟨r,s,e,hp⟩|⟨e,he⟩|⟨r,e,he⟩|⟨s,e,he⟩;.rw[e]at hs;have a:=hp.ok;obtain⟨d,g,c,i⟩:=j (h.a8 a.1) (by rw[kG h a.1 a.2.1];exact hk.a8 a.1 a.2.1) hs;refine⟨d,g,?_,i⟩;rw[kG h a.1 a.2.1]at c;exact(Dict.Same.a8 a.1 a.2.1 a.2.2).trans c
  .rw[e]at hs;injection hs with hs;injection hs with h1 h2;injection h2 with h2 b;subst h1 h2 b;exact⟨h,hk,Dict.Same.refl _,he⟩
  .rw[e]at hs;injection hs with hs;injection hs with h1 h2;injection h2 with h2 b;subst h1 h2 b;exact⟨h,hk,Dict.Same.refl _,he⟩
  .rw[e]at hs;injection hs with hs;injection hs with h1 h2;injection h2 with h2 b;subst h1 h2 b;exact⟨h,hk,Dict.Same.refl _,he⟩
end Dic
