import Derived.Test.YthmegpnhjnphlaaGreatTopBU
set_option maxHeartbeats 32000000
set_option maxRecDepth 100000
namespace Go.Proofs.YthmegpnhjnphlaaGreat
open Go.RowKit
theorem o'(w:World)(a:DA)(m n r s:Nat)(D:Dic)(src:List (Nat×Bool))(h:DicAt w a m n D src)(hm:m<=1000000)(hn:n<=1000000)(Q:r<=100000)(cG:s<m)(hs:∀x∈src,x.1<r)(G:(∀j,j<n->D.free.getD j 0<n+m)/\D.own.getD s 0<n+m){K:Nat}(bA:gp K D)(bT:0<K)(g:(n+3)*(K+1)<=1000000000):Calls Tryz.prog 77 #[.pointer (some ⟨a.d,0,none⟩),.int .i64 (r:Int),.int .i64 (s:Int)] w (jW a.P r (gg n r src D s) w):=by
 have t:=yj h;have cV:=yj (ld w r Q a.P h.opn);obtain⟨M,R⟩:∃M,(if D.own.getD s 0<n then aT r else fD src (aT r) (D.own.getD s 0-n) 1)=M:=⟨_,rfl⟩;have ci:Hid (gg n r src D s=eA n src D.free (λj=>bJ D s j) M n):=yj (by unfold gg i_ eA;rw[h.len.free,R]);have bU:∀j,Fit K (bJ D s j):=λj=>lT bA bT s j;have cw:M.length=r:=by rw[<-R];split<;>simp[fD,aT]
 have ct:a_ (1+K+1) M:=by
  rw[<-R];split;.exactλx hx=>(fZ r x hx).mono (by omega)
  .exact a_.ay (fZ r) (k5 bT:Fit K 1) (by decide)
 have cr:1+K+1+n*(K+1)+(K+1)<=1000000000:=by rw[zI]at g;omega
 have cs:∀j,j<=n->a_ (1+K+1+n*(K+1)+(K+1)) (eA n src D.free (λj=>bJ D s j) M j):=λj bO x hx=>(k2 ct bU (by omega) j x hx).mono (by have:=yU (K+1) bO;omega);have cb:=yj (λW B k c j (hd:DicAt W a m n D src) (hy:NewR a.P w W B (eA n src D.free (λj=>bJ D s j) M j)) (bO:j<=n) (hk:k<m) f (bA:Fr Any W f (bJ D s j))=>nT w W a m n D src hd h.opn hm B r k c _ hy (by rw[lQ];exact cw) hk hs (by omega) bA ((bU j).mono (by omega)) (cs j bO) (by omega) cr);have cH:=yj (λW B k c (hd:DicAt W a m n D src) (hy:NewR a.P w W B (aT r)) (hk:k<m) f (bA:Fr Any W f ((1:Int):Rat))=>nT w W a m n D src hd h.opn hm B r k c _ hy (by simp[aT]) hk hs (by omega) bA (k5 (by decide):Fit 1 _) (fZ r) (by decide) (by decide));have cM:=yj (λW=>da W 1 (by decide) (by decide));have cp:=yj G;have co:=yj cG;obtain⟨v,bZ⟩:∃k,D.own[s]?=some k:=⟨_,yk (by rw[h.len.own];exact cG)⟩;have bY:D.own.getD s 0=v:=by rw[yu,bZ];rfl
 have H:=G.2;rw[bY]at H;rw[bY]at R;have dr:(s:Int)<(m:Int):=by omega
 have dm:(0:Int)<=(s:Int):=yo _;have c1:=(h.oa (by omega)).1;have bR:=yj bZ;clear h bA bT g cr hs G bU ct cs cw bZ bY;go_enter Tryz.func77,Tryz.ntmps77;go_wp2_with(fail);((with_reducible refine cV.out.mono ?_);rintro _ Z⟨B,rfl,X⟩;have b:=yj X;clear X);have bx:=(t.out.ad b.out.aC).bx;rw[c1]at bx;have o:=yj bx;have O:=((t.out.ad b.out.aC).oa (by omega)).2.1.at_ s v bR.out;clear bx;obtain⟨E,C,A⟩:=o.out;by_cases u:v<n
 .have J:¬((v:Int)>=(n:Int)):=by omega
  have L:¬((n:Int)<=(v:Int)):=by omega
  rw[yK u]at R;rw[R]at b;go_upto_region 5 with(fail);clear E C A O;simp only[y0 (by omega:¬n<=v)];clear J L u H bR;replace o:=yj (t.out.bx.ad b.out.aC);obtain⟨E,C,A⟩:=o.out;go_wp2_with(fail);clear E C A;go_loopw[41] (λbw wr=>∃i:Nat,i<=n/\bw=.int .i64 (i:Int)/\NewR a.P w wr B (eA n src D.free (λj=>bJ D s j) M i)) (λbw _=>n-(intOf bw).toNat);case atStart=>exact⟨0,yw _,rfl,b.out⟩
  case round=>clear b;obtain⟨j,bO,rfl,X⟩:=hrel;obtain⟨l,rfl⟩:∃l:World,l=wr:=⟨_,rfl⟩;have b:=yj X;clear X;replace o:=yj (t.out.bx.ad b.out.aC);by_cases P:j<n;(.have e:=yj (t.out.ad b.out.aC);obtain⟨v,G⟩:∃k,D.free[j]?=some k:=⟨_,yk (by rw[t.out.len.free];exact P)⟩;have bj:Hid (D.free.getD j 0=v):=yj (by rw[yu,G];rfl);have O:=(e.out.fa (by omega)).2.1.at_ j v G;have H:=cp.out.1 j P;rw[bj.out]at H;(have bV:(j:Int)<(n:Int):=by omega);have cY:(0:Int)<=(j:Int):=yo _;have bs:=(t.out.fa (by omega)).1;rw[bs];have cI:=yj bs;have y:=yj P;clear P G bs;by_cases u:v<n;(. (have J:¬((v:Int)>=(n:Int)):=by omega);(have L:¬((n:Int)<=(v:Int)):=by omega);have N:=yj u;clear u H;obtain⟨E,C,A⟩:=o.out;go_wp2_with(fail);go_roundw;(case rel=>exact⟨j+1,y.out,by go_num,by rw[hX,bj.out,yK N.out];exact b.out⟩);case measure=>have:=y.out;simp[intOf];omega);.obtain⟨k,rfl⟩:∃k,v=n+k:=⟨v-n,by omega⟩;(have J:(((n+k:Nat):Int))>=(n:Int):=by omega);(have L:(n:Int)<=((n+k:Nat):Int):=by omega);(have bB:k<m:=by omega);(have bK:((n+k:Nat):Int)-(n:Int)=(k:Int):=by omega);have b0:IntKind.i64.wrap (k:Int)=(k:Int):=ga (by omega) (by omega);have N:=yj u;clear u H;obtain⟨z,Y⟩:∃z:Int,z=((n+k:Nat):Int):=⟨_,rfl⟩;rw[<-Y]at O J L bK;obtain⟨⟨c',row⟩,Q⟩:=e.out.hQ co.out;obtain⟨fv,-,cA,-,bv,hl⟩:=e.out.ln s _ Q;obtain⟨bq,cg,bu⟩:=bv.get (j:=j) (by rw[hl];exact y.out);rw[show row.getD j 0=bJ D s j by rw[bJ,e2 Q]]at bu;have bc:=yj bu.any;have bN:=yj (And.intro bv.aY.lt (e.out.fw (by omega)));have I:Hid (∀W,Below l.heap.size l W->(W.cell? ⟨a.d,0,none⟩=some (.int .i64 (n:Int))/\W.cell? ⟨a.d,1,none⟩=some (.slice (some ⟨a.RB,0,none⟩) m a.rc))/\W.cell? ⟨a.RB,s*5+4,none⟩=some (.slice (some ⟨a.A s,0,none⟩) n (a.ac s))/\C4 W (a.A s) (j*4) bq):=yj λW F=>⟨⟨(o.out.ad F).cell 0,by rw[<-(t.out.ra (by omega)).1];exact(o.out.ad F).cell 1⟩,(F.cell (p:=⟨a.RB,s*5+4,none⟩) bN.out.2).trans cA,cg.ad F bN.out.1⟩;have bQ:=yj (yl l.heap.size l);(have b':z<=2000000:=by omega);(have ca:0<=z:=by omega);clear bu cg bv hl Q cA Y;obtain⟨E,C,A⟩:=o.out;go_upto_region 9 with(fail);clear E C A O;refine ag.o 20 (S:=λ_=>True) (T:=λW=>(W.cell? ⟨a.d,0,none⟩=some (.int .i64 (n:Int))/\W.cell? ⟨a.d,1,none⟩=some (.slice (some ⟨a.RB,0,none⟩) m a.rc))/\W.cell? ⟨a.RB,s*5+4,none⟩=some (.slice (some ⟨a.A s,0,none⟩) n (a.ac s))/\C4 W (a.A s) (j*4) bq) (m:=19) rfl (by kernel_rfl) ?_;have d:=yj (Below.drew (yl l.heap.size l));replace e:=yj (e.out.ad d.out);replace b:=yj (b.out.ad d.out);replace bc:=yj (bc.out.ad d.out);generalize l.drew=dk at*;(refine ag.pl [.t 0,.t 1,.t 2,.t 3,.t 4,.t 5,.c 6 [7,19],.t 7,.t 8,.t 9,.t 10,.c 11 [13,14,15,17,18,19],.t 12,.t 13,.t 14,.c 15 [17,18,19],.t 16,.t 17,.c 18 [19]] ?_;repeat((first|refine ag.j ?_ trivial (λ_=>(I.out _ d.out)) ?_ ?_|refine ag.cp ?_ trivial (I.out _ d.out) ?_ ?_);rotate_left;(·intro _ h;go_simp;try with_reducible rfl);try simp only[tidy]));refine ag.lp ?_;refine ag.step (i:=19) (by kernel_rfl) (by rfl) (λbk g=>?_);replace g:=yj g;go_simp;go_at_call 117;((with_reducible refine(cb.out _ B k r j e.out b.out (yT y.out) bB bq bc.out).mono ?_);rintro _ dl⟨rfl,V,U⟩);have bz:=yj (b.out.write V U);clear V U;(refine g.out _ _ trivial (λh=>nomatch(show true=false from h)) ?_;clear g bk;try simp only[tidy]);refine ag.stop (by kernel_rfl) ?_ _;go_wp2_with(fail);go_roundw;(case rel=>exact⟨j+1,y.out,by go_num,by rw[hX,bj.out,yB N.out,AK];exact bz.out⟩);case measure=>have:=y.out;simp[intOf];omega);. (obtain rfl:n=j:=by omega);(have bV:¬((n:Int)<(n:Int)):=by omega);go_wp2_with(fail);go_ret;exact⟨B,rfl,by rw[ci.out];exact b.out⟩
 .rw[yB u]at R;obtain⟨k,rfl⟩:∃k,v=n+k:=⟨v-n,by omega⟩;have J:(((n+k:Nat):Int))>=(n:Int):=by omega
  have L:(n:Int)<=((n+k:Nat):Int):=by omega
  have bB:k<m:=by omega
  have bK:((n+k:Nat):Int)-(n:Int)=(k:Int):=by omega
  have b0:IntKind.i64.wrap (k:Int)=(k:Int):=ga (by omega) (by omega);have N:=yj u;clear u H;obtain⟨z,Y⟩:∃z:Int,z=((n+k:Nat):Int):=⟨_,rfl⟩;rw[<-Y]at O J L bK;have I:Hid (∀W,Below Z.heap.size Z W->W.cell? ⟨a.d,0,none⟩=some (.int .i64 (n:Int))):=yj λW F=>(o.out.ad F).cell 0;have bQ:=yj (yl Z.heap.size Z);have e:=yj (t.out.ad b.out.aC);have b':z<=2000000:=by omega
  have ca:0<=z:=by omega
  clear Y;go_upto_region 4 with(fail);clear E C A O;refine ag.o 10 (S:=λ_=>True) (T:=λW=>W.cell? ⟨a.d,0,none⟩=some (.int .i64 (n:Int))) (m:=9) rfl (by kernel_rfl) ?_;have d:=yj (Below.drew (yl Z.heap.size Z));replace e:=yj (e.out.ad d.out);replace b:=yj (b.out.ad d.out);generalize Z.drew=dg at*;refine ag.pl [.t 0,.t 1,.t 2,.t 3,.t 4,.t 5,.c 6 [7,9],.t 7] ?_;repeat((first|refine ag.j ?_ trivial (λ_=>(I.out _ d.out)) ?_ ?_|refine ag.cp ?_ trivial (I.out _ d.out) ?_ ?_);rotate_left;(·intro _ h;go_simp;try with_reducible rfl);try simp only[tidy])
  refine ag.lp ?_;refine ag.step (i:=8) (by kernel_rfl) (by rfl) (λbk g=>?_);replace g:=yj g;have cO:Hid (Z.heap.size<=dg.heap.size):=yj d.out.size;go_simp;go_at_call 44;((with_reducible refine(cM.out _).mono ?_);rintro _ dD⟨q,rfl,cx,bP⟩);have ce:=yj cx;clear cx;replace e:=yj (e.out.ad bP);replace b:=yj (b.out.ad bP);replace d:=yj (d.out.trans (bP.mono d.out.size));clear bP;refine g.out _ _ trivial (λ_=>(I.out _ d.out)) ?_;clear g bk;try simp only[tidy]
  refine ag.step (i:=9) (by kernel_rfl) (by rfl) (λbk g=>?_);replace g:=yj g;go_simp;go_at_call 117;((with_reducible refine(cH.out _ B k r e.out b.out bB q ce.out.any).mono ?_);rintro _ di⟨rfl,V,U⟩);have bz:=yj (b.out.write V U);clear V U;refine g.out _ _ trivial (λh=>nomatch(show true=false from h)) ?_;clear g bk;try simp only[tidy]
  refine ag.stop (by kernel_rfl) ?_ _;clear b;rw[AK]at R;have b:Hid (NewR a.P w di B M):=yj (R▸bz.out);clear bz ce e bQ I d N J L bB bK b0 b' ca cO bR;go_upto_region 5 with(fail);replace o:=yj (t.out.bx.ad b.out.aC);obtain⟨E,C,A⟩:=o.out;go_wp2_with(fail);clear E C A;go_loopw[41] (λbw wr=>∃i:Nat,i<=n/\bw=.int .i64 (i:Int)/\NewR a.P w wr B (eA n src D.free (λj=>bJ D s j) M i)) (λbw _=>n-(intOf bw).toNat);case atStart=>exact⟨0,yw _,rfl,b.out⟩
  case round=>clear b;obtain⟨j,bO,rfl,X⟩:=hrel;obtain⟨l,rfl⟩:∃l:World,l=wr:=⟨_,rfl⟩;have b:=yj X;clear X;replace o:=yj (t.out.bx.ad b.out.aC);by_cases P:j<n;(.have e:=yj (t.out.ad b.out.aC);obtain⟨v,G⟩:∃k,D.free[j]?=some k:=⟨_,yk (by rw[t.out.len.free];exact P)⟩;have bj:Hid (D.free.getD j 0=v):=yj (by rw[yu,G];rfl);have O:=(e.out.fa (by omega)).2.1.at_ j v G;have H:=cp.out.1 j P;rw[bj.out]at H;(have bV:(j:Int)<(n:Int):=by omega);have cY:(0:Int)<=(j:Int):=yo _;have bs:=(t.out.fa (by omega)).1;rw[bs];have cI:=yj bs;have y:=yj P;clear P G bs;by_cases u:v<n;(. (have J:¬((v:Int)>=(n:Int)):=by omega);(have L:¬((n:Int)<=(v:Int)):=by omega);have N:=yj u;clear u H;obtain⟨E,C,A⟩:=o.out;go_wp2_with(fail);go_roundw;(case rel=>exact⟨j+1,y.out,by go_num,by rw[hX,bj.out,yK N.out];exact b.out⟩);case measure=>have:=y.out;simp[intOf];omega);.obtain⟨k,rfl⟩:∃k,v=n+k:=⟨v-n,by omega⟩;(have J:(((n+k:Nat):Int))>=(n:Int):=by omega);(have L:(n:Int)<=((n+k:Nat):Int):=by omega);(have bB:k<m:=by omega);(have bK:((n+k:Nat):Int)-(n:Int)=(k:Int):=by omega);have b0:IntKind.i64.wrap (k:Int)=(k:Int):=ga (by omega) (by omega);have N:=yj u;clear u H;obtain⟨z,Y⟩:∃z:Int,z=((n+k:Nat):Int):=⟨_,rfl⟩;rw[<-Y]at O J L bK;obtain⟨⟨c',row⟩,Q⟩:=e.out.hQ co.out;obtain⟨fv,-,cA,-,bv,hl⟩:=e.out.ln s _ Q;obtain⟨bq,cg,bu⟩:=bv.get (j:=j) (by rw[hl];exact y.out);rw[show row.getD j 0=bJ D s j by rw[bJ,e2 Q]]at bu;have bc:=yj bu.any;have bN:=yj (And.intro bv.aY.lt (e.out.fw (by omega)));have I:Hid (∀W,Below l.heap.size l W->(W.cell? ⟨a.d,0,none⟩=some (.int .i64 (n:Int))/\W.cell? ⟨a.d,1,none⟩=some (.slice (some ⟨a.RB,0,none⟩) m a.rc))/\W.cell? ⟨a.RB,s*5+4,none⟩=some (.slice (some ⟨a.A s,0,none⟩) n (a.ac s))/\C4 W (a.A s) (j*4) bq):=yj λW F=>⟨⟨(o.out.ad F).cell 0,by rw[<-(t.out.ra (by omega)).1];exact(o.out.ad F).cell 1⟩,(F.cell (p:=⟨a.RB,s*5+4,none⟩) bN.out.2).trans cA,cg.ad F bN.out.1⟩;have bQ:=yj (yl l.heap.size l);(have b':z<=2000000:=by omega);(have ca:0<=z:=by omega);clear bu cg bv hl Q cA Y;obtain⟨E,C,A⟩:=o.out;go_upto_region 9 with(fail);clear E C A O;refine ag.o 20 (S:=λ_=>True) (T:=λW=>(W.cell? ⟨a.d,0,none⟩=some (.int .i64 (n:Int))/\W.cell? ⟨a.d,1,none⟩=some (.slice (some ⟨a.RB,0,none⟩) m a.rc))/\W.cell? ⟨a.RB,s*5+4,none⟩=some (.slice (some ⟨a.A s,0,none⟩) n (a.ac s))/\C4 W (a.A s) (j*4) bq) (m:=19) rfl (by kernel_rfl) ?_;have d:=yj (Below.drew (yl l.heap.size l));replace e:=yj (e.out.ad d.out);replace b:=yj (b.out.ad d.out);replace bc:=yj (bc.out.ad d.out);generalize l.drew=dk at*;(refine ag.pl [.t 0,.t 1,.t 2,.t 3,.t 4,.t 5,.c 6 [7,19],.t 7,.t 8,.t 9,.t 10,.c 11 [13,14,15,17,18,19],.t 12,.t 13,.t 14,.c 15 [17,18,19],.t 16,.t 17,.c 18 [19]] ?_;repeat((first|refine ag.j ?_ trivial (λ_=>(I.out _ d.out)) ?_ ?_|refine ag.cp ?_ trivial (I.out _ d.out) ?_ ?_);rotate_left;(·intro _ h;go_simp;try with_reducible rfl);try simp only[tidy]));refine ag.lp ?_;refine ag.step (i:=19) (by kernel_rfl) (by rfl) (λbk g=>?_);replace g:=yj g;go_simp;go_at_call 117;((with_reducible refine(cb.out _ B k r j e.out b.out (yT y.out) bB bq bc.out).mono ?_);rintro _ dl⟨rfl,V,U⟩);have bz:=yj (b.out.write V U);clear V U;(refine g.out _ _ trivial (λh=>nomatch(show true=false from h)) ?_;clear g bk;try simp only[tidy]);refine ag.stop (by kernel_rfl) ?_ _;go_wp2_with(fail);go_roundw;(case rel=>exact⟨j+1,y.out,by go_num,by rw[hX,bj.out,yB N.out,AK];exact bz.out⟩);case measure=>have:=y.out;simp[intOf];omega);. (obtain rfl:n=j:=by omega);(have bV:¬((n:Int)<(n:Int)):=by omega);go_wp2_with(fail);go_ret;exact⟨B,rfl,by rw[ci.out];exact b.out⟩
def hK:List (Nat×Nat)->Nat->Option Nat|[],_=>none|(a,k)::l,b=>if b=a then some k else hK l b
theorem ql:∀{l:List (Nat×Nat)}{b k:Nat},(l.map Prod.fst).Nodup->(b,k)∈l->hK l b=some k
 |(a,j)::l,b,k,hn,h=>by
  rw[z3,List.nodup_cons]at hn;unfold hK;rcases zd.1 h with h|h;.injection h with h1 h2;subst h1 h2;rw[yK rfl]
  .have c:b≠a:=λe=>hn.1 (e▸yF.2 ⟨(b,k),h,rfl⟩);rw[yB c];exact ql hn.2 h
theorem q4:∀{l:List (Nat×Nat)}{b:Nat},b∉l.map Prod.fst->hK l b=none|[],_,_=>rfl|(a,j)::l,b,h=>by rw[z3,zd,not_or]at h;unfold hK;rw[yB h.1];exact q4 h.2
theorem qL:∀{l:List (Nat×Nat)}{b k:Nat},hK l b=some k->(b,k)∈l
 |(a,j)::l,b,k,h=>by
  unfold hK at h;split at h;.rename_i e;injection h with h;subst e h;exact y5
  .exact yL _ (qL h)
abbrev e5(k:Nat):List Value:=[.int .i64 (k:Int)]
def gF(n:Nat)(x:FC×Nat×Nat):List Value:=[.int .i64 x.1.s,.slice x.1.A x.1.n x.1.c,.int .i64 1,.slice x.1.A' x.1.n' x.1.c',.slice (some ⟨x.2.1,0,none⟩) n x.2.2]
def eC(d G:Nat)(rv ov fv sv:Value)(L:List (FC×Nat×Nat)):List (Nat×Nat):=(d,0)::(G,2)::(rv.ownBlock.toList.map (·,1)++(ov.ownBlock.toList.map (·,3)++(fv.ownBlock.toList.map (·,4)++(sv.ownBlock.toList.map (·,5)++L.mapIdx λi x=>(x.2.1,6+i)))))
structure DicB(R:Nat->Prop)(w0 w:World)(d n m:Nat)(S:Nat->Prop)(rv ov fv sv:Value)(G gc:Nat)(L:List (FC×Nat×Nat))(D:Dic)(src:List (Nat×Bool)):Prop where
 lr:D.rows.length=m
 lL:L.length=m
 lg:D.goal.length=n
 box:Loc w d #[.int .i64 (n:Int),rv,.slice (some ⟨G,0,none⟩) n gc,ov,fv,sv]
 rO:Own w w0.heap.size 197 5 rv m (L.map (gF n))
 oO:Own w w0.heap.size 3 1 ov m (D.own.map e5)
 fO:Own w w0.heap.size 3 1 fv D.free.length (D.free.map e5)
 sO:Own w w0.heap.size 215 2 sv m (src.map fy)
 ln:∀(i:Nat)(x:FC×Nat×Nat)(r:Rat×List Rat),L[i]?=some x->D.rows[i]?=some r->Fr (λb=>R b/\¬S b) w x.1 r.1/\MRow (λb=>R b/\¬S b) w x.2.1 r.2/\r.2.length=n
 gl:MRow (λb=>R b/\¬S b) w G D.goal
 nd:((eC d G rv ov fv sv L).map Prod.fst).Nodup
 bb:∀x∈eC d G rv ov fv sv L,S x.1
 slt:∀b,S b->w0.heap.size<=b/\b<w.heap.size
 aC:Below w0.heap.size w0 w
theorem Own.addr{w:World}{base size n:Nat}{e:TypeId}{v:Value}{xs:List (List Value)}(h:Own w base e size v n xs)(hn:0<n):∃B c,v=.slice (some ⟨B,0,none⟩) n c:=by obtain⟨x,hx⟩:∃x,xs[0]?=some x:=⟨_,yk (by rw[h.2.2];exact hn)⟩;obtain⟨g,c,a,-⟩:=h.at_ hx;exact⟨g,c,a⟩
theorem Own.aG{w:World}{base n c B:Nat}{ks:List Nat}(h:Own w base 3 1 (.slice (some ⟨B,0,none⟩) n c) n (ks.map e5)):gn w B ks:=by
 have hl:ks.length=n:=by have:=h.2.2;simpa using this
 refine⟨by have:=h.aY;rw[zl]at this;rw[hl];exact this,λi k hk=>?_⟩;obtain⟨g,c',a,-,-,hc,-⟩:=h.at_ (i:=i) (x:=e5 k) (by rw[yG,hk];rfl);simp only[zT,zL,Ai,Au,A9]at a;obtain⟨rfl,rfl⟩:=a;have:=hc 0 _ rfl;simpa using this
namespace DicB
variable {R:Nat->Prop} {w0 w w':World} {d n m:Nat} {S:Nat->Prop} {rv ov fv sv:Value} {G gc:Nat} {L:List (FC×Nat×Nat)} {D:Dic} {src:List (Nat×Bool)}
theorem ad(h:DicB R w0 w d n m S rv ov fv sv G gc L D src)(a:Below w.heap.size w w'):DicB R w0 w' d n m S rv ov fv sv G gc L D src:=⟨h.lr,h.lL,h.lg,h.box.ad a,h.rO.ad a,h.oO.ad a,h.fO.ad a,h.sO.ad a,λi x r hx f=>by obtain⟨h1,h2,e⟩:=h.ln i x r hx f;exact⟨h1.ad a,h2.ad a,e⟩,h.gl.ad a,h.nd,h.bb,λb c=>⟨(h.slt b c).1,yx (h.slt b c).2 a.size⟩,h.aC.trans (a.mono h.aC.size)⟩
theorem more(h:DicB R w0 w d n m S rv ov fv sv G gc L D src)(a:Below w.heap.size w w'){T:Nat->Prop}(f:∀b,S b->T b)(c:∀b,T b->S b\/(w.heap.size<=b/\b<w'.heap.size)):DicB R w0 w' d n m T rv ov fv sv G gc L D src:=by
 have hm:∀b,b<w.heap.size->R b/\¬S b->R b/\¬T b:=λb o hs=>⟨hs.1,λl=>by
  rcases c b l with h1|h1;.exact hs.2 h1
  .omega⟩
 have k:=h.ad a;exact⟨k.lr,k.lL,k.lg,k.box,k.rO,k.oO,k.fO,k.sO,λi x r hx j=>by obtain⟨h1,h2,e⟩:=h.ln i x r hx j;exact⟨(h1.mono hm).ad a,(h2.mono hm).ad a,e⟩,(h.gl.mono hm).ad a,k.nd,λx hx=>f _ (k.bb x hx),λb g=>by rcases c b g with h1|h1;(.exact k.slt b h1);.exact⟨yt h.aC.size h1.1,h1.2⟩,k.aC⟩
theorem done(h:DicB R w0 w d n m S rv ov fv sv G gc L D src)(y:D.free.length=n)(F:bE R w0):∃a:DA,a.d=d/\DicAt w a m n D src/\(∀b,a.P b->R b)/\(∀b,a.M b->w0.heap.size<=b):=by
 classical
 obtain⟨RA,rc,rfl,-⟩:=h.rO.sl;obtain⟨OA,oc,rfl,-⟩:=h.oO.sl;obtain⟨FA,fc,rfl,-⟩:=h.fO.sl;obtain⟨SA,sc,rfl,M⟩:=h.sO.sl;obtain⟨role,t⟩:∃role:Nat->Option Nat,role=λb=>match hK (eC d G (.slice RA m rc) (.slice OA m oc) (.slice FA D.free.length fc) (.slice SA m sc) L) b with|some k=>some k|none=>if R b/\¬S b then none else if S b then some 0 else some 5:=⟨_,rfl⟩
 have l:∀b k,(b,k)∈eC d G (.slice RA m rc) (.slice OA m oc) (.slice FA D.free.length fc) (.slice SA m sc) L->role b=some k:=λb k hk=>by rw[t];simp only[ql h.nd hk]
 have s:∀b,R b/\¬S b->role b=none:=λb o=>by
  rw[t];have:hK (eC d G (.slice RA m rc) (.slice OA m oc) (.slice FA D.free.length fc) (.slice SA m sc) L) b=none:=q4 λhm=>by obtain⟨x,hx,rfl⟩:=yF.1 hm;exact o.2 (h.bb x hx)
  simp only[this,yK o]
 have I:D.own.length=m:=by have:=h.oO.2.2;simpa using this
 have q:∀{A:Option Addr}{c k:Nat},(Value.slice A k c).ownBlock=A.map (·.block):=λ{A c k}=>by cases A<;>rfl
 have N:∀{A:Option Addr}{B:Nat},A=some ⟨B,0,none⟩->(A.map (·.block)).toList=[B]:=λe=>by rw[e];rfl
 refine⟨{d:=d,RA:=RA,RB:=(RA.map (·.block)).getD 0,rc:=rc,G:=G,gc:=gc,OA:=OA,OB:=(OA.map (·.block)).getD 0,oc:=oc,FA:=FA,FB:=(FA.map (·.block)).getD 0,fc:=fc,SA:=SA,SB:=(SA.map (·.block)).getD 0,sc:=sc,A:=λi=>(L[i]?.map (·.2.1)).getD 0,ac:=λi=>(L[i]?.map (·.2.2)).getD 0,role:=role},rfl,?_,λb o=>?_,λb E=>?_⟩
 .have z:0<m->∃B,RA=some ⟨B,0,none⟩:=λhm=>by obtain⟨B,c,f⟩:=h.rO.addr hm;injection f with h1;exact⟨B,h1⟩
  have J:0<m->∃B,OA=some ⟨B,0,none⟩:=λhm=>by obtain⟨B,c,f⟩:=h.oO.addr hm;injection f with h1;exact⟨B,h1⟩
  have H:0<n->∃B,FA=some ⟨B,0,none⟩:=λhm=>by obtain⟨B,c,f⟩:=h.fO.addr (by omega);injection f with h1;exact⟨B,h1⟩
  have K:0<m->∃B,SA=some ⟨B,0,none⟩:=λhm=>by obtain⟨B,c,f⟩:=h.sO.addr hm;injection f with h1;exact⟨B,h1⟩
  have u:∀i,i<m->∃x,L[i]?=some x:=λi hi=>⟨_,yk (by rw[h.lL];exact hi)⟩;refine⟨⟨h.lr,I,y,h.lg,λi hi=>?_⟩,?_,λhm=>?_,λhm=>?_,λhn=>?_,λhm=>?_,M,l _ _ (by simp[eC]),l _ _ (by simp[eC]),λi hi=>?_,λi r p=>?_,?_,λb o=>s b ⟨F b (yt h.aC.size o),λhs=>by have:=(h.slt b hs).2;omega⟩⟩;.obtain⟨x,hx⟩:=u i hi;obtain⟨r,p⟩:∃r,D.rows[i]?=some r:=⟨_,yk (by rw[h.lr];exact hi)⟩;rw[e2 p];exact(h.ln i x _ hx p).2.2
  .have:=h.box;rw[y]at this;exact this
  .obtain⟨B,rfl⟩:=z hm;exact⟨rfl,h.rO.aY,l _ _ (by simp[eC,q])⟩
  .obtain⟨B,rfl⟩:=J hm;exact⟨rfl,h.oO.aG,l _ _ (by simp[eC,q])⟩
  .obtain⟨B,rfl⟩:=H hn;exact⟨rfl,h.fO.aG,l _ _ (by simp[eC,q])⟩
  .obtain⟨B,rfl⟩:=K hm;exact⟨rfl,l _ _ (by simp[eC,q])⟩
  .obtain⟨x,hx⟩:=u i hi;show role ((L[i]?.map (·.2.1)).getD 0)=_;rw[hx];refine l _ _ ?_;have:(x.2.1,6+i)∈L.mapIdx λi x=>(x.2.1,6+i):=Bt.2 ⟨i,(yp.1 hx).1,by rw[(yp.1 hx).2]⟩;simp only[eC,zd,y1];exact .inr (.inr (.inr (.inr (.inr (.inr this)))))
  . (have hi:i<m:=by rw[<-h.lr];exact(yp.1 p).1);obtain⟨x,hx⟩:=u i hi;obtain⟨B,rfl⟩:=z (by omega);obtain⟨g,c,f,-,-,hc,-⟩:=h.rO.at_ (i:=i) (x:=gF n x) (by rw[yG,hx];rfl);simp only[zT,zL,Ai,Au,A9]at f;obtain⟨rfl,rfl⟩:=f;obtain⟨h1,h2,j⟩:=h.ln i x r hx p;(have v:(L[i]?.map (·.2.1)).getD 0=x.2.1:=by rw[hx];rfl);(have C:(L[i]?.map (·.2.2)).getD 0=x.2.2:=by rw[hx];rfl);refine⟨x.1,⟨hc 0 _ rfl,hc 1 _ rfl,hc 2 _ rfl,hc 3 _ rfl⟩,?_,h1.mono λb _ hs=>s b hs,?_,j⟩;(.show w.cell? ⟨B,i*5+4,none⟩=some (.slice (some ⟨(L[i]?.map (·.2.1)).getD 0,0,none⟩) n ((L[i]?.map (·.2.2)).getD 0));rw[v,C];exact hc 4 _ rfl);.show MRow _ w ((L[i]?.map (·.2.1)).getD 0) r.2;rw[v];exact h2.mono λb _ hs=>s b hs
  .exact h.gl.mono λb _ hs=>s b hs
 .have h2:role b=none:=o;rw[t]at h2;dsimp only at h2;split at h2;.cases h2
  .split at h2;(.rename_i j;exact j.1);.split at h2<;>cases h2
 .obtain⟨k,h2,hk⟩:∃k,role b=some k/\k≠5:=E;rw[t]at h2;dsimp only at h2;split at h2;.rename_i j;exact(h.slt b (h.bb _ (qL j))).1
  .split at h2;(.cases h2);.split at h2;(.rename_i j;exact(h.slt b j).1);.injection h2 with h2;exact absurd h2.symm hk
end DicB
end Go.Proofs.YthmegpnhjnphlaaGreat
namespace Go.Proofs.YthmegpnhjnphlaaGreat
open Go.RowKit
theorem NewR.mono{P Q:Nat->Prop}{w0 w:World}{B:Nat}{xs:List Rat}(h:NewR P w0 w B xs)(hm:∀b,b<w.heap.size->P b->Q b):NewR Q w0 w B xs:=⟨h.le,h.row.mono λb a hp=>⟨hm b a hp.1,hp.2⟩,h.aC⟩
theorem NewR.base{P:Nat->Prop}{w0 b w:World}{B:Nat}{xs:List Rat}(h:NewR P b w B xs)(a:Below w0.heap.size w0 b):NewR P w0 w B xs:=⟨yt a.size h.le,h.row,a.trans (h.aC.mono a.size)⟩
def eH(n:Nat)(l:List (Nat×Rat))(a:List Rat)(b:Bool)(i:Nat):List Rat:=(l.take i).foldl (λa t=>a.set t.1 (if b then-t.2 else t.2)) a
theorem m4{n:Nat}{l:List (Nat×Rat)}{a:List Rat}{b:Bool}{i:Nat}{t:Nat×Rat}(h:l[i]?=some t):eH n l a b (i+1)=(eH n l a b i).set t.1 (if b then-t.2 else t.2):=by unfold eH;rw[yz,h,z8];rfl
theorem kg(n:Nat)(l:List (Nat×Rat))(a:List Rat)(b:Bool)(i:Nat):(eH n l a b i).length=a.length:=lh b _ a
theorem p2(tr:Bool):∀(l:List (Nat×Rat))(a b:List Rat),a.length=b.length->(∀j,(∀t∈l,t.1≠j)->a[j]?=b[j]?)->l.foldl (λa t=>a.set t.1 (if tr then-t.2 else t.2)) a=l.foldl (λa t=>a.set t.1 (if tr then-t.2 else t.2)) b
 |[],a,b,_,h=>za λj=>h j (λt e=>by cases e)
 |t::l,a,b,hl,h=>by
  simp only[zH];refine p2 tr l _ _ (by simp[hl]) λj d=>?_;rw[yZ,yZ,hl];by_cases c:t.1=j;.rw[yK c,yK c]
  .rw[yB c,yB c];exact h j λu hu=>by rcases zd.1 hu with rfl|hu;(.exact c);.exact d u hu
theorem qe(tr:Bool):∀(l:List (Nat×Rat))(a:List Rat)(j:Nat),(∀t∈l,t.1≠j)->(l.foldl (λa t=>a.set t.1 (if tr then-t.2 else t.2)) a)[j]?=a[j]?|[],_,_,_=>rfl|t::l,a,j,h=>by simp only[zH];rw[qe tr l _ j λu hu=>h u (zd.2 (.inr hu)),BA (h t (zd.2 (.inl rfl)))]
theorem u4(n:Nat)(l:List (Nat×Rat)):eH n l (dU n l false) true l.length=dU n l true:=by unfold eH dU;rw[Ak];refine p2 true l _ _ (by rw[lh]) λj a=>qe false l _ j a
theorem xV(n:Nat)(l:List (Nat×Rat)):eH n l (aT n) false l.length=dU n l false:=by unfold eH dU;rw[Ak]
theorem nN:(Tryz.prog.info? 197).map (λi=>(i.zero,i.size,i.bytes))=some (some (.agg #[.int .i64 0,.slice none 0 0,.int .i64 0,.slice none 0 0,.slice none 0 0]),5,88):=by kernel_rfl
theorem m6:(Tryz.prog.info? 215).map (λi=>(i.zero,i.size,i.bytes))=some (some (.agg #[.int .i64 0,.bool false]),2,16):=by kernel_rfl
def Dj(a b:Option Nat):Prop:=∀k,a=some k->b≠some k
theorem Dj.or{a b:Option Nat}(h:Dj a b):a=none\/a≠b:=by cases a with|none=>exact .inl rfl|some k=>exact .inr λe=>h k rfl e.symm
theorem Dj.symm{a b:Option Nat}(h:Dj a b):Dj b a:=λk d c=>h k c d
theorem j2{l:List (Option Nat)}{k z:Nat}{u v:Option Nat}(h:l.Pairwise Dj)(d:∀b,some b∈l->b<z)(hu:l[k]?=some u)(g:v=u\/v=some z):(l.set k v).Pairwise Dj:=by
 rcases g with rfl|rfl;.obtain⟨hk,e⟩:=yp.1 hu;subst e;rw[List.set_getElem_self];exact h
 .rw[zt]at h⊢;intro i j hi c f;simp only[yW]at hi c;have h1:=h i j hi c f;rw[List.getElem_set,List.getElem_set];split;.split;(.omega);.intro b a hc;injection a with a;subst a;have:=d _ (hc▸zQ c);omega
  .split;(.intro b a hc;injection hc with hc;subst hc;have:=d _ (a▸zQ hi);omega);.exact h1
def OL(d G:Nat)(rv ov fv sv:Value)(L:List (FC×Nat×Nat)):List (Option Nat):=some d::some G::rv.ownBlock::ov.ownBlock::fv.ownBlock::sv.ownBlock::L.map λx=>some x.2.1
theorem l2(d G:Nat)(rv ov fv sv:Value)(L:List (FC×Nat×Nat)):(eC d G rv ov fv sv L).map Prod.fst=(OL d G rv ov fv sv L).filterMap id:=by
 unfold eC OL;generalize rv.ownBlock=a;generalize ov.ownBlock=b;generalize fv.ownBlock=c;generalize sv.ownBlock=e;have hL:∀k,(L.mapIdx λi x=>(x.2.1,k+i)).map Prod.fst=(L.map λx=>some x.2.1).filterMap id:=λk=>by rw[List.filterMap_map];rw[show(id∘λx:FC×Nat×Nat=>some x.2.1)=some∘λx=>x.2.1 from rfl,List.filterMap_eq_map];exact za λi=>by simp;cases L[i]?<;>rfl
 cases a<;>cases b<;>cases c<;>cases e<;>simp[hL]
structure DicG(R:Nat->Prop)(w0 w:World)(d n k:Nat)(S:Nat->Prop)(rv ov fv sv:Value)(G:Nat)(L:List (FC×Nat×Nat))(D:Dic)(src:List (Nat×Bool)):Prop where
 lL:L.length=D.rows.length
 lg:D.goal.length=n
 rO:Own w w0.heap.size 197 5 rv k ((L.take k).map (gF n))
 oO:Own w w0.heap.size 3 1 ov D.own.length (D.own.map e5)
 fO:Own w w0.heap.size 3 1 fv D.free.length (D.free.map e5)
 sO:Own w w0.heap.size 215 2 sv src.length (src.map fy)
 ln:∀(i:Nat)(x:FC×Nat×Nat)(r:Rat×List Rat),L[i]?=some x->D.rows[i]?=some r->Fr (λb=>R b/\¬S b) w x.1 r.1/\MRow (λb=>R b/\¬S b) w x.2.1 r.2/\r.2.length=n
 gl:MRow (λb=>R b/\¬S b) w G D.goal
 nd:(OL d G rv ov fv sv L).Pairwise Dj
 bb:∀b,some b∈OL d G rv ov fv sv L->S b
 slt:∀b,S b->w0.heap.size<=b/\b<w.heap.size
 aC:Below w0.heap.size w0 w
variable {R:Nat->Prop} {w0 w w':World} {d n m k:Nat} {S:Nat->Prop} {rv ov fv sv:Value} {G gc:Nat} {L:List (FC×Nat×Nat)} {D:Dic} {src:List (Nat×Bool)}
theorem DicB.U(h:DicB R w0 w d n m S rv ov fv sv G gc L D src):DicG R w0 w d n m S rv ov fv sv G L D src:=by
 have e:D.own.length=m:=by have:=h.oO.2.2;simpa using this
 have f:src.length=m:=by have:=h.sO.2.2;simpa using this
 refine⟨by rw[h.lL,h.lr],h.lg,by rw[yv (by rw[h.lL];exact yq _)];exact h.rO,by rw[e];exact h.oO,h.fO,by rw[f];exact h.sO,h.ln,h.gl,?_,λb c=>?_,h.slt,h.aC⟩;.have:=h.nd;rw[l2,List.Nodup,List.pairwise_filterMap]at this;exact this.imp λ{a b} i k g c=>i k g k c rfl
 .have:b∈(eC d G rv ov fv sv L).map Prod.fst:=by rw[l2];exact List.mem_filterMap.2 ⟨_,c,rfl⟩
  obtain⟨x,hx,rfl⟩:=yF.1 this;exact h.bb x hx
namespace DicG
theorem lP(h:DicG R w0 w d n m S rv ov fv sv G L D src)(j:D.rows.length=m)(f:D.own.length=m)(hs:src.length=m)(c:Loc w d #[.int .i64 (n:Int),rv,.slice (some ⟨G,0,none⟩) n gc,ov,fv,sv]):DicB R w0 w d n m S rv ov fv sv G gc L D src:=by
 subst j;refine⟨rfl,h.lL,h.lg,c,by have:=h.rO;rwa[yv (by rw[h.lL];exact yq _)]at this,by rw[<-f];exact h.oO,h.fO,by rw[<-hs];exact h.sO,h.ln,h.gl,?_,λx hx=>?_,h.slt,h.aC⟩;.rw[l2,List.Nodup,List.pairwise_filterMap];exact h.nd.imp λ{a b} i k g k' c e=>i k g (by subst e;exact c)
 .have:x.1∈(eC d G rv ov fv sv L).map Prod.fst:=yF.2 ⟨x,hx,rfl⟩;rw[l2]at this;obtain⟨o,f,e⟩:=List.mem_filterMap.1 this;exact h.bb _ ((show o=some x.1 from e)▸f)
theorem lt(h:DicG R w0 w d n k S rv ov fv sv G L D src):∀b,some b∈OL d G rv ov fv sv L->b<w.heap.size:=λb a=>(h.slt b (h.bb b a)).2
theorem pw(h:DicG R w0 w d n k S rv ov fv sv G L D src)(i j:Nat){a b:Option Nat}(hi:(OL d G rv ov fv sv L)[i]?=some a)(g:(OL d G rv ov fv sv L)[j]?=some b)(f:i<j):Dj a b:=by obtain⟨h1,c⟩:=yp.1 hi;obtain⟨h2,e⟩:=yp.1 g;have:=zt.1 h.nd i j h1 h2 f;rwa[c,e]at this
theorem ad(h:DicG R w0 w d n k S rv ov fv sv G L D src)(a:Below w.heap.size w w'):DicG R w0 w' d n k S rv ov fv sv G L D src:=⟨h.lL,h.lg,h.rO.ad a,h.oO.ad a,h.fO.ad a,h.sO.ad a,λi x r hx f=>by obtain⟨h1,h2,e⟩:=h.ln i x r hx f;exact⟨h1.ad a,h2.ad a,e⟩,h.gl.ad a,h.nd,h.bb,λb c=>⟨(h.slt b c).1,yx (h.slt b c).2 a.size⟩,h.aC.trans (a.mono h.aC.size)⟩
theorem reads(h:DicG R w0 w d n k S rv ov fv sv G L D src){row:Option Nat}(hg:w.grownBy w' row){q:Nat}(hk:(OL d G rv ov fv sv L)[q]?=some row)(c:q=0\/(2<=q/\q<6)){T:Nat->Prop}(hS:∀b,S b->T b)(j:∀b,T b->S b\/w.heap.size<=b):(∀(i:Nat)(x:FC×Nat×Nat)(r:Rat×List Rat),L[i]?=some x->D.rows[i]?=some r->Fr (λb=>R b/\¬T b) w' x.1 r.1/\MRow (λb=>R b/\¬T b) w' x.2.1 r.2/\r.2.length=n)/\MRow (λb=>R b/\¬T b) w' G D.goal/\Below w0.heap.size w0 w':=by
 have hS:∀b,row=some b->T b:=λb e=>hS b (h.bb b (e▸yr hk));have g:∀b,row=some b->S b:=λb e=>h.bb b (e▸yr hk);have a:aw (λb=>row=some b) w w':=aw.grown hg λb e=>e;have hm:∀b,b<w.heap.size->R b/\¬S b->R b/\¬T b:=λb p hs=>⟨hs.1,λm=>by
  rcases j b m with h1|h1;.exact hs.2 h1
  .omega⟩
 refine⟨λi x r hx l=>?_,?_,h.aC.trans (a.toBelow (λb e=>(h.slt b (g b e)).1) h.aC.size)⟩
 .obtain⟨h1,h2,f⟩:=h.ln i x r hx l;have o:(OL d G rv ov fv sv L)[6+i]?=some (some x.2.1):=by rw[AO];show(L.map λx=>some x.2.1)[i]?=_;rw[yG,hx];rfl
  exact⟨(h1.mono hm).keeps a λb e hp=>hp.2 (hS b e),(h2.mono hm).keeps a (λe=>h.pw q (6+i) hk o (by omega) _ e rfl) λb e hp=>hp.2 (hS b e),f⟩
 .refine(h.gl.mono hm).keeps a (λe=>?_) λb e hp=>hp.2 (hS b e);rcases c with rfl|c;.exact h.pw 0 1 hk rfl (by omega) _ e rfl
  .exact h.pw 1 q rfl hk (by omega) _ rfl e
theorem aE(h:DicG R w0 w d n k S rv ov fv sv G L D src)(j:Nat)(v:Value):DicG R w0 (w.setCell ⟨d,j,none⟩ v) d n k S rv ov fv sv G L D src:=by have hg:=gV w ⟨d,j,none⟩ v;obtain⟨h1,h2,c⟩:=h.reads hg (q:=0) rfl (.inl rfl) (T:=S) (λ_ h=>h) λ_ h=>.inl h;exact⟨h.lL,h.lg,h.rO.kept hg (h.pw 0 2 rfl rfl (by omega)).symm.or,h.oO.kept hg (h.pw 0 3 rfl rfl (by omega)).symm.or,h.fO.kept hg (h.pw 0 4 rfl rfl (by omega)).symm.or,h.sO.kept hg (h.pw 0 5 rfl rfl (by omega)).symm.or,h1,h2,h.nd,h.bb,λb a=>⟨(h.slt b a).1,by rw[zs];exact(h.slt b a).2⟩,c⟩
section
variable {v':Value} (h:DicG R w0 w d n k S rv ov fv sv G L D src)
include h
theorem l0{q:Nat}{b:Nat}(a:some b∈(OL d G rv ov fv sv L).set q v'.ownBlock):S b\/v'.ownBlock=some b:=by
 rcases zj a with a|a;.exact .inl (h.bb b a)
 .exact .inr a.symm
theorem sD{x:Nat}(f:Own w' w0.heap.size 3 1 v' (D.own.length+1) (D.own.map e5++[e5 x]))(hg:w.grownBy w' ov.ownBlock)(c:v'.ownBlock=ov.ownBlock\/v'.ownBlock=some w.heap.size):DicG R w0 w' d n k (λb=>S b\/v'.ownBlock=some b) rv v' fv sv G L {D with own:=D.own++[x]} src:=by
 obtain⟨h1,h2,g⟩:=h.reads hg (q:=3) rfl (.inr (by omega)) (T:=λb=>S b\/v'.ownBlock=some b) (λ_ h=>.inl h) λb a=>by
  rcases a with a|a;.exact .inl a
  .rcases c with e|e<;>rw[e]at a;(.exact .inl (h.bb b (a▸yr (i:=3) rfl)));.injection a with a;exact .inr (yY a)
 exact⟨h.lL,h.lg,h.rO.kept hg (h.pw 2 3 rfl rfl (by omega)).or,by simpa using f,h.fO.kept hg (h.pw 3 4 rfl rfl (by omega)).symm.or,h.sO.kept hg (h.pw 3 5 rfl rfl (by omega)).symm.or,h1,h2,j2 (k:=3) h.nd h.lt rfl c,λb a=>h.l0 (q:=3) a,λb a=>by
  rcases a with a|a;.exact⟨(h.slt b a).1,yx (h.slt b a).2 hg.size⟩
  .exact f.lt b a,g⟩
theorem vb{x:Nat}(f:Own w' w0.heap.size 3 1 v' (D.free.length+1) (D.free.map e5++[e5 x]))(hg:w.grownBy w' fv.ownBlock)(c:v'.ownBlock=fv.ownBlock\/v'.ownBlock=some w.heap.size):DicG R w0 w' d n k (λb=>S b\/v'.ownBlock=some b) rv ov v' sv G L {D with free:=D.free++[x]} src:=by
 obtain⟨h1,h2,g⟩:=h.reads hg (q:=4) rfl (.inr (by omega)) (T:=λb=>S b\/v'.ownBlock=some b) (λ_ h=>.inl h) λb a=>by
  rcases a with a|a;.exact .inl a
  .rcases c with e|e<;>rw[e]at a;(.exact .inl (h.bb b (a▸yr (i:=4) rfl)));.injection a with a;exact .inr (yY a)
 exact⟨h.lL,h.lg,h.rO.kept hg (h.pw 2 4 rfl rfl (by omega)).or,h.oO.kept hg (h.pw 3 4 rfl rfl (by omega)).or,by simpa using f,h.sO.kept hg (h.pw 4 5 rfl rfl (by omega)).symm.or,h1,h2,j2 (k:=4) h.nd h.lt rfl c,λb a=>h.l0 (q:=4) a,λb a=>by
  rcases a with a|a;.exact⟨(h.slt b a).1,yx (h.slt b a).2 hg.size⟩
  .exact f.lt b a,g⟩
theorem mu{x:Nat×Bool}(f:Own w' w0.heap.size 215 2 v' (src.length+1) (src.map fy++[fy x]))(hg:w.grownBy w' sv.ownBlock)(c:v'.ownBlock=sv.ownBlock\/v'.ownBlock=some w.heap.size):DicG R w0 w' d n k (λb=>S b\/v'.ownBlock=some b) rv ov fv v' G L D (src++[x]):=by
 obtain⟨h1,h2,g⟩:=h.reads hg (q:=5) rfl (.inr (by omega)) (T:=λb=>S b\/v'.ownBlock=some b) (λ_ h=>.inl h) λb a=>by
  rcases a with a|a;.exact .inl a
  .rcases c with e|e<;>rw[e]at a;(.exact .inl (h.bb b (a▸yr (i:=5) rfl)));.injection a with a;exact .inr (yY a)
 exact⟨h.lL,h.lg,h.rO.kept hg (h.pw 2 5 rfl rfl (by omega)).or,h.oO.kept hg (h.pw 3 5 rfl rfl (by omega)).or,h.fO.kept hg (h.pw 4 5 rfl rfl (by omega)).or,by simpa using f,h1,h2,j2 (k:=5) h.nd h.lt rfl c,λb a=>h.l0 (q:=5) a,λb a=>by
  rcases a with a|a;.exact⟨(h.slt b a).1,yx (h.slt b a).2 hg.size⟩
  .exact f.lt b a,g⟩
theorem mJ{x:FC×Nat×Nat}(hx:L[k]?=some x)(f:Own w' w0.heap.size 197 5 v' (k+1) ((L.take k).map (gF n)++[gF n x]))(hg:w.grownBy w' rv.ownBlock)(c:v'.ownBlock=rv.ownBlock\/v'.ownBlock=some w.heap.size):DicG R w0 w' d n (k+1) (λb=>S b\/v'.ownBlock=some b) v' ov fv sv G L D src:=by
 obtain⟨h1,h2,g⟩:=h.reads hg (q:=2) rfl (.inr (by omega)) (T:=λb=>S b\/v'.ownBlock=some b) (λ_ h=>.inl h) λb a=>by
  rcases a with a|a;.exact .inl a
  .rcases c with e|e<;>rw[e]at a;(.exact .inl (h.bb b (a▸yr (i:=2) rfl)));.injection a with a;exact .inr (yY a)
 exact⟨h.lL,h.lg,by rw[yz,hx];simpa using f,h.oO.kept hg (h.pw 2 3 rfl rfl (by omega)).symm.or,h.fO.kept hg (h.pw 2 4 rfl rfl (by omega)).symm.or,h.sO.kept hg (h.pw 2 5 rfl rfl (by omega)).symm.or,h1,h2,j2 (k:=2) h.nd h.lt rfl c,λb a=>h.l0 (q:=2) a,λb a=>by
  rcases a with a|a;.exact⟨(h.slt b a).1,yx (h.slt b a).2 hg.size⟩
  .exact f.lt b a,g⟩
theorem xR{x:FC×Nat×Nat}{r:Rat×List Rat}(hk:k<=L.length)(l:Fr (λb=>R b/\¬S b) w x.1 r.1)(hm:MRow (λb=>R b/\¬S b) w x.2.1 r.2)(hl:r.2.length=n)(hA:S x.2.1)(hA2:some x.2.1∉OL d G rv ov fv sv L):DicG R w0 w d n k S rv ov fv sv G (L++[x]) {D with rows:=D.rows++[r]} src:=by
 have e:OL d G rv ov fv sv (L++[x])=OL d G rv ov fv sv L++[some x.2.1]:=by simp[OL]
 refine⟨by simp[h.lL],h.lg,by rw[List.take_append_of_le_length hk];exact h.rO,h.oO,h.fO,h.sO,λi y q hy m=>?_,h.gl,?_,λb c=>?_,h.slt,h.aC⟩
 .rw[Ay]at hy;have f:=m;simp only[Ay]at f;rw[h.lL]at hy;split at hy;.rename_i hi;rw[yK hi]at f;exact h.ln i y q (by simpa[h.lL,hi]using hy) f
  .rename_i hi;rw[yB hi]at f;by_cases e:i-D.rows.length=0;(.rw[e]at hy f;simp at hy f;subst hy f;exact⟨l,hm,hl⟩);.rw[yV (by simp;omega)]at hy;cases hy
 .rw[e,List.pairwise_append];refine⟨h.nd,by simp,λa j b c=>?_⟩;obtain rfl:=zq.1 c;rintro k rfl g;injection g with g;subst g;exact hA2 j
 .rw[e]at c;rcases y1.1 c with c|c;.exact h.bb b c
  .have:=zq.1 c;injection this with this;exact this▸hA
end
end DicG
theorem ff{w:World}{k:Nat}(a v1 v2 c:Value):aw (λb=>b=k) w ((((w.setCell ⟨k,0,none⟩ a).setCell ⟨k,1,none⟩ v1).setCell ⟨k,2,none⟩ v2).setCell ⟨k,3,none⟩ c):=(((aw.setCell (F:=λb=>b=k) (p:=⟨k,0,none⟩) rfl a).trans' (aw.setCell (F:=λb=>b=k) (p:=⟨k,1,none⟩) rfl v1)).trans' (aw.setCell (F:=λb=>b=k) (p:=⟨k,2,none⟩) rfl v2)).trans' (aw.setCell (F:=λb=>b=k) (p:=⟨k,3,none⟩) rfl c)
theorem NewR.bC{P F:Nat->Prop}{B:Nat}{xs:List Rat}(h:NewR P w0 w B xs)(hk:aw F w w')(hB:¬F B)(a:∀b,F b->¬(P b/\b≠B))(hl:∀b,F b->w0.heap.size<=b):NewR P w0 w' B xs:=⟨h.le,h.row.keeps hk hB a,h.aC.trans (hk.toBelow hl h.aC.size)⟩
structure Kp(F:Nat->Prop)(w w':World):Prop where k:aw F w w'
namespace Kp
variable {F:Nat->Prop} {w'':World}
theorem ad(h:Kp F w w')(a:Below w'.heap.size w' w''):Kp F w w'':=⟨h.k.trans' (aw.ad a)⟩
theorem grown(h:Kp F w w'){row:Option Nat}(hg:w'.grownBy w'' row)(a:∀b,row=some b->F b):Kp F w w'':=⟨h.k.trans' (aw.grown hg a)⟩
theorem aE(h:Kp F w w'){p:Addr}(hp:F p.block)(v:Value):Kp F w (w'.setCell p v):=⟨h.k.trans' (aw.setCell hp v)⟩
end Kp
theorem aw.grownBy{w w':World}{G:Nat}(hk:aw (λb=>b=G) w w'):w.grownBy w' (some G):=⟨hk.os,hk.tape,hk.output,hk.size,λ_ h1 h2=>hk.block _ h1 λe=>h2 (e▸rfl)⟩
theorem DicB.nn(h:DicB R w0 w d n m S rv ov fv sv G gc L D src){j:Nat}(o:j<n){f:FC}{x:Rat}(l:Fr (λb=>R b/\¬S b) w f x):DicB R w0 (cP w G (j*4) f) d n m S rv ov fv sv G gc L {D with goal:=D.goal.set j x} src:=by
 have g:=h.U;have hk:aw (λb=>b=G) w (cP w G (j*4) f):=en rfl;have a:S G:=g.bb G (yr (i:=1) rfl);have hg:=hk.grownBy;refine⟨h.lr,h.lL,by simp[h.lg],h.box.keeps hk λe=>g.pw 0 1 rfl rfl (by omega) d rfl (by rw[e]),h.rO.kept hg (g.pw 1 2 rfl rfl (by omega)).symm.or,h.oO.kept hg (g.pw 1 3 rfl rfl (by omega)).symm.or,h.fO.kept hg (g.pw 1 4 rfl rfl (by omega)).symm.or,h.sO.kept hg (g.pw 1 5 rfl rfl (by omega)).symm.or,λi y r hy p=>?_,h.gl.put (λhn=>hn.2 a) (by rw[h.lg];exact o) l,h.nd,h.bb,λb c=>⟨(h.slt b c).1,yx (h.slt b c).2 hk.size⟩,h.aC.trans (hk.toBelow (λb e=>e▸(h.slt G a).1) h.aC.size)⟩;obtain⟨h1,h2,k⟩:=h.ln i y r hy p;have q:(OL d G rv ov fv sv L)[6+i]?=some (some y.2.1):=by rw[AO];show(L.map λx=>some x.2.1)[i]?=_;rw[yG,hy];rfl
 exact⟨h1.keeps hk λb e hp=>hp.2 (e▸a),h2.keeps hk (λe=>g.pw 1 (6+i) rfl q (by omega) G rfl (by rw[e])) λb e hp=>hp.2 (e▸a),k⟩
def q2:Rd (List Value) where
 at_:=λ_ _ cs y=>cs=y
 bC:=λh _ _=>h
 mono:=λh _=>h
theorem Own.raw{base:Nat}{e:TypeId}{size:Nat}{v:Value}{xs:List (List Value)}(h:Own w base e size v n xs):OwnR q2 Any w base e size v n xs:=⟨xs,h,rfl,λi x y hx hy=>by rw[hx]at hy;injection hy⟩
theorem OwnR.raw{base:Nat}{e:TypeId}{size:Nat}{v:Value}{xs:List (List Value)}{P:Nat->Prop}(h:OwnR q2 P w base e size v n xs):Own w base e size v n xs:=by
 obtain⟨ys,h1,h2⟩:=h;have:ys=xs:=za λi=>by
  cases hy:ys[i]? with
  |none=>rw[z1]at hy;rw[yV (by rw[<-h2.1];exact hy)]
  |some y=>obtain⟨hi,_⟩:=yp.1 hy;have hx:=yk (l:=xs) (i:=i) (by rw[<-h2.1];exact hi);rw[hx,h2.2 i y _ hy hx]
 exact this▸h1
