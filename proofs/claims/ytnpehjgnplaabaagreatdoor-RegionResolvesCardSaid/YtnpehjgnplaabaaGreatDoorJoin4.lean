/- Several texts of ours, joined. -/
import Derived.Test.YtnpehjgnplaabaaGreatDoorJoin1
import Derived.Test.YtnpehjgnplaabaaGreatDoorJoin3
set_option linter.unusedVariables false
set_option linter.unusedSimpArgs false
set_option maxRecDepth 100000
set_option maxHeartbeats 64000000
namespace Go.Proofs.YtnpehjgnplaabaaGreatDoor
open Go Go.RowKit
open Sw
theorem infoVSN:(Tryz.prog.info? 57).map (·.size)=some 4:=by kernel_rfl
theorem srtGetSN_any (w:World)(bm:Nat)(xs:List (ByteArray×Nd))(k:ByteArray)(h:SMapSN w bm xs)(hn:xs.length≤1000000)(hk:okS k):
  Calls Tryz.prog 105 #[.pointer (some ⟨bm,0,none⟩),Value.string k] w fun e w'=>e= .returned (.tuple #[.agg (((getN ordS k xs).getD ⟨0,0,0,⟨#[]⟩⟩).c),.bool (inN ordS k xs)])∧Below w.heap.size w w':=by
 have hb0:=(zR w.heap.size w).alloc (zN _) (.cells (⟨0,0,0,⟨#[]⟩⟩:Nd).c 57);have hB0:=Blk.new w 57 (⟨0,0,0,⟨#[]⟩⟩:Nd).c;have HM:=zH (h.below hb0);have HS:=zH (srtFindSN_any _ bm xs k HM.out hn hk);have HB0:=zH (zA hb0 hB0);clear hb0 hB0;obtain⟨T,hT⟩:∃T,w.heap.size=T:=⟨_,rfl⟩;have HT:=zH hT;clear hT;cases hin:inN ordS k xs with
 | false=>
  rw[get_miss k xs hin];unfold FindPostSN at HS;rw[hin] at HS;clear hin h;simp only[Nd.c] at HS HB0 HM;go_enter Tryz.func105,Tryz.ntmps105
  go_wp2_with fail
  refine HS.out.mono ?_;rintro e w1 ⟨rfl,hb1⟩;have hB1:=HB0.out.2.below hb1 HB0.out.2.lt;have hbw:=HB0.out.1.trans (hb1.mono HB0.out.1.size);rw[HT.out] at hB1;rw[HT.out];have x0:=hB1.cell 0;have x1:=hB1.cell 1;have x2:=hB1.cell 2;have x3:=hB1.cell 3;simp at x0 x1 x2 x3
  have f0:=hB1.frozen 0;have f1:=hB1.frozen 1;have f2:=hB1.frozen 2;have f3:=hB1.frozen 3;have HF:=zH (zA hB1 hbw);clear hB1 hbw hb1;go_wp2_with fail
  refine bodyPost_ret (res_blk_tmp rfl _ _ T 57 (⟨0,0,0,⟨#[]⟩⟩:Nd).c _ rfl ?_ Tryz.underlying57 rfl infoVSN) rfl ⟨rfl,?_⟩
  ·exact((((HF.out.1.put 0 (.int .i64 0)).put 1 (.int .i64 0)).put 2 (.int .u32 0)).put 3 (.string ⟨#[]⟩))
  ·exact((((HF.out.2.setCell (p:=⟨T,0,none⟩) (by dsimp only;have:=HT.out;omega) (.int .i64 0)).setCell (p:=⟨T,1,none⟩) (by dsimp only;have:=HT.out;omega) (.int .i64 0)).setCell (p:=⟨T,2,none⟩) (by dsimp only;have:=HT.out;omega) (.int .u32 0)).setCell (p:=⟨T,3,none⟩) (by dsimp only;have:=HT.out;omega) (.string ⟨#[]⟩))
 | true=>
  obtain⟨hlt,hd⟩:=get_hit ordS_ord k xs hin;rw[hd];unfold FindPostSN at HS;rw[hin] at HS;generalize lbN ordS k xs=i at*;obtain⟨x,hx⟩:∃x,xs[i]=x:=⟨_,rfl⟩;rw[hx,Option.getD_some];have HX:=zH hx;clear hin h hd hx;simp only[Nd.c] at HS HB0 HM;go_enter Tryz.func105,Tryz.ntmps105
  go_wp2_with fail
  refine HS.out.mono ?_;rintro e w1 ⟨rfl,hb1⟩;have hB1:=HB0.out.2.below hb1 HB0.out.2.lt;have hbw:=HB0.out.1.trans (hb1.mono HB0.out.1.size);obtain⟨v,hb,ho⟩:=(HM.out.below hb1).row;obtain⟨A,c,rfl,_,_,hsl⟩:=SlV.of_own ho eCSN_len (by decide);obtain⟨b,off,rfl,hbb,hcs⟩:=hsl (by omega);have hv1:w1.cell? ⟨bm,1,none⟩=some (.slice (some ⟨b,off,none⟩) xs.length c):=hb.cell 1;rw[HT.out] at hB1;rw[HT.out];have x0:=hB1.cell 0;have x1:=hB1.cell 1;have x2:=hB1.cell 2;have x3:=hB1.cell 3;simp at x0 x1 x2 x3
  have f0:=hB1.frozen 0;have f1:=hB1.frozen 1;have f2:=hB1.frozen 2;have f3:=hB1.frozen 3;have y0:=hcs i hlt 1 (by omega);have y1:=hcs i hlt 2 (by omega);have y2:=hcs i hlt 3 (by omega);have y3:=hcs i hlt 4 (by omega);rw[HX.out] at y0 y1 y2 y3;simp only[eCSN,qB,qC] at y0 y1 y2 y3;have hi:(i:Int)<xs.length:=by omega
  have HF:=zH (zA hB1 hbw);clear hB1 hbw hb1 hcs hsl hb ho;go_wp2_with fail
  refine bodyPost_ret (res_blk_tmp rfl _ _ T 57 x.2.c _ rfl ?_ Tryz.underlying57 rfl infoVSN) rfl ⟨rfl,?_⟩
  ·exact((((HF.out.1.put 0 (.int .i64 x.2.kind)).put 1 (.int .i64 x.2.mode)).put 2 (.int .u32 x.2.time)).put 3 (.string x.2.data))
  ·exact((((HF.out.2.setCell (p:=⟨T,0,none⟩) (by dsimp only;have:=HT.out;omega) (.int .i64 x.2.kind)).setCell (p:=⟨T,1,none⟩) (by dsimp only;have:=HT.out;omega) (.int .i64 x.2.mode)).setCell (p:=⟨T,2,none⟩) (by dsimp only;have:=HT.out;omega) (.int .u32 x.2.time)).setCell (p:=⟨T,3,none⟩) (by dsimp only;have:=HT.out;omega) (.string x.2.data))
theorem srtPutSN_any (w:World)(bm:Nat)(xs:List (ByteArray×Nd))(k:ByteArray)(v:Nd)(h:SMapSN w bm xs)(hn:xs.length+1≤1000000)(hk:okS k):
  Calls Tryz.prog 50 #[.pointer (some ⟨bm,0,none⟩),Value.string k,(fun v=>Value.agg v.c) v] w fun e w'=>e= .returned (.bool (!inN ordS k xs))∧SMapSN w' bm (putN ordS k v xs)∧w.grownBy w' (some bm):=by
 have hb0:=(zR w.heap.size w).alloc (zN _) (.cells v.c 57);have hB0:=Blk.new w 57 v.c;have HM:=zH (h.below hb0);have HS:=zH (srtFindSN_any _ bm xs k HM.out (by omega) hk);have HB0:=zH (zA hb0 hB0);clear hb0 hB0;have hle:=lbN_le (c:=ordS) k xs;cases hin:inN ordS k xs with
 | false=>
  have hd:=put_miss k v xs hin;have hln:=put_len (c:=ordS) k v xs;rw[hin,if_neg (by simp)] at hln;unfold FindPostSN at HS;rw[hin] at HS;obtain⟨i,hi⟩:∃i,lbN ordS k xs=i:=⟨_,rfl⟩;rw[hi] at HS hle hd;have HD:=zH (zA hd hln);clear hd hln hin hi h;simp only[Nd.c] at HS HB0 HM;go_enter Tryz.func50,Tryz.ntmps50
  go_wp2_with fail
  refine HS.out.mono ?_;rintro e w1 ⟨rfl,hb1⟩;have hB1:=HB0.out.2.below hb1 HB0.out.2.lt;obtain⟨u,hb,ho⟩:=(HM.out.below hb1).row;obtain⟨A,c,rfl,_,_,_⟩:=SlV.of_own ho eCSN_len (by decide);have hv1:w1.cell? ⟨bm,1,none⟩=some (.slice A xs.length c):=hb.cell 1;have HC:=zH (slCloneSN_any eCSN eCSN_len eCSN_one w1 _ xs (SlV.of_own ho eCSN_len (by decide)) (by omega));have HB:=zH hb;clear hb ho;have hb1S:=hb1.size;have HB1:=zH hb1;clear hb1;go_wp2_with fail
  refine HC.out.mono ?_;rintro e w2 ⟨v2,rfl,ho2,hb2⟩;have hB2:=hB1.below hb2 hB1.lt;have x0:=hB2.cell 0;have x1:=hB2.cell 1;have x2:=hB2.cell 2;have x3:=hB2.cell 3;simp at x0 x1 x2 x3
  have HB2:=zH (zA hB1 hB2);clear hB1 hB2;obtain⟨A2,c2,hv2,_,_,_⟩:=SlV_of_any ho2;have hba:Below w2.heap.size w2 (w2.alloc (.cells (eCSN (k,v)).toArray 146)):=(zR _ _).alloc (zN _) _;have hlt2:=hb2.size;have hown1:=own_kept ho2 hba;have hbk:=Blk.new w2 146 (eCSN (k,v)).toArray;have HI:=zH (slInsertSN_any (w2.alloc (.cells (eCSN (k,v)).toArray 146)) w1.heap.size v2 xs.length i w2.heap.size (xs.flatMap eCSN) 146 (eCSN (k,v)).toArray hown1 (flat1SN xs) hbk (own_ne ho2 _ (zN _)) rfl (by simpa using eCSN_one (k,v)) hle hn (by simp;omega));have HFin:=zH (fun(v3:Value) (w3:World) (ho3:w3.ownsRow w1.heap.size 146 5 v3 (xs.length+1) ((xs.flatMap eCSN).take (i*5)++(eCSN (k,v))++(xs.flatMap eCSN).drop (i*5))) (hbx:Blk w3 bm 139 #[ordFSN,.slice A xs.length c])=>(by
   have hd:=HD.out.1;(have hxs:(xs.flatMap eCSN).take (i*5)++(eCSN (k,v))++(xs.flatMap eCSN).drop (i*5)=(putN ordS k v xs).flatMap eCSN:=by rw[hd,List.flatMap_append,List.flatMap_cons,flat_take eCSN_len,flat_drop eCSN_len,zV]);rw[hxs,←HD.out.2] at ho3;exact⟨⟨v3,hbx.put 1 v3,own_wide (own_grown_typ ho3 (grown_put (grown_refl w3 (some bm)) 1 v3) hbx (by decide)) (Nat.zero_le _)⟩,put_up ordS_ord k v xs HM.out.up,fun e he=>by
    rcases put_mem k v xs e he with rfl | he
    ·exact hk
    ·exact HM.out.ok e he⟩:SMapSN (w3.setCell ⟨bm,1,none⟩ v3) bm (putN ordS k v xs)))
  have HG:=zH (fun(v3:Value) (w3:World) (hg3:(w2.alloc (.cells (eCSN (k,v)).toArray 146)).grownBy w3 v2.ownBlock)=>(by
   have h1:=grown_below (row:=some bm) (HB0.out.1.trans (HB1.out.mono HB0.out.1.size));have hb2a:=hb2.trans (hba.mono hb2.size);have h2:=grown_trans h1 ⟨hb2a.os,hb2a.tape,hb2a.output,hb2a.size,fun k hk _=>hb2a.block k hk⟩;have h3:=grown_sub h2 hg3 (fun k hk=>by have:=(ho2.lt k hk).1;have:=HB0.out.1.size;omega);exact⟨grown_put h3 1 v3,(HB.out.below hb2a HB.out.lt).grown hg3 (fun e=>by have:=(ho2.lt bm e.symm).1;have:=HB.out.lt;omega)⟩:w.grownBy (w3.setCell ⟨bm,1,none⟩ v3) (some bm)∧Blk w3 bm 139 #[ordFSN,.slice A xs.length c]))
  clear HC ho2 hb2 hba hown1 hbk;subst hv2;unfold InsPostSN at HI;generalize hrw:Value.ownBlock _=rw2 at*;clear hrw;simp only[eCSN,List.toList_toArray] at HI HFin HG;go_wp2_with fail
  refine HI.out.mono ?_;rintro e w3 ⟨g3,cap3,rfl,ho3,hg3,hr3⟩;obtain⟨hgf,hbx⟩:=HG.out (.slice (some ⟨g3,0,none⟩) (xs.length+1) cap3) w3 hg3;have hF:=HFin.out _ w3 ho3 hbx;have hc1:w3.cell? ⟨bm,1,none⟩=some (.slice A xs.length c):=hbx.cell 1;have hf1:=hbx.frozen 1;have HZ:=zH (zA hF hgf);clear hF hgf hbx ho3 hg3 hr3;go_wp2_with fail
  go_ret;exact⟨rfl,HZ.out.1,HZ.out.2⟩
 | true=>
  have hlt:=inN_lt ordS_ord hin;have hd:=put_hit k v xs hin;have hkk:ordS (xs[lbN ordS k xs]).1 k=0:=by
   have:=inN_at ordS_ord (k:=k) hlt;rw[hin] at this;exact of_decide_eq_true this.symm
  have hkx:∀(j:Nat) (hj:j<xs.length),j=lbN ordS k xs→(xs[j]).1=k:=by
   intro j hj e;subst e;exact ordS_ord.zero _ _ hkk
  unfold FindPostSN at HS;rw[hin] at HS;obtain⟨i,hi⟩:∃i,lbN ordS k xs=i:=⟨_,rfl⟩;rw[hi] at HS hlt hd;have hkx2:=hkx i hlt hi.symm;have HD:=zH (zA hd hkx2);clear hkx2 hd hin hi h hle hkk hkx;simp only[Nd.c] at HS HB0 HM;go_enter Tryz.func50,Tryz.ntmps50
  go_wp2_with fail
  refine HS.out.mono ?_;rintro e w1 ⟨rfl,hb1⟩;have hB1:=HB0.out.2.below hb1 HB0.out.2.lt;obtain⟨u,hb,ho⟩:=(HM.out.below hb1).row;obtain⟨A,c,rfl,_,_,_⟩:=SlV.of_own ho eCSN_len (by decide);have hv1:w1.cell? ⟨bm,1,none⟩=some (.slice A xs.length c):=hb.cell 1;have HC:=zH (slCloneSN_any eCSN eCSN_len eCSN_one w1 _ xs (SlV.of_own ho eCSN_len (by decide)) (by omega));have HB:=zH hb;clear hb ho;have hb1S:=hb1.size;have HB1:=zH hb1;clear hb1;go_wp2_with fail
  refine HC.out.mono ?_;rintro e w2 ⟨v2,rfl,ho2,hb2⟩;have hB2:=hB1.below hb2 hB1.lt;have x0:=hB2.cell 0;have x1:=hB2.cell 1;have x2:=hB2.cell 2;have x3:=hB2.cell 3;simp at x0 x1 x2 x3
  have HB2:=zH (zA hB1 hB2);clear hB1 hB2;obtain⟨g,cap,cur,rfl,hbg,hg,hnc,hcm,hcs,htk⟩:=own_form ho2 (by omega);have hgl:=hg.lt;have hst:=own_setCells [.int .i64 v.kind,.int .i64 v.mode,.int .u32 v.time,.string v.data] (i*5+1) w2 _ ho2 (by simp;omega);have hgr:=grown_setCells (a:=w2) (g:=g) [.int .i64 v.kind,.int .i64 v.mode,.int .u32 v.time,.string v.data] (i*5+1) w2 (grown_refl _ _);have hfl:=flat_put eCSN_len xs i hlt (k,v) 1 [.int .i64 v.kind,.int .i64 v.mode,.int .u32 v.time,.string v.data] (by simp) (by simp [eCSN,HD.out.2]);rw[hfl,←HD.out.1] at hst;have hl:(putN ordS k v xs).length=xs.length:=by rw[HD.out.1,List.length_set]
  rw[←hl] at hst;have hbx:Blk (w2.setCells g (i*5+1) [.int .i64 v.kind,.int .i64 v.mode,.int .u32 v.time,.string v.data]) bm 139 #[ordFSN,.slice A xs.length c]:=(HB.out.below hb2 HB.out.lt).grown hgr (fun e=>by have:=HB.out.lt;cases e;omega);have hF:SMapSN ((w2.setCells g (i*5+1) [.int .i64 v.kind,.int .i64 v.mode,.int .u32 v.time,.string v.data]).setCell ⟨bm,1,none⟩ (.slice (some ⟨g,0,none⟩) (putN ordS k v xs).length cap)) bm (putN ordS k v xs):=
   ⟨⟨_,hbx.put 1 _,own_wide (own_grown_typ hst (grown_put (grown_refl _ (some bm)) 1 _) hbx (by decide)) (Nat.zero_le _)⟩,put_up ordS_ord k v xs HM.out.up,fun e he=>by
    rcases put_mem k v xs e he with rfl | he
    ·exact hk
    ·exact HM.out.ok e he⟩
  have hGf:w.grownBy ((w2.setCells g (i*5+1) [.int .i64 v.kind,.int .i64 v.mode,.int .u32 v.time,.string v.data]).setCell ⟨bm,1,none⟩ (.slice (some ⟨g,0,none⟩) (putN ordS k v xs).length cap)) (some bm):=by
   have h1:=grown_below (row:=some bm) (HB0.out.1.trans (HB1.out.mono HB0.out.1.size));have h2:=grown_trans h1 ⟨hb2.os,hb2.tape,hb2.output,hb2.size,fun k hk _=>hb2.block k hk⟩;exact grown_put (grown_sub h2 hgr (fun k hk=>by cases hk;have:=HB0.out.1.size;omega)) 1 _
  rw[hl] at hF hGf;have hx0:∀j,j<cap*5→(w2.cell? ⟨g,j,none⟩).isSome=true:=fun j hj=>by
   rw[hg.cell,Array.getElem?_eq_getElem (by omega)];rfl
  obtain⟨old0,hold0⟩:=Option.isSome_iff_exists.1 (hx0 (i*5+1) (by omega));have hfz0:=hg.frozen (i*5+1);obtain⟨old1,hold1⟩:=Option.isSome_iff_exists.1 (hx0 (i*5+1+1) (by omega));have hfz1:=hg.frozen (i*5+1+1);obtain⟨old2,hold2⟩:=Option.isSome_iff_exists.1 (hx0 (i*5+1+1+1) (by omega));have hfz2:=hg.frozen (i*5+1+1+1);obtain⟨old3,hold3⟩:=Option.isSome_iff_exists.1 (hx0 (i*5+1+1+1+1) (by omega));have hfz3:=hg.frozen (i*5+1+1+1+1);have hbc0:=HB.out.below hb2 HB.out.lt;have hne1:bm≠g:=fun e=>by have:=HB.out.lt;omega
  have hbc4:=(((hbc0.far (p:=⟨g,i*5+1,none⟩) hne1 (.int .i64 v.kind)).far (p:=⟨g,i*5+1+1,none⟩) hne1 (.int .i64 v.mode)).far (p:=⟨g,i*5+1+1+1,none⟩) hne1 (.int .u32 v.time)).far (p:=⟨g,i*5+1+1+1+1,none⟩) hne1 (.string v.data);have hc3:=hbc4.cell 1;have hf3:=hbc4.frozen 1;simp at hc3
  have HZ:=zH (zA hF hGf);clear hF hGf hbx hst hgr hfl hl hx0 hg htk ho2 hb2 hnc hcs hcm hbc0 hbc4;have hi2:(i:Int)<xs.length:=by omega
  go_wp2_with fail
  go_ret;exact⟨rfl,HZ.out.1,HZ.out.2⟩
end Go.Proofs.YtnpehjgnplaabaaGreatDoor
namespace Sw
open Go Go.RowKit
def Lies (w:World) (te:TypeId) (size:Nat) {α:Type} (E:α→List Value) (v:Value) (l:List α):Prop:=
 ∃A c,v= .slice A l.length c∧l.length≤c∧c≤maxLen∧(0<l.length→∃g off cur,A=some ⟨g,off,none⟩∧Blk w g te cur∧(cur.toList.drop off).take (l.length*size)=l.flatMap E)
theorem blk_ownF0 {W W':World}{row:Option Nat}{g:Nat}{t:TypeId}{cs:Array Value}(h:Blk W g t cs)(hg:W.grownBy W' row)(hr:∀r,row=some r→∃o:Obj,W.heap[r]? =some o∧o.isCells=false):Blk W' g t cs:=
 h.grown hg (fun e=>by
  obtain⟨o,ho,hc⟩:=hr g e.symm;unfold Blk at h;rw[h] at ho;cases ho
  cases hc)
section
variable {w w':World} {te:TypeId} {size:Nat} {α:Type} {E:α→List Value} {v:Value} {l:List α}
theorem Lies.kept (h:Lies w te size E v l)(hk:∀g cur,v.ownBlock=some g→Blk w g te cur→w'.heap[g]? =w.heap[g]?):Lies w' te size E v l:=by
 obtain⟨A,c,rfl,h1,h2,h3⟩:=h;refine⟨A,c,rfl,h1,h2,fun hp=>?_⟩;obtain⟨g,off,cur,rfl,hb,hx⟩:=h3 hp;exact⟨g,off,cur,rfl,(hk g cur rfl hb).trans hb,hx⟩
theorem Lies.below (h:Lies w te size E v l)(hb:Below w.heap.size w w'):Lies w' te size E v l:=h.kept fun g _ _ hg=>hb.block g hg.lt
theorem Lies.nil (w:World)(te:TypeId)(size:Nat)(E:α→List Value):Lies w te size E (.slice none 0 0) []:=⟨none,0,rfl,zN _,by simp [maxLen],fun h=>absurd h (by simp)⟩
theorem Lies.of_own {base:Nat}{n:Nat}(h:w.ownsRow base te size v n (l.flatMap E))(hE:∀x,(E x).length=size)(hs:0<size):Lies w te size E v l:=by
 have hn:l.length=n:=by
  have:=h.1;rw[flat_len hE] at this;exact Nat.eq_of_mul_eq_mul_right hs this
 subst hn;rcases h.2 with ⟨rfl,h0⟩ | ⟨g,cap,cur,rfl,hb,hh,hc,hm,hsz,hx⟩
 ·exact⟨none,0,by rw[h0],by omega,by simp [maxLen],fun hp=>by omega⟩
 ·exact⟨_,cap,rfl,hc,hm,fun hp=>⟨g,0,cur,rfl,hh,by rw[List.drop_zero];exact hx⟩⟩
theorem Lies.slv (h:Lies w te size E v l)(hE:∀x,(E x).length=size):SlV w size E v l:=by
 obtain⟨A,c,rfl,h1,h2,h3⟩:=h;refine⟨A,c,rfl,h1,h2,fun hp=>?_⟩;obtain⟨g,off,cur,rfl,hb,hx⟩:=h3 hp;refine⟨g,off,rfl,hb.lt,fun i hi j hj=>?_⟩;have hlt:i*size+j<l.length*size:=by
  have:(i+1)*size≤l.length*size:=Nat.mul_le_mul_right size hi;rw[Nat.add_mul] at this;omega
 rw[hb.cell,←flat_get hE l i hi j hj,←hx,List.getElem?_take,if_pos hlt,List.getElem?_drop,Array.getElem?_toList,Nat.add_assoc]
theorem Lies.drop {g off c:Nat}(h:Lies w te size E (.slice (some ⟨g,off,none⟩) l.length c) l)(hE:∀x,(E x).length=size)(k:Nat)(hk:k≤l.length)(a:Addr)(ha:k<c→a=⟨g,off+k*size,none⟩):
  Lies w te size E (.slice (some a) (l.length-k) (c-k)) (l.drop k):=by
 obtain⟨A,c',hv,h1,h2,h3⟩:=h;obtain⟨rfl,hc⟩:some (⟨g,off,none⟩:Addr)=A∧c=c':=by injection hv with e1 e2 e3;exact⟨e1,e3⟩
 subst hc;refine⟨some a,c-k,by rw[List.length_drop],by rw[List.length_drop];omega,by omega,fun hp=>?_⟩;rw[List.length_drop] at hp;obtain⟨g',off',cur,hA,hb,hx⟩:=h3 (by omega);have hA':(⟨g,off,none⟩:Addr)=⟨g',off',none⟩:=Option.some.inj hA;have e1:g=g':=congrArg Addr.block hA';have e2:off=off':=congrArg Addr.off hA';subst e1;subst e2;refine⟨g,off+k*size,cur,by rw[ha (by omega)],hb,?_⟩;rw[flat_drop hE,←hx,List.length_drop,List.drop_take,List.drop_drop];congr 1
 rw[Nat.sub_mul]
end
theorem Lies.ownF {w w':World}{te:TypeId}{size:Nat}{α:Type}{E:α→List Value}{v:Value}{l:List α}{row:Option Nat}(h:Lies w te size E v l)(hg:w.grownBy w' row)(hr:∀r,row=some r→∃o:Obj,w.heap[r]? =some o∧o.isCells=false):Lies w' te size E v l:=
 h.kept fun g cur _ hb=>by
  have:=blk_ownF0 hb hg hr;unfold Blk at this hb;rw[this,hb]
structure KeepIt (gb:Nat) (v:Value) (A B:World):Prop where
 size:A.heap.size≤B.heap.size
 box:B.heap[gb]? =A.heap[gb]?
 row:∀g,v.ownBlock=some g→B.heap[g]? =A.heap[g]?
theorem KeepIt.trans {gb:Nat}{v:Value}{A B C:World}(h:KeepIt gb v A B)(k:KeepIt gb v B C):KeepIt gb v A C:=⟨zT h.size k.size,k.box.trans h.box,fun g hg=>(k.row g hg).trans (h.row g hg)⟩
theorem KeepIt.below {gb:Nat}{v:Value}{A B:World}{n:Nat}(h:Below n A B)(h1:gb<n)(h2:∀g,v.ownBlock=some g→g<n):KeepIt gb v A B:=⟨h.size,h.block gb h1,fun g hg=>h.block g (h2 g hg)⟩
theorem keepIt_b {gb:Nat}{v:Value}{w:World}(h1:gb<w.heap.size)(h2:∀g,v.ownBlock=some g→g<w.heap.size)(W:World)(l:Nat)(o o':Obj)(hl:w.heap.size≤l)(h:W.heap[l]? =some o)(hc:o.isCells=false)(hw:o.isWalk=false):KeepIt gb v W (W.putObj l o'):=
 .below (belowK_b (zN _) W l o o' hl h hc hw) h1 h2
theorem blk_ownF {W W':World}{row:Option Nat}{g:Nat}{t:TypeId}{cs:Array Value}(h:Blk W g t cs)(hg:W.grownBy W' row)(hr:∀r,row=some r→∃o:Obj,W.heap[r]? =some o∧o.isCells=false):Blk W' g t cs:=
 h.grown hg (fun e=>by
  obtain⟨o,ho,hc⟩:=hr g e.symm;unfold Blk at h;rw[h] at ho;cases ho
  cases hc)
theorem keeps_belowF {W W':World}(h:Below W.heap.size W W'):KeepsOthers W W':=⟨h.size,fun k o hk _=>by rw[h.block k (Array.getElem?_eq_some_iff.1 hk).1];exact hk⟩
theorem keeps_grownF {W W':World}{g:Nat}{t:TypeId}{cs:Array Value}(h:W.grownBy W' (some g))(hb:Blk W g t cs):KeepsOthers W W':=⟨h.size,fun k o hk hc=>by
 have hlt:=(Array.getElem?_eq_some_iff.1 hk).1;by_cases e:k=g
 ·subst e;unfold Blk at hb;rw[hb] at hk;cases hk
  cases hc
 ·rw[h.block k hlt (by simpa using e)];exact hk⟩
theorem own_ownF {W W':World}{row:Option Nat}{base:Nat}{e:TypeId}{size n:Nat}{v:Value}{xs:List Value}(h:W.ownsRow base e size v n xs)(hg:W.grownBy W' row)(hr:∀r,row=some r→∃o:Obj,W.heap[r]? =some o∧o.isCells=false):W'.ownsRow base e size v n xs:=
 h.kept hg (by
  rcases h.2 with ⟨rfl,_⟩ | ⟨g,cap,cur,rfl,_,hh,_⟩
  ·exact .inl rfl
  ·right
   intro he;obtain⟨o,ho,hc⟩:=hr g he.symm;rw[hh] at ho;(cases ho);cases hc)
theorem wpListIn_app {F:Fence}{nF:Nat}{P:Program}{w:World}{ops:Array Oper}{rest:List Oper}{o:Oper}{a:Act}{Q:Exit→Act→World→Prop}(hgd:o.guard=none)(s x:Operand)(t:TypeId)
  (ho:o.op= .call {callee:= .builtin .append,args:= #[s,x],argTypes:= #[t,t]})
  (base:Nat) (e:TypeId) (z:Value) (size bytes:Nat) (ht:P.underlying t=some (.slice e)) (hi:(P.info? e).map (fun i=>(i.zero,i.size,i.bytes))=some (some z,size,bytes))
  (hzs:z.cells.size=size) (hsz:0<size)
  (v:Value) (n:Nat) (xs:List Value) (hs:a.eval s=v) (hown:w.ownsRow base e size v n xs)
  (B:Nat) (c:Nat) (news:Array Value) (te:TypeId) (hx:a.eval x= .slice (some ⟨B,0,none⟩) 1 c) (hB:Blk w B te news) (hl:news.size=size) (h1:∀u∈news.toList,u.oneCell'=true)
  (hn:n+1≤1000000) (hby:bytes≤1000000) (hbase:base≤w.heap.size) (H:Nat) (hH:w.heap.size=H)
  (h:∀g cap w',w'.ownsRow base e size (.slice (some ⟨g,0,none⟩) (n+1) cap) (n+1) (xs++news.toList)→w.grownBy w' v.ownBlock→(v.ownBlock=some g∨g=H)→g<w'.heap.size→wpListIn F nF P ops Q rest (a.put o.dst (.slice (some ⟨g,0,none⟩) (n+1) cap)) w'):
  wpListIn F nF P ops Q (o::rest) a w:=by
 obtain⟨i,hi,hz,hs2,hb⟩:=info_parts hi;refine wpListIn_append_own_at (w:=w) hgd s x t ho base e i z size bytes ht hi hz hs2 hb hzs hsz v n xs hs hown ⟨B,0,none⟩ 1 c news.toList hx (by simpa using hl) (World.news_of_block hB) h1 (by unfold maxLen;omega) ?_ hbase ?_
 ·calc (n+1)*bytes≤1000000*1000000:=Nat.mul_le_mul hn hby
   _≤140737488355328:=by decide
 ·intro v' w' h2 h3 _ h5;obtain⟨g,cap,rfl,_,hlt⟩:=h2.form (by omega);refine h g cap w' h2 h3 ?_ hlt;rcases h5 with h5 | h5
  ·exact .inl (by rw[←h5];rfl)
  ·right
   (have:g=w.heap.size:=by simpa [Value.ownBlock] using h5);rw[this,hH]
theorem own_ne_blk {w:World}{base:Nat}{e:TypeId}{size n:Nat}{v:Value}{xs:List Value}(h:w.ownsRow base e size v n xs){g:Nat}{t:TypeId}{cs:Array Value}(hB:Blk w g t cs)(hne:e≠t):v.ownBlock≠some g:=by
 intro he;rcases h.2 with ⟨rfl,_⟩ | ⟨g',cap,cur,rfl,_,hg',_⟩
 ·cases he
 ·have:g'=g:=by simpa [Value.ownBlock] using he
  subst this;exact Blk.other (hg':Blk w g' e cur) hB hne rfl
theorem own_cells {W:World}{base:Nat}{e:TypeId}{size n:Nat}{v:Value}{xs:List Value}(h:W.ownsRow base e size v n xs):∀(j:Nat) (o:Obj),v.ownBlock=some j→W.heap[j]? =some o→o.isCells=true:=by
 intro j o hj ho;rcases h.2 with ⟨rfl,_⟩ | ⟨g,cap,cur,rfl,_,hh,_⟩
 ·cases hj
 ·have:g=j:=by simpa [Value.ownBlock] using hj
  subst this;rw[hh] at ho;cases ho
  rfl
structure AppBody (T g:Nat) (tS e:TypeId) (size n:Nat) (v':Value) (xs:List Value) (W W':World):Prop where
 keeps:KeepsOthers W W'
 below:Below T W W'
 box:Blk W' g tS #[v']
 own:W'.ownsRow T e size v' n xs
 far:∀g' t cs,Blk W g' t cs→t≠e→g'≠g→Blk W' g' t cs
 typ:∀t cs,Blk W g t cs→t=tS
theorem app_pre {W W0 w5:World}{T g:Nat}{tS e:TypeId}{size n:Nat}{v:Value}{xs:List Value}(b1:Blk W g tS #[v])(ho:W.ownsRow T e size v n xs)(hb0:Below W.heap.size W W0)(hgrow1:W0.grownBy w5 v.ownBlock)(hne:e≠tS):
  Blk w5 g tS #[v]:=(b1.below hb0 b1.lt).grown hgrow1 (fun h=>own_ne_blk ho b1 hne h.symm)
theorem app_body {W W0 w5:World}{T g:Nat}{tS e:TypeId}{size n gN cap:Nat}{v:Value}{xs ys:List Value}(b1:Blk W g tS #[v])(ho:W.ownsRow T e size v n xs)(hb0:Below W.heap.size W W0)(hgrow1:W0.grownBy w5 v.ownBlock)
  (hown1:w5.ownsRow T e size (.slice (some ⟨gN,0,none⟩) (n+1) cap) (n+1) ys) (hT:T≤W.heap.size) (hgT:T≤g) (hne:e≠tS):
  AppBody T g tS e size (n+1) (.slice (some ⟨gN,0,none⟩) (n+1) cap) ys W (w5.setCell ⟨g,0,none⟩ (.slice (some ⟨gN,0,none⟩) (n+1) cap)):=by
 have hb5:=app_pre b1 ho hb0 hgrow1 hne;have ho0:=own_kept ho hb0;refine⟨((keeps_belowF hb0).trans (KeepsOthers.of_grownBy hgrow1 (own_cells ho0))).trans (KeepsOthers.setCell _ _ _),?_,hb5.put 0 _,?_,fun g' t cs h ht hg=>?_,fun t cs h=>?_⟩
 ·exact((hb0.mono hT).grown hgrow1 (zT hT hb0.size) (fun k hk=>(ho.lt k hk).1)).setCell (p:=⟨g,0,none⟩) hgT _
 ·exact hown1.kept (grown_put (grown_refl w5 (some g)) 0 _) (.inr (own_ne_blk hown1 hb5 hne))
 ·exact((h.below hb0 h.lt).grown hgrow1 (fun e'=>own_ne_blk ho h (Ne.symm ht) e'.symm)).far (p:=⟨g,0,none⟩) hg _
 ·unfold Blk at h b1;rw[b1] at h;injection h with h;injection h with _ h;exact h.symm
theorem AppBody.keepIt {T g:Nat}{tS e:TypeId}{size n:Nat}{v':Value}{xs:List Value}{W W':World}(h:AppBody T g tS e size n v' xs W W'){gb:Nat}{tb te:TypeId}{v:Value}{sz:Nat}{α:Type}{E:α→List Value}{l:List α}(hb:Blk W gb tb #[v])(hL:Lies W te sz E v l)(hl:0<l.length)(h1:tb≠e)(h2:gb≠g)(h3:te≠e)(h4:te≠tS):KeepIt gb v W W':=by
 refine⟨h.keeps.size,?_,fun g' hg'=>?_⟩
 ·have:=h.far _ _ _ hb h1 h2;unfold Blk at this hb;rw[this,hb]
 ·obtain⟨A,c,rfl,_,_,hx⟩:=hL;obtain⟨g2,off,cur,rfl,hB,_⟩:=hx hl;cases hg'
  have hne:g2≠g:=fun e'=>by
   subst e';have hbx:=h.box;by_cases hk:W.heap[g2]? =none
   ·unfold Blk at hB;rw[hB] at hk;cases hk
   ·exact h4 (h.typ _ _ hB)
  have:=h.far _ _ _ hB h3 hne;unfold Blk at this hB;rw[this,hB]
theorem res_cell_sl {P:Program}{fn:Func}{p:Tmp}{ty e:TypeId}(h:fn.results= #[.cell p ty])(tmps:Array Value)(w:World)(g:Nat)(t:TypeId)(v:Value)
  (hp:tmps.getD p undef= .pointer (some ⟨g,0,none⟩)) (hg:Blk w g t #[v]) (hu:P.underlying ty=some (.slice e)):(results fn tmps).run P w= .ok v w:=by
 have hp':tmps[p]?.getD undef= .pointer (some ⟨g,0,none⟩):=by simpa using hp
 have hc:w.cell? ⟨g,0,none⟩=some v:=by have:=hg.cell 0;simpa using this
 simp [results,h,hp',asAddr,loadVar,isAgg,run_underlying hu,run_load,hc]
def SeqTells {α:Type} (Mine:Nat→Prop) (F:Fence) (n:Nat) (P:Program) (g:Nat) (lb:Array Value) (encs:α→Array Value) (Kp:World→World→Prop) (S Sp Tell:List α→Prop) (w:World):Prop:=
 ∀(l:Nat) (J Jx:List α→World→Prop) (W:World),Below w.heap.size w W→AbM Mine W.heap.size J→AbM Mine W.heap.size Jx→
  (∀pre x W1,J pre W1→Tell (pre++[x])→YieldAt F (n-1) P l (encs x) W1 fun e W'=>
   (e= .returned (.bool true)∧J (pre++[x]) W'∧Kp W1 W')∨(e= .returned (.bool false)∧Jx (pre++[x]) W'))→
  J [] W→
  CallsIn F n P g (#[.func (.yield l) #[] #[]]++lb) W fun e W'=>(∃v,e= .returned v)∧((∃xs,S xs∧J xs W')∨(∃pre,Sp pre∧Jx pre W'))
variable {F:Fence} {n:Nat} {P:Program}
theorem wpIn_rangeFunc_tell {α:Type}{g:Operand}{ps:Array Tmp}{assign body:Code}{Q:Exit→Act→World→Prop}{a:Act}{w:World}{Mine:Nat→Prop}(hM:∀r,Mine r→r<w.heap.size)
  (hro:F.round=none) (h1:1≤n) {gf:Nat} {lb:Array Value} (hg:a.eval g= .func (.func gf) #[] lb) (hFg:F.fn gf) (eg:∀args w,(callFunc gf args).run P w= .ok (.enter gf args) w)
  {encs:α→Array Value} {Kp:World→World→Prop} {S Sp Tell:List α→Prop} {w0:World} (hseq:SeqTells Mine F (n-1) P gf lb encs Kp S Sp Tell w0)
  (hKt:∀{A B C:World},Kp A B→Kp B C→Kp A C) (hKb:∀(W:World) (l:Nat) (o o':Obj),w.heap.size≤l→W.heap[l]? =some o→o.isCells=false→o.isWalk=false→Kp W (W.putObj l o')) (hb0:Below w0.heap.size w0 w) (hps:∀x,(encs x).size=ps.size)
  (I:List α→World→Prop) (Ix:Code→List α→World→Prop) (hI:OwnM Mine w.heap.size I) (hIx:∀c,OwnM Mine w.heap.size (Ix c)) (h0:I [] w) (a₁:α→Act)
  (hassign:∀(l:Nat) (x:α) (W:World) (K:Act→World→Prop),K (a₁ x) W→
   assign.wpIn (F.inRound l) (n-1-1) P (Exit.then K (fun _ _ _=>False)) {tmps:=(ps.zip (encs x)).foldl (fun t (p,v)=>t.setIfInBounds p v) a.tmps,defers:=[]} W)
  (hbody:∀(l:Nat) (pre:List α) (x:α) (W:World),I pre W→Tell (pre++[x])→body.wpIn (F.inRound l) (n-1-1) P (ownPostK Kp I Ix (pre++[x]) W) (a₁ x) W)
  (hdone:∀(D:Nat) (xs:List α) (W:World),w.heap.size≤D→S xs→I xs W→W.heap[D]? =some (.deferred (some []))→Q .normal {a with defers:={target:= .collected D,args:= #[]}::a.defers} W)
  (hstop:∀(D:Nat) (c:Code) (pre:List α) (W:World),w.heap.size≤D→Sp pre→Ix c pre W→W.heap[D]? =some (.deferred (some []))→c.wpIn F n P Q {a with defers:={target:= .collected D,args:= #[]}::a.defers} W):
  (Code.rangeFunc g ps assign body).wpIn F n P Q a w:=by
 refine wpIn_rangeFunc fun fn hfn=>?_
 rw[hro];obtain⟨D,hD⟩:∃D,D=w.heap.size:=⟨_,rfl⟩;obtain⟨R,hR⟩:∃R:LoopState→Option Code→Loop,R=fun st pe=>{state:=st,pending:=pe,fn,tmps:=a.tmps,params:=ps,assign,body,defers:=w.heap.size}:=⟨_,rfl⟩
 obtain⟨W1,hW1⟩:∃W1,(w.alloc (.deferred (some []))).alloc (.loop (R .ready none))=W1:=⟨_,rfl⟩;have hs1:W1.heap.size=D+1+1:=by rw[←hW1,hD];simp
 have hL1:W1.heap[D+1]? =some (.loop (R .ready none)):=by
  rw[←hW1,hD];have:=World.alloc_heap_new (w.alloc (.deferred (some []))) (.loop (R .ready none))
  rwa [World.size_alloc] at this
 have hD1:W1.heap[D]? =some (.deferred (some [])):=by
  rw[←hW1,hD];exact(Below.heap_alloc _ _ _ (by simp)).trans (World.alloc_heap_new w _)
 have hI1:I [] W1:=by rw[←hW1];exact hI.new _ (hI.new _ h0)
 have hb1:Below w0.heap.size w0 W1:=by
  rw[←hW1];exact hb0.trans ((((zR _ w).alloc (zN _) _).alloc (by simp) _).mono hb0.size)
 have stays:∀{A B:World} {row:Option Nat} {k:Nat} {o:Obj},D≤k→A.heap[k]? =some o→o.isWalk=false→A.grownBy B row→(∀r,row=some r→Mine r∨(W1.heap.size≤r∧∃o:Obj,A.heap[r]? =some o∧o.isWalk=true))→B.heap[k]? =some o:=by
  intro A B row k o hk ho hw hgr hr;refine(hgr.block k (Array.getElem?_eq_some_iff.1 ho).1 (fun e=>?_)).trans ho;rcases hr k e.symm with h | ⟨_,o',ho',hw'⟩
  ·have:=hM k h;omega
  ·rw[ho] at ho';cases ho';rw[hw] at hw';cases hw'
 have wide:∀{A:World} {row:Option Nat},(∀r,row=some r→Mine r∨(W1.heap.size≤r∧∃o:Obj,A.heap[r]? =some o∧o.isWalk=true))→(∀r,row=some r→Mine r∨(w.heap.size≤r∧∃o:Obj,A.heap[r]? =some o∧o.isCells=false)):=by
  intro A row hr r e;rcases hr r e with h | ⟨hB,o,ho,hw⟩
  ·exact .inl h
  ·exact .inr ⟨by omega,o,ho,Obj.not_cells_of_walk hw⟩
 refine⟨D+1,[{target:= .collected D,args:= #[]}],W1,{target:= .fn (.func gf) lb,args:= #[.func (.yield (D+1)) #[] #[]]},W1,gf,#[.func (.yield (D+1)) #[] #[]]++lb,W1,?_,?_,?_,?_,fun _=>h1,?_⟩
 ·rw[←hW1,hR,hD];exact run_enterLoop_outer _ _ _ _ _
 ·simp only[resolve,hg];simp [go_sem]
 ·intro f' hf';simp [Target.leads] at hf'
  subst hf';exact hFg
 ·simp [invoke,go_sem,eg]
 refine(hseq (D+1) (fun pre W=>I pre W∧W.heap[D+1]? =some (.loop (R .ready none))∧W.heap[D]? =some (.deferred (some [])))
  (fun pre W=>∃c,Ix c pre W∧W.heap[D+1]? =some (.loop (R .done (some c)))∧W.heap[D]? =some (.deferred (some []))) W1 hb1
  (fun s A B row hs hgr hr=>⟨hI s A B row hs.1 hgr (wide hr),stays (by omega) hs.2.1 rfl hgr hr,stays (zN _) hs.2.2 rfl hgr hr⟩)
  (fun s A B row hs hgr hr=>by
   obtain⟨c,hc,hl,hk⟩:=hs;exact⟨c,hIx c s A B row hc hgr (wide hr),stays (by omega) hl rfl hgr hr,stays (zN _) hk rfl hgr hr⟩)
  ?_ ⟨hI1,hL1,hD1⟩).mono ?_
 ·rintro pre x W ⟨hi,hl,hk⟩ hlen;have hlt:D+1<W.heap.size:=(Array.getElem?_eq_some_iff.1 hl).1;obtain⟨busy,hbusy⟩:∃b:Loop,b={R .ready none with state:= .busy}:=⟨_,rfl⟩;obtain⟨W2,hW2⟩:∃W2,W.putObj (D+1) (.loop busy)=W2:=⟨_,rfl⟩;have hy:=run_yield (P:=P) (args:=encs x) hl (by rw[hR];exact hps x);rw[hR] at hy;refine⟨fn,_,assign,body,hy,roundIn_of_wpIn hfn (hassign _ x W _ ⟨W2,by rw[←hW2,hbusy];exact run_beginRound hl (by rw[hR]),?_⟩)⟩;have hl2:W2.heap[D+1]? =some (.loop busy):=by rw[←hW2];exact World.putObj_heap_same hlt
  have hk2:W2.heap[D]? =some (.deferred (some [])):=by rw[←hW2];exact(World.putObj_heap_other (by omega)).trans hk
  have hw2:Kp W W2:=by rw[←hW2];exact hKb _ _ _ _ (by omega) hl rfl rfl
  have hi2:I pre W2:=by rw[←hW2];exact hI.turn _ hi (by omega) hl rfl
  refine wpIn_mono (hbody _ pre x _ hi2 hlen) ?_;have fin:∀(jump:Option Code) (W3:World),KeepsOthers W2 W3→∃W4,W3.putObj (D+1) (.loop (R (if jump.isNone then .ready else .done) jump))=W4∧
    (Instr.endRound (D+1) jump).run P W3= .ok (.bool jump.isNone) W4∧W3.heap[D+1]? =some (.loop busy)∧
    W4.heap[D+1]? =some (.loop (R (if jump.isNone then .ready else .done) jump))∧W4.heap[D]? =some (.deferred (some [])):=fun jump W3 hk3=>by
   have hl3:=hk3.same _ _ hl2 rfl;have:=run_endRound (P:=P) jump hl3;rw[hbusy,hR] at this;refine⟨_,rfl,?_,hl3,World.putObj_heap_same (Array.getElem?_eq_some_iff.1 hl3).1,(World.putObj_heap_other (by omega)).trans (hk3.same _ _ hk2 rfl)⟩;rw[hR];exact this
  rintro e a3 W3 hp;have out:∀c,KeepsOthers W2 W3→Ix c (pre++[x]) W3→∃v W4,(Instr.endRound (D+1) (some c)).run P W3= .ok v W4∧Ending.returned v= .returned (.bool false)∧Ix c (pre++[x]) W4∧W4.heap[D+1]? =some (.loop (R .done (some c)))∧W4.heap[D]? =some (.deferred (some [])):=fun c hk3 hi3=>by
   obtain⟨W4,hW4,hr,hl3,hl4,hk4⟩:=fin (some c) W3 hk3;exact⟨_,W4,hr,rfl,by rw[←hW4];exact(hIx c).turn _ hi3 (by omega) hl3 rfl,hl4,hk4⟩
  cases e with
  | normal=>
   obtain⟨hk3,hkp3,hi3⟩:=hp;obtain⟨W4,hW4,hr,hl3,hl4,hk4⟩:=fin none W3 hk3;refine⟨_,W4,hr,.inl ⟨rfl,⟨?_,hl4,hk4⟩,?_⟩⟩
   ·rw[←hW4];exact hI.turn _ hi3 (by omega) hl3 rfl
   ·rw[←hW4];exact hKt (hKt hw2 hkp3) (hKb _ _ _ _ (by omega) hl3 rfl (by rw[hbusy];rfl))
  | ret=>
   obtain⟨v,W4,hr,hv,h4⟩:=out .ret hp.1 hp.2;exact⟨v,W4,hr,.inr ⟨hv,.ret,h4⟩⟩
  | exit id=>
   obtain⟨v,W4,hr,hv,h4⟩:=out (.exit id) hp.1 hp.2;exact⟨v,W4,hr,.inr ⟨hv,.exit id,h4⟩⟩
  | goto t=>
   obtain⟨v,W4,hr,hv,h4⟩:=out (.goto t) hp.1 hp.2;exact⟨v,W4,hr,.inr ⟨hv,.goto t,h4⟩⟩
  | panic ch=>exact hp.elim
  | outgrown=>exact hp.elim
 ·rintro e W2 ⟨⟨v,rfl⟩,(⟨xs,hS,hi,hl,hk⟩ | ⟨pre,hSp,c,hi,hl,hk⟩)⟩
  ·have hr:=run_endLoop (P:=P) hl (by rw[hR];simp);rw[hR] at hr;refine⟨none,_,hr,?_⟩;exact hdone D xs _ (by omega) hS (hI.turn _ hi (by omega) hl rfl) ((World.putObj_heap_other (by omega)).trans hk)
  ·have hr:=run_endLoop (P:=P) hl (by rw[hR];simp);rw[hR] at hr;refine⟨some c,_,hr,?_⟩;exact hstop D c pre _ (by omega) hSp ((hIx c).turn _ hi (by omega) hl rfl) ((World.putObj_heap_other (by omega)).trans hk)
theorem wpIn_rangeFunc_tellW {α:Type}{g:Operand}{ps:Array Tmp}{assign body:Code}{Q:Exit→Act→World→Prop}{a:Act}{w:World}{Mine:Nat→Prop}(hM:∀r,Mine r→r<w.heap.size)
  (hro:F.round=none) (h1:1≤n) {gf:Nat} {lb:Array Value} (hg:a.eval g= .func (.func gf) #[] lb) (hFg:F.fn gf) (eg:∀args w,(callFunc gf args).run P w= .ok (.enter gf args) w)
  {encs:α→Array Value} {Kp:World→World→Prop} {S Sp Tell:List α→Prop} {w0:World} (hseq:SeqTells Mine F (n-1) P gf lb encs Kp S Sp Tell w0)
  (hKt:∀{A B C:World},Kp A B→Kp B C→Kp A C) (hKb:∀(W:World) (l:Nat) (o o':Obj),w.heap.size≤l→W.heap[l]? =some o→o.isCells=false→o.isWalk=false→Kp W (W.putObj l o')) (hb0:Below w0.heap.size w0 w) (hps:∀x,(encs x).size=ps.size)
  (I:List α→World→Prop) (Ix:Code→List α→World→Prop) (hI:OwnM Mine w.heap.size I) (hIx:∀c,OwnM Mine w.heap.size (Ix c)) (h0:I [] w) (a₁:α→Nat→Act) (wA:α→World→World) (J:α→Nat→List α→World→Prop) (hJ:∀x n,OwnM Mine w.heap.size (J x n))
  (hA:∀pre x W,I pre W→Tell (pre++[x])→J x W.heap.size pre (wA x W)∧KeepsOthers W (wA x W)∧Kp W (wA x W))
  (hassign:∀(l:Nat) (x:α) (n₀:Nat) (W:World) (_:W.heap.size=n₀) (K:Act→World→Prop),K (a₁ x n₀) (wA x W)→
   assign.wpIn (F.inRound l) (n-1-1) P (Exit.then K (fun _ _ _=>False)) {tmps:=(ps.zip (encs x)).foldl (fun t (p,v)=>t.setIfInBounds p v) a.tmps,defers:=[]} W)
  (hbody:∀(l:Nat) (pre:List α) (x:α) (n₀:Nat) (W:World),J x n₀ pre W→Tell (pre++[x])→body.wpIn (F.inRound l) (n-1-1) P (ownPostK Kp I Ix (pre++[x]) W) (a₁ x n₀) W)
  (hdone:∀(D:Nat) (xs:List α) (W:World),w.heap.size≤D→S xs→I xs W→W.heap[D]? =some (.deferred (some []))→Q .normal {a with defers:={target:= .collected D,args:= #[]}::a.defers} W)
  (hstop:∀(D:Nat) (c:Code) (pre:List α) (W:World),w.heap.size≤D→Sp pre→Ix c pre W→W.heap[D]? =some (.deferred (some []))→c.wpIn F n P Q {a with defers:={target:= .collected D,args:= #[]}::a.defers} W):
  (Code.rangeFunc g ps assign body).wpIn F n P Q a w:=by
 refine wpIn_rangeFunc fun fn hfn=>?_
 rw[hro];obtain⟨D,hD⟩:∃D,D=w.heap.size:=⟨_,rfl⟩;obtain⟨R,hR⟩:∃R:LoopState→Option Code→Loop,R=fun st pe=>{state:=st,pending:=pe,fn,tmps:=a.tmps,params:=ps,assign,body,defers:=w.heap.size}:=⟨_,rfl⟩
 obtain⟨W1,hW1⟩:∃W1,(w.alloc (.deferred (some []))).alloc (.loop (R .ready none))=W1:=⟨_,rfl⟩;have hs1:W1.heap.size=D+1+1:=by rw[←hW1,hD];simp
 have hL1:W1.heap[D+1]? =some (.loop (R .ready none)):=by
  rw[←hW1,hD];have:=World.alloc_heap_new (w.alloc (.deferred (some []))) (.loop (R .ready none))
  rwa [World.size_alloc] at this
 have hD1:W1.heap[D]? =some (.deferred (some [])):=by
  rw[←hW1,hD];exact(Below.heap_alloc _ _ _ (by simp)).trans (World.alloc_heap_new w _)
 have hI1:I [] W1:=by rw[←hW1];exact hI.new _ (hI.new _ h0)
 have hb1:Below w0.heap.size w0 W1:=by
  rw[←hW1];exact hb0.trans ((((zR _ w).alloc (zN _) _).alloc (by simp) _).mono hb0.size)
 have stays:∀{A B:World} {row:Option Nat} {k:Nat} {o:Obj},D≤k→A.heap[k]? =some o→o.isWalk=false→A.grownBy B row→(∀r,row=some r→Mine r∨(W1.heap.size≤r∧∃o:Obj,A.heap[r]? =some o∧o.isWalk=true))→B.heap[k]? =some o:=by
  intro A B row k o hk ho hw hgr hr;refine(hgr.block k (Array.getElem?_eq_some_iff.1 ho).1 (fun e=>?_)).trans ho;rcases hr k e.symm with h | ⟨_,o',ho',hw'⟩
  ·have:=hM k h;omega
  ·rw[ho] at ho';cases ho';rw[hw] at hw';cases hw'
 have wide:∀{A:World} {row:Option Nat},(∀r,row=some r→Mine r∨(W1.heap.size≤r∧∃o:Obj,A.heap[r]? =some o∧o.isWalk=true))→(∀r,row=some r→Mine r∨(w.heap.size≤r∧∃o:Obj,A.heap[r]? =some o∧o.isCells=false)):=by
  intro A row hr r e;rcases hr r e with h | ⟨hB,o,ho,hw⟩
  ·exact .inl h
  ·exact .inr ⟨by omega,o,ho,Obj.not_cells_of_walk hw⟩
 refine⟨D+1,[{target:= .collected D,args:= #[]}],W1,{target:= .fn (.func gf) lb,args:= #[.func (.yield (D+1)) #[] #[]]},W1,gf,#[.func (.yield (D+1)) #[] #[]]++lb,W1,?_,?_,?_,?_,fun _=>h1,?_⟩
 ·rw[←hW1,hR,hD];exact run_enterLoop_outer _ _ _ _ _
 ·simp only[resolve,hg];simp [go_sem]
 ·intro f' hf';simp [Target.leads] at hf'
  subst hf';exact hFg
 ·simp [invoke,go_sem,eg]
 refine(hseq (D+1) (fun pre W=>I pre W∧W.heap[D+1]? =some (.loop (R .ready none))∧W.heap[D]? =some (.deferred (some [])))
  (fun pre W=>∃c,Ix c pre W∧W.heap[D+1]? =some (.loop (R .done (some c)))∧W.heap[D]? =some (.deferred (some []))) W1 hb1
  (fun s A B row hs hgr hr=>⟨hI s A B row hs.1 hgr (wide hr),stays (by omega) hs.2.1 rfl hgr hr,stays (zN _) hs.2.2 rfl hgr hr⟩)
  (fun s A B row hs hgr hr=>by
   obtain⟨c,hc,hl,hk⟩:=hs;exact⟨c,hIx c s A B row hc hgr (wide hr),stays (by omega) hl rfl hgr hr,stays (zN _) hk rfl hgr hr⟩)
  ?_ ⟨hI1,hL1,hD1⟩).mono ?_
 ·rintro pre x W ⟨hi,hl0,hk0⟩ hlen;obtain⟨hjA,hoA,hpA⟩:=hA pre x W hi hlen;have hl:=hoA.same _ _ hl0 rfl;have hk:=hoA.same _ _ hk0 rfl;have hlt:D+1<(wA x W).heap.size:=(Array.getElem?_eq_some_iff.1 hl).1;obtain⟨busy,hbusy⟩:∃b:Loop,b={R .ready none with state:= .busy}:=⟨_,rfl⟩;obtain⟨W2,hW2⟩:∃W2,(wA x W).putObj (D+1) (.loop busy)=W2:=⟨_,rfl⟩;have hy:=run_yield (P:=P) (args:=encs x) hl0 (by rw[hR];exact hps x);rw[hR] at hy;refine⟨fn,_,assign,body,hy,roundIn_of_wpIn hfn (hassign _ x _ W rfl _ ⟨W2,by rw[←hW2,hbusy];exact run_beginRound hl (by rw[hR]),?_⟩)⟩;have hl2:W2.heap[D+1]? =some (.loop busy):=by rw[←hW2];exact World.putObj_heap_same hlt
  have hk2:W2.heap[D]? =some (.deferred (some [])):=by rw[←hW2];exact(World.putObj_heap_other (by omega)).trans hk
  have hw2:Kp W W2:=hKt hpA (by rw[←hW2];exact hKb _ _ _ _ (by omega) hl rfl rfl);have hi2:J x W.heap.size pre W2:=by rw[←hW2];exact(hJ x _).turn _ hjA (by omega) hl rfl
  refine wpIn_mono (hbody _ pre x _ _ hi2 hlen) ?_;have fin:∀(jump:Option Code) (W3:World),KeepsOthers W2 W3→∃W4,W3.putObj (D+1) (.loop (R (if jump.isNone then .ready else .done) jump))=W4∧
    (Instr.endRound (D+1) jump).run P W3= .ok (.bool jump.isNone) W4∧W3.heap[D+1]? =some (.loop busy)∧
    W4.heap[D+1]? =some (.loop (R (if jump.isNone then .ready else .done) jump))∧W4.heap[D]? =some (.deferred (some [])):=fun jump W3 hk3=>by
   have hl3:=hk3.same _ _ hl2 rfl;have:=run_endRound (P:=P) jump hl3;rw[hbusy,hR] at this;refine⟨_,rfl,?_,hl3,World.putObj_heap_same (Array.getElem?_eq_some_iff.1 hl3).1,(World.putObj_heap_other (by omega)).trans (hk3.same _ _ hk2 rfl)⟩;rw[hR];exact this
  rintro e a3 W3 hp;have out:∀c,KeepsOthers W2 W3→Ix c (pre++[x]) W3→∃v W4,(Instr.endRound (D+1) (some c)).run P W3= .ok v W4∧Ending.returned v= .returned (.bool false)∧Ix c (pre++[x]) W4∧W4.heap[D+1]? =some (.loop (R .done (some c)))∧W4.heap[D]? =some (.deferred (some [])):=fun c hk3 hi3=>by
   obtain⟨W4,hW4,hr,hl3,hl4,hk4⟩:=fin (some c) W3 hk3;exact⟨_,W4,hr,rfl,by rw[←hW4];exact(hIx c).turn _ hi3 (by omega) hl3 rfl,hl4,hk4⟩
  cases e with
  | normal=>
   obtain⟨hk3,hkp3,hi3⟩:=hp;obtain⟨W4,hW4,hr,hl3,hl4,hk4⟩:=fin none W3 hk3;refine⟨_,W4,hr,.inl ⟨rfl,⟨?_,hl4,hk4⟩,?_⟩⟩
   ·rw[←hW4];exact hI.turn _ hi3 (by omega) hl3 rfl
   ·rw[←hW4];exact hKt (hKt hw2 hkp3) (hKb _ _ _ _ (by omega) hl3 rfl (by rw[hbusy];rfl))
  | ret=>
   obtain⟨v,W4,hr,hv,h4⟩:=out .ret hp.1 hp.2;exact⟨v,W4,hr,.inr ⟨hv,.ret,h4⟩⟩
  | exit id=>
   obtain⟨v,W4,hr,hv,h4⟩:=out (.exit id) hp.1 hp.2;exact⟨v,W4,hr,.inr ⟨hv,.exit id,h4⟩⟩
  | goto t=>
   obtain⟨v,W4,hr,hv,h4⟩:=out (.goto t) hp.1 hp.2;exact⟨v,W4,hr,.inr ⟨hv,.goto t,h4⟩⟩
  | panic ch=>exact hp.elim
  | outgrown=>exact hp.elim
 ·rintro e W2 ⟨⟨v,rfl⟩,(⟨xs,hS,hi,hl,hk⟩ | ⟨pre,hSp,c,hi,hl,hk⟩)⟩
  ·have hr:=run_endLoop (P:=P) hl (by rw[hR];simp);rw[hR] at hr;refine⟨none,_,hr,?_⟩;exact hdone D xs _ (by omega) hS (hI.turn _ hi (by omega) hl rfl) ((World.putObj_heap_other (by omega)).trans hk)
  ·have hr:=run_endLoop (P:=P) hl (by rw[hR];simp);rw[hR] at hr;refine⟨some c,_,hr,?_⟩;exact hstop D c pre _ (by omega) hSp ((hIx c).turn _ hi (by omega) hl rfl) ((World.putObj_heap_other (by omega)).trans hk)
theorem OwnM.of_none {β:Type}{B:Nat}{I:β→World→Prop}(h:OwnFrom B I):OwnM (fun _=>False) B I:=fun s W W' row hs hg hr=>h s W W' row hs hg (fun r e=>(hr r e).resolve_left id)
end Sw
namespace Go.Proofs.YtnpehjgnplaabaaGreatDoor
open Go Go.RowKit Go.Shelf
open Sw
attribute [local go_sem] Oper.semAt_some
theorem toldSN_tells (n:Nat)(hn:1≤n)(gb:Nat)(v:Value)(xs:List (ByteArray×Nd))(w:World)(hgb:Blk w gb 137 #[v])(hv:Lies w 146 5 eCSN v xs)(hl:xs.length≤1000000):
  SeqTells (fun _=>False) Fence.wide n Tryz.prog 154 #[.pointer (some ⟨gb,0,none⟩)] (fun x:ByteArray×Nd=> #[Value.string x.1,(fun v=>Value.agg v.c) x.2]) (KeepIt gb v) (fun ys=>ys=xs) (fun pre=>pre<+:xs) (fun pre=>pre<+:xs) w:=fun l J Jx W hW hJ hJx hY hJ0=>by
 have hB:=hgb.below hW hgb.lt;have hL:=hv.below hW;have c0:=hB.cell 0;simp at c0
 have hL2:=hL;obtain⟨A,c,rfl,hc1,hc2,_⟩:=hL2;have HB:=zH (zA hgb hB);clear hgb hB;have HL:=zH hL;clear hL;have HV:=zH hv;clear hv;have HJ:=zH hJ;clear hJ;have HY:=zH hY;clear hY;clear hJx;refine callsIn_of_wp Tryz.func154 rfl trivial ?_ rfl;simp only[Tryz.ntmps154,List.size_toArray,zI,List.length_nil,Nat.reduceAdd,Nat.reduceSub,Array.replicate_succ,Array.replicate_zero,List.push_toArray,List.append_toArray,List.nil_append,List.cons_append];gi_wp2
 gi_loopw [7] (fun iv wr=>∃k:Nat,iv= .int .i64 k∧k≤xs.length∧J (xs.take k) wr∧KeepIt gb (.slice A xs.length c) W wr) (fun iv _=>xs.length-(intOf iv).toNat)
 case atStart=>exact⟨0,rfl,Nat.zero_le _,hJ0,⟨zN _,rfl,fun _ _=>rfl⟩⟩
 case round=>
  obtain⟨k,rfl,hk,hJs,hK⟩:=hrel;by_cases hlt:k<xs.length
  ·have hLr:=HL.out.kept (fun g _ hg _=>hK.row g hg);obtain⟨A',c',hA,_,_,hsl⟩:=hLr.slv eCSN_len;obtain⟨rfl,rfl⟩:A=A'∧c=c':=by injection hA with e1 e2 e3;exact⟨e1,e3⟩
   obtain⟨b,off,rfl,hbb,hcs⟩:=hsl (by omega);have hr:=(hsl.range eCSN_len k hlt);have hJ1:=HJ.out _ wr (wr.alloc (.cells (eCSN xs[k]).toArray 146)) none hJs (grown_alloc (grown_refl wr none) _) (fun r h=>by cases h);have hK1:KeepIt gb (.slice (some ⟨b,off,none⟩) xs.length c) W (wr.alloc (.cells (eCSN xs[k]).toArray 146)):=hK.trans (.below ((zR wr.heap.size wr).alloc (zN _) _) (zQ HB.out.2.lt hK.size) (fun g hg=>by cases hg;exact hbb));(have htk:xs.take (k+1)=xs.take k++[xs[k]]:=by rw[zG hlt]);have hy:=HY.out (xs.take k) xs[k] _ hJ1 (by rw[←htk];exact List.take_prefix _ _);rw[←htk] at hy;generalize xs[k]=x at*;have HQ:=zH (zA hJ1 hK1);clear hJ1 hK1 hcs hJs hK hsl hLr htk;have q0:=hr 0 _ rfl;have q1:=hr 1 _ rfl;have q2:=hr 2 _ rfl;have q3:=hr 3 _ rfl;have q4:=hr 4 _ rfl;simp only[Nat.add_zero] at q0 q1 q2 q3 q4;(have hki:(k:Int)<xs.length:=by omega);obtain⟨fn,tmps,assign,body,hyy,hR⟩:=hy;(try dsimp only at hyy);simp only[eCSN,Nd.c] at hyy hR;clear hr;(gi_wp2);refine hR.mono ?_;rintro e W3 (⟨rfl,hJ3,hk3⟩ | ⟨rfl,hJx3⟩)
   ·have hK3:=HQ.out.2.trans hk3;have HZ:=zH (zA hJ3 hK3);clear hJ3 hk3 hK3;(gi_wp2);go_roundw
    case rel=>exact⟨k+1,by go_num,by omega,HZ.out.1,HZ.out.2⟩
    case measure=>simp [intOf];omega
   ·(gi_wp2);refine bodyPost_ret (results_none rfl _ _ _) rfl ?_;exact⟨⟨_,rfl⟩,.inr ⟨_,List.take_prefix _ _,hJx3⟩⟩
  ·obtain rfl:k=xs.length:=by omega
   rw[List.take_length] at hJs;(gi_wp2);(go_end0);exact⟨⟨_,rfl⟩,.inl ⟨_,rfl,hJs⟩⟩
def SeqOfSN (xs:List (ByteArray×Nd)) (w:World) (e:Ending) (w':World):Prop:=
 ∃gb v,e= .returned (.func (.func 154) #[] #[.pointer (some ⟨gb,0,none⟩)])∧Blk w' gb 137 #[v]∧Lies w' 146 5 eCSN v xs∧w.heap.size≤gb∧(∀g,v.ownBlock=some g→g<w'.heap.size)∧Below w.heap.size w w'
theorem toldSN_any (w:World)(v:Value)(xs:List (ByteArray×Nd))(hv:Lies w 146 5 eCSN v xs)(hb:∀g,v.ownBlock=some g→g<w.heap.size):
  Calls Tryz.prog 114 #[v] w (SeqOfSN xs w):=by
 have hbl:Below w.heap.size w (w.alloc (.cells #[v] 137)):=(zR _ _).alloc (zN _) _;have HF:=zH (⟨w.heap.size,v,rfl,Blk.new _ _ _,hv.below hbl,zN _,fun g hg=>by have:=hb g hg;simp;omega,hbl⟩:SeqOfSN xs w (.returned (.func (.func 154) #[] #[.pointer (some ⟨w.heap.size,0,none⟩)])) (w.alloc (.cells #[v] 137)));obtain⟨A,c,rfl,_,_,_⟩:=hv;clear hb hbl;go_enter Tryz.func114,Tryz.ntmps114
 go_wp2_with fail
 go_ret;exact HF.out
theorem SeqOfSN.mono {xs:List (ByteArray×Nd)}{w w1:World}{e:Ending}{w':World}(h:SeqOfSN xs w1 e w')(hb:Below w.heap.size w w1):SeqOfSN xs w e w':=by
 obtain⟨gb,v,he,h1,h2,h3,h4,h5⟩:=h;exact⟨gb,v,he,h1,h2,zT hb.size h3,h4,hb.trans (h5.mono hb.size)⟩
theorem srtAllSN_any (w:World)(bm:Nat)(xs:List (ByteArray×Nd))(h:SMapSN w bm xs):
  Calls Tryz.prog 75 #[.pointer (some ⟨bm,0,none⟩)] w (SeqOfSN xs w):=by
 obtain⟨v,hb,ho⟩:=h.row;have hL:=Lies.of_own ho eCSN_len (by decide);have hlt:=fun g hg=>(ho.lt g hg).2
 obtain⟨A,c,rfl,_,_,_⟩:=SlV_of_any ho;have HT:=zH (toldSN_any w _ xs hL hlt);have hv1:w.cell? ⟨bm,1,none⟩=some (.slice A xs.length c):=hb.cell 1;clear hL hb ho h hlt;go_enter Tryz.func75,Tryz.ntmps75
 go_wp2_with fail
 refine HT.out.mono ?_;rintro e w1 ⟨gb,v,rfl,h1,h2,h3,h4,h5⟩;have HF:=zH (⟨gb,v,rfl,h1,h2,h3,h4,h5⟩:SeqOfSN xs w (.returned (.func (.func 154) #[] #[.pointer (some ⟨gb,0,none⟩)])) w1);clear h1 h2 h3 h4 h5 HT;go_wp2_with fail
 go_ret;exact HF.out
theorem srtFromSN_any (w:World)(bm:Nat)(xs:List (ByteArray×Nd))(k:ByteArray)(h:SMapSN w bm xs)(hn:xs.length≤1000000)(hk:okS k):
  Calls Tryz.prog 126 #[.pointer (some ⟨bm,0,none⟩),Value.string k] w (SeqOfSN (xs.drop (lbN ordS k xs)) w):=by
 have HS:=zH (srtFindSN_any w bm xs k h hn hk);have HM:=zH h;clear h;have hle:=lbN_le (c:=ordS) k xs;unfold FindPostSN at HS;generalize lbN ordS k xs=i at*;generalize inN ordS k xs=b at*;go_enter Tryz.func126,Tryz.ntmps126
 go_wp2_with fail
 refine HS.out.mono ?_;rintro e w1 ⟨rfl,hb1⟩;obtain⟨v,hb,ho⟩:=(HM.out.below hb1).row;have hL:=Lies.of_own ho eCSN_len (by decide);have hlt:=fun g hg=>(ho.lt g hg).2
 obtain⟨A,c,rfl,_,hcm,_⟩:=SlV_of_any ho;have hv1:w1.cell? ⟨bm,1,none⟩=some (.slice A xs.length c):=hb.cell 1;cases A with
 | none=>
  have h0:xs=[]:=by
   rcases ho.2 with ⟨_,h⟩ | ⟨g,cap,cur,h,_⟩
   ·exact List.length_eq_zero_iff.1 h
   ·cases h
  subst h0;obtain rfl:i=0:=by simpa using hle
  have hc0:c=0:=by
   rcases ho.2 with ⟨h,_⟩ | ⟨g,cap,cur,h,_⟩
   ·injection h
   ·cases h
  subst hc0;have HT:=zH (toldSN_any w1 (.slice none 0 0) [] (Lies.nil _ _ _ _) (fun g hg=>by cases hg));have HB1:=zH hb1;clear hL hb ho hlt hb1;go_wp2_with fail
  refine HT.out.mono ?_;intro e w2 hp;obtain⟨gb,v,rfl,h1,h2,h3,h4,h5⟩:=hp.mono HB1.out;have HF:=zH (⟨gb,v,rfl,h1,h2,h3,h4,h5⟩:SeqOfSN [] w (.returned (.func (.func 154) #[] #[.pointer (some ⟨gb,0,none⟩)])) w2);clear h1 h2 h3 h4 h5 HT hp;go_wp2_with fail
  go_ret;exact HF.out
 | some a0=>
  obtain⟨g,rfl⟩:∃g,a0=⟨g,0,none⟩:=by
   rcases ho.2 with ⟨h,_⟩ | ⟨g,cap,cur,h,_⟩
   ·cases h
   ·injection h with h;exact⟨g,Option.some.inj h⟩
  obtain⟨T,hT,hTa,hTb,_⟩:=slice_from (P:=Tryz.prog) 137 146 5 Tryz.underlying137 (by kernel_rfl) Tryz.sizeOf146 g 0 xs.length c i (i:Int) rfl hle;have HT:=zH (toldSN_any w1 (.slice (some T) (xs.length-i) (c-i)) (xs.drop i) (hL.drop eCSN_len i hle T (fun h=>by rw[hTa h])) (fun g' hg'=>by
   (have:T.block=g':=by simpa [Value.ownBlock] using hg');rw[←this,hTb];exact hlt g rfl))
  have HB1:=zH hb1;clear hL hb ho hlt hb1 hTa hTb;go_wp2_with fail
  refine HT.out.mono ?_;intro e w2 hp;obtain⟨gb,v,rfl,h1,h2,h3,h4,h5⟩:=hp.mono HB1.out;have HF:=zH (⟨gb,v,rfl,h1,h2,h3,h4,h5⟩:SeqOfSN (xs.drop i) w (.returned (.func (.func 154) #[] #[.pointer (some ⟨gb,0,none⟩)])) w2);clear h1 h2 h3 h4 h5 HT hp;go_wp2_with fail
  go_ret;exact HF.out
end Go.Proofs.YtnpehjgnplaabaaGreatDoor
namespace Go.Proofs.YtnpehjgnplaabaaGreatDoor
open Go Go.RowKit
open Sw
theorem nodeField0 (w:World)(a b c d:Value):(Instr.field 57 (.agg #[a,b,c,d]) 0).run Tryz.prog w= .ok a w:=by kernel_rfl
structure TreeAt (w:World) (bt bm:Nat) (xs:List NE):Prop where
 box:Blk w bt 110 #[.pointer (some ⟨bm,0,none⟩)]
 map:SMapSN w bm xs
section
variable {w w':World} {bt bm:Nat} {xs:List NE}
theorem TreeAt.below (h:TreeAt w bt bm xs)(hb:Below w.heap.size w w'):TreeAt w' bt bm xs:=⟨h.box.below hb h.box.lt,h.map.below hb⟩
theorem TreeAt.ne (h:TreeAt w bt bm xs):bt≠bm:=by
 obtain⟨v,hb,_⟩:=h.map.row;exact fun e=>by subst e;exact Blk.other h.box hb (by decide) rfl
theorem TreeAt.grown (h:TreeAt w bt bm xs){ys:List NE}(hm:SMapSN w' bm ys)(hg:w.grownBy w' (some bm)):TreeAt w' bt bm ys:=⟨h.box.grown hg (by simpa using h.ne),hm⟩
theorem TreeAt.ok (h:TreeAt w bt bm xs){p:ByteArray}{n:Nd}(hm:(p,n)∈xs):p.size≤90000:=h.map.ok _ hm
end
theorem treeNew_any (w:World):
  Calls Tryz.prog 22 #[] w fun e w'=>∃bt bm,e= .returned (.pointer (some ⟨bt,0,none⟩))∧TreeAt w' bt bm []∧w.heap.size≤bt∧w.heap.size≤bm∧Below w.heap.size w w':=by
 have HN:=zH (srtNewSN_any w);go_enter Tryz.func22,Tryz.ntmps22
 go_wp2_with fail
 refine HN.out.mono ?_;rintro e w1 ⟨bm,rfl,hm,hbm,hb1⟩;have hba:=(zR w1.heap.size w1).alloc (zN _) (.cells #[.pointer (some ⟨bm,0,none⟩)] 110);have HF:=zH (zA (Blk.new w1 110 #[.pointer (some ⟨bm,0,none⟩)]) (zA (hm.below hba) (hb1.trans (hba.mono hb1.size))));have hsz:=hb1.size;clear hm hb1 hba;go_wp2_with fail
 go_ret;exact⟨_,bm,rfl,⟨HF.out.1,HF.out.2.1⟩,hsz,hbm,HF.out.2.2⟩
theorem treeLen_any (w:World)(bt bm:Nat)(xs:List NE)(h:TreeAt w bt bm xs):
  Calls Tryz.prog 23 #[.pointer (some ⟨bt,0,none⟩)] w fun e w'=>e= .returned (.int .i64 xs.length)∧w=w':=by
 have HL:=zH (srtLenSN_any w bm xs h.map);have c0:=h.box.cell 0;simp at c0
 clear h;go_enter Tryz.func23,Tryz.ntmps23
 go_wp2_with fail
 refine HL.out.mono ?_;rintro e w1 ⟨rfl,rfl⟩;go_wp2_with fail
 go_ret;exact⟨rfl,rfl⟩
theorem treeGet_any (w:World)(bt bm:Nat)(xs:List NE)(p:ByteArray)(h:TreeAt w bt bm xs)(hn:xs.length≤1000000)(hp:p.size≤90000):
  Calls Tryz.prog 66 #[.pointer (some ⟨bt,0,none⟩),.string p] w fun e w'=>e= .returned (.agg (getT xs p).c)∧Below w.heap.size w w':=by
 have hb0:=(zR w.heap.size w).alloc (zN _) (.cells #[.int .i64 0,.int .i64 0,.int .u32 0,.string ⟨#[]⟩] 57);have hB0:=Blk.new w 57 #[.int .i64 0,.int .i64 0,.int .u32 0,.string ⟨#[]⟩];have hT:=h.below hb0;have HG:=zH (srtGetSN_any _ bm xs p hT.map hn hp);have c0:=hT.box.cell 0;simp at c0
 have H0:=zH (zA hb0 hB0);clear hb0 hB0 hT h;obtain⟨n,hn2⟩:∃n,getT xs p=n:=⟨_,rfl⟩;have hg2:(getN ordS p xs).getD (⟨0,0,0,⟨#[]⟩⟩:Nd)=n:=hn2;rw[hg2] at HG;rw[hn2];generalize inN ordS p xs=bi at*;obtain⟨kd,md,tm,dt⟩:=n;unfold Nd.c at*;simp only at HG⊢;clear hn2 hg2;go_enter Tryz.func66,Tryz.ntmps66
 go_wp2_with fail
 refine HG.out.mono ?_;rintro e w1 ⟨rfl,hb1⟩;have hba:=(zR w1.heap.size w1).alloc (zN _) (.cells #[.int .i64 kd,.int .i64 md,.int .u32 tm,.string dt] 57);have hB1:=(H0.out.2.below hb1 H0.out.2.lt).below hba (zQ H0.out.2.lt hb1.size);have hbw:=(H0.out.1.trans (hb1.mono H0.out.1.size)).trans (hba.mono (H0.out.1.trans (hb1.mono H0.out.1.size)).size);have x0:=hB1.cell 0;have x1:=hB1.cell 1;have x2:=hB1.cell 2;have x3:=hB1.cell 3;have f0:=hB1.frozen 0;have f1:=hB1.frozen 1;have f2:=hB1.frozen 2;have f3:=hB1.frozen 3;simp at x0 x1 x2 x3
 have HF:=zH (zA hB1 hbw);clear hB1 hbw hb1 hba;go_wp2_with fail
 refine bodyPost_ret (v:= .agg #[.int .i64 kd,.int .i64 md,.int .u32 tm,.string dt]) (results_cell_row rfl _ _ w.heap.size 57 #[.int .i64 kd,.int .i64 md,.int .u32 tm,.string dt] (0,0) _ rfl ((((HF.out.1.put 0 (.int .i64 kd)).put 1 (.int .i64 md)).put 2 (.int .u32 tm)).put 3 (.string dt)) Tryz.underlying57 rfl infoVSN) rfl ⟨rfl,?_⟩;exact(((HF.out.2.setCell (p:=⟨w.heap.size,0,none⟩) (zN _) (.int .i64 kd)).setCell (p:=⟨w.heap.size,1,none⟩) (zN _) (.int .i64 md)).setCell (p:=⟨w.heap.size,2,none⟩) (zN _) (.int .u32 tm)).setCell (p:=⟨w.heap.size,3,none⟩) (zN _) (.string dt)
theorem treeParent_any (w:World)(bt bm:Nat)(xs:List NE)(p:ByteArray)(h:TreeAt w bt bm xs)(hn:xs.length≤1000000)(hp:p.size≤90000)(hu:(parentS p).size≤90000):
  Calls Tryz.prog 82 #[.pointer (some ⟨bt,0,none⟩),.string p] w fun e w'=>e= .returned (.int .i64 (parentT xs p))∧Below w.heap.size w w':=by
 have HP:=zH (parent_any w p (by omega));have hfld:=nodeField0;have HH:=zH h;clear h;unfold parentT;by_cases h0:parentS p=⟨#[]⟩
 ·rw[if_pos h0];rw[h0] at HP;clear h0 hu;go_enter Tryz.func82,Tryz.ntmps82
  go_wp2_with fail
  refine HP.out.mono ?_;rintro e w1 ⟨rfl,hb1⟩;go_wp2_with fail
  go_ret;exact⟨rfl,hb1⟩
 ·rw[if_neg h0];have s3:(parentS p).toList.isEmpty=false:=by
   rw[ByteArray.toList_eq];cases hl:(parentS p).data.toList with
   | nil=>exact absurd (by cases hq:parentS p with | mk d=>rw[hq] at hl;cases d with | mk l=>simp at hl;subst hl;rfl) h0
   | cons a l=>rfl
  have HG:=zH (fun W (h:TreeAt W bt bm xs)=>treeGet_any W bt bm xs (parentS p) h hn hu);generalize parentS p=u at*;generalize getT xs u=n at*;clear h0;by_cases k0:n.kind=0
  ·rw[if_pos k0];have t0:(n.kind==0)=true:=by rw[beq_iff_eq];exact k0
   obtain⟨kd,md,tm,dt⟩:=n;simp only at k0 t0;unfold Nd.c at HG;subst k0;(go_enter Tryz.func82,Tryz.ntmps82);(go_wp2_with fail);refine HP.out.mono ?_;rintro e w1 ⟨rfl,hb1⟩;have HG1:=zH (HG.out w1 (HH.out.below hb1));have HB1:=zH hb1;clear hb1;(go_wp2_with fail);refine HG1.out.mono ?_;rintro e w2 ⟨rfl,hb2⟩;have HB2:=zH (HB1.out.trans (hb2.mono HB1.out.size));clear hb2;(go_wp2_with fail);go_ret;exact⟨rfl,HB2.out⟩
  ·rw[if_neg k0];have t0:(n.kind==0)=false:=by rw[zB];exact k0
   by_cases k2:n.kind=2
   ·rw[if_pos k2];obtain⟨kd,md,tm,dt⟩:=n;simp only at k0 t0 k2;unfold Nd.c at HG;subst k2;clear k0;(go_enter Tryz.func82,Tryz.ntmps82);(go_wp2_with fail);refine HP.out.mono ?_;rintro e w1 ⟨rfl,hb1⟩;have HG1:=zH (HG.out w1 (HH.out.below hb1));have HB1:=zH hb1;clear hb1;(go_wp2_with fail);refine HG1.out.mono ?_;rintro e w2 ⟨rfl,hb2⟩;have HB2:=zH (HB1.out.trans (hb2.mono HB1.out.size));clear hb2;(go_wp2_with fail);go_ret;exact⟨rfl,HB2.out⟩
   ·rw[if_neg k2];(have t2:(n.kind==2)=false:=by rw[zB];exact k2);obtain⟨kd,md,tm,dt⟩:=n;simp only at k0 t0 k2 t2;unfold Nd.c at HG;clear k0 k2;(go_enter Tryz.func82,Tryz.ntmps82);(go_wp2_with fail);refine HP.out.mono ?_;rintro e w1 ⟨rfl,hb1⟩;have HG1:=zH (HG.out w1 (HH.out.below hb1));have HB1:=zH hb1;clear hb1;(go_wp2_with fail);refine HG1.out.mono ?_;rintro e w2 ⟨rfl,hb2⟩;have HB2:=zH (HB1.out.trans (hb2.mono HB1.out.size));clear hb2;(go_wp2_with fail);go_ret;exact⟨rfl,HB2.out⟩
end Go.Proofs.YtnpehjgnplaabaaGreatDoor
namespace Go.Proofs.YtnpehjgnplaabaaGreatDoor
open Go Go.RowKit Go.Shelf
open Sw
attribute [local go_sem] Oper.semAt_some
theorem res_cellT {P:Program}{fn:Func}{p:Tmp}{ty:TypeId}(h:fn.results= #[.cell p ty])(tmps:Array Value)(w:World)(g:Nat)(t:TypeId)(v:Value)
  (hp:tmps.getD p undef= .pointer (some ⟨g,0,none⟩)) (hg:Blk w g t #[v]) (hu:P.underlying ty=some .bool):(results fn tmps).run P w= .ok v w:=by
 have hp':tmps[p]?.getD undef= .pointer (some ⟨g,0,none⟩):=by simpa using hp
 have hc:w.cell? ⟨g,0,none⟩=some v:=by have:=hg.cell 0;simpa using this
 simp [results,h,hp',asAddr,loadVar,isAgg,run_underlying hu,run_load,hc]
def HoI (T:Nat) (p:ByteArray) (pre:List NE) (W:World):Prop:=(∀e∈pre,e.1=p)∧Blk W T 9 #[.string p]∧Blk W (T+1) 4 #[.bool false]
def HoX (T:Nat) (p:ByteArray) (c:Code) (pre:List NE) (W:World):Prop:=∃(pre':List NE) (x:NE),pre=pre'++[x]∧c= .ret∧(∀e∈pre',e.1=p)∧¬x.1=p∧Blk W (T+1) 4 #[.bool (inS (upsS x.1) p)]
theorem HoI.own (T:Nat)(p:ByteArray):Own (HoI T p):=fun _ A B row hs hg hr=>⟨hs.1,blk_ownF hs.2.1 hg hr,blk_ownF hs.2.2 hg hr⟩
theorem HoX.own (T:Nat)(p:ByteArray)(c:Code):Own (HoX T p c):=fun _ A B row hs hg hr=>by
 obtain⟨p',x,e1,e2,e3,e4,h⟩:=hs;exact⟨p',x,e1,e2,e3,e4,blk_ownF h hg hr⟩
theorem find_first {α:Type}{f:α→Bool}{ys pre:List α}{x:α}(hp:(pre++[x])<+:ys)(h1:∀e∈pre,f e=false)(h2:f x=true):ys.find? f=some x:=by
 obtain⟨r,rfl⟩:=hp;rw[zV,List.find?_append,List.find?_eq_none.2 (fun e he=>by rw[h1 e he];simp)];simp [h2]
theorem treeHolds_any (w:World)(bt bm:Nat)(xs:List NE)(p:ByteArray)(h:TreeAt w bt bm xs)(hn:xs.length≤1000000)(hp:p.size≤90000):
  Calls Tryz.prog 83 #[.pointer (some ⟨bt,0,none⟩),.string p] w fun e w'=>e= .returned (.bool (holdsT xs p))∧Below w.heap.size w w':=by
 have b0:=blk_fst w #[.string p] 9 (.cells #[.bool false] 4);have b1:=blk_snd w (.cells #[.string p] 9) #[.bool false] 4;have hB:Below w.heap.size w ((w.alloc (.cells #[.string p] 9)).alloc (.cells #[.bool false] 4)):=((zR _ w).alloc (zN _) _).alloc (by simp) _;have hz:((w.alloc (.cells #[.string p] 9)).alloc (.cells #[.bool false] 4)).heap.size=w.heap.size+1+1:=by simp
 have hT:=h.below hB;have hok:∀e∈xs,e.1.size≤90000:=fun e he=>h.map.ok e he
 clear h;refine callsIn_wide.1 (?_:CallsIn Fence.wide 9 _ _ _ _ _);refine callsIn_of_wp_marks Tryz.func83 rfl trivial ?_ rfl;simp only[Tryz.ntmps83,List.size_toArray,zI,List.length_nil,Nat.reduceAdd,Nat.reduceSub,Array.replicate_succ,Array.replicate_zero,List.push_toArray,List.append_toArray,List.nil_append,List.cons_append];have H0:=zH (zA b0 (zA b1 (zA hB (zA hT hz))));clear b0 b1 hB hT hz;have HOK:=zH hok;clear hok;gi_wp2
 obtain⟨w1,hw1⟩:∃w1,(w.alloc (.cells #[.string p] 9)).alloc (.cells #[.bool false] 4)=w1:=⟨_,rfl⟩;rw[hw1] at H0;rw[hw1];clear hw1;have q0:=H0.out.2.2.2.1.box.cell 0;have q1:=H0.out.1.cell 0;simp at q0 q1
 refine wpIn_wide.2 ?_;go_still_tail 5,(by kernel_rfl)
 go_wp2_with fail
 have hTd:=H0.out.2.2.2.1.below ((zR w1.heap.size w1).drew);refine(srtFromSN_any _ bm xs p hTd.map hn hp).mono ?_;rintro e w2 ⟨gb,v,rfl,hgb,hL,hge,hvb,hb2⟩;obtain⟨ys,hys⟩:∃ys,xs.drop (lbN ordS p xs)=ys:=⟨_,rfl⟩;rw[hys] at hL;have hysm:∀e∈ys,e∈xs:=fun e he=>by rw[←hys] at he;exact List.mem_of_mem_drop he
 have hyl:ys.length≤1000000:=by rw[←hys,List.length_drop];omega
 have hb12:Below w1.heap.size w1 w2:=(zR _ _).drew.trans hb2;have B0:=H0.out.1.below hb12 H0.out.1.lt;have B1:=H0.out.2.1.below hb12 H0.out.2.1.lt;have hBw:=H0.out.2.2.1.trans (hb12.mono H0.out.2.2.1.size);have hz2:w.heap.size+1+1≤w2.heap.size:=by have:=hb12.size;rw[H0.out.2.2.2.2] at this;exact this
 have HYS:=zH (zA hys hysm);clear hys hysm hb2 hb12 hTd q0 q1;go_wp2_with fail
 gi_wp2
 obtain⟨T,hTe⟩:∃T,T=w.heap.size:=⟨_,rfl⟩;rw[←hTe] at B0 B1 hBw hz2⊢;have HTE:=zH hTe;clear hTe H0;have hgl:=hgb.lt;refine wpIn_rangeFunc_tell (Mine:=fun _=>False) (fun _ h=>h.elim) rfl (by omega) (gf:=154) (lb:= #[.pointer (some ⟨gb,0,none⟩)]) rfl trivial (enters_of Tryz.func154 (by kernel_rfl) rfl)
  (toldSN_tells 8 (by omega) gb v ys w2 hgb hL hyl) KeepIt.trans (keepIt_b hgl hvb) (zR _ _) (fun _=>rfl)
  (fun pre W=>HoI T p pre W∧Below T w W)
  (fun c pre W=>HoX T p c pre W∧Below T w W)
  (OwnM.of_none (OwnFrom.and (Own.from (HoI.own T p) _) (ownFrom_below (by have:=HTE.out;omega) (by omega))))
  (fun c=>OwnM.of_none (OwnFrom.and (Own.from (HoX.own T p c) _) (ownFrom_below (by have:=HTE.out;omega) (by omega))))
  ⟨⟨(fun e he=>by cases he),B0,B1⟩,hBw⟩
  ?a1 ?assign ?body ?done ?stop
 case assign=>
  intro l x W K hK;gi_wp2
  exact hK
 case body=>
  rintro l pre x W ⟨⟨hno,c0,c1⟩,hB⟩ hT;have hxm:x∈ys:=by obtain⟨r,hr⟩:=hT;rw[←hr];simp
  have hxs:=HOK.out x (HYS.out.2 x hxm);have m0:=c0.cell 0;simp at m0
  have HI:=zH (zA hno (zA c0 (zA c1 hB)));clear hno c0 c1 hB hT hxm;by_cases hx:x.1=p
  ·have t1:(x.1.toList==p.toList)=true:=by rw[hx,beq_iff_eq]
   have HX:=zH hx;obtain⟨q,n⟩:=x;simp only at hx;subst hx;clear t1;(gi_wp2);exact⟨KeepsOthers.refl _,⟨zN _,rfl,fun _ _=>rfl⟩,⟨fun e he=>by rcases List.mem_append.1 he with he | he;exact HI.out.1 e he;simp at he;subst he;rfl,HI.out.2.1,HI.out.2.2.1⟩,HI.out.2.2.2⟩
  ·have t1:(x.1.toList==p.toList)=false:=by
    rw[zB,ByteArray.toList_eq,ByteArray.toList_eq];exact fun e=>hx (dat_inj e)
   (have t2:(!(x.1.toList==p.toList))=true:=by rw[t1];rfl);(have t3:(x.1.toList !=p.toList)=true:=by rw[bne,t1];rfl);have HX:=zH hx;clear hx;have HU:=zH (under_any W p x.1 hxs);obtain⟨R,hR⟩:∃R,inS (upsS x.1) p=R:=⟨_,rfl⟩;rw[hR] at HU;have HR:=zH hR;clear hR;(gi_wp2);refine⟨trivial,(CallsIn.inRound l (callsIn_wide.2 HU.out)).mono ?_⟩;rintro e w5 ⟨rfl,hb5⟩;have c1:=HI.out.2.2.1.below hb5 HI.out.2.2.1.lt;have m1:=c1.cell 0;have f1:=c1.frozen 0;(simp at m1);have HC:=zH (zA c1 hb5);clear c1 hb5;(gi_wp2);refine⟨(keeps_belowF HC.out.2).trans (KeepsOthers.setCell _ _ _),⟨pre,x,rfl,rfl,HI.out.1,HX.out,?_⟩,?_⟩
   ·rw[HR.out];exact HC.out.1.put 0 _
   ·have hlt:=HI.out.2.1.lt;exact(HI.out.2.2.2.trans (HC.out.2.mono (by omega))).setCell (p:=⟨T+1,0,none⟩) (by dsimp only;omega) _
 case done=>
  rintro D zs W hD hzs ⟨⟨hno,c0,c1⟩,hB⟩ hK;have hF:holdsT xs p=false:=by
   unfold holdsT;rw[HYS.out.1,List.find?_eq_none.2 (fun e he=>by rw[←(show zs=ys from hzs)] at he;simp [hno e he])]
  have m1:=c1.cell 0;have f1:=c1.frozen 0;simp at m1
  have hD':w.heap.size≤D:=by have:=HTE.out;omega
  have HC:=zH (zA c1 (zA hB (zA hK hF)));clear c0 c1 hB hK hF hno hzs;gi_wp2
  have hK2:(W.setCell ⟨T+1,0,none⟩ (.bool false)).heap[D]? =some (Obj.deferred (some [])):=(KeepsOthers.setCell W ⟨T+1,0,none⟩ (.bool false)).same D _ HC.out.2.2.1 rfl;have hR2:Blk (W.setCell ⟨T+1,0,none⟩ (.bool false)) (T+1) 4 #[.bool false]:=HC.out.1.put 0 (.bool false);have hB2:=HC.out.2.1.setCell (p:=⟨T+1,0,none⟩) (by dsimp only;omega) (.bool false);refine⟨by simp,.inl ⟨_,_,rfl,run_takeDeferred hK2,?_⟩⟩;refine⟨_,res_cellT rfl _ _ (T+1) 4 (.bool false) rfl (blk_ownF hR2 (grownBy_putObj' _ D (.deferred none)) (fun r e=>by cases e;exact⟨_,hK2,rfl⟩)) Tryz.underlying4,by rw[HC.out.2.2.2],?_⟩;exact(hB2.mono (by have:=HTE.out;omega)).trans (belowK_b (w:=w) (zN _) _ D _ _ hD' hK2 rfl rfl)
 case stop=>
  rintro D c pre W hD hSp ⟨⟨p',x,rfl,rfl,hno,hx,c1⟩,hB⟩ hK;have hF:holdsT xs p=inS (upsS x.1) p:=by
   unfold holdsT;rw[HYS.out.1,find_first hSp (fun e he=>by simp [hno e he]) (by simp [hx])]
  have hD':w.heap.size≤D:=by have:=HTE.out;omega
  have HC:=zH (zA c1 (zA hB (zA hK hF)));clear c1 hB hK hF hno hSp;gi_wp2
  refine⟨by simp,.inl ⟨_,_,rfl,run_takeDeferred HC.out.2.2.1,?_⟩⟩;refine⟨_,res_cellT rfl _ _ (T+1) 4 (.bool (inS (upsS x.1) p)) rfl (blk_ownF HC.out.1 (grownBy_putObj' _ D (.deferred none)) (fun r e=>by cases e;exact⟨_,HC.out.2.2.1,rfl⟩)) Tryz.underlying4,by rw[HC.out.2.2.2],?_⟩;have hB2:=HC.out.2.1;rw[HTE.out] at hB2;exact hB2.trans (belowK_b (w:=w) (zN _) _ D _ _ hD' HC.out.2.2.1 rfl rfl)
structure NdIn (n:Nd):Prop where
 t0:0≤n.time
 t1:n.time<4294967296
 size:n.data.size≤maxLen
theorem treeMay_any (w:World)(bt bm:Nat)(xs:List NE)(p:ByteArray)(n:Nd)(h:TreeAt w bt bm xs)(hn:xs.length≤1000000)(hp:p.size≤90000)(hu:(parentS p).size≤90000)(hin:NdIn n):
  Calls Tryz.prog 49 #[.pointer (some ⟨bt,0,none⟩),.string p,.agg n.c] w fun e w'=>e= .returned (.int .i64 (mayT xs p n))∧Below w.heap.size w w':=by
 have HR:=zH (right_any _ p (by omega):Calls Tryz.prog 80 #[.string p] (w.alloc (.cells n.c 57)) fun e w'=>e= .returned (.bool (rightL p.data.toList))∧Below (w.alloc (.cells n.c 57)).heap.size (w.alloc (.cells n.c 57)) w');have HND:=zH (fun W (hk:¬n.kind=0)=>nodeRight_any W n hk hin.t0 hin.t1 hin.size);have HPA:=zH (fun W (h:TreeAt W bt bm xs)=>treeParent_any W bt bm xs p h hn hp hu);have HHO:=zH (fun W (h:TreeAt W bt bm xs)=>treeHolds_any W bt bm xs p h hn hp);have HGE:=zH (fun W (h:TreeAt W bt bm xs)=>treeGet_any W bt bm xs p h hn hp);have HLE:=zH (fun W (h:TreeAt W bt bm xs)=>treeLen_any W bt bm xs h);have hb0:=(zR w.heap.size w).alloc (zN _) (.cells n.c 57);have H0:=zH (zA hb0 (zA (Blk.new w 57 n.c) (h.below hb0)));clear hb0 h;have hfld:=nodeField0;have HA:=zH (show mayT xs p n=if rightL p.data.toList=false then 5 else if n.kind=0 then 1 else if ¬nodeR n=0 then nodeR n else if ¬parentT xs p=0 then parentT xs p else if ¬n.kind=2∧holdsT xs p=true then 8 else if(getT xs p).kind=0∧500≤xs.length then 4 else 0 from rfl);generalize mayT xs p n=ans at*;generalize rightL p.data.toList=br at*;generalize nodeR n=nr at*;generalize parentT xs p=pr at*;generalize holdsT xs p=ho at*;generalize getT xs p=gn at*;obtain⟨m,hm⟩:∃m,xs.length=m:=⟨_,rfl⟩;rw[hm] at HA HLE hn;have HM:=zH hm;clear hm;obtain⟨kd,md,tm,dt⟩:=n;unfold Nd.c at*;simp only at HR HND H0 HA;obtain⟨gk,gm,gt,gd⟩:=gn;simp only at HGE HA;clear hin hp hu;go_enter Tryz.func49,Tryz.ntmps49
 go_wp2_with fail
 refine HR.out.mono ?_;rintro e w1 ⟨rfl,hb1⟩;have hbw:=H0.out.1.trans (hb1.mono H0.out.1.size);have hB:=H0.out.2.1.below hb1 H0.out.2.1.lt;have H1:=zH (zA hbw (zA hB (H0.out.2.2.below hb1)));clear hbw hB hb1 H0 HR;obtain⟨x0,x1,x2,x3⟩:=zc4 H1.out.2.1;simp at x0 x1 x2 x3
 cases br with
 | false=>
  go_wp2_with fail
  go_ret;exact⟨by rw[show ans=5 from by simpa using HA.out];rfl,H1.out.1⟩
 | true=>
  by_cases k0:kd=0
  ·subst k0;go_wp2_with fail
   go_ret;exact⟨by rw[show ans=1 from by simpa using HA.out];rfl,H1.out.1⟩
  ·have e0:(kd==0)=false:=by rw[zB];exact k0
   have HN:=zH (HND.out w1 k0);have HK:=zH k0;clear k0;(go_wp2_with fail);refine HN.out.mono ?_;rintro e w2 ⟨rfl,hb2⟩;have hbw:=H1.out.1.trans (hb2.mono H1.out.1.size);have hB:=H1.out.2.1.below hb2 H1.out.2.1.lt;have H2:=zH (zA hbw (zA hB (H1.out.2.2.below hb2)));clear hbw hB hb2 H1 HN x0 x1 x2 x3;have x0:=H2.out.2.1.cell 0;(simp at x0);by_cases hnr:nr=0
   ·subst hnr;have HP2:=zH (HPA.out w2 H2.out.2.2);(go_wp2_with fail);refine HP2.out.mono ?_;rintro e w3 ⟨rfl,hb3⟩;have hbw:=H2.out.1.trans (hb3.mono H2.out.1.size);have hB:=H2.out.2.1.below hb3 H2.out.2.1.lt;have H3:=zH (zA hbw (zA hB (H2.out.2.2.below hb3)));clear hbw hB hb3 H2 HP2 x0;have x0:=H3.out.2.1.cell 0;(simp at x0);by_cases hpr:pr=0
    ·subst hpr;have HFIN:Hid (∀(w4:World) (a:Act) (K:Act→World→Prop),True):=zH (fun _ _ _=>trivial);by_cases k2:kd=2
     ·subst k2;have HG4:=zH (HGE.out w3 H3.out.2.2);(go_wp2_with fail);refine HG4.out.mono ?_;rintro e w5 ⟨rfl,hb5⟩;have H5:=zH (zA (H3.out.1.trans (hb5.mono H3.out.1.size)) (H3.out.2.2.below hb5));clear hb5 H3 HG4;by_cases g0:gk=0
      ·subst g0;have HL5:=zH (HLE.out w5 H5.out.2);(by_cases hl:(500:Int)≤m);all_goals
        (go_wp2_with fail);refine HL5.out.mono ?_;rintro e w6 ⟨rfl,rfl⟩;(go_wp2_with fail);go_ret;refine⟨?_,H5.out.1⟩;first | (rw[show ans=4 from by simpa [HK.out,show 500≤m by omega] using HA.out];rfl) | (rw[show ans=0 from by simpa [HK.out,show ¬500≤m by omega] using HA.out];rfl)
      ·(have g1:(gk==0)=false:=by rw[zB];exact g0);have HG0:=zH g0;clear g0;(go_wp2_with fail);go_ret;refine⟨?_,H5.out.1⟩;rw[show ans=0 from by simpa [HK.out,HG0.out] using HA.out];rfl
     ·(have e2:(kd==2)=false:=by rw[zB];exact k2);(have e2':(kd !=2)=true:=by rw[bne_iff_ne];exact k2);have HK2:=zH k2;clear k2;have HH3:=zH (HHO.out w3 H3.out.2.2);(go_wp2_with fail);refine HH3.out.mono ?_;rintro e w4 ⟨rfl,hb4⟩;have H4:=zH (zA (H3.out.1.trans (hb4.mono H3.out.1.size)) (H3.out.2.2.below hb4));clear hb4 H3 HH3 x0;cases ho with
      | true=>
       (go_wp2_with fail);go_ret;refine⟨?_,H4.out.1⟩;rw[show ans=8 from by simpa [HK.out,HK2.out] using HA.out];rfl
      | false=>
       have HG4:=zH (HGE.out w4 H4.out.2);(go_wp2_with fail);refine HG4.out.mono ?_;rintro e w5 ⟨rfl,hb5⟩;have H5:=zH (zA (H4.out.1.trans (hb5.mono H4.out.1.size)) (H4.out.2.below hb5));clear hb5 H4 HG4;by_cases g0:gk=0
       ·subst g0;have HL5:=zH (HLE.out w5 H5.out.2);(by_cases hl:(500:Int)≤m);all_goals
         (go_wp2_with fail);refine HL5.out.mono ?_;rintro e w6 ⟨rfl,rfl⟩;(go_wp2_with fail);go_ret;refine⟨?_,H5.out.1⟩;first | (rw[show ans=4 from by simpa [HK.out,HK2.out,show 500≤m by omega] using HA.out];rfl) | (rw[show ans=0 from by simpa [HK.out,HK2.out,show ¬500≤m by omega] using HA.out];rfl)
       ·(have g1:(gk==0)=false:=by rw[zB];exact g0);have HG0:=zH g0;clear g0;(go_wp2_with fail);go_ret;refine⟨?_,H5.out.1⟩;rw[show ans=0 from by simpa [HK.out,HG0.out] using HA.out];rfl
    ·(have p0:(pr==0)=false:=by rw[zB];exact hpr);(have p1:(pr !=0)=true:=by rw[bne_iff_ne];exact hpr);have HPR:=zH hpr;clear hpr;(go_wp2_with fail);go_ret;exact⟨by rw[show ans=pr from by simpa [HK.out,HPR.out] using HA.out];rfl,H3.out.1⟩
   ·(have p0:(nr==0)=false:=by rw[zB];exact hnr);(have p1:(nr !=0)=true:=by rw[bne_iff_ne];exact hnr);have HNR:=zH hnr;clear hnr;(go_wp2_with fail);go_ret;exact⟨by rw[show ans=nr from by simpa [HK.out,HNR.out] using HA.out];rfl,H2.out.1⟩
theorem putT_len (xs:List NE)(p:ByteArray)(n:Nd):(putT xs p n).length≤xs.length+1:=by
 unfold putT;split
 ·rw[put_len];split<;>omega
 ·omega
theorem treePut_any (w:World)(bt bm:Nat)(xs:List NE)(p:ByteArray)(n:Nd)(h:TreeAt w bt bm xs)(hn:xs.length+1≤1000000)(hp:p.size≤90000)(hu:(parentS p).size≤90000)(hin:NdIn n):
  Calls Tryz.prog 24 #[.pointer (some ⟨bt,0,none⟩),.string p,.agg n.c] w fun e w'=>e= .returned (.int .i64 (mayT xs p n))∧TreeAt w' bt bm (putT xs p n)∧w.grownBy w' (some bm):=by
 have hb0:=(zR w.heap.size w).alloc (zN _) (.cells n.c 57);have hT0:=h.below hb0;have HMY:=zH (treeMay_any _ bt bm xs p n hT0 (by omega) hp hu hin);have HPU:=zH (fun W (h:SMapSN W bm xs)=>srtPutSN_any W bm xs p n h hn hp);have H0:=zH (zA hb0 (zA (Blk.new w 57 n.c) hT0));clear hb0 hT0 h;have HPT:=zH (show putT xs p n=if mayT xs p n=0 then putN ordS p n xs else xs from rfl);generalize mayT xs p n=ans at*;generalize putT xs p n=zs at*;generalize inN ordS p xs=bi at*;obtain⟨kd,md,tm,dt⟩:=n;unfold Nd.c at*;simp only at HMY HPU H0;clear hin hp hu;go_enter Tryz.func24,Tryz.ntmps24
 have x0:=H0.out.2.1.cell 0;go_wp2_with fail
 refine HMY.out.mono ?_;rintro e w1 ⟨rfl,hb1⟩;have hbw:=H0.out.1.trans (hb1.mono H0.out.1.size);have hB:=H0.out.2.1.below hb1 H0.out.2.1.lt;have H1:=zH (zA hbw (zA hB (H0.out.2.2.below hb1)));clear hbw hB hb1 H0 HMY x0;by_cases ha:ans=0
 ·subst ha;obtain⟨x0,x1,x2,x3⟩:=zc4 H1.out.2.1;have q0:=H1.out.2.2.box.cell 0;simp at x0 x1 x2 x3 q0
  go_wp2_with fail
  go_still_tail 6,(by kernel_rfl)
  go_wp2_with fail
  have hT1:=H1.out.2.2.below ((zR w1.heap.size w1).drew);refine(HPU.out w1.drew hT1.map).mono ?_;rintro e w2 ⟨rfl,hm2,hg2⟩;have HF:=zH (zA (hT1.grown hm2 hg2) (grown_trans (grown_below (row:=some bm) (H1.out.1.drew)) hg2));clear hm2 hg2 hT1 x0 x1 x2 x3 q0;go_wp2_with fail
  go_ret;exact⟨rfl,by have:=HPT.out;simp at this;rw[this];exact HF.out.1,HF.out.2⟩
 ·have a0:(ans==0)=false:=by rw[zB];exact ha
  have HA:=zH ha;clear ha;go_wp2_with fail
  go_ret;exact⟨rfl,by have:=HPT.out;simp [HA.out] at this;rw[this];exact H1.out.2.2,grown_below H1.out.1⟩
end Go.Proofs.YtnpehjgnplaabaaGreatDoor
namespace Go.Proofs.YtnpehjgnplaabaaGreatDoor
open Go Go.RowKit
open Sw
open Go.Lib (compareBytes)
theorem refBefore_any (w:World)(p q:ByteArray)(hp:p.size≤100000)(hq:q.size≤100000):
  Calls Tryz.prog 108 #[.string p,.string q] w fun e w'=>e= .returned (.bool (decide (ordS p q= -1)))∧Below w.heap.size w w':=by
 have HP:=zH (refParts_any w p hp);have HQ:=zH (fun W=>refParts_any W q hq);have hpl:=wt_len (partsS p);have hql:=wt_len (partsS q);have hpw:=partsS_wt p;have hqw:=partsS_wt q;have ho:ordS p q=if(partsS p).length=0∧(partsS q).length=0 then compareBytes p.data.toList q.data.toList else cL (partsS p) (partsS q):=rfl
 have hls:=less_str p q;generalize ordS p q=R at*;generalize hl:partsS p=l at*;generalize hm:partsS q=m at*;clear hl hm;have hat:=fun k=>cL_at k l m
 have hout:=fun k=>cL_out k l m
 have hout2:=fun k=>cL_out2 k l m
 have htk:∀k,l.take k=m.take k→∀(k1:k<l.length) (k2:k<m.length),compareBytes l[k].data.toList m[k].data.toList=0→l.take (k+1)=m.take (k+1):=fun k h k1 k2 hc=>by
  rw[zG k1,zG k2,h,dat_inj (cb_zero _ _ hc)]
 obtain⟨N,hN⟩:∃N,l.length=N:=⟨_,rfl⟩;obtain⟨M,hM⟩:∃M,m.length=M:=⟨_,rfl⟩;rw[hN] at ho hpl;rw[hM] at ho hql;rw[hN,hM] at hout hout2;have HA:=zH (zA hat (zA hout (zA hout2 htk)));clear hat hout hout2 htk;have HL:=zH (zA hN hM);clear hN hM;obtain⟨hN6,hM6⟩:N≤1000000∧M≤1000000:=by omega
 clear hpl hql hpw hqw;go_enter Tryz.func108,Tryz.ntmps108
 go_wp2_with fail
 refine HP.out.mono ?_;rintro e w1 ⟨v1,rfl,ow1,hb1⟩;obtain⟨A1,c1,rfl,hc1,hm1,s1⟩:=SlV.of_own ow1 bE_len (by omega);go_wp2_with fail
 refine(HQ.out _).mono ?_;rintro e w2 ⟨v2,rfl,ow2,hb2⟩;obtain⟨A2,c2,rfl,hc2,hm2,s2⟩:=SlV.of_own ow2 bE_len (by omega);have hbw:=hb1.trans (hb2.mono hb1.size);have HS:=zH (zA (s1.below hb2 (zN _)) s2);rw[HL.out.1] at hc1⊢;rw[HL.out.2] at hc2⊢;unfold maxLen at hm1 hm2;clear s1 s2 ow1 ow2;by_cases h0:N=0∧M=0
 ·rw[if_pos h0] at ho;obtain⟨h1,h2⟩:=h0;have n1:((N:Int)==0)=true:=by rw[beq_iff_eq];omega
  have n2:((M:Int)==0)=true:=by rw[beq_iff_eq];omega
  subst ho;clear h1 h2;go_wp2_with fail
  go_ret;exact⟨by rw[←hls];first | done | rfl,hbw⟩
 ·rw[if_neg h0] at ho;rw[←ho] at HA;clear ho hls;have HR:=zH h0;clear h0;go_upto_region 2 with fail
  go_cut [19] from 11 to 19 (fun b wx=>b= .bool false∧wx=w2)
  case first=>
   by_cases h1:N=0
   ·(have h2:¬M=0:=fun e=>HR.out ⟨h1,e⟩);(have n1:((N:Int)==0)=true:=by rw[beq_iff_eq];omega);(have n2:((M:Int)==0)=false:=by rw[zB];omega);clear h1 h2;(go_wp2_with fail);(go_meet);exact⟨rfl,rfl⟩
   ·(have n1:((N:Int)==0)=false:=by rw[zB];omega);clear h1;(go_wp2_with fail);(go_meet);exact⟨rfl,rfl⟩
  case rest=>
   obtain⟨rfl,rfl⟩:=hcut;(go_wp2_with fail);go_loopw [4,7] (fun r iv wr=>∃k n:Nat,k≤N∧k≤M∧r= .bool false∧iv= .int .i64 k∧l.take k=m.take k∧wr=wc.drewN n) (fun _ iv _=>N-(intOf iv).toNat)
   case atStart=>exact⟨0,0,Nat.zero_le _,Nat.zero_le _,rfl,rfl,by simp,rfl⟩
   case round=>
    obtain⟨k,n,hkN,hkM,rfl,rfl,htk,rfl⟩:=hrel;have HT:=zH htk;clear htk;have bD:Below w.heap.size w (wc.drewN n):=below_drewN hbw n;by_cases hlt:k<N
    ·(have i1:(k:Int)<N:=by omega);(have k1:k<l.length:=by have:=HL.out;omega);by_cases hlt2:k<M
     ·(have i2:(k:Int)<M:=by omega);(have k2:k<m.length:=by have:=HL.out;omega);obtain⟨b1,o1,rfl,_,q1⟩:=HS.out.1 (by omega);have g1:=q1 k k1 0 (by omega);obtain⟨b2,o2,rfl,_,q2⟩:=HS.out.2 (by omega);have g2:=q2 k k2 0 (by omega);(simp [bE] at g1 g2);have HX:=zH (HA.out.1 k HT.out k1 k2);have HY:=zH (HA.out.2.2.2 k HT.out k1 k2);have he:=eq_str l[k] m[k];have hls:=less_str l[k] m[k];clear q1 q2;generalize l[k]=x at*;generalize m[k]=y at*;generalize compareBytes x.data.toList y.data.toList=cc at*;(have i0:(0:Int)≤k:=by omega);by_cases hc0:cc=0
      ·have HNX:=zH (HY.out hc0);rw[zE hc0] at he;clear hls;have HC0:=zH hc0;clear hc0;(go_wp2_with fail);(go_quiet (fail));(go_wp2_with fail);go_roundw
       case rel=>exact⟨k+1,n+nq,by omega,by omega,rfl,by go_num,HNX.out,rfl⟩
       case measure=>simp [intOf];omega
      ·(have hR:R=cc:=by have:=HX.out;rw[if_neg hc0] at this;exact this);subst hR;rw[zD hc0] at he;have HLS:=zH hls;clear hls hc0;(go_wp2_with fail);(go_quiet (fail));(go_wp2_with fail);(go_quiet (fail));(go_wp2_with fail);go_ret;exact⟨by rw[←HLS.out];first | done | rfl,below_drewN (below_drewN bD _) _⟩
     ·(obtain rfl:k=M:=by omega);have hR:=HA.out.2.2.1 k HT.out rfl hlt;subst hR;(have i2:¬(N:Int)<k:=by omega);clear hlt hlt2;(go_wp2_with fail);go_ret;exact⟨rfl,bD⟩
    ·(obtain rfl:k=N:=by omega);have hR:=HA.out.2.1 k HT.out rfl;clear hlt;by_cases hkm:k<M
     ·rw[if_pos hkm] at hR;subst hR;(have i3:(k:Int)<M:=by omega);(go_wp2_with fail);go_ret;exact⟨rfl,bD⟩
     ·rw[if_neg hkm] at hR;subst hR;(have i3:¬(k:Int)<M:=by omega);(go_wp2_with fail);go_ret;exact⟨rfl,bD⟩
end Go.Proofs.YtnpehjgnplaabaaGreatDoor
namespace Sw
open Go
def refGetT (l:List NE) (p:ByteArray):Nd:=((l.find? fun e=>decide (e.1=p)).map (·.2)).getD ndZ
theorem refGetT_eq (l:List NE)(p:ByteArray)(h:Up ordS l):refGetT l p=getT l p:=by
 unfold refGetT getT;rw[get_find ordS_ord p l h];congr 3
 funext e
 rw[Bool.eq_iff_iff];simp [ordS_ord.iff]
theorem refGetT_hit (l:List NE)(p:ByteArray)(i:Nat)(h:i<l.length)(hn:∀m (hm:m<l.length),m<i→¬l[m].1=p)(hk:l[i].1=p):refGetT l p=l[i].2:=by
 unfold refGetT;have hl:l=l.take i++l[i]::l.drop (i+1):=by rw[←List.drop_eq_getElem_cons h,List.take_append_drop]
 have hf:l.find? (fun e=>decide (e.1=p))=some l[i]:=by
  conv=>lhs;rw[hl]
  rw[List.find?_append,List.find?_eq_none.2 (fun e he=>by
   obtain⟨m,hm,rfl⟩:=List.mem_iff_getElem.1 he;rw[zL] at hm;rw[List.getElem_take]
   simpa using hn m (by omega) (by omega)),List.find?_cons_of_pos (by simp [hk])]
  rfl
 rw[hf];rfl
theorem refGetT_none (l:List NE)(p:ByteArray)(hn:∀m (hm:m<l.length),¬l[m].1=p):refGetT l p=ndZ:=by
 unfold refGetT;rw[List.find?_eq_none.2 (fun e he=>by
  obtain⟨m,hm,rfl⟩:=List.mem_iff_getElem.1 he
  simpa using hn m hm)]
 rfl
end Sw
namespace Go.Proofs.YtnpehjgnplaabaaGreatDoor
open Go Go.RowKit
open Sw
theorem infoIt:(Tryz.prog.info? 59).map (fun i=>(i.zero,i.size,i.bytes))=some (some (.agg #[.string ⟨#[]⟩,.int .i64 0,.int .i64 0,.int .u32 0,.string ⟨#[]⟩]),5,56):=by kernel_rfl
def OwnIt (w:World) (base:Nat) (u:Value) (l:List NE):Prop:=w.ownsRow base 59 5 u l.length (l.flatMap eCSN)
theorem OwnIt.slv {w:World}{base:Nat}{u:Value}{l:List NE}(h:OwnIt w base u l):SlV w 5 eCSN u l:=SlV.of_own h eCSN_len (by decide)
theorem OwnIt.below {w w':World}{base:Nat}{u:Value}{l:List NE}(h:OwnIt w base u l)(hb:Below w.heap.size w w'):OwnIt w' base u l:=own_kept h hb
theorem str_eq (a b:ByteArray):(a.toList==b.toList)=decide (a=b):=by
 rw[Bool.eq_iff_iff,beq_iff_eq,decide_eq_true_eq,ByteArray.toList_eq,ByteArray.toList_eq];exact⟨dat_inj,fun e=>by rw[e]⟩
theorem ref16Get_any (w:World)(v:Value)(l:List NE)(p:ByteArray)(h:SlV w 5 eCSN v l):
  Calls Tryz.prog 70 #[v,.string p] w fun e w'=>e= .returned (.agg (refGetT l p).c)∧Below w.heap.size w w':=by
 obtain⟨A,c,rfl,hc1,hc2,hsl⟩:=h;obtain⟨n,hn⟩:∃n,l.length=n:=⟨_,rfl⟩;rw[hn] at hc1⊢;unfold maxLen at hc2;have HL:=zH hn;clear hn;have HS:=zH hsl;clear hsl;have hb0:=(zR w.heap.size w).alloc (zN _) (.cells #[.int .i64 0,.int .i64 0,.int .u32 0,.string ⟨#[]⟩] 57);have H0:=zH (zA hb0 (Blk.new w 57 #[.int .i64 0,.int .i64 0,.int .u32 0,.string ⟨#[]⟩]));clear hb0;obtain⟨G,hG⟩:∃G,refGetT l p=G:=⟨_,rfl⟩;rw[hG];have HG:=zH hG;clear hG;obtain⟨T,hT⟩:∃T,w.heap.size=T:=⟨_,rfl⟩;rw[hT] at H0;go_enter Tryz.func70,Tryz.ntmps70
 go_wp2_with fail
 go_loopw [9] (fun iv wr=>∃i:Nat,i≤n∧iv= .int .i64 i∧(∀m (hm:m<l.length),m<i→¬l[m].1=p)∧Blk wr T 57 #[.int .i64 0,.int .i64 0,.int .u32 0,.string ⟨#[]⟩]∧Below T w wr) (fun iv _=>n-(intOf iv).toNat)
 case atStart=>exact⟨0,Nat.zero_le _,rfl,fun m h h'=>absurd h' (Nat.not_lt_zero _),H0.out.2,H0.out.1⟩
 case round=>
  obtain⟨i,hi,rfl,hall,hB,hb⟩:=hrel;have HA:=zH hall;clear hall;by_cases hlt:i<n
  ·have hiL:i<l.length:=by have:=HL.out;omega
   obtain⟨b,off,rfl,hbb,hcs⟩:=(HS.out.below (B:=w.heap.size) (by rw[hT];exact hb) (zN _)) (by omega);obtain⟨c0,c1,c2,c3,c4⟩:=zs5 (hcs i hiL);simp only[eCSN,qB,qC,Nat.add_zero] at c0 c1 c2 c3 c4;clear hcs;(have hi1:(i:Int)<n:=by omega);have hse:=str_eq l[i].1 p;(have hgh:=fun hk=>refGetT_hit l p i hiL HA.out hk);have hgn:=fun(hk:¬l[i].1=p) m (hm:m<l.length) (h:m<i+1)=>(by
    by_cases h2:m<i
    ·exact HA.out m hm h2
    ·(obtain rfl:m=i:=by omega);exact hk:¬l[m].1=p)
   obtain⟨x,hx⟩:∃x,l[i]=x:=⟨_,rfl⟩;rw[hx] at hse;simp only[hx] at c0 c1 c2 c3 c4 hgh hgn;have hba:=(zR wr.heap.size wr).alloc (zN _) (.cells #[.string x.1,.int .i64 x.2.kind,.int .i64 x.2.mode,.int .u32 x.2.time,.string x.2.data] 59);have hB1:=hB.below hba hB.lt;have hb1:=hb.trans (hba.mono (by rw[←hT];exact hb.size));have HX:=zH (zA hgh hgn);clear hgh hgn hx;by_cases hk:x.1=p
   ·rw[zE hk] at hse;have hg:=HX.out.1 hk;rw[HG.out] at hg;have x0:=hB1.cell 0;have x1:=hB1.cell 1;have x2:=hB1.cell 2;have x3:=hB1.cell 3;have f0:=hB1.frozen 0;have f1:=hB1.frozen 1;have f2:=hB1.frozen 2;have f3:=hB1.frozen 3;(simp at x0 x1 x2 x3);have HF:=zH (zA hB1 (zA hb1 hg));clear hB1 hb1 hg hba hB hb hk;(go_wp2_with fail);refine bodyPost_ret (v:= .agg #[.int .i64 x.2.kind,.int .i64 x.2.mode,.int .u32 x.2.time,.string x.2.data]) (results_cell_row rfl _ _ T 57 #[.int .i64 x.2.kind,.int .i64 x.2.mode,.int .u32 x.2.time,.string x.2.data] (0,0) _ rfl ((((HF.out.1.put 0 (.int .i64 x.2.kind)).put 1 (.int .i64 x.2.mode)).put 2 (.int .u32 x.2.time)).put 3 (.string x.2.data)) Tryz.underlying57 rfl infoVSN) rfl ⟨by rw[HF.out.2.2];rfl,?_⟩;exact((((HF.out.2.1.setCell (p:=⟨T,0,none⟩) (zN _) (.int .i64 x.2.kind)).setCell (p:=⟨T,1,none⟩) (zN _) (.int .i64 x.2.mode)).setCell (p:=⟨T,2,none⟩) (zN _) (.int .u32 x.2.time)).setCell (p:=⟨T,3,none⟩) (zN _) (.string x.2.data)).mono (Nat.le_of_eq hT)
   ·rw[zD hk] at hse;have HF:=zH (zA hB1 (zA hb1 (HX.out.2 hk)));clear hB1 hb1 hba hB hb hk;(go_wp2_with fail);go_roundw
    case rel=>exact⟨i+1,by omega,by go_num,HF.out.2.2,HF.out.1,HF.out.2.1⟩
    case measure=>simp [intOf];omega
  ·obtain rfl:i=n:=by omega
   have hg:=refGetT_none l p (fun m hm=>HA.out m hm (by have:=HL.out;omega));rw[HG.out] at hg;have x0:=hB.cell 0;have x1:=hB.cell 1;have x2:=hB.cell 2;have x3:=hB.cell 3;have f0:=hB.frozen 0;have f1:=hB.frozen 1;have f2:=hB.frozen 2;have f3:=hB.frozen 3;(simp at x0 x1 x2 x3);have HF:=zH (zA hB (zA hb hg));clear hB hb hg;(go_wp2_with fail);refine bodyPost_ret (v:= .agg #[.int .i64 0,.int .i64 0,.int .u32 0,.string ⟨#[]⟩]) (results_cell_row rfl _ _ T 57 #[.int .i64 0,.int .i64 0,.int .u32 0,.string ⟨#[]⟩] (0,0) _ rfl ((((HF.out.1.put 0 (.int .i64 0)).put 1 (.int .i64 0)).put 2 (.int .u32 0)).put 3 (.string ⟨#[]⟩)) Tryz.underlying57 rfl infoVSN) rfl ⟨by rw[HF.out.2.2];rfl,?_⟩;exact((((HF.out.2.1.setCell (p:=⟨T,0,none⟩) (zN _) (.int .i64 0)).setCell (p:=⟨T,1,none⟩) (zN _) (.int .i64 0)).setCell (p:=⟨T,2,none⟩) (zN _) (.int .u32 0)).setCell (p:=⟨T,3,none⟩) (zN _) (.string ⟨#[]⟩)).mono (Nat.le_of_eq hT)
theorem ref16Under_any (w:World)(p q:ByteArray)(hq:q.size≤90000):
  Calls Tryz.prog 72 #[.string p,.string q] w fun e w'=>e= .returned (.bool (inS (upsS q) p))∧Below w.heap.size w w':=by
 have HU:=zH (refUps_any w q hq);obtain⟨R,hR⟩:∃R,inS (upsS q) p=R:=⟨_,rfl⟩;rw[hR];have HR:=zH hR;clear hR;obtain⟨l,hl⟩:∃l,upsS q=l:=⟨_,rfl⟩;rw[hl] at HU HR;clear hl hq;go_enter Tryz.func72,Tryz.ntmps72
 go_wp2_with fail
 refine HU.out.mono ?_;rintro e w1 ⟨v,rfl,s,hb1⟩;obtain⟨A,c,rfl,hc1,hc2,hsl⟩:=s;obtain⟨n,hn⟩:∃n,l.length=n:=⟨_,rfl⟩;rw[hn] at hc1⊢;unfold maxLen at hc2;have HL:=zH hn;clear hn;have HS:=zH hsl;clear hsl;have HB:=zH hb1;clear hb1 HU;go_wp2_with fail
 go_loopw [6,10] (fun _ iv wr=>∃i:Nat,i≤n∧iv= .int .i64 i∧(∀m (hm:m<l.length),m<i→¬l[m]=p)∧w1=wr) (fun _ iv _=>n-(intOf iv).toNat)
 case atStart=>exact⟨0,Nat.zero_le _,rfl,fun m h h'=>absurd h' (Nat.not_lt_zero _),rfl⟩
 case round=>
  obtain⟨i,hi,rfl,hall,rfl⟩:=hrel;have HA:=zH hall;clear hall;by_cases hlt:i<n
  ·have hiL:i<l.length:=by have:=HL.out;omega
   obtain⟨b,off,rfl,hbb,hcs⟩:=HS.out (by omega);have c0:=hcs i hiL 0 (by omega);(simp [bE] at c0);clear hcs;(have hi1:(i:Int)<n:=by omega);have hse:=str_eq l[i] p;have hgh:=fun(hk:l[i]=p)=>(by
    rw[←HR.out];exact(inS_iff l p).2 (by rw[←hk];exact zP hiL):R=true)
   have hgn:=fun(hk:¬l[i]=p) m (hm:m<l.length) (h:m<i+1)=>(by
    by_cases h2:m<i
    ·exact HA.out m hm h2
    ·(obtain rfl:m=i:=by omega);exact hk:¬l[m]=p)
   obtain⟨x,hx⟩:∃x,l[i]=x:=⟨_,rfl⟩;rw[hx] at hse;simp only[hx] at c0 hgh hgn;have HX:=zH (zA hgh hgn);clear hgh hgn hx;by_cases hk:x=p
   ·rw[zE hk] at hse;have HF:=zH (HX.out.1 hk);have HSE:=zH hse;subst hk;(go_wp2_with fail);go_ret;exact⟨by rw[HF.out];rfl,HB.out⟩
   ·rw[zD hk] at hse;have HF:=zH (HX.out.2 hk);clear hk;(go_wp2_with fail);go_roundw
    case rel=>exact⟨i+1,by omega,by go_num,HF.out,by trivial⟩
    case measure=>simp [intOf];omega
  ·obtain rfl:i=n:=by omega
   have hg:R=false:=by
    rw[←HR.out];cases hq:inS l p with
    | false=>rfl
    | true=>
     obtain⟨m,hm,he⟩:=List.mem_iff_getElem.1 ((inS_iff l p).1 hq);exact absurd he (HA.out m hm (by have:=HL.out;omega))
   have HF:=zH hg;clear hg;(go_wp2_with fail);go_ret;exact⟨by rw[HF.out];rfl,HB.out⟩
theorem ref16Holds_any (w:World)(v:Value)(l:List NE)(p:ByteArray)(h:SlV w 5 eCSN v l)(hok:∀e∈l,e.1.size≤90000):
  Calls Tryz.prog 156 #[v,.string p] w fun e w'=>e= .returned (.bool (l.any fun e=>inS (upsS e.1) p))∧Below w.heap.size w w':=by
 obtain⟨A,c,rfl,hc1,hc2,hsl⟩:=h;obtain⟨n,hn⟩:∃n,l.length=n:=⟨_,rfl⟩;rw[hn] at hc1⊢;unfold maxLen at hc2;have HL:=zH hn;clear hn;have HS:=zH hsl;clear hsl;have HOK:=zH hok;clear hok;obtain⟨R,hR⟩:∃R,(l.any fun e=>inS (upsS e.1) p)=R:=⟨_,rfl⟩;rw[hR];have HR:=zH hR;clear hR;go_enter Tryz.func156,Tryz.ntmps156
 go_wp2_with fail
 go_loopw [9] (fun iv wr=>∃i:Nat,i≤n∧iv= .int .i64 i∧(∀m (hm:m<l.length),m<i→inS (upsS l[m].1) p=false)∧Below w.heap.size w wr) (fun iv _=>n-(intOf iv).toNat)
 case atStart=>exact⟨0,Nat.zero_le _,rfl,fun m h h'=>absurd h' (Nat.not_lt_zero _),zR _ _⟩
 case round=>
  obtain⟨i,hi,rfl,hall,hb⟩:=hrel;have HA:=zH hall;clear hall;by_cases hlt:i<n
  ·have hiL:i<l.length:=by have:=HL.out;omega
   obtain⟨b,off,rfl,hbb,hcs⟩:=(HS.out.below hb (zN _)) (by omega);obtain⟨c0,c1,c2,c3,c4⟩:=zs5 (hcs i hiL);simp only[eCSN,qB,qC,Nat.add_zero] at c0 c1 c2 c3 c4;clear hcs;(have hi1:(i:Int)<n:=by omega);have hgh:=fun(hk:inS (upsS l[i].1) p=true)=>(by
    rw[←HR.out,List.any_eq_true];exact⟨l[i],zP hiL,hk⟩:R=true)
   have hgn:=fun(hk:inS (upsS l[i].1) p=false) m (hm:m<l.length) (h:m<i+1)=>(by
    by_cases h2:m<i
    ·exact HA.out m hm h2
    ·(obtain rfl:m=i:=by omega);exact hk:inS (upsS l[m].1) p=false)
   have hxk:=HOK.out l[i] (zP hiL);obtain⟨x,hx⟩:∃x,l[i]=x:=⟨_,rfl⟩;rw[hx] at hxk;simp only[hx] at c0 c1 c2 c3 c4 hgh hgn;have hba:=(zR wr.heap.size wr).alloc (zN _) (.cells #[.string x.1,.int .i64 x.2.kind,.int .i64 x.2.mode,.int .u32 x.2.time,.string x.2.data] 59);have HU:=zH (ref16Under_any (wr.alloc (.cells #[.string x.1,.int .i64 x.2.kind,.int .i64 x.2.mode,.int .u32 x.2.time,.string x.2.data] 59)) p x.1 hxk);have HB:=zH (hb.trans (hba.mono hb.size));have HX:=zH (zA hgh hgn);clear hgh hgn hx hba hb hxk;obtain⟨r,hr⟩:∃r,inS (upsS x.1) p=r:=⟨_,rfl⟩;rw[hr] at HU HX;clear hr;cases r with
   | true=>
    have hrt:=HX.out.1 (by trivial);have HRT:=zH hrt;clear hrt HX;(go_wp2_with fail);refine HU.out.mono ?_;rintro e w2 ⟨rfl,hb2⟩;have HB2:=zH (HB.out.trans (hb2.mono HB.out.size));clear hb2;(go_wp2_with fail);go_ret;exact⟨by rw[HRT.out];rfl,HB2.out⟩
   | false=>
    have hrt:=HX.out.2 (by trivial);have HRT:=zH hrt;clear hrt HX;(go_wp2_with fail);refine HU.out.mono ?_;rintro e w2 ⟨rfl,hb2⟩;have HB2:=zH (HB.out.trans (hb2.mono HB.out.size));clear hb2;(go_wp2_with fail);go_roundw
    case rel=>exact⟨i+1,by omega,by go_num,HRT.out,HB2.out⟩
    case measure=>simp [intOf];omega
  ·obtain rfl:i=n:=by omega
   have hg:R=false:=by
    rw[←HR.out,List.any_eq_false];intro e he;obtain⟨m,hm,rfl⟩:=List.mem_iff_getElem.1 he;rw[HA.out m hm (by have:=HL.out;omega)];simp
   have HF:=zH (zA hg hb);clear hg hb;(go_wp2_with fail);go_ret;exact⟨by rw[HF.out.1];rfl,HF.out.2⟩
def SmallE (e:NE):Prop:=e.1.size≤100∧e.2.data.size≤500
theorem light16_any (w:World)(v:Value)(l:List NE)(h:SlV w 5 eCSN v l)(hsz:∀e∈l,e.1.size≤maxLen∧e.2.data.size≤maxLen):
  Calls Tryz.prog 44 #[v] w fun e w'=>∃R:Bool,e= .returned (.bool R)∧(R=true→l.length≤30∧∀e∈l,SmallE e)∧Below w.heap.size w w':=by
 obtain⟨A,c,rfl,hc1,hc2,hsl⟩:=h;obtain⟨n,hn⟩:∃n,l.length=n:=⟨_,rfl⟩;rw[hn] at hc1⊢;unfold maxLen at hc2 hsz;have HL:=zH hn;clear hn;have HS:=zH hsl;clear hsl;have HZ:=zH hsz;clear hsz;by_cases h30:n≤30
 ·go_enter Tryz.func44,Tryz.ntmps44
  go_wp2_with fail
  go_loopw [4,10] (fun _ iv wr=>∃i:Nat,i≤n∧iv= .int .i64 i∧(∀k (hk:k<l.length),k<i→SmallE l[k])∧Below w.heap.size w wr) (fun _ iv _=>n-(intOf iv).toNat)
  case atStart=>exact⟨0,Nat.zero_le _,rfl,fun k _ h=>absurd h (Nat.not_lt_zero _),zR _ _⟩
  case round=>
   obtain⟨i,hi,rfl,hall,hb⟩:=hrel;have HA:=zH hall;clear hall;by_cases hlt:i<n
   ·(have hiL:i<l.length:=by have:=HL.out;omega);obtain⟨b,off,rfl,hbb,hcs⟩:=(HS.out.below hb (zN _)) (by omega);obtain⟨c0,c1,c2⟩:=zs3 (hcs i hiL);have c3':=hcs i hiL 3 (by omega);have c4:=hcs i hiL 4 (by omega);simp only[eCSN,qB,qC,Nat.add_zero] at c0 c1 c2 c3' c4;clear hcs;(have hi1:(i:Int)<n:=by omega);obtain⟨hz1,hz2⟩:=HZ.out l[i] (zP hiL);obtain⟨x,hx⟩:∃x,l[i]=x:=⟨_,rfl⟩;simp only[hx] at c0 c1 c2 c3' c4 hz1 hz2;have HX:=zH hx;clear hx;have HB:=zH (hb.alloc hb.size (.cells #[.string x.1,.int .i64 x.2.kind,.int .i64 x.2.mode,.int .u32 x.2.time,.string x.2.data] 59));clear hb;by_cases s1:x.1.size≤100
    ·by_cases s2:x.2.data.size≤500
     ·(have s1':(x.1.size:Int)≤100:=by omega);(have s2':(x.2.data.size:Int)≤500:=by omega);(go_wp2_with fail);go_roundw
      case rel=>exact⟨i+1,by omega,by go_num,fun k hk hki=>by
       by_cases e:k=i
       ·subst e;rw[HX.out];exact⟨s1,s2⟩
       ·exact HA.out k hk (by omega),HB.out⟩
      case measure=>simp [intOf];omega
     ·(have s1':(x.1.size:Int)≤100:=by omega);(have s2':(500:Int)<x.2.data.size:=by omega);(go_wp2_with fail);go_ret;exact⟨false,rfl,fun h=>absurd h (by decide),HB.out⟩
    ·(have s1':(100:Int)<x.1.size:=by omega);(go_wp2_with fail);go_ret;exact⟨false,rfl,fun h=>absurd h (by decide),HB.out⟩
   ·(obtain rfl:i=n:=by omega);have HB:=zH hb;clear hb;(go_wp2_with fail);go_ret;exact⟨true,rfl,fun _=>⟨h30,fun e he=>by
     obtain⟨k,hk,rfl⟩:=List.mem_iff_getElem.1 he;exact HA.out k hk (by have:=HL.out;omega)⟩,HB.out⟩
 ·have h31:(30:Int)<n:=by omega
  go_enter Tryz.func44,Tryz.ntmps44
  go_wp2_with fail
  go_ret;exact⟨false,rfl,fun h=>absurd h (by decide),zR _ _⟩
end Go.Proofs.YtnpehjgnplaabaaGreatDoor
namespace Go.Proofs.YtnpehjgnplaabaaGreatDoor
open Go Go.ChangeShapes Go.WideShapes Go.ChangeAt Go.RowKit
open Sw
def NEIn (e:NE):Prop:=e.1.size≤maxLen∧NdIn e.2
theorem dec_nodeI {H:Type}{enc:TypeId×Value→H}{w:World}(fuel:Nat)(cs:List Value)(x:DataW H×List MemPlace)(h:DataW.trod enc Tryz.prog w 0 (fun _=>true) true fuel 57 cs=some x):
  ∃n:Nd,cs=[.int .i64 n.kind,.int .i64 n.mode,.int .u32 n.time,.string n.data]∧NdIn n:=by
 obtain⟨hl,hff⟩:=dec_fields Tryz.underlying57 (by kernel_rfl) (by kernel_rfl) h
 match cs,hl with
 | [c0,c1,c2,c3],_=>
  obtain⟨v0,n0,y0,e0,h0⟩:=hff 0 _ rfl;obtain⟨v1,n1,y1,e1,h1⟩:=hff 1 _ rfl;obtain⟨v2,n2,y2,e2,h2⟩:=hff 2 _ rfl;obtain⟨v3,n3,y3,e3,h3⟩:=hff 3 _ rfl;simp at e0 e1 e2 e3
  subst e0 e1 e2 e3;obtain⟨k0,ek0,_,_⟩:=DataW.trod_int Tryz.underlying3 h0;obtain⟨k1,ek1,_,_⟩:=DataW.trod_int Tryz.underlying3 h1;obtain⟨k2,ek2,_,wk⟩:=DataW.trod_int Tryz.underlying51 h2;obtain⟨s,hs,_,hl⟩:=DataW.trod_string Tryz.underlying9 h3;obtain⟨b0,b1⟩:=bounds_u32 wk;simp at ek0 ek1 ek2 hs
  subst ek0 ek1 ek2 hs;exact⟨⟨k0,k1,k2,s⟩,rfl,b0,by show k2<4294967296;omega,hl⟩
theorem dec_item {H:Type}{enc:TypeId×Value→H}{w:World}(fuel:Nat)(cs:List Value)(x:DataW H×List MemPlace)(h:DataW.trod enc Tryz.prog w 0 (fun _=>true) true fuel 59 cs=some x):
  ∃e:NE,cs=eCSN e∧NEIn e:=by
 obtain⟨y0,y1,n,_,hl,h0,h1⟩:=trod_struct2 Tryz.underlying59 h;have hl5:cs.length=5:=hl.trans (by kernel_rfl)
 match cs,hl5 with
 | [c0,c1,c2,c3,c4],_=>
  rw[show Tryz.prog.cellsOf 9=1 by kernel_rfl] at h0;rw[show Tryz.prog.cellsOf 57=4 by kernel_rfl] at h1;simp only[List.drop_zero,List.drop_succ_cons,List.take_succ_cons,List.take_zero] at h0 h1;obtain⟨s,hs,_,hsz⟩:=DataW.trod_string Tryz.underlying9 h0;simp at hs
  subst hs;obtain⟨m,hm,hin⟩:=dec_nodeI _ _ _ h1;simp at hm
  obtain⟨rfl,rfl,rfl,rfl⟩:=hm;exact⟨(s,m),rfl,hsz,hin⟩
section
open Go.Deep
variable {H:Type} {enc:TypeId×Value→H} {P:Program} {w:World}
theorem slice_of_trodB {α:Type}(E:α→List Value)(V:α→Prop){t e:TypeId}{fuel:Nat}{cs:List Value}{x:DataW H×List MemPlace}{size:Nat}(ht:P.underlying t=some (.slice e))(hC:P.cellsOf e=size)(hs:0<size)
  (hdec:∀fuel cs x,DataW.trod enc P w 0 (fun _=>true) true fuel e cs=some x→∃a:α,cs=E a∧V a)
  (hf:DataW.trod enc P w 0 (fun _=>true) true fuel t cs=some x):
  ∃(A:Option Addr) (n c:Nat) (l:List α),cs=[.slice A n c]∧n≤c∧c≤maxLen∧l.length=n∧SlOf w size E A l∧(∀a∈l,V a):=by
 rcases open_slice ht hf with ⟨h0,_⟩ | ⟨a,len,cap,m,k,D,Pl,hcs,hb,hl,hm,hmm,hx,hi⟩
 ·exact⟨none,0,0,[],h0,zN _,by simp [maxLen],rfl,SlOf.nil _ _ _ _,by simp⟩
 ·rw[hC] at hi;have hmc:m=cap:=by simpa using hmm
  subst hmc;obtain⟨l,hlen,hq⟩:=exists_list (Q:=fun i (x:α)=>V x∧(E x).length=size∧∀j,j<size→w.cell? ((a.add (i*size)).add j)=(E x)[j]?) len (fun i hin=>by
   obtain⟨cs',hc,htr⟩:=hi i (by omega);obtain⟨x,rfl,hx⟩:=hdec _ _ _ htr;obtain⟨_,hcl,hat⟩:=World.cells?_some hc;exact⟨x,hx,hcl,fun j hj=>hat j hj⟩)
  refine⟨some a,len,m,l,hcs,hl,hm,hlen,fun hn=>?_,fun x hx=>?_⟩
  ·obtain⟨_,hsz,hat⟩:=hq 0 hn;have h0:=hat 0 hs;rw[zM (by omega)] at h0;have hsp:=World.cell?_spot h0;have hlt:=World.block_lt_of_cell? w _ h0;rw[add_add,Nat.zero_mul,Nat.add_zero] at hsp hlt;rw[show a.add 0=a from rfl] at hsp hlt;obtain⟨b,off,spot⟩:=a;have hsp':spot=none:=hsp;subst hsp';refine⟨b,off,rfl,hlt,fun i hi j hj=>?_⟩;have h1:=(hq i hi).2.2 j hj;rw[add_mk,add_mk] at h1;exact h1
  ·obtain⟨i,hi',rfl⟩:=List.getElem_of_mem hx;exact(hq i hi').1
end
end Go.Proofs.YtnpehjgnplaabaaGreatDoor
