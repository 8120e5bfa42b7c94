/- Several texts of ours, joined. -/
import Derived.Test.YtnpehjgnplaabaaGreatDoorJoin1
import Derived.Test.YtnpehjgnplaabaaGreatDoorJoin10
import Derived.Test.YtnpehjgnplaabaaGreatDoorJoin5
import Derived.Test.YtnpehjgnplaabaaGreatDoorJoin6
import Derived.Test.YtnpehjgnplaabaaGreatDoorJoin4
import Derived.Test.YtnpehjgnplaabaaGreatDoorJoin8
import Derived.Test.YtnpehjgnplaabaaGreatDoorJoin9
set_option linter.unusedVariables false
set_option linter.unusedSimpArgs false
set_option maxRecDepth 100000
set_option maxHeartbeats 64000000
namespace Go.Proofs.YtnpehjgnplaabaaGreatDoor
open Go Go.RowKit Go.Shelf
open Sw
theorem SMapSB.ownF {W W':World}{row:Option Nat}{bm:Nat}{X:List SbE}(h:SMapSB W bm X)(hg:W.grownBy W' row)(hr:∀r,row=some r→∃o:Obj,W.heap[r]? =some o∧o.isCells=false):SMapSB W' bm X:=by
 obtain⟨v,hb,ho⟩:=h.row;exact⟨⟨v,blk_ownF hb hg hr,own_ownF ho hg hr⟩,h.up,h.ok⟩
theorem smapSB_blk {w:World}{bm:Nat}{X:List SbE}(h:SMapSB w bm X):∃cs,Blk w bm 221 cs:=by
 obtain⟨v,hb,_⟩:=h.row;exact⟨_,hb⟩
theorem TreeAt.grownSB {w w':World}{bt bmt bm:Nat}{xs:List NE}{X:List SbE}(h:TreeAt w bt bmt xs)(hm:SMapSB w bm X)(hg:w.grownBy w' (some bm)):TreeAt w' bt bmt xs:=by
 obtain⟨cs,hB⟩:=smapSB_blk hm;obtain⟨v,hb,ho⟩:=h.map.row;exact⟨h.box.grown hg (fun e=>by
                   (have e':bt=bm:=by simpa using e);subst e';exact Blk.other h.box hB (by decide) rfl),h.map.grown hg (fun e=>by subst e;exact Blk.other hb hB (by decide) rfl) hB (by decide)⟩
def PthI (T bm:Nat) (X:List SbE) (W:World):Prop:=Blk W T 190 #[.pointer (some ⟨bm,0,none⟩)]∧SMapSB W bm X
theorem PthI.below {T bm:Nat}{X:List SbE}{A B:World}(h:PthI T bm X A)(hb:Below A.heap.size A B):PthI T bm X B:=⟨h.1.below hb h.1.lt,h.2.below hb⟩
theorem PthI.ownF {T bm:Nat}{X:List SbE}{A B:World}{row:Option Nat}(h:PthI T bm X A)(hg:A.grownBy B row)(hr:∀r,row=some r→∃o:Obj,A.heap[r]? =some o∧o.isCells=false):PthI T bm X B:=⟨blk_ownF h.1 hg hr,h.2.ownF hg hr⟩
theorem PthI.put {T bm:Nat}{X Y:List SbE}{A B:World}(h:PthI T bm X A)(hm:SMapSB B bm Y)(hg:A.grownBy B (some bm)):PthI T bm Y B:=by
 obtain⟨cs,hB⟩:=smapSB_blk h.2;exact⟨h.1.grown hg (fun e=>by
                  (have e':T=bm:=by simpa using e);subst e';exact Blk.other h.1 hB (by decide) rfl),hm⟩
theorem ownFrom_put {β:Type}{B d:Nat}{o:Obj}(hd:d<B):OwnFrom B (fun(_:β) (W:World)=>W.heap[d]? =some o):=
 fun _ X Y row hs hg hr=>(hg.block d (Array.getElem?_eq_some_iff.1 hs).1 (fun e=>by have:=(hr d e.symm).1;omega)).trans hs
attribute [local go_sem] Oper.semAt_some
theorem setP_one (X:List SbE)(ps:List ByteArray)(p:ByteArray):setP X (ps++[p])=putN ordS p true (setP X ps):=by rw[setP_app];rfl
def PtI (T bm B:Nat) (X0:List SbE) (D0:List Nat) (gb:Nat) (v:Value) (xs:List NE) (pre:List NE) (W:World):Prop:=
 (PthI T bm (setP X0 (pre.map Prod.fst)) W∧gb<W.heap.size)∧Blk W gb 137 #[v]∧Lies W 146 5 eCSN v xs
theorem PtI.own (T bm B:Nat)(X0:List SbE)(D0:List Nat)(gb:Nat)(v:Value)(xs:List NE):Own (PtI T bm B X0 D0 gb v xs):=fun _ A C row hs hg hr=>⟨⟨hs.1.1.ownF hg hr,zQ hs.1.2 hg.size⟩,blk_ownF hs.2.1 hg hr,hs.2.2.ownF hg hr⟩
attribute [local go_sem] Oper.semAt_some
theorem TreeAt.ownF {W W':World}{row:Option Nat}{bt bm:Nat}{X:List NE}(h:TreeAt W bt bm X)(hg:W.grownBy W' row)(hr:∀r,row=some r→∃o:Obj,W.heap[r]? =some o∧o.isCells=false):TreeAt W' bt bm X:=by
 refine⟨blk_ownF h.box hg hr,?_⟩;obtain⟨v,hb,ho⟩:=h.map.row;exact⟨⟨v,blk_ownF hb hg hr,own_ownF ho hg hr⟩,h.map.up,h.map.ok⟩
def Pt2I (T bm:Nat) (X0:List SbE) (gs:Nat) (ts:TypeId) (p1 p2:Value) (bt2 bmt2:Nat) (xs2:List NE) (gb:Nat) (v:Value) (xs:List NE) (pre:List NE) (W:World):Prop:=
 PtI T bm 0 X0 [] gb v xs pre W∧Blk W gs ts #[p1,p2]∧TreeAt W bt2 bmt2 xs2
theorem Pt2I.own (T bm:Nat)(X0:List SbE)(gs:Nat)(ts:TypeId)(p1 p2:Value)(bt2 bmt2:Nat)(xs2:List NE)(gb:Nat)(v:Value)(xs:List NE):Own (Pt2I T bm X0 gs ts p1 p2 bt2 bmt2 xs2 gb v xs):=fun s A C row hs hg hr=>⟨PtI.own T bm 0 X0 [] gb v xs s A C row hs.1 hg hr,blk_ownF hs.2.1 hg hr,hs.2.2.ownF hg hr⟩
theorem paths2_any (w:World)(u1 u2:Value)(l1 l2:List MkE)(gs:Nat)(ts:TypeId)(bt bmt bt2 bmt2:Nat)(xs xs2:List NE)(h1:SlV w 6 eCM u1 l1)(h2:SlV w 6 eCM u2 l2)(hl1:l1.length≤1000)(hl2:l2.length≤1000)(hp1:∀m∈l1,m.1.size≤90000)(hp2:∀m∈l2,m.1.size≤90000)
  (hgs:Blk w gs ts #[.pointer (some ⟨bt,0,none⟩),.pointer (some ⟨bt2,0,none⟩)]) (hT:TreeAt w bt bmt xs) (hT2:TreeAt w bt2 bmt2 xs2) (hxl:xs.length≤1000) (hxp:∀e∈xs,e.1.size≤90000) (hxl2:xs2.length≤1000) (hxp2:∀e∈xs2,e.1.size≤90000):
  Calls Tryz.prog 92 #[.agg #[u1,u2],.slice (some ⟨gs,0,none⟩) 2 2] w fun e w'=>∃u,e= .returned u∧w'.ownsRow w.heap.size 9 1 u (pathsS ((l1++l2).map Prod.fst++(xs.map Prod.fst++xs2.map Prod.fst))).length ((pathsS ((l1++l2).map Prod.fst++(xs.map Prod.fst++xs2.map Prod.fst))).map Value.string)∧Below w.heap.size w w':=by
 refine callsIn_wide.1 (?_:CallsIn Fence.wide 9 _ _ _ _ _);refine callsIn_of_wp_marks Tryz.func92 rfl trivial ?_ rfl;simp only[Tryz.ntmps92,List.size_toArray,zI,List.length_nil,Nat.reduceAdd,Nat.reduceSub,Array.replicate_succ,Array.replicate_zero,List.push_toArray,List.append_toArray,List.nil_append,List.cons_append];have hb0:Below w.heap.size w (w.alloc (.cells #[u1,u2] 24)):=(zR _ w).alloc (zN _) _;have hB0:=Blk.new w 24 #[u1,u2];obtain⟨W0,hW0⟩:∃W0,w.alloc (.cells #[u1,u2] 24)=W0:=⟨_,rfl⟩;rw[hW0] at hb0 hB0;have HN:=zH (srtNewSB_any W0);have H0:=zH (zA hb0 (zA hB0 (zA (h1.below hb0 (zN _)) (zA (h2.below hb0 (zN _)) (zA (hT.below hb0) (zA (hgs.below hb0 hgs.lt) (hT2.below hb0)))))));have HW:=zH hW0;have HX:=zH (zA hp1 (zA hp2 hxp));have HX2:=zH hxp2;have HGL:=zH hgs.lt;clear h1 h2 hb0 hB0 hT hgs hW0 hp1 hp2 hxp hT2 hxp2;gi_wp2
 rw[HW.out];refine⟨trivial,(callsIn_wide.2 HN.out).mono ?_⟩;rintro e w1 ⟨bm,rfl,hm,hbm,hb1⟩;have hba:Below w1.heap.size w1 (w1.alloc (.cells #[.pointer (some ⟨bm,0,none⟩)] 190)):=(zR _ w1).alloc (zN _) _;have hb2:=hb1.trans (hba.mono hb1.size);have H1:=zH (zA (show PthI w1.heap.size bm [] _ from⟨Blk.new w1 _ _,hm.below hba⟩) (zA (H0.out.1.trans (hb2.mono H0.out.1.size)) (zA (H0.out.2.1.below hb2 H0.out.2.1.lt) (zA (H0.out.2.2.1.below hb2 (zN _)) (zA (H0.out.2.2.2.1.below hb2 (zN _)) (zA (H0.out.2.2.2.2.1.below hb2) (zA (H0.out.2.2.2.2.2.1.below hb2 H0.out.2.2.2.2.2.1.lt) (H0.out.2.2.2.2.2.2.below hb2))))))));have HM:=zH (show w.heap.size≤bm from zT H0.out.1.size hbm);obtain⟨q2a,q2b⟩:=zc2 H1.out.2.2.1;simp only[qA,qB,qC] at q2a q2b;obtain⟨W1,hW1⟩:∃W1,w1.alloc (.cells #[.pointer (some ⟨bm,0,none⟩)] 190)=W1:=⟨_,rfl⟩;obtain⟨T,hTe⟩:∃T,w1.heap.size=T:=⟨_,rfl⟩;rw[hW1,hTe] at H1;have HW1:=zH (zA hW1 hTe);have HBO:=zH (both_any W1 u1 u2 l1 l2 H1.out.2.2.2.1 H1.out.2.2.2.2.1 (by omega) (by omega) HX.out.1 HX.out.2.1);clear hba hb2 hb1 hbm hm hW1 hTe HN H0;gi_wp2
 rw[HW1.out.1,HW1.out.2];clear q2a q2b HW1;refine⟨trivial,(callsIn_wide.2 HBO.out).mono ?_⟩;rintro e w2 ⟨u,L,rfl,hPm,ho,hb2⟩;obtain⟨A3,k3,rfl,hk3,-,-⟩:=SlV_of_any ho;have hLl:L.length=l1.length+l2.length:=by rw[hPm.length_eq,zF]
 have hLp:∀m∈L,m.1.size≤90000:=fun m hm=>(List.mem_append.1 (hPm.mem_iff.1 hm)).elim (HX.out.1 m) (HX.out.2.1 m)
 have H2:=zH (zA (H1.out.1.below hb2) (zA (H1.out.2.1.trans (hb2.mono H1.out.2.1.size)) (zA ho (zA (H1.out.2.2.2.2.2.1.below hb2) (zA (H1.out.2.2.2.2.2.2.1.below hb2 H1.out.2.2.2.2.2.2.1.lt) (H1.out.2.2.2.2.2.2.2.below hb2))))));have HL:=zH (zA hPm hLp);obtain⟨n,hn⟩:∃n,L.length=n:=⟨_,rfl⟩;rw[hn] at H2 hLl hk3;rw[hn];have HN:=zH hn;clear hPm hLp ho hb2 hn HBO H1;gi_wp2
 gi_loopw [15] (fun iv wr=>∃i:Nat,iv= .int .i64 i∧i≤n∧PthI T bm (setP [] ((L.take i).map Prod.fst)) wr∧Below w.heap.size w wr∧wr.ownsRow W1.heap.size 63 6 (.slice A3 n k3) n (L.flatMap eCM)∧TreeAt wr bt bmt xs∧Blk wr gs ts #[.pointer (some ⟨bt,0,none⟩),.pointer (some ⟨bt2,0,none⟩)]∧TreeAt wr bt2 bmt2 xs2) (fun iv _=>n-(intOf iv).toNat)
 case atStart=>exact⟨0,rfl,Nat.zero_le _,H2.out.1,H2.out.2.1,H2.out.2.2.1,H2.out.2.2.2.1,H2.out.2.2.2.2.1,H2.out.2.2.2.2.2⟩
 case round=>
  obtain⟨i,rfl,hi,hP,hb,ho,hT,hgs,hT2⟩:=hrel;by_cases hlt:i<n
  ·have hiL:i<L.length:=by have:=HN.out;omega
   have hsl:=SlV.of_own (l:=L) ho eCM_len (by decide);obtain⟨A',c',hA,_,_,hso⟩:=hsl;(obtain⟨rfl,rfl⟩:A3=A'∧k3=c':=by injection hA with e1 e2 e3;exact⟨e1,e3⟩);clear hA;obtain⟨b,off,rfl,hbb,hcs⟩:=hso (by omega);obtain⟨c0,c1,c2⟩:=zs3 (hcs i hiL);have c3':=hcs i hiL 3 (by omega);have c4:=hcs i hiL 4 (by omega);have c5:=hcs i hiL 5 (by omega);simp only[eCM,qB,qC,Nat.add_zero] at c0 c1 c2 c3' c4 c5;clear hcs hso;(have hi1:(i:Int)<n:=by omega);have hq:=HL.out.2 _ (zP hiL);have hst:setP [] ((L.take (i+1)).map Prod.fst)=putN ordS L[i].1 true (setP [] ((L.take i).map Prod.fst)):=by
    rw[zG hiL,List.map_append,List.map_cons,List.map_nil,setP_one]
   have hsl:=setP_len ((L.take i).map Prod.fst) [];rw[zS,zL] at hsl;simp only[List.length_nil,Nat.zero_add] at hsl;obtain⟨⟨q,⟨kd,md,tm,sz,sm⟩⟩,hx⟩:∃x,L[i]=x:=⟨_,rfl⟩;simp only[hx] at c0 c1 c2 c3' c4 c5 hq hst;clear hx;have hba:=(zR wr.heap.size wr).alloc (zN _) (.cells #[.string q,.int .i64 kd,.int .i64 md,.int .u32 tm,.int .i64 sz,.int .u32 sm] 63);have HPI:=zH (hP.below hba);have q5:=HPI.out.1.cell 0;simp only[qA,qB,qC] at q5;have HPU:=zH (srtPutSB_any _ bm _ q true HPI.out.2 (by omega) hq);have HR:=zH (zA (hb.trans (hba.mono hb.size)) (zA (own_kept ho hba) (zA (hT.below hba) (zA (hgs.below hba hgs.lt) (zA hst (hT2.below hba))))));clear hP hb ho hT hgs hba hst hsl hT2;(gi_wp2);refine⟨trivial,(callsIn_wide.2 HPU.out).mono ?_⟩;rintro e w5 ⟨rfl,hm5,hg5⟩;have H5:=zH (zA (HPI.out.put hm5 hg5) (zA (HR.out.1.grown hg5 HR.out.1.size (fun k hk=>by cases hk;exact HM.out)) (zA (show w5.ownsRow W1.heap.size 63 6 _ n (L.flatMap eCM) from by
    obtain⟨cs,hB⟩:=smapSB_blk HPI.out.2;exact own_grown_typSB HR.out.2.1 hg5 hB (by decide)) (zA (HR.out.2.2.1.grownSB HPI.out.2 hg5) (zA (HR.out.2.2.2.1.grown hg5 (fun e=>by
     (have e':gs=bm:=by simpa using e);have:=HGL.out;have:=HM.out;omega)) (HR.out.2.2.2.2.2.grownSB HPI.out.2 hg5))))))
   clear hm5 hg5 q5 HPU;(gi_wp2);go_roundw
   case rel=>exact⟨i+1,by go_num,by omega,by rw[HR.out.2.2.2.2.1];exact H5.out.1,H5.out.2.1,H5.out.2.2.1,H5.out.2.2.2.1,H5.out.2.2.2.2.1,H5.out.2.2.2.2.2⟩
   case measure=>simp [intOf];omega
  ·obtain rfl:i=n:=by omega
   have hf:L.take i=L:=zO (by have:=HN.out;omega);rw[hf] at hP;clear hf ho;have HR:=zH (zA hP (zA hb (zA hT (zA hgs hT2))));have q1:=hgs.cell 0;(simp at q1);clear hP hb hT hgs hT2 H2;(gi_wp2);refine wpIn_loop_rounds 3 ?_;rw[roundsIn_succ];(gi_wp2);generalize wr=w4 at*;refine⟨trivial,(callsIn_wide.2 (treeAll_any w4 bt bmt xs HR.out.2.2.1)).mono ?_⟩;rintro e w6 ⟨gb,v,rfl,hgb,hL,hge,hvb,hb6⟩;have hP6:=HR.out.1.below hb6;have hB6:=HR.out.2.1.trans (hb6.mono HR.out.2.1.size);have hgl:=hgb.lt;obtain⟨cs0,hcs0⟩:=smapSB_blk hP6.2;(have hbmgb:bm≠gb:=fun e=>by subst e;exact Blk.other hcs0 hgb (by decide) rfl);have hbmv:0<xs.length→∀g,v.ownBlock=some g→bm≠g:=fun h0 g hg e=>by
    subst e;obtain⟨A,c,rfl,_,_,h3⟩:=hL;obtain⟨g',off,cur,rfl,hb,_⟩:=h3 h0;(cases hg);exact Blk.other hcs0 hb (by decide) rfl
   have HNE:=zH (zA hbmgb hbmv);have hup:=hP6.2.up;have hz6:=hB6.size;have hgs6:=HR.out.2.2.2.1.below hb6 HR.out.2.2.2.1.lt;have hT26:=HR.out.2.2.2.2.below hb6;clear hbmgb hbmv hcs0 hb6 hge q1;(gi_wp2);refine wpIn_rangeFunc_tell (Mine:=fun _=>False) (fun _ h=>h.elim) rfl (by omega) (gf:=154) (lb:= #[.pointer (some ⟨gb,0,none⟩)]) rfl trivial (enters_of Tryz.func154 (by kernel_rfl) rfl)
    (toldSN_tells 8 (by omega) gb v xs w6 hgb hL (by omega)) KeepIt.trans (keepIt_b hgl hvb) (zR _ _) (fun _=>rfl)
    (fun pre W=>Pt2I T bm (setP [] (L.map Prod.fst)) gs ts (.pointer (some ⟨bt,0,none⟩)) (.pointer (some ⟨bt2,0,none⟩)) bt2 bmt2 xs2 gb v xs pre W∧Below w.heap.size w W)
    (fun c pre W=>False)
    (OwnM.of_none (OwnFrom.and (Own.from (Pt2I.own T bm (setP [] (L.map Prod.fst)) gs ts (.pointer (some ⟨bt,0,none⟩)) (.pointer (some ⟨bt2,0,none⟩)) bt2 bmt2 xs2 gb v xs) _) (ownFrom_below (zN _) (by omega))))
    (fun c=>OwnM.of_none (fun _ _ _ _ hs _ _=>hs.elim))
    ⟨⟨⟨⟨hP6,hgl⟩,hgb,hL⟩,hgs6,hT26⟩,hB6⟩
    ?a1 ?assign ?body ?done ?stop
   case assign=>
    rintro l x W K hK;(gi_wp2);exact hK
   case body=>
    rintro l pre x W ⟨⟨⟨⟨hP,hglW⟩,hgW,hLW⟩,hgsW,hT2W⟩,hB⟩ hTl;(have hx0:0<xs.length:=by obtain⟨r,hr⟩:=hTl;rw[←hr];simp;omega);(have hpl:pre.length+1≤1000:=by obtain⟨r,hr⟩:=hTl;have:=congrArg List.length hr;simp at this;omega);(have hxm:x∈xs:=by obtain⟨r,hr⟩:=hTl;rw[←hr];simp);have hq:=HX.out.2.2 x hxm;have q5:=hP.1.cell 0;simp only[qA,qB,qC] at q5;have hsl:=setP_len (pre.map Prod.fst) (setP [] (L.map Prod.fst));have hsl0:=setP_len (L.map Prod.fst) [];rw[zS] at hsl hsl0;simp only[List.length_nil,Nat.zero_add] at hsl0;have hLn:=HN.out;have HPU:=zH (srtPutSB_any W bm _ x.1 true hP.2 (by omega) hq);have HR2:=zH (zA hP (zA hgW (zA hLW hB)));have HR4:=zH (zA hgsW hT2W);clear hP hgW hLW hB hTl hsl hsl0 hLn hgsW hT2W;obtain⟨q,nd⟩:=x;simp only at HPU hq⊢;(gi_wp2);refine⟨trivial,(callsIn_wide.2 HPU.out).mono ?_⟩;rintro e w7 ⟨rfl,hm7,hg7⟩;have hBm:Blk W bm 221 (smapSB_blk HR2.out.1.2).choose:=(smapSB_blk HR2.out.1.2).choose_spec;have hko:=keeps_grownF hg7 hBm;have hgK:KeepIt gb v W w7:=⟨hg7.size,hg7.block gb hglW (fun e=>HNE.out.1 (by simpa using e.symm)),fun g hg=>hg7.block g (by
     obtain⟨A,c,rfl,_,_,h3⟩:=HR2.out.2.2.1;obtain⟨g',off,cur,rfl,hbq,_⟩:=h3 hx0;(cases hg);exact hbq.lt) (fun e=>HNE.out.2 hx0 g hg (by simpa using e.symm))⟩
    have HF:=zH (zA hko (zA hgK (zA (HR2.out.1.put hm7 hg7) (HR2.out.2.2.2.grown hg7 (by have:=HR2.out.2.2.2.size;omega) (fun k hk=>by cases hk;exact HM.out)))));have HF2:=zH (zA (HR4.out.1.grown hg7 (fun e=>by
     (have e':gs=bm:=by simpa using e);have:=HGL.out;have:=HM.out;omega)) (HR4.out.2.grownSB HR2.out.1.2 hg7))
    clear hm7 hg7 hko hgK hBm q5;(gi_wp2);refine⟨HF.out.1,HF.out.2.1,⟨⟨⟨?_,zQ hglW HF.out.1.size⟩,?_,?_⟩,HF2.out⟩,HF.out.2.2.2⟩
    ·rw[List.map_append,List.map_cons,List.map_nil,setP_one];exact HF.out.2.2.1
    ·have:=HF.out.2.1.box;have h2:=HR2.out.2.1;unfold Blk at h2⊢;rw[this,h2]
    ·exact HR2.out.2.2.1.kept (fun g cur h _=>HF.out.2.1.row g h)
   case done=>
    rintro D zs W hD hzs ⟨⟨⟨⟨hP,hglW⟩,hgW,hLW⟩,hgsW,hT2W⟩,hB⟩ hK;have hz:zs=xs:=hzs;subst hz;rw[←setP_app] at hP;(have hD0:w.heap.size≤D:=by omega);have q1:=hgsW.cell 1;(simp at q1);have HR:=zH (zA hP (zA hB (zA hT2W hK)));clear hP hB hK hgW hLW hglW hgsW hT2W hgb hL hvb hP6 hgs6 hT26 hB6 hgl hz6 hup hzs HNE hD;(gi_wp2);rw[roundsIn_succ];(gi_wp2);generalize W=w4 at*;refine⟨trivial,(callsIn_wide.2 (treeAll_any w4 bt2 bmt2 xs2 HR.out.2.2.1)).mono ?_⟩;rintro e w6 ⟨gb,v,rfl,hgb,hL,hge,hvb,hb6⟩;have hK6:w6.heap[D]? =some (Obj.deferred (some [])):=(hb6.block D (Array.getElem?_eq_some_iff.1 HR.out.2.2.2).1).trans HR.out.2.2.2;have hD6:D<w6.heap.size:=(Array.getElem?_eq_some_iff.1 hK6).1;have hP6:=HR.out.1.below hb6;have hB6:=HR.out.2.1.trans (hb6.mono HR.out.2.1.size);have hgl:=hgb.lt;obtain⟨cs0,hcs0⟩:=smapSB_blk hP6.2;(have hbmgb:bm≠gb:=fun e=>by subst e;exact Blk.other hcs0 hgb (by decide) rfl);have hbmv:0<xs2.length→∀g,v.ownBlock=some g→bm≠g:=fun h0 g hg e=>by
     subst e;obtain⟨A,c,rfl,_,_,h3⟩:=hL;obtain⟨g',off,cur,rfl,hb,_⟩:=h3 h0;(cases hg);exact Blk.other hcs0 hb (by decide) rfl
    have HNE:=zH (zA hbmgb hbmv);have hup:=hP6.2.up;have hz6:=hB6.size;clear hbmgb hbmv hcs0 hb6 hge q1;(gi_wp2);refine wpIn_rangeFunc_tell (Mine:=fun _=>False) (fun _ h=>h.elim) rfl (by omega) (gf:=154) (lb:= #[.pointer (some ⟨gb,0,none⟩)]) rfl trivial (enters_of Tryz.func154 (by kernel_rfl) rfl)
     (toldSN_tells 8 (by omega) gb v xs2 w6 hgb hL (by omega)) KeepIt.trans (keepIt_b hgl hvb) (zR _ _) (fun _=>rfl)
     (fun pre W=>PtI T bm 0 (setP [] (L.map Prod.fst++zs.map Prod.fst)) [] gb v xs2 pre W∧Below w.heap.size w W∧W.heap[D]? =some (Obj.deferred (some [])))
     (fun c pre W=>False)
     (OwnM.of_none (OwnFrom.and (Own.from (PtI.own T bm 0 (setP [] (L.map Prod.fst++zs.map Prod.fst)) [] gb v xs2) _) (OwnFrom.and (ownFrom_below (zN _) (by omega)) (ownFrom_put hD6))))
     (fun c=>OwnM.of_none (fun _ _ _ _ hs _ _=>hs.elim))
     ⟨⟨⟨hP6,hgl⟩,hgb,hL⟩,hB6,hK6⟩
     ?b1 ?assign2 ?body2 ?done2 ?stop2
    case assign2=>
     rintro l x W K hK;(gi_wp2);exact hK
    case body2=>
     rintro l pre x W ⟨⟨⟨hP,hglW⟩,hgW,hLW⟩,hB,hKD⟩ hTl;(have hx0:0<xs2.length:=by obtain⟨r,hr⟩:=hTl;rw[←hr];simp;omega);(have hpl:pre.length+1≤1000:=by obtain⟨r,hr⟩:=hTl;have:=congrArg List.length hr;simp at this;omega);(have hxm:x∈xs2:=by obtain⟨r,hr⟩:=hTl;rw[←hr];simp);have hq:=HX2.out x hxm;have q5:=hP.1.cell 0;simp only[qA,qB,qC] at q5;have hsl:=setP_len (pre.map Prod.fst) (setP [] (L.map Prod.fst++zs.map Prod.fst));have hsl0:=setP_len (L.map Prod.fst++zs.map Prod.fst) [];rw[zF,zS,zS] at hsl0;rw[zS] at hsl;simp only[List.length_nil,Nat.zero_add] at hsl0;have hLn:=HN.out;have HPU:=zH (srtPutSB_any W bm _ x.1 true hP.2 (by omega) hq);have HR2:=zH (zA hP (zA hgW (zA hLW hB)));have HR4:=zH hKD;clear hP hgW hLW hB hTl hsl hsl0 hLn hKD;obtain⟨q,nd⟩:=x;simp only at HPU hq⊢;(gi_wp2);refine⟨trivial,(callsIn_wide.2 HPU.out).mono ?_⟩;rintro e w7 ⟨rfl,hm7,hg7⟩;have hBm:Blk W bm 221 (smapSB_blk HR2.out.1.2).choose:=(smapSB_blk HR2.out.1.2).choose_spec;have hko:=keeps_grownF hg7 hBm;have hgK:KeepIt gb v W w7:=⟨hg7.size,hg7.block gb hglW (fun e=>HNE.out.1 (by simpa using e.symm)),fun g hg=>hg7.block g (by
      obtain⟨A,c,rfl,_,_,h3⟩:=HR2.out.2.2.1;obtain⟨g',off,cur,rfl,hbq,_⟩:=h3 hx0;(cases hg);exact hbq.lt) (fun e=>HNE.out.2 hx0 g hg (by simpa using e.symm))⟩
     have HF:=zH (zA hko (zA hgK (zA (HR2.out.1.put hm7 hg7) (HR2.out.2.2.2.grown hg7 (by have:=HR2.out.2.2.2.size;omega) (fun k hk=>by cases hk;exact HM.out)))));have HF2:=zH (show w7.heap[D]? =some (Obj.deferred (some [])) from hko.same D _ HR4.out rfl);clear hm7 hg7 hko hgK hBm q5;(gi_wp2);refine⟨HF.out.1,HF.out.2.1,⟨⟨?_,zQ hglW HF.out.1.size⟩,?_,?_⟩,HF.out.2.2.2,HF2.out⟩
     ·rw[List.map_append,List.map_cons,List.map_nil,setP_one];exact HF.out.2.2.1
     ·have:=HF.out.2.1.box;have h2:=HR2.out.2.1;unfold Blk at h2⊢;rw[this,h2]
     ·exact HR2.out.2.2.1.kept (fun g cur h _=>HF.out.2.1.row g h)
    case done2=>
     rintro D2 ys W hD2 hzs ⟨⟨⟨hP,hglW⟩,hgW,hLW⟩,hB,hKD⟩ hK;have hz:ys=xs2:=hzs;subst hz;rw[←setP_app] at hP;have q5:=hP.1.cell 0;simp only[qA,qB,qC] at q5;have hsl:=setP_len (L.map Prod.fst++zs.map Prod.fst++ys.map Prod.fst) [];rw[zF,zF,zS,zS,zS] at hsl;simp only[List.length_nil,Nat.zero_add] at hsl;have hLn:=HN.out;have HKE:=zH (keysSB_any W bm _ hP.2 (by omega));have HR3:=zH (zA hP (zA hB (zA hK hKD)));clear hP hB hK hgW hLW hsl hLn hKD;(gi_wp2);rw[roundsIn_succ];(gi_wp2);refine⟨trivial,(callsIn_wide.2 HKE.out).mono ?_⟩;rintro e w8 ⟨u,rfl,ho8,hb8⟩;have hK8:w8.heap[D2]? =some (Obj.deferred (some [])):=(hb8.block D2 (Array.getElem?_eq_some_iff.1 HR3.out.2.2.1).1).trans HR3.out.2.2.1;have hK9:w8.heap[D]? =some (Obj.deferred (some [])):=(hb8.block D (Array.getElem?_eq_some_iff.1 HR3.out.2.2.2).1).trans HR3.out.2.2.2;(obtain⟨hD',hDD⟩:w.heap.size≤D2∧D≠D2:=by omega);have hpe:(setP [] (L.map Prod.fst++zs.map Prod.fst++ys.map Prod.fst)).map Prod.fst=pathsS ((l1++l2).map Prod.fst++(zs.map Prod.fst++ys.map Prod.fst)):=
      (pathsS_eq (pathsS_rise _) (fun q=>by
       rw[pathsS_mem];simp only[List.mem_append,List.mem_map,HL.out.1.mem_iff,or_assoc]))
     have hB8:=HR3.out.2.1.trans (hb8.mono HR3.out.2.1.size);have HF:=zH (zA (own_wide ho8 HR3.out.2.1.size:w8.ownsRow w.heap.size _ _ _ _ _) (zA hB8 hpe));clear ho8 hb8 hpe hB8 q5;(gi_wp2);refine⟨by simp,.inl ⟨_,_,rfl,run_takeDeferred hK8,?_⟩⟩;have hK10:(w8.putObj D2 (.deferred none)).heap[D]? =some (Obj.deferred (some [])):=(World.putObj_heap_other hDD).trans hK9;refine⟨by simp,.inl ⟨_,_,rfl,run_takeDeferred hK10,?_⟩⟩;refine⟨_,results_tmp rfl _ _ _,⟨u,rfl,?_,?_⟩⟩
     ·have h1:=own_ownF HF.out.1 (grownBy_putObj' w8 D2 (.deferred none)) (fun r e=>show∃o:Obj,w8.heap[r]? =some o∧o.isCells=false from(by cases (e:some D2=some r);exact⟨_,hK8,rfl⟩));have h2:=own_ownF h1 (grownBy_putObj' (w8.putObj D2 (.deferred none)) D (.deferred none)) (fun r e=>show∃o:Obj,(w8.putObj D2 (.deferred none)).heap[r]? =some o∧o.isCells=false from(by cases (e:some D=some r);exact⟨_,hK10,rfl⟩));rw[←HF.out.2.2,zS,List.map_map];exact h2
     ·exact(HF.out.2.1.trans (belowK_b (w:=w) (zN _) w8 D2 _ (.deferred none) hD' hK8 rfl rfl)).trans (belowK_b (w:=w) (zN _) _ D _ (.deferred none) hD0 hK10 rfl rfl)
    case stop2=>
     rintro D c pre W hD hSp h;exact h.elim
   case stop=>
    rintro D c pre W hD hSp h;exact h.elim
end Go.Proofs.YtnpehjgnplaabaaGreatDoor
namespace Go.Proofs.YtnpehjgnplaabaaGreatDoor
open Go.RowKit
open Sw
def Boxes4 (w:World) (was:Pr) (had:Bool) (a b:Nd) (W:World):Prop:=
 Blk W w.heap.size 61 was.c∧Blk W (w.heap.size+1) 4 #[.bool had]∧Blk W (w.heap.size+1+1) 57 a.c∧Blk W (w.heap.size+1+1+1) 57 b.c∧Below w.heap.size w W
theorem Boxes4.keep {w:World}{was:Pr}{had:Bool}{a b:Nd}{W W':World}(h:Boxes4 w was had a b W)(hb:Below W.heap.size W W'):Boxes4 w was had a b W':=
 ⟨h.1.below hb h.1.lt,h.2.1.below hb h.2.1.lt,h.2.2.1.below hb h.2.2.1.lt,h.2.2.2.1.below hb h.2.2.2.1.lt,h.2.2.2.2.trans (hb.mono h.2.2.2.2.size)⟩
theorem Boxes4.new (w:World)(was:Pr)(had:Bool)(a b:Nd):Boxes4 w was had a b ((((w.alloc (.cells was.c 61)).alloc (.cells #[.bool had] 4)).alloc (.cells a.c 57)).alloc (.cells b.c 57)):=
 ⟨(blk_fst _ _ _ _).alloc _|>.alloc _,(blk_mid _ _ _ _ _).alloc _,(blk_trd _ _ _ _ _).alloc _,by
  have h:=blk_trd (w.alloc (.cells was.c 61)) (.cells #[.bool had] 4) (.cells a.c 57) b.c 57;rw[World.size_alloc] at h;exact h,(((((zR _ _).alloc (zN _) _).alloc (by simp) _).alloc (by simp;omega) _).alloc (by simp;omega) _)⟩
theorem decide_any (w:World)(was:Pr)(had:Bool)(a b:Nd)(ha:a.data.size≤maxLen)(hb:b.data.size≤maxLen):
  Calls Tryz.prog 93 #[.agg was.c,.bool had,.agg a.c,.agg b.c] w fun e w'=>e= .returned (.tuple #[.int .i64 (decideN was had a b).1,.int .i64 (decideN was had a b).2])∧Below w.heap.size w w':=by
 have hSA:=fun W=>nodeSame_any W a b ha hb
 have hT1:=fun W (h:Boxes4 w was had a b W)=>still_any W w.heap.size (w.heap.size+1) was had a ha h.1 h.2.1
 have hT2:=fun W (h:Boxes4 w was had a b W)=>still_any W w.heap.size (w.heap.size+1) was had b hb h.1 h.2.1
 have hCL:=fun W=>class_any W a b
 have hB0:=Boxes4.new w was had a b;have hdec:decideN was had a b=if decide (printN a=printN b)=true then(0,0) else if decide (stateN was had a=0)=true then(1,0) else if decide (stateN was had b=0)=true then(2,0) else(3,classN a b):=by
  unfold decideN;simp only[decide_eq_true_eq]
 rw[hdec];clear hdec;generalize decide (printN a=printN b)=r1 at*;generalize decide (stateN was had a=0)=r2 at*;generalize decide (stateN was had b=0)=r3 at*;generalize classN a b=cl at*;have HB0:=zH hB0;clear hB0;have HSA:=zH hSA;clear hSA;have HT1:=zH hT1;clear hT1;have HT2:=zH hT2;clear hT2;have HCL:=zH hCL;clear hCL;unfold Pr.c Nd.c at*;cases r1 with
 | true=>
  rw[if_pos rfl];go_enter Tryz.func93,Tryz.ntmps93
  go_wp2_with fail
  refine(HSA.out _).mono ?_;rintro e w1 ⟨rfl,hb1⟩;have HK1:=zH (HB0.out.keep hb1);go_wp2_with fail
  go_ret2
  exact⟨rfl,HK1.out.2.2.2.2⟩
 | false=>
  rw[if_neg (by simp)];cases r2 with
  | true=>
   rw[if_pos rfl];(go_enter Tryz.func93,Tryz.ntmps93);(go_wp2_with fail);refine(HSA.out _).mono ?_;rintro e w1 ⟨rfl,hb1⟩;have HK1:=zH (HB0.out.keep hb1);obtain⟨a0,a1,a2,a3⟩:=zc4 HK1.out.2.2.1;obtain⟨b0,b1,b2,b3⟩:=zc4 HK1.out.2.2.2.1;unfold Nd.c at a0 a1 a2 a3 b0 b1 b2 b3;(simp at a0 a1 a2 a3 b0 b1 b2 b3);(go_wp2_with fail);refine(HT1.out _ HK1.out).mono ?_;rintro e w2 ⟨rfl,hb2⟩;have HK2:=zH (HK1.out.keep hb2);(go_wp2_with fail);(go_ret2);exact⟨rfl,HK2.out.2.2.2.2⟩
  | false=>
   rw[if_neg (by simp)];cases r3 with
   | true=>
    rw[if_pos rfl];(go_enter Tryz.func93,Tryz.ntmps93);(go_wp2_with fail);refine(HSA.out _).mono ?_;rintro e w1 ⟨rfl,hb1⟩;have HK1:=zH (HB0.out.keep hb1);obtain⟨a0,a1,a2,a3⟩:=zc4 HK1.out.2.2.1;obtain⟨b0,b1,b2,b3⟩:=zc4 HK1.out.2.2.2.1;unfold Nd.c at a0 a1 a2 a3 b0 b1 b2 b3;(simp at a0 a1 a2 a3 b0 b1 b2 b3);(go_wp2_with fail);refine(HT1.out _ HK1.out).mono ?_;rintro e w2 ⟨rfl,hb2⟩;have HK2:=zH (HK1.out.keep hb2);clear a0 a1 a2 a3 b0 b1 b2 b3;obtain⟨a0,a1,a2,a3⟩:=zc4 HK2.out.2.2.1;obtain⟨b0,b1,b2,b3⟩:=zc4 HK2.out.2.2.2.1;unfold Nd.c at a0 a1 a2 a3 b0 b1 b2 b3;(simp at a0 a1 a2 a3 b0 b1 b2 b3);(go_wp2_with fail);refine(HT2.out _ HK2.out).mono ?_;rintro e w3 ⟨rfl,hb3⟩;have HK3:=zH (HK2.out.keep hb3);clear a0 a1 a2 a3 b0 b1 b2 b3;(go_wp2_with fail);(go_ret2);exact⟨rfl,HK3.out.2.2.2.2⟩
   | false=>
    rw[if_neg (by simp)];(go_enter Tryz.func93,Tryz.ntmps93);(go_wp2_with fail);refine(HSA.out _).mono ?_;rintro e w1 ⟨rfl,hb1⟩;have HK1:=zH (HB0.out.keep hb1);obtain⟨a0,a1,a2,a3⟩:=zc4 HK1.out.2.2.1;obtain⟨b0,b1,b2,b3⟩:=zc4 HK1.out.2.2.2.1;unfold Nd.c at a0 a1 a2 a3 b0 b1 b2 b3;(simp at a0 a1 a2 a3 b0 b1 b2 b3);(go_wp2_with fail);refine(HT1.out _ HK1.out).mono ?_;rintro e w2 ⟨rfl,hb2⟩;have HK2:=zH (HK1.out.keep hb2);clear a0 a1 a2 a3 b0 b1 b2 b3;obtain⟨a0,a1,a2,a3⟩:=zc4 HK2.out.2.2.1;obtain⟨b0,b1,b2,b3⟩:=zc4 HK2.out.2.2.2.1;unfold Nd.c at a0 a1 a2 a3 b0 b1 b2 b3;(simp at a0 a1 a2 a3 b0 b1 b2 b3);(go_wp2_with fail);refine(HT2.out _ HK2.out).mono ?_;rintro e w3 ⟨rfl,hb3⟩;have HK3:=zH (HK2.out.keep hb3);clear a0 a1 a2 a3 b0 b1 b2 b3;obtain⟨a0,a1,a2,a3⟩:=zc4 HK3.out.2.2.1;obtain⟨b0,b1,b2,b3⟩:=zc4 HK3.out.2.2.2.1;unfold Nd.c at a0 a1 a2 a3 b0 b1 b2 b3;(simp at a0 a1 a2 a3 b0 b1 b2 b3);(go_wp2_with fail);refine(HCL.out _).mono ?_;rintro e w4 ⟨rfl,hb4⟩;(go_wp2_with fail);(go_ret2);exact⟨rfl,(HK3.out.keep hb4).2.2.2.2⟩
def Boxes3 (w:World) (was:Pr) (a b:Nd) (W:World):Prop:=
 Blk W w.heap.size 61 was.c∧Blk W (w.heap.size+1) 57 a.c∧Blk W (w.heap.size+1+1) 57 b.c∧Below w.heap.size w W
theorem Boxes3.keep {w:World}{was:Pr}{a b:Nd}(W W':World)(h:Boxes3 w was a b W)(hb:Below W.heap.size W W'):Boxes3 w was a b W':=
 ⟨h.1.below hb h.1.lt,h.2.1.below hb h.2.1.lt,h.2.2.1.below hb h.2.2.1.lt,h.2.2.2.trans (hb.mono h.2.2.2.size)⟩
theorem Boxes3.new (w:World)(was:Pr)(a b:Nd):Boxes3 w was a b (((w.alloc (.cells was.c 61)).alloc (.cells a.c 57)).alloc (.cells b.c 57)):=
 ⟨(blk_fst _ _ _ _).alloc _,blk_mid _ _ _ _ _,blk_trd _ _ _ _ _,((((zR _ _).alloc (zN _) _).alloc (by simp) _).alloc (by simp;omega) _)⟩
theorem refDecide_any (w:World)(was:Pr)(had:Bool)(a b:Nd)(ha:a.data.size≤maxLen)(hb:b.data.size≤maxLen):
  Calls Tryz.prog 71 #[.agg was.c,.bool had,.agg a.c,.agg b.c] w fun e w'=>e= .returned (.tuple #[.int .i64 (decideN was had a b).1,.int .i64 (decideN was had a b).2])∧Below w.heap.size w w':=by
 have hA:=fun W=>refPrint_any W a ha
 have hB:=fun W=>refPrint_any W b hb
 have hEQ:=fun W=>eq_print (printN a) (printN b) W
 have hT1:=fun W=>refState_any W was had a ha
 have hT2:=fun W=>refState_any W was had b hb
 have hCL:=fun W=>refClass_any W a b
 have hB0:=Boxes3.new w was a b;have hdec:decideN was had a b=if decide (printN a=printN b)=true then(0,0) else if stateN was had a=0 then(1,0) else if stateN was had b=0 then(2,0) else(3,classN a b):=by
  unfold decideN;simp only[decide_eq_true_eq]
 rw[hdec];clear hdec;generalize printN a=p at*;generalize printN b=q at*;generalize decide (p=q)=r1 at*;generalize stateN was had a=s1 at*;generalize stateN was had b=s2 at*;generalize classN a b=cl at*;have HB0:=zH hB0;clear hB0;have q0:∀x:Held (Boxes3 w was a b),(HeldW x).cell? ⟨w.heap.size,0,none⟩=some (.int .i64 was.kind):=fun x=>((HeldW_spec x).1).cell 0
 have q1:∀x:Held (Boxes3 w was a b),(HeldW x).cell? ⟨w.heap.size,1,none⟩=some (.int .i64 was.mode):=fun x=>((HeldW_spec x).1).cell 1
 have q2:∀x:Held (Boxes3 w was a b),(HeldW x).cell? ⟨w.heap.size,2,none⟩=some (.int .u32 was.time):=fun x=>((HeldW_spec x).1).cell 2
 have q3:∀x:Held (Boxes3 w was a b),(HeldW x).cell? ⟨w.heap.size,3,none⟩=some (.int .i64 was.size):=fun x=>((HeldW_spec x).1).cell 3
 have q4:∀x:Held (Boxes3 w was a b),(HeldW x).cell? ⟨w.heap.size,4,none⟩=some (.int .u32 was.sum):=fun x=>((HeldW_spec x).1).cell 4
 have m0:∀x:Held (Boxes3 w was a b),(HeldW x).cell? ⟨w.heap.size+1,0,none⟩=some (.int .i64 a.kind):=fun x=>((HeldW_spec x).2.1).cell 0
 have m1:∀x:Held (Boxes3 w was a b),(HeldW x).cell? ⟨w.heap.size+1,1,none⟩=some (.int .i64 a.mode):=fun x=>((HeldW_spec x).2.1).cell 1
 have m2:∀x:Held (Boxes3 w was a b),(HeldW x).cell? ⟨w.heap.size+1,2,none⟩=some (.int .u32 a.time):=fun x=>((HeldW_spec x).2.1).cell 2
 have m3:∀x:Held (Boxes3 w was a b),(HeldW x).cell? ⟨w.heap.size+1,3,none⟩=some (.string a.data):=fun x=>((HeldW_spec x).2.1).cell 3
 have n0:∀x:Held (Boxes3 w was a b),(HeldW x).cell? ⟨w.heap.size+1+1,0,none⟩=some (.int .i64 b.kind):=fun x=>((HeldW_spec x).2.2.1).cell 0
 have n1:∀x:Held (Boxes3 w was a b),(HeldW x).cell? ⟨w.heap.size+1+1,1,none⟩=some (.int .i64 b.mode):=fun x=>((HeldW_spec x).2.2.1).cell 1
 have n2:∀x:Held (Boxes3 w was a b),(HeldW x).cell? ⟨w.heap.size+1+1,2,none⟩=some (.int .u32 b.time):=fun x=>((HeldW_spec x).2.2.1).cell 2
 have n3:∀x:Held (Boxes3 w was a b),(HeldW x).cell? ⟨w.heap.size+1+1,3,none⟩=some (.string b.data):=fun x=>((HeldW_spec x).2.2.1).cell 3
 haveI:Nonempty (Held (Boxes3 w was a b)):=held_some HB0.out
 unfold Nd.c Pr.c at*;have HA:=zH hA;clear hA;have HB:=zH hB;clear hB;have HT1:=zH hT1;clear hT1;have HT2:=zH hT2;clear hT2;have HCL:=zH hCL;clear hCL;cases r1 with
 | true=>
  rw[if_pos rfl];go_enter Tryz.func71,Tryz.ntmps71
  go_wp2_with fail
  refine wp_region_class (Boxes3 w was a b) (by kernel_rfl) (by kernel_rfl) (by have h:=HB0.out;exact⟨h.1,h.2.1,h.2.2.1,h.2.2.2.drew⟩) ?_;repeat (go_big_quiet_step (first | with_reducible exact held_below Boxes3.keep (HA.out _) | with_reducible exact held_below Boxes3.keep (HB.out _)))
  refine wpQuiet_nil ?_;rintro _ ⟨nn,rfl⟩;have HK1:=zH (HeldW_spec nn);generalize HeldW nn=w1 at*;go_wp2_with fail
  go_ret2
  exact⟨rfl,HK1.out.2.2.2⟩
 | false=>
  rw[if_neg (by simp)];by_cases hs1:s1=0
  ·have hzs1:(s1==0)=true:=by rw[beq_iff_eq];exact hs1
   rw[if_pos hs1];clear hs1;(go_enter Tryz.func71,Tryz.ntmps71);(go_wp2_with fail);refine wp_region_class (Boxes3 w was a b) (by kernel_rfl) (by kernel_rfl) (by have h:=HB0.out;exact⟨h.1,h.2.1,h.2.2.1,h.2.2.2.drew⟩) ?_;(repeat (go_big_quiet_step (first | with_reducible exact held_below Boxes3.keep (HA.out _) | with_reducible exact held_below Boxes3.keep (HB.out _))));refine wpQuiet_nil ?_;rintro _ ⟨nn,rfl⟩;have HK1:=zH (HeldW_spec nn);generalize HeldW nn=w1 at*;obtain⟨c0,c1,c2,c3,c4⟩:=zc5 HK1.out.1;obtain⟨a0,a1,a2,a3⟩:=zc4 HK1.out.2.1;obtain⟨b0,b1,b2,b3⟩:=zc4 HK1.out.2.2.1;unfold Pr.c at c0 c1 c2 c3 c4;unfold Nd.c at a0 a1 a2 a3 b0 b1 b2 b3;(simp at c0 c1 c2 c3 c4 a0 a1 a2 a3 b0 b1 b2 b3);(go_wp2_with fail);refine(HT1.out _).mono ?_;rintro e w2 ⟨rfl,hb2⟩;have HK2:=zH (HK1.out.keep _ _ hb2);clear c0 c1 c2 c3 c4 a0 a1 a2 a3 b0 b1 b2 b3;(go_wp2_with fail);(go_ret2);exact⟨rfl,HK2.out.2.2.2⟩
  ·have hzs1:(s1==0)=false:=by rw[zB];exact hs1
   rw[if_neg hs1];clear hs1;by_cases hs2:s2=0
   ·(have hzs2:(s2==0)=true:=by rw[beq_iff_eq];exact hs2);rw[if_pos hs2];clear hs2;(go_enter Tryz.func71,Tryz.ntmps71);(go_wp2_with fail);refine wp_region_class (Boxes3 w was a b) (by kernel_rfl) (by kernel_rfl) (by have h:=HB0.out;exact⟨h.1,h.2.1,h.2.2.1,h.2.2.2.drew⟩) ?_;(repeat (go_big_quiet_step (first | with_reducible exact held_below Boxes3.keep (HA.out _) | with_reducible exact held_below Boxes3.keep (HB.out _))));refine wpQuiet_nil ?_;rintro _ ⟨nn,rfl⟩;have HK1:=zH (HeldW_spec nn);generalize HeldW nn=w1 at*;obtain⟨c0,c1,c2,c3,c4⟩:=zc5 HK1.out.1;obtain⟨a0,a1,a2,a3⟩:=zc4 HK1.out.2.1;obtain⟨b0,b1,b2,b3⟩:=zc4 HK1.out.2.2.1;unfold Pr.c at c0 c1 c2 c3 c4;unfold Nd.c at a0 a1 a2 a3 b0 b1 b2 b3;(simp at c0 c1 c2 c3 c4 a0 a1 a2 a3 b0 b1 b2 b3);(go_wp2_with fail);refine(HT1.out _).mono ?_;rintro e w2 ⟨rfl,hb2⟩;have HK2:=zH (HK1.out.keep _ _ hb2);clear c0 c1 c2 c3 c4 a0 a1 a2 a3 b0 b1 b2 b3;obtain⟨c0,c1,c2,c3,c4⟩:=zc5 HK2.out.1;obtain⟨a0,a1,a2,a3⟩:=zc4 HK2.out.2.1;obtain⟨b0,b1,b2,b3⟩:=zc4 HK2.out.2.2.1;unfold Pr.c at c0 c1 c2 c3 c4;unfold Nd.c at a0 a1 a2 a3 b0 b1 b2 b3;(simp at c0 c1 c2 c3 c4 a0 a1 a2 a3 b0 b1 b2 b3);(go_wp2_with fail);refine(HT2.out _).mono ?_;rintro e w3 ⟨rfl,hb3⟩;have HK3:=zH (HK2.out.keep _ _ hb3);clear c0 c1 c2 c3 c4 a0 a1 a2 a3 b0 b1 b2 b3;(go_wp2_with fail);(go_ret2);exact⟨rfl,HK3.out.2.2.2⟩
   ·(have hzs2:(s2==0)=false:=by rw[zB];exact hs2);rw[if_neg hs2];clear hs2;(go_enter Tryz.func71,Tryz.ntmps71);(go_wp2_with fail);refine wp_region_class (Boxes3 w was a b) (by kernel_rfl) (by kernel_rfl) (by have h:=HB0.out;exact⟨h.1,h.2.1,h.2.2.1,h.2.2.2.drew⟩) ?_;(repeat (go_big_quiet_step (first | with_reducible exact held_below Boxes3.keep (HA.out _) | with_reducible exact held_below Boxes3.keep (HB.out _))));refine wpQuiet_nil ?_;rintro _ ⟨nn,rfl⟩;have HK1:=zH (HeldW_spec nn);generalize HeldW nn=w1 at*;obtain⟨c0,c1,c2,c3,c4⟩:=zc5 HK1.out.1;obtain⟨a0,a1,a2,a3⟩:=zc4 HK1.out.2.1;obtain⟨b0,b1,b2,b3⟩:=zc4 HK1.out.2.2.1;unfold Pr.c at c0 c1 c2 c3 c4;unfold Nd.c at a0 a1 a2 a3 b0 b1 b2 b3;(simp at c0 c1 c2 c3 c4 a0 a1 a2 a3 b0 b1 b2 b3);(go_wp2_with fail);refine(HT1.out _).mono ?_;rintro e w2 ⟨rfl,hb2⟩;have HK2:=zH (HK1.out.keep _ _ hb2);clear c0 c1 c2 c3 c4 a0 a1 a2 a3 b0 b1 b2 b3;obtain⟨c0,c1,c2,c3,c4⟩:=zc5 HK2.out.1;obtain⟨a0,a1,a2,a3⟩:=zc4 HK2.out.2.1;obtain⟨b0,b1,b2,b3⟩:=zc4 HK2.out.2.2.1;unfold Pr.c at c0 c1 c2 c3 c4;unfold Nd.c at a0 a1 a2 a3 b0 b1 b2 b3;(simp at c0 c1 c2 c3 c4 a0 a1 a2 a3 b0 b1 b2 b3);(go_wp2_with fail);refine(HT2.out _).mono ?_;rintro e w3 ⟨rfl,hb3⟩;have HK3:=zH (HK2.out.keep _ _ hb3);clear c0 c1 c2 c3 c4 a0 a1 a2 a3 b0 b1 b2 b3;obtain⟨c0,c1,c2,c3,c4⟩:=zc5 HK3.out.1;obtain⟨a0,a1,a2,a3⟩:=zc4 HK3.out.2.1;obtain⟨b0,b1,b2,b3⟩:=zc4 HK3.out.2.2.1;unfold Pr.c at c0 c1 c2 c3 c4;unfold Nd.c at a0 a1 a2 a3 b0 b1 b2 b3;(simp at c0 c1 c2 c3 c4 a0 a1 a2 a3 b0 b1 b2 b3);(go_wp2_with fail);refine(HCL.out _).mono ?_;rintro e w4 ⟨rfl,hb4⟩;have HK4:=zH (HK3.out.keep _ _ hb4);clear c0 c1 c2 c3 c4 a0 a1 a2 a3 b0 b1 b2 b3;(go_wp2_with fail);(go_ret2);exact⟨rfl,HK4.out.2.2.2⟩
end Go.Proofs.YtnpehjgnplaabaaGreatDoor
namespace Sw
open Go
theorem getT_size {xs:List NE}{p:ByteArray}{n:Nat}(hu:Up ordS xs)(h:∀e∈xs,e.2.data.size≤n):(getT xs p).data.size≤n:=by
 rcases Classical.em (∃e∈xs,e.1=p) with ⟨e,he,rfl⟩ | hn
 ·rw[getT_in hu he];exact h e he
 ·rw[getT_out hu (fun e he h=>hn ⟨e,he,h⟩)];exact Nat.zero_le _
end Sw
namespace Go.Proofs.YtnpehjgnplaabaaGreatDoor
open Go Go.RowKit
open Sw
end Go.Proofs.YtnpehjgnplaabaaGreatDoor
namespace Sw
open Go Go.RowKit
structure KeepR (B0:Nat) (ts:List TypeId) (A B:World):Prop where
 low:Below B0 A B
 row:∀g t cs,Blk A g t cs→¬t∈ts→Blk B g t cs
theorem KeepR.trans {B0:Nat}{ts:List TypeId}{A B C:World}(h:KeepR B0 ts A B)(k:KeepR B0 ts B C):KeepR B0 ts A C:=⟨h.low.trans k.low,fun g t cs hg ht=>k.row g t cs (h.row g t cs hg ht) ht⟩
theorem KeepR.refl (B0:Nat)(ts:List TypeId)(A:World):KeepR B0 ts A A:=⟨zR _ _,fun _ _ _ h _=>h⟩
theorem KeepR.below {B0:Nat}{ts:List TypeId}{A B:World}(h:Below A.heap.size A B)(hB:B0≤A.heap.size):KeepR B0 ts A B:=⟨h.mono hB,fun g t cs hg _=>hg.below h hg.lt⟩
theorem keepR_b {B0:Nat}{ts:List TypeId}{W:World}{l:Nat}{o:Obj}(o':Obj)(hB:B0≤l)(h:W.heap[l]? =some o)(ho:o.isCells=false):KeepR B0 ts W (W.putObj l o'):=by
 have hl:B0≤W.heap.size:=by have:=(Array.getElem?_eq_some_iff.1 h).1;omega
 have hg:=grownBy_putObj' W l o';refine⟨(zR B0 W).grown hg hl (fun k e=>by cases e;exact hB),fun g t cs hBl _=>hBl.grown hg (fun e=>?_)⟩;have e':g=l:=by simpa using e
 subst e';unfold Blk at hBl;rw[h] at hBl;cases hBl
 cases ho
theorem own_keptR {B0:Nat}{ts:List TypeId}{A B:World}{base:Nat}{e:TypeId}{size n:Nat}{v:Value}{xs:List Value}(h:A.ownsRow base e size v n xs)(hk:KeepR B0 ts A B)(he:¬e∈ts):B.ownsRow base e size v n xs:=by
 rcases h.2 with ⟨rfl,h0⟩ | ⟨g,cap,cur,rfl,hb,hh,h1,h2,h3,h4⟩
 ·exact⟨h.1,.inl ⟨rfl,h0⟩⟩
 ·exact⟨h.1,.inr ⟨g,cap,cur,rfl,hb,hk.row _ _ _ hh he,h1,h2,h3,h4⟩⟩
def eCR (s:StR):List Value:=[.string s.path,.int .i64 s.verdict,.int .i64 s.cls,.int .i64 s.left.kind,.int .i64 s.left.mode,.int .u32 s.left.time,.string s.left.data,.int .i64 s.right.kind,.int .i64 s.right.mode,.int .u32 s.right.time,.string s.right.data]
theorem eCR_len (s:StR):(eCR s).length=11:=rfl
end Sw
namespace Go.Proofs.YtnpehjgnplaabaaGreatDoor
open Go Go.RowKit
open Sw
theorem TreeAt.keptR {B0:Nat}{ts:List TypeId}{W W':World}{bt bm:Nat}{X:List NE}(h:TreeAt W bt bm X)(hk:KeepR B0 ts W W')(h1:¬110∈ts)(h2:¬139∈ts)(h3:¬146∈ts):TreeAt W' bt bm X:=by
 refine⟨hk.row _ _ _ h.box h1,?_⟩;obtain⟨v,hb,ho⟩:=h.map.row;exact⟨⟨v,hk.row _ _ _ hb h2,own_keptR ho hk h3⟩,h.map.up,h.map.ok⟩
end Go.Proofs.YtnpehjgnplaabaaGreatDoor
namespace Sw
open Go
inductive PermT where
 | nil:PermT
 | first:Nat→PermT→PermT
 | forced:Nat→PermT→PermT
 | two:Nat→PermT→Nat→PermT→PermT
inductive MixT where
 | nil:MixT
 | first:Oper→MixT→MixT
 | forced:Oper→MixT→MixT
 | two:Oper→MixT→Oper→MixT→MixT
def PermT.depth:PermT→Nat
 | .nil=>0
 | .first _ r=>r.depth+1
 | .forced _ r=>r.depth+1
 | .two _ r _ _=>r.depth+1
def permBT (md:Region.Mode) (ops:Array Oper):PermT→Array Bool→Bool
 | .nil,listed=>(Region.ready md ops listed).isEmpty
 | .first i r,listed=>(Region.ready md ops listed).contains i&&Region.free md ops listed i&&permBT md ops r (listed.setIfInBounds i true)
 | .forced i r,listed=>decide (Region.ready md ops listed=[i])&&permBT md ops r (listed.setIfInBounds i true)
 | .two i r j s,listed=>decide (Region.ready md ops listed=[i,j])&&decide (s.depth=r.depth)&&permBT md ops r (listed.setIfInBounds i true)&&permBT md ops s (listed.setIfInBounds j true)
def pickT (ops:Array Oper):PermT→MixT
 | .nil=> .nil
 | .first i r=>match ops[i]?with
  | some o=> .first o (pickT ops r)
  | none=> .nil
 | .forced i r=>match ops[i]?with
  | some o=> .forced o (pickT ops r)
  | none=> .nil
 | .two i r j s=>match ops[i]?,ops[j]?with
  | some o,some p=> .two o (pickT ops r) p (pickT ops s)
  | _,_=> .nil
def mixT (P:Program) (ops:Array Oper) (C:World→Prop) (Q:Exit→Act→World→Prop):MixT→Act→World→Prop
 | .nil,a,w=>C w∧Q .normal a w
 | .first o r,a,w=>∃A1,(∀m:Held C,wpStill P ops (HeldW m) (fun a'=>a'=A1) [o] a)∧C w∧mixT P ops C Q r A1 w
 | .forced o r,a,w=>C w∧wpList P ops (OnlyN fun _ a' w'=>mixT P ops C Q r a' w') [o] a w
 | .two o r p s,a,w=>C w∧wpList P ops (OnlyN fun _ a' w'=>mixT P ops C Q r a' w') [o] a w∧wpList P ops (OnlyN fun _ a' w'=>mixT P ops C Q s a' w') [p] a w
section
variable {P:Program} {ops:Array Oper} {md:Region.Mode} {Q:Exit→Act→World→Prop} {C:World→Prop}
theorem wpOp_of_list {j:Nat}{o:Oper}(ho:ops[j]? =some o){K K':Act→World→Prop}{a:Act}{w:World}(hgo:∀a' w',K a' w'→K' a' w')(hw:wpList P ops (OnlyN fun _ a' w'=>K a' w') [o] a w):wpOp P ops (OnlyN Q) j K' a w:=by
 unfold wpOp;simp only[ho];simp only[wpList] at hw;split
 ·rename_i hwt
  rw[if_pos hwt] at hw;rcases hw with hw | hw
  ·left
   unfold Oper.wp at*;generalize (execOp a.eval o).run P w=res at*;cases res with
   | ok n w'=>
    cases n<;>simp only[Oper.upon] at hw⊢
    case value u=>exact hgo _ _ hw
    case skip=>exact hgo _ _ hw
    case defer d=>exact hgo _ _ hw
    case enter f args=>exact Calls.mono hw (fun e w'' he=>by
     cases e
     ·exact hgo _ _ he
     ·exact he
     ·exact absurd he OnlyN.out)
    case row row args=>exact Rows.mono hw (fun v w'' he=>hgo _ _ he)
   | halt x w'=>cases x<;>simp only[Oper.upon] at hw⊢<;>exact hw
  ·exact absurd hw.2 OnlyN.out
 ·rename_i hwt
  rw[if_neg hwt] at hw;exact hgo _ _ hw
theorem anyC_of_mixT (hs:Region.noSelect ops=true):∀(perm:PermT) (listed:Array Bool) (a:Act) (w:World),permBT md ops perm listed=true→mixT P ops C Q (pickT ops perm) a w→anyC P md ops C Q perm.depth listed a w
 | .nil,listed,a,w,hB,h=>⟨h.1,by simpa [permBT] using hB,h.2⟩
 | .first i r,listed,a,w,hB,h=>by
  simp only[permBT,Bool.and_eq_true] at hB;obtain⟨⟨hr,hf⟩,hB'⟩:=hB;have hr':i∈Region.ready md ops listed:=by simpa using hr
  obtain⟨_,o,ho,_⟩:=mem_ready.1 hr';simp only[pickT,ho] at h;obtain⟨A1,hv,hC,hm⟩:=h;have hst:∀W,C W→∃v',YieldsAt P ops W o v' a∧a.put o.dst v'=A1:=fun W hW=>by
   (have h1:stOp P ops W i (fun a'=>a'=A1) a:=by unfold stOp;simp only[ho];exact hv ⟨W,hW⟩);exact yieldsAt_of_stOp ho h1
  obtain⟨v,_,rfl⟩:=hst w hC;exact anyC_first ho (Region.noSelect_spec hs) r.depth listed a w (Region.free_spec ho hf) hr' hC hst (anyC_of_mixT hs r _ _ w hB' hm)
 | .forced i r,listed,a,w,hB,h=>by
  simp only[permBT,Bool.and_eq_true,decide_eq_true_eq] at hB;obtain⟨hr,hB'⟩:=hB;have hr':i∈Region.ready md ops listed:=by rw[hr];simp
  obtain⟨_,o,ho,_⟩:=mem_ready.1 hr';simp only[pickT,ho] at h;obtain⟨hC,hw⟩:=h;refine⟨hC,by rw[hr];simp,fun j hj=>?_⟩;rw[hr] at hj;obtain rfl:j=i:=by simpa using hj
  exact wpOp_of_list ho (fun a' w' hm=>anyC_of_mixT hs r _ a' w' hB' hm) hw
 | .two i r j s,listed,a,w,hB,h=>by
  simp only[permBT,Bool.and_eq_true,decide_eq_true_eq] at hB;obtain⟨⟨⟨hr,hd⟩,hB1⟩,hB2⟩:=hB;have hri:i∈Region.ready md ops listed:=by rw[hr];simp
  have hrj:j∈Region.ready md ops listed:=by rw[hr];simp
  obtain⟨_,o,ho,_⟩:=mem_ready.1 hri;obtain⟨_,p,hp,_⟩:=mem_ready.1 hrj;simp only[pickT,ho,hp] at h;obtain⟨hC,hw1,hw2⟩:=h;refine⟨hC,by rw[hr];simp,fun k hk=>?_⟩;rw[hr] at hk;rcases List.mem_cons.1 hk with rfl | hk
  ·exact wpOp_of_list ho (fun a' w' hm=>anyC_of_mixT hs r _ a' w' hB1 hm) hw1
  ·obtain rfl:k=j:=by simpa using hk
   exact wpOp_of_list hp (fun a' w' hm=>by
    have:=anyC_of_mixT hs s (listed.setIfInBounds k true) a' w' hB2 hm;rw[hd] at this;exact this) hw2
end
theorem wp_region_mixT {P:Program}(C:World→Prop)(perm:PermT){id:Nat}{Q:Exit→Act→World→Prop}{a:Act}{w:World}{l:List Oper}(hm:P.follows .mixedOrders=true)
  (hB:(Region.noSelect l.toArray&&decide (perm.depth=l.length)&&permBT .any l.toArray perm (Array.replicate l.length false))=true)
  (h:mixT P l.toArray C Q (pickT l.toArray perm) a w.drew):(Code.region id l.toArray true).wp P Q a w:=by
 simp only[Bool.and_eq_true,decide_eq_true_eq] at hB;obtain⟨⟨hs,hl⟩,hp⟩:=hB;refine Code.wp_mono OnlyN.imp (wp_region_any hm (wpAny_of_anyC (C:=C) _ _ _ _ ?_));have:=anyC_of_mixT (C:=C) (Q:=Q) hs perm (Array.replicate l.length false) a w.drew hp h;rw[hl] at this
 simpa using this
section
variable {P:Program} {ops:Array Oper} {C:World→Prop} {Q:Exit→Act→World→Prop} {o p:Oper} {r s:MixT} {a:Act} {w:World}
theorem mixT_nil (hC:C w)(h:Q .normal a w):mixT P ops C Q .nil a w:=⟨hC,h⟩
theorem mixT_first (h:∃A1,(∀m:Held C,wpQuiet P ops (fun w'=>∃_:Unit,w'=HeldW m) (fun a'=>a'=A1) [o] a)∧C w∧mixT P ops C Q r A1 w):mixT P ops C Q (.first o r) a w:=by
 obtain⟨A1,h1,h2,h3⟩:=h;exact⟨A1,fun m=>still_of_quiet (h1 m),h2,h3⟩
theorem mixT_forced (hC:C w)(h:wpList P ops (OnlyN fun _ a' w'=>mixT P ops C Q r a' w') [o] a w):mixT P ops C Q (.forced o r) a w:=⟨hC,h⟩
theorem mixT_two (hC:C w)(h1:wpList P ops (OnlyN fun _ a' w'=>mixT P ops C Q r a' w') [o] a w)(h2:wpList P ops (OnlyN fun _ a' w'=>mixT P ops C Q s a' w') [p] a w):mixT P ops C Q (.two o r p s) a w:=⟨hC,h1,h2⟩
end
end Sw
namespace Go.Proofs.YtnpehjgnplaabaaGreatDoor
open Go Go.RowKit Go.Shelf
open Sw
attribute [local go_sem] Oper.semAt_some
structure EachAt (W:World) (gB gl gr bt bm bt2 bm2:Nat) (u1 u2:Value) (xs ys:List NE):Prop where
 b0:Blk W gB 24 #[u1,u2]
 b1:Blk W gl 29 #[.pointer (some ⟨bt,0,none⟩)]
 b2:Blk W gr 29 #[.pointer (some ⟨bt2,0,none⟩)]
 t1:TreeAt W bt bm xs
 t2:TreeAt W bt2 bm2 ys
section
variable {W W':World} {gB gl gr bt bm bt2 bm2 B0:Nat} {u1 u2:Value} {xs ys:List NE}
theorem EachAt.below (h:EachAt W gB gl gr bt bm bt2 bm2 u1 u2 xs ys)(hb:Below W.heap.size W W'):EachAt W' gB gl gr bt bm bt2 bm2 u1 u2 xs ys:=
 ⟨h.b0.below hb h.b0.lt,h.b1.below hb h.b1.lt,h.b2.below hb h.b2.lt,h.t1.below hb,h.t2.below hb⟩
end
theorem flat_sR:∀(l:List ByteArray),l.flatMap sE=l.map Value.string
 | []=>rfl
 | x::l=>by rw[List.flatMap_cons,flat_sR l];rfl
theorem reconEach_any (w:World)(u1 u2:Value)(bt bt2:Nat)(A1 A2:Option Addr)(n1 c1 n2 c2:Nat)(e1:u1= .slice A1 n1 c1)(e2:u2= .slice A2 n2 c2):
  Calls Tryz.prog 55 #[.agg #[u1,u2],.pointer (some ⟨bt,0,none⟩),.pointer (some ⟨bt2,0,none⟩)] w fun e w'=>
   e= .returned (.func (.func 91) #[] #[.pointer (some ⟨w.heap.size,0,none⟩),.pointer (some ⟨w.heap.size+1,0,none⟩),.pointer (some ⟨w.heap.size+1+1,0,none⟩)])∧
   w'=((w.alloc (.cells #[u1,u2] 24)).alloc (.cells #[.pointer (some ⟨bt,0,none⟩)] 29)).alloc (.cells #[.pointer (some ⟨bt2,0,none⟩)] 29):=by
 subst e1 e2;go_enter Tryz.func55,Tryz.ntmps55
 go_wp2_with fail
 go_ret;exact⟨rfl,rfl⟩
end Go.Proofs.YtnpehjgnplaabaaGreatDoor
namespace Sw
open Go Go.RowKit
def Cap (A:World) (gs g:Nat):Prop:=∃(t:TypeId) (cs:Array Value) (i:Nat) (v:Value),Blk A gs t cs∧cs[i]? =some v∧v.ownBlock=some g
structure KeepG (B0:Nat) (ts:List TypeId) (ty:TypeId) (gs:Nat) (A B:World):Prop where
 keep:KeepR B0 ts A B
 str:∀g cs,Blk A g ty cs→¬Cap A gs g→Blk B g ty cs
 cap:∀g,Cap B gs g→Cap A gs g∨A.heap.size≤g
section
variable {B0:Nat} {ts:List TypeId} {ty:TypeId} {gs:Nat} {A B C:World}
theorem KeepG.trans (h:KeepG B0 ts ty gs A B)(k:KeepG B0 ts ty gs B C):KeepG B0 ts ty gs A C:=
 ⟨h.keep.trans k.keep,fun g cs hg hn=>k.str g cs (h.str g cs hg hn) (fun hc=>by
  rcases h.cap g hc with h1 | h1
  ·exact hn h1
  ·have:=hg.lt;omega),fun g hc=>by
  rcases k.cap g hc with h1 | h1
  ·exact h.cap g h1
  ·exact .inr (zT h.keep.low.size h1)⟩
theorem KeepG.refl (B0:Nat)(ts:List TypeId)(ty:TypeId)(gs:Nat)(A:World):KeepG B0 ts ty gs A A:=⟨KeepR.refl _ _ _,fun _ _ h _=>h,fun _ h=> .inl h⟩
theorem Cap.same {g:Nat}(h:Cap B gs g)(hb:B.heap[gs]? =A.heap[gs]?):Cap A gs g:=by
 obtain⟨t,cs,i,v,h1,h2,h3⟩:=h;exact⟨t,cs,i,v,by unfold Blk at h1⊢;rw[←hb];exact h1,h2,h3⟩
theorem KeepG.below (h:Below A.heap.size A B)(hB:B0≤A.heap.size)(hg:gs<A.heap.size):KeepG B0 ts ty gs A B:=
 ⟨KeepR.below h hB,fun g cs hb _=>hb.below h hb.lt,fun g hc=> .inl (hc.same (h.block gs hg))⟩
theorem keepG_b {W:World}{l:Nat}{o:Obj}(o':Obj)(hB:B0≤l)(hgs:gs<l)(h:W.heap[l]? =some o)(ho:o.isCells=false):KeepG B0 ts ty gs W (W.putObj l o'):=by
 have hg:=grownBy_putObj' W l o';refine⟨keepR_b o' hB h ho,fun g cs hBl _=>hBl.grown hg (fun e=>?_),fun g hc=> .inl (hc.same (World.putObj_heap_other (by omega)))⟩;have e':g=l:=by simpa using e
 subst e';unfold Blk at hBl;rw[h] at hBl;cases hBl
 cases ho
theorem own_keptG {base:Nat}{size n:Nat}{v:Value}{xs:List Value}(h:A.ownsRow base ty size v n xs)(hk:KeepG B0 ts ty gs A B)(hn:∀g,v.ownBlock=some g→¬Cap A gs g):B.ownsRow base ty size v n xs:=by
 rcases h.2 with ⟨rfl,h0⟩ | ⟨g,cap,cur,rfl,hb,hh,h1,h2,h3,h4⟩
 ·exact⟨h.1,.inl ⟨rfl,h0⟩⟩
 ·exact⟨h.1,.inr ⟨g,cap,cur,rfl,hb,hk.str _ _ hh (hn g rfl),h1,h2,h3,h4⟩⟩
end
end Sw
namespace Go.Proofs.YtnpehjgnplaabaaGreatDoor
open Go Go.RowKit Go.Shelf
open Sw
attribute [local go_sem] Oper.semAt_some
def KeepOkG (ts:List TypeId):Prop:=¬24∈ts∧¬29∈ts∧¬110∈ts∧¬139∈ts∧¬146∈ts
theorem EachAt.keptG {W W':World}{gB gl gr bt bm bt2 bm2 B0:Nat}{u1 u2:Value}{xs ys:List NE}{ts:List TypeId}(h:EachAt W gB gl gr bt bm bt2 bm2 u1 u2 xs ys)(hk:KeepR B0 ts W W')(ho:KeepOkG ts):EachAt W' gB gl gr bt bm bt2 bm2 u1 u2 xs ys:=
 ⟨hk.row _ _ _ h.b0 ho.1,hk.row _ _ _ h.b1 ho.2.1,hk.row _ _ _ h.b2 ho.2.1,h.t1.keptR hk ho.2.2.1 ho.2.2.2.1 ho.2.2.2.2,h.t2.keptR hk ho.2.2.1 ho.2.2.2.1 ho.2.2.2.2⟩
theorem each_tellsG (n:Nat)(hn:2≤n)(ts:List TypeId)(hts:KeepOkG ts)(B0:Nat)(w:World)(gs:Nat)(hgs:gs<w.heap.size)(hcap:∀g,Cap w gs g→g<w.heap.size)(hB0:B0≤w.heap.size)(gB gl gr bt bm bt2 bm2:Nat)(u1 u2:Value)(l1 l2:List MkE)(xs ys:List NE)(hE:EachAt w gB gl gr bt bm bt2 bm2 u1 u2 xs ys)
  (h1:∀W,Below B0 w W→SlV W 6 eCM u1 l1) (h2:∀W,Below B0 w W→SlV W 6 eCM u2 l2) (hl1:l1.length≤1000) (hl2:l2.length≤1000) (hp1:∀m∈l1,m.1.size≤90000) (hp2:∀m∈l2,m.1.size≤90000)
  (hxl:xs.length≤1000) (hyl:ys.length≤1000) (hxd:∀e∈xs,e.2.data.size≤maxLen) (hyd:∀e∈ys,e.2.data.size≤maxLen):
  SeqTells (fun _=>False) Fence.wide n Tryz.prog 91 #[.pointer (some ⟨gB,0,none⟩),.pointer (some ⟨gl,0,none⟩),.pointer (some ⟨gr,0,none⟩)] (fun s:StR=> #[.agg (eCR s).toArray]) (KeepG B0 ts 9 gs) (fun zs=>zs=allR (l1++l2) xs ys) (fun pre=>pre<+:allR (l1++l2) xs ys) (fun pre=>pre<+:allR (l1++l2) xs ys) w:=fun l J Jx W hW hJ hJx hY hJ0=>by
 have hE0:=hE.below hW;have hbW:Below B0 w W:=hW.mono hB0;have hgsW:gs<W.heap.size:=zQ hgs hW.size;have hcapW:∀g,Cap W gs g→g<W.heap.size:=fun g hc=>zQ (hcap g (hc.same (hW.block gs hgs))) hW.size
 obtain⟨A1,k1,rfl,_,_,_⟩:=h1 w (zR _ w);obtain⟨A2,k2,rfl,_,_,_⟩:=h2 w (zR _ w);have hba:Below W.heap.size W (W.alloc (.cells #[.pointer (some ⟨bt,0,none⟩),.pointer (some ⟨bt2,0,none⟩)] 29)):=(zR _ W).alloc (zN _) _;have hxp:∀e∈xs,e.1.size≤90000:=fun e he=>hE.t1.ok (n:=e.2) he
 have hyp:∀e∈ys,e.1.size≤90000:=fun e he=>hE.t2.ok (n:=e.2) he
 have hsz:B0≤W.heap.size:=zT hB0 hW.size;obtain⟨m1,hm1⟩:∃n,l1.length=n:=⟨_,rfl⟩;obtain⟨m2,hm2⟩:∃n,l2.length=n:=⟨_,rfl⟩;have HP:=zH (paths2_any (W.alloc (.cells #[.pointer (some ⟨bt,0,none⟩),.pointer (some ⟨bt2,0,none⟩)] 29)) _ _ l1 l2 W.heap.size _ bt bm bt2 bm2 xs ys (h1 _ (hbW.trans (hba.mono hsz))) (h2 _ (hbW.trans (hba.mono hsz))) hl1 hl2 hp1 hp2 (Blk.new W _ _) (hE0.t1.below hba) (hE0.t2.below hba) hxl hxp hyl hyp);have hps:∀p∈pathsS ((l1++l2).map Prod.fst++(xs.map Prod.fst++ys.map Prod.fst)),p.size≤90000:=fun p hp=>by
  rw[pathsS_mem,List.mem_append,List.mem_append] at hp;rcases hp with hp | hp | hp
  ·obtain⟨m,hm,rfl⟩:=List.mem_map.1 hp;exact(List.mem_append.1 hm).elim (hp1 m) (hp2 m)
  ·obtain⟨e,he,rfl⟩:=List.mem_map.1 hp;exact hxp e he
  ·obtain⟨e,he,rfl⟩:=List.mem_map.1 hp;exact hyp e he
 have hpl:(pathsS ((l1++l2).map Prod.fst++(xs.map Prod.fst++ys.map Prod.fst))).length≤6000:=zT (pathsS_len _) (by simp only[zF,zS];omega);have HA:=zH (show allR (l1++l2) xs ys=(pathsS ((l1++l2).map Prod.fst++(xs.map Prod.fst++ys.map Prod.fst))).map (stepR (l1++l2) xs ys) from by unfold allR;rw[zV]);have HX:=zH (zA hxd hyd);have HS:=zH (zA h1 h2);have HJ:=zH (zA hJ hY);have H0:=zH (zA hE0 (zA hbW hba));generalize allR (l1++l2) xs ys=ans at*;generalize pathsS ((l1++l2).map Prod.fst++(xs.map Prod.fst++ys.map Prod.fst))=ps at*;have HPS:=zH hps;have q0:=hE0.b0.cell 0;have q1:=hE0.b0.cell 1;have q2:=hE0.b1.cell 0;have q3:=hE0.b2.cell 0;simp only[qA,qB,qC] at q0 q1 q2 q3;have HJ0:=zH hJ0;have hup1:=hE.t1.map.up;have hup2:=hE.t2.map.up;have HUP:=zH (zA hup1 hup2);clear hE hE0 hbW hba hxp hyp hps hp1 hp2 hxd hyd h1 h2 hJ hJx hY hJ0 hW hup1 hup2;rw[hm1,hm2] at*;refine callsIn_of_wp Tryz.func91 rfl trivial ?_ rfl;simp only[Tryz.ntmps91,List.size_toArray,zI,List.length_nil,Nat.reduceAdd,Nat.reduceSub,Array.replicate_succ,Array.replicate_zero,List.push_toArray,List.append_toArray,List.nil_append,List.cons_append];refine wpIn_wide.2 ?_;go_wp2_with fail
 refine HP.out.mono ?_;rintro e w1 ⟨u,rfl,ho,hb1⟩;rw[←flat_sR] at ho;obtain⟨A3,k3,rfl,hk3,-,-⟩:=SlV_of_any ho;have hbW1:Below W.heap.size W w1:=H0.out.2.2.trans (hb1.mono H0.out.2.2.size);have H1:=zH (zA ho (zA (KeepG.below (B0:=B0) (ts:=ts) (ty:=9) (gs:=gs) hbW1 hsz hgsW) (HJ.out.1 _ W w1 none HJ0.out (grown_below (row:=none) hbW1) (fun r h=>by cases h))));have HCP:=zH (zA hgsW (fun g (hg:W.heap.size≤g) (hc:Cap w1 gs g)=>(absurd (hcapW g (hc.same (hbW1.block gs hgsW))) (by omega):False)));clear hcap hcapW hgs hgsW;obtain⟨n0,hn0⟩:∃n,ps.length=n:=⟨_,rfl⟩;rw[hn0] at H1 hpl hk3;rw[hn0];have HN:=zH hn0;clear ho hb1 hbW1 hn0 HP HJ0 q0 q1 q2 q3;go_wp2_with fail
 go_loopw [16] (fun iv wr=>∃i:Nat,iv= .int .i64 i∧i≤n0∧J (ans.take i) wr∧KeepG B0 ts 9 gs w1 wr) (fun iv _=>n0-(intOf iv).toNat)
 case atStart=>exact⟨0,rfl,Nat.zero_le _,H1.out.2.2,KeepG.refl _ _ _ _ _⟩
 case round=>
  obtain⟨i,rfl,hi,hJr,hK⟩:=hrel;by_cases hlt:i<n0
  ·have hiL:i<ps.length:=by have:=HN.out;omega
   have hKW:KeepG B0 ts 9 gs W wr:=H1.out.2.1.trans hK;have hEr:=H0.out.1.keptG hKW.keep hts;have hor:=own_keptG H1.out.1 hK (fun g hg hc=>HCP.out.2 g (by have:=(H1.out.1.lt g hg).1;simp only[World.size_alloc] at this;omega) hc);rw[←HN.out] at hor;obtain⟨A',c',hA',_,_,hso⟩:=SlV.of_own (l:=ps) hor (fun _=>rfl) (by decide);rw[HN.out] at hA';(obtain⟨rfl,rfl⟩:A3=A'∧k3=c':=by injection hA' with e1 e2 e3;exact⟨e1,e3⟩);clear hA';obtain⟨b,off,rfl,hbb,hcs⟩:=hso (by omega);have c0:=hcs i hiL 0 (by omega);simp only[sE,qC,Nat.add_zero,Nat.mul_one] at c0;clear hcs hso hor;(have hi1:(i:Int)<n0:=by omega);have hq:=HPS.out _ (zP hiL);have hst:ans.take (i+1)=ans.take i++[stepR (l1++l2) xs ys ps[i]]:=by
    rw[HA.out,zG (by rw[zS];exact hiL),List.getElem_map]
   obtain⟨q,hx⟩:∃x,ps[i]=x:=⟨_,rfl⟩;simp only[hx] at c0 hq hst;clear hx;have hszr:B0≤wr.heap.size:=zT hsz hKW.keep.low.size;have hlow:=H0.out.2.1.trans hKW.keep.low;(have hff:=fun W' (hb:Below wr.heap.size wr W')=>findM_any W' _ _ l1 l2 q (HS.out.1 W' (hlow.trans (hb.mono hszr))) (HS.out.2 W' (hlow.trans (hb.mono hszr))) (by omega) (by omega));(have hg1:=fun W' (hT:TreeAt W' bt bm xs)=>treeGet_any W' bt bm xs q hT (by omega) hq);(have hg2:=fun W' (hT:TreeAt W' bt2 bm2 ys)=>treeGet_any W' bt2 bm2 ys q hT (by omega) hq);have hs1:=getT_size (p:=q) HUP.out.1 HX.out.1;have hs2:=getT_size (p:=q) HUP.out.2 HX.out.2;have hsd:stepR (l1++l2) xs ys q=⟨q,(decideN ((findM (l1++l2) q).getD ⟨0,0,0,0,0⟩) (findM (l1++l2) q).isSome (getT xs q) (getT ys q)).1,(decideN ((findM (l1++l2) q).getD ⟨0,0,0,0,0⟩) (findM (l1++l2) q).isSome (getT xs q) (getT ys q)).2,getT xs q,getT ys q⟩:=rfl;(have hdd:=fun W'=>decide_any W' ((findM (l1++l2) q).getD ⟨0,0,0,0,0⟩) (findM (l1++l2) q).isSome (getT xs q) (getT ys q) hs1 hs2);generalize stepR (l1++l2) xs ys q=st at*;generalize (findM (l1++l2) q).getD ⟨0,0,0,0,0⟩=pr at*;generalize (findM (l1++l2) q).isSome=had at*;generalize getT xs q=nd1 at*;generalize getT ys q=nd2 at*;obtain⟨vd,hvd⟩:∃v,(decideN pr had nd1 nd2).1=v:=⟨_,rfl⟩;obtain⟨cl,hcl⟩:∃v,(decideN pr had nd1 nd2).2=v:=⟨_,rfl⟩;rw[hvd,hcl] at hsd;simp only[hvd,hcl] at hdd;clear hvd hcl hs1 hs2;obtain⟨fa,fb,fc,fd,fs⟩:=pr;obtain⟨ak,am,at',ad⟩:=nd1;obtain⟨ck,cm,ct,cd⟩:=nd2;simp only[Pr.c,Nd.c] at hff hg1 hg2 hdd;have HFF:=zH hff;have HG1:=zH hg1;have HG2:=zH hg2;have HDD:=zH hdd;subst hsd;have HST:=zH hst;have HR:=zH (zA hEr (zA hJr hK));have x2:=hEr.b1.cell 0;have x3:=hEr.b2.cell 0;simp only[qA,qB,qC] at x2 x3;clear hff hg1 hg2 hdd hst hEr hJr hK hKW hlow;(go_upto_region 3 with fail);go_cut [7] from 20 to 27 (fun s7 wx=>∃g,s7= .pointer (some ⟨g,0,none⟩)∧wr.heap.size≤g∧Blk wx g 119 #[.string q,.int .i64 0,.int .i64 0,.int .i64 ak,.int .i64 am,.int .u32 at',.string ad,.int .i64 ck,.int .i64 cm,.int .u32 ct,.string cd]∧Below wr.heap.size wr wx)
   case first=>
    have HC0:=zH (Aft.start wr);(have k2:∀m:Held (Aft wr),(HeldW m).cell? ⟨gl,0,none⟩=some (.pointer (some ⟨bt,0,none⟩)):=fun m=>(Aft.cell m HR.out.1.b1.lt).trans x2);(have k3:∀m:Held (Aft wr),(HeldW m).cell? ⟨gr,0,none⟩=some (.pointer (some ⟨bt2,0,none⟩)):=fun m=>(Aft.cell m HR.out.1.b2.lt).trans x3);refine wp_region_mixT (Aft wr) (.first 0 (.first 1 (.first 2 (.first 4 (.first 5 (.two 3 (.two 6 (.first 7 (.forced 8 (.forced 9 .nil))) 8 (.forced 6 (.first 7 (.forced 9 .nil)))) 8 (.forced 3 (.forced 6 (.first 7 (.forced 9 .nil)))))))))) (by kernel_rfl) (by kernel_rfl) ?_;simp only[pickT,qA,qB,qC];(repeat (apply mixT_first;apply Exists.intro;refine⟨fun m=>?_,HC0.out,?_⟩;·(go_big_quiet_step (fail);exact wpQuiet_nil rfl)));have HT:=zH (fun W' (h:Aft wr W')=>HR.out.1.below h);clear x2 x3;refine mixT_two HC0.out ?_ ?_
    ·(go_wp2_with fail);refine(HG1.out _ (HT.out _ HC0.out).t1).mono ?_;rintro e w2 ⟨rfl,hb2⟩;have H2:=zH (show Aft wr w2 from Aft.keep _ _ HC0.out hb2);clear hb2;(go_wp2_with fail);(show mixT ..);refine mixT_two H2.out ?_ ?_
     ·(go_wp2_with fail);refine(HG2.out _ (HT.out _ H2.out).t2).mono ?_;rintro e w3 ⟨rfl,hb3⟩;have H3:=zH (show Aft wr w3 from Aft.keep _ _ H2.out hb3);clear hb3;(go_wp2_with fail);(show mixT ..);(apply mixT_first;apply Exists.intro;refine⟨fun m=>?_,H3.out,?_⟩;·(go_big_quiet_step (fail);exact wpQuiet_nil rfl));refine mixT_forced H3.out ?_;(go_wp2_with fail);(show mixT ..);refine mixT_forced (H3.out.alloc H3.out.size _) ?_;(go_wp2_with fail);(show mixT ..);refine mixT_nil (H3.out.alloc H3.out.size _) ?_;(go_wp2_with fail);(go_meet);exact⟨w3.heap.size,rfl,H3.out.size,Blk.new _ _ _,H3.out.alloc H3.out.size _⟩
     ·(go_wp2_with fail);(show mixT ..);obtain⟨V0,hV0⟩:∃V0,w2.alloc (.cells #[.string ⟨#[]⟩,.int .i64 0,.int .i64 0,.int .i64 0,.int .i64 0,.int .u32 0,.string ⟨#[]⟩,.int .i64 0,.int .i64 0,.int .u32 0,.string ⟨#[]⟩] 119)=V0:=⟨_,rfl⟩;obtain⟨g,hg⟩:∃g,w2.heap.size=g:=⟨_,rfl⟩;(have hBg:Blk V0 g 119 #[.string ⟨#[]⟩,.int .i64 0,.int .i64 0,.int .i64 0,.int .i64 0,.int .u32 0,.string ⟨#[]⟩,.int .i64 0,.int .i64 0,.int .u32 0,.string ⟨#[]⟩]:=by rw[←hV0,←hg];exact Blk.new _ _ _);(have hbV0:Aft wr V0:=by rw[←hV0];exact H2.out.alloc H2.out.size _);(have hgw:wr.heap.size≤g:=by rw[←hg];exact H2.out.size);rw[hV0,hg];clear hV0 hg;refine mixT_forced hbV0 ?_;(go_wp2_with fail);refine(HG2.out _ (HT.out _ hbV0).t2).mono ?_;rintro e V ⟨rfl,hb3⟩;have HV:=zH (zA (hBg.below hb3 hBg.lt) (zA (show Aft wr V from Aft.keep _ _ hbV0 hb3) hgw));clear hb3 hBg hbV0 hgw;(go_wp2_with fail);(show mixT ..);(apply mixT_first;apply Exists.intro;refine⟨fun m=>?_,HV.out.2.1,?_⟩;·(go_big_quiet_step (fail);exact wpQuiet_nil rfl));obtain⟨z0,z1,z2,z3,z4,z5,z6,z7,z8,z9,z10⟩:=zc11 HV.out.1;simp only[qA,qB,qC] at z0 z1 z2 z3 z4 z5 z6 z7 z8 z9 z10;obtain⟨fz0,fz1,fz2,fz3,fz4,fz5,fz6,fz7,fz8,fz9,fz10⟩:=zf11 HV.out.1;refine mixT_forced HV.out.2.1 ?_;(go_wp2_with fail);(show mixT ..);obtain⟨VF,hVF⟩:∃VF,(((((((((((V.setCell ⟨g,0,none⟩ (.string q)).setCell ⟨g,1,none⟩ (.int .i64 0)).setCell ⟨g,2,none⟩ (.int .i64 0)).setCell ⟨g,3,none⟩ (.int .i64 ak)).setCell ⟨g,4,none⟩ (.int .i64 am)).setCell ⟨g,5,none⟩ (.int .u32 at')).setCell ⟨g,6,none⟩ (.string ad)).setCell ⟨g,7,none⟩ (.int .i64 ck)).setCell ⟨g,8,none⟩ (.int .i64 cm)).setCell ⟨g,9,none⟩ (.int .u32 ct)).setCell ⟨g,10,none⟩ (.string cd))=VF:=⟨_,rfl⟩;rw[hVF];have p10:Blk (((((((((((V.setCell ⟨g,0,none⟩ (.string q)).setCell ⟨g,1,none⟩ (.int .i64 0)).setCell ⟨g,2,none⟩ (.int .i64 0)).setCell ⟨g,3,none⟩ (.int .i64 ak)).setCell ⟨g,4,none⟩ (.int .i64 am)).setCell ⟨g,5,none⟩ (.int .u32 at')).setCell ⟨g,6,none⟩ (.string ad)).setCell ⟨g,7,none⟩ (.int .i64 ck)).setCell ⟨g,8,none⟩ (.int .i64 cm)).setCell ⟨g,9,none⟩ (.int .u32 ct)).setCell ⟨g,10,none⟩ (.string cd)) g 119 #[.string q,.int .i64 0,.int .i64 0,.int .i64 ak,.int .i64 am,.int .u32 at',.string ad,.int .i64 ck,.int .i64 cm,.int .u32 ct,.string cd]:=Blk.put11 (HV.out.1);(have hBF:Blk VF g 119 #[.string q,.int .i64 0,.int .i64 0,.int .i64 ak,.int .i64 am,.int .u32 at',.string ad,.int .i64 ck,.int .i64 cm,.int .u32 ct,.string cd]:=by rw[←hVF];exact p10);clear p10;(have hbV:Aft wr VF:=by rw[←hVF];exact Below.set11 (HV.out.2.1) (HV.out.2.2));clear hVF z0 fz0 z1 fz1 z2 fz2 z3 fz3 z4 fz4 z5 fz5 z6 fz6 z7 fz7 z8 fz8 z9 fz9 z10 fz10;refine mixT_nil hbV ?_;(go_wp2_with fail);(go_meet);exact⟨g,rfl,HV.out.2.2,hBF,hbV⟩
    ·(go_wp2_with fail);(show mixT ..);obtain⟨V0,hV0⟩:∃V0,(wr.alloc (.cells #[.string ⟨#[]⟩,.int .i64 0,.int .i64 0,.int .i64 0,.int .i64 0,.int .u32 0,.string ⟨#[]⟩,.int .i64 0,.int .i64 0,.int .u32 0,.string ⟨#[]⟩] 119)).drew=V0:=⟨_,rfl⟩;obtain⟨g,hg⟩:∃g,wr.heap.size=g:=⟨_,rfl⟩;(have hBg:Blk V0 g 119 #[.string ⟨#[]⟩,.int .i64 0,.int .i64 0,.int .i64 0,.int .i64 0,.int .u32 0,.string ⟨#[]⟩,.int .i64 0,.int .i64 0,.int .u32 0,.string ⟨#[]⟩]:=by rw[←hV0,←hg];exact(Blk.new wr _ _).drew);(have hbV0:Aft wr V0:=by rw[←hV0];exact((zR _ wr).alloc (zN _) _).drew);have hgw:wr.heap.size≤g:=Nat.le_of_eq hg;rw[hV0,hg];clear hV0 hg;refine mixT_forced hbV0 ?_;(go_wp2_with fail);refine(HG1.out _ (HT.out _ hbV0).t1).mono ?_;rintro e V1 ⟨rfl,hb2⟩;have hB1:=hBg.below hb2 hBg.lt;have hbV1:Aft wr V1:=Aft.keep _ _ hbV0 hb2;clear hBg hbV0 hb2;(go_wp2_with fail);(show mixT ..);refine mixT_forced hbV1 ?_;(go_wp2_with fail);refine(HG2.out _ (HT.out _ hbV1).t2).mono ?_;rintro e V ⟨rfl,hb3⟩;have HV:=zH (zA (hB1.below hb3 hB1.lt) (zA (show Aft wr V from Aft.keep _ _ hbV1 hb3) hgw));clear hb3 hB1 hbV1 hgw;(go_wp2_with fail);(show mixT ..);(apply mixT_first;apply Exists.intro;refine⟨fun m=>?_,HV.out.2.1,?_⟩;·(go_big_quiet_step (fail);exact wpQuiet_nil rfl));obtain⟨z0,z1,z2,z3,z4,z5,z6,z7,z8,z9,z10⟩:=zc11 HV.out.1;simp only[qA,qB,qC] at z0 z1 z2 z3 z4 z5 z6 z7 z8 z9 z10;obtain⟨fz0,fz1,fz2,fz3,fz4,fz5,fz6,fz7,fz8,fz9,fz10⟩:=zf11 HV.out.1;refine mixT_forced HV.out.2.1 ?_;(go_wp2_with fail);(show mixT ..);obtain⟨VF,hVF⟩:∃VF,(((((((((((V.setCell ⟨g,0,none⟩ (.string q)).setCell ⟨g,1,none⟩ (.int .i64 0)).setCell ⟨g,2,none⟩ (.int .i64 0)).setCell ⟨g,3,none⟩ (.int .i64 ak)).setCell ⟨g,4,none⟩ (.int .i64 am)).setCell ⟨g,5,none⟩ (.int .u32 at')).setCell ⟨g,6,none⟩ (.string ad)).setCell ⟨g,7,none⟩ (.int .i64 ck)).setCell ⟨g,8,none⟩ (.int .i64 cm)).setCell ⟨g,9,none⟩ (.int .u32 ct)).setCell ⟨g,10,none⟩ (.string cd))=VF:=⟨_,rfl⟩;rw[hVF];have p10:Blk (((((((((((V.setCell ⟨g,0,none⟩ (.string q)).setCell ⟨g,1,none⟩ (.int .i64 0)).setCell ⟨g,2,none⟩ (.int .i64 0)).setCell ⟨g,3,none⟩ (.int .i64 ak)).setCell ⟨g,4,none⟩ (.int .i64 am)).setCell ⟨g,5,none⟩ (.int .u32 at')).setCell ⟨g,6,none⟩ (.string ad)).setCell ⟨g,7,none⟩ (.int .i64 ck)).setCell ⟨g,8,none⟩ (.int .i64 cm)).setCell ⟨g,9,none⟩ (.int .u32 ct)).setCell ⟨g,10,none⟩ (.string cd)) g 119 #[.string q,.int .i64 0,.int .i64 0,.int .i64 ak,.int .i64 am,.int .u32 at',.string ad,.int .i64 ck,.int .i64 cm,.int .u32 ct,.string cd]:=Blk.put11 (HV.out.1);(have hBF:Blk VF g 119 #[.string q,.int .i64 0,.int .i64 0,.int .i64 ak,.int .i64 am,.int .u32 at',.string ad,.int .i64 ck,.int .i64 cm,.int .u32 ct,.string cd]:=by rw[←hVF];exact p10);clear p10;(have hbV:Aft wr VF:=by rw[←hVF];exact Below.set11 (HV.out.2.1) (HV.out.2.2));clear hVF z0 fz0 z1 fz1 z2 fz2 z3 fz3 z4 fz4 z5 fz5 z6 fz6 z7 fz7 z8 fz8 z9 fz9 z10 fz10;refine mixT_nil hbV ?_;(go_wp2_with fail);(go_meet);exact⟨g,rfl,HV.out.2.2,hBF,hbV⟩
   case rest=>
    obtain⟨g,rfl,hgw,hBg,hbx⟩:=hcut;generalize wc=w3 at*;have hEx:=HR.out.1.below hbx;have H3:=zH (zA hBg (zA hbx hgw));have q0:=hEx.b0.cell 0;have q1:=hEx.b0.cell 1;simp only[qA,qB,qC] at q0 q1;clear hBg hbx hgw hEx x2 x3 HG1 HG2;(go_wp2_with fail);refine(HFF.out w3 H3.out.2.1).mono ?_;rintro e w4 ⟨rfl,hb4⟩;have H4:=zH (zA (H3.out.1.below hb4 H3.out.1.lt) (H3.out.2.1.trans (hb4.mono H3.out.2.1.size)));clear hb4 HFF q0 q1;(go_upto_region 5 with fail);have hba:Below w4.heap.size w4 (w4.alloc (.cells #[.int .i64 fa,.int .i64 fb,.int .u32 fc,.int .i64 fd,.int .u32 fs] 61)):=(zR _ w4).alloc (zN _) _;have hBP:Blk (w4.alloc (.cells #[.int .i64 fa,.int .i64 fb,.int .u32 fc,.int .i64 fd,.int .u32 fs] 61)) w4.heap.size 61 #[.int .i64 fa,.int .i64 fb,.int .u32 fc,.int .i64 fd,.int .u32 fs]:=Blk.new _ _ _;generalize w4.alloc (.cells #[.int .i64 fa,.int .i64 fb,.int .u32 fc,.int .i64 fd,.int .u32 fs] 61)=w5 at*;have hBg:=H4.out.1.below hba H4.out.1.lt;have H5:=zH (zA hBg (H4.out.2.trans (hba.mono H4.out.2.size)));obtain⟨p0,p1,p2,p3,p4⟩:=zc5 hBP;have z3:=hBg.cell 3;have z4:=hBg.cell 4;have z5:=hBg.cell 5;have z6:=hBg.cell 6;have z7:=hBg.cell 7;have z8:=hBg.cell 8;have z9:=hBg.cell 9;have z10:=hBg.cell 10;simp only[qA,qB,qC] at p0 p1 p2 p3 p4 z3 z4 z5 z6 z7 z8 z9 z10;clear hba hBP hBg H4;(go_wp2_with fail);refine(HDD.out w5).mono ?_;rintro e w6 ⟨rfl,hb6⟩;have hBg:=H5.out.1.below hb6 H5.out.1.lt;have H6:=zH (zA hBg (H5.out.2.trans (hb6.mono H5.out.2.size)));clear p0 p1 p2 p3 p4 z3 z4 z5 z6 z7 z8 z9 z10 hb6 H5 HDD;have z1:=hBg.cell 1;have z2:=hBg.cell 2;simp only[qA,qB,qC] at z1 z2;have fz1:=hBg.frozen 1;have fz2:=hBg.frozen 2;clear hBg;(go_upto_region 6 with fail);obtain⟨w7,hw7⟩:∃w7,(w6.setCell ⟨g,1,none⟩ (.int .i64 vd)).setCell ⟨g,2,none⟩ (.int .i64 cl)=w7:=⟨_,rfl⟩;rw[hw7];have hB1:Blk (w6.setCell ⟨g,1,none⟩ (.int .i64 vd)) g 119 #[.string q,.int .i64 vd,.int .i64 0,.int .i64 ak,.int .i64 am,.int .u32 at',.string ad,.int .i64 ck,.int .i64 cm,.int .u32 ct,.string cd]:=H6.out.1.put 1 (.int .i64 vd);(have hB2:Blk w7 g 119 #[.string q,.int .i64 vd,.int .i64 cl,.int .i64 ak,.int .i64 am,.int .u32 at',.string ad,.int .i64 ck,.int .i64 cm,.int .u32 ct,.string cd]:=by rw[←hw7];exact hB1.put 2 (.int .i64 cl));(have hb7:Below wr.heap.size wr w7:=by rw[←hw7];exact(H6.out.2.setCell (p:=⟨g,1,none⟩) H3.out.2.2 _).setCell (p:=⟨g,2,none⟩) H3.out.2.2 _);clear z1 z2 fz1 fz2 hB1 hw7 H6 H3;obtain⟨z0,z1,z2,z3,z4,z5,z6,z7,z8,z9,z10⟩:=zc11 hB2;simp only[qA,qB,qC] at z0 z1 z2 z3 z4 z5 z6 z7 z8 z9 z10;have hJ7:=HJ.out.1 _ wr w7 none HR.out.2.1 (grown_below (row:=none) hb7) (fun r h=>by cases h);have hy:=HJ.out.2 (ans.take i) ⟨q,vd,cl,⟨ak,am,at',ad⟩,⟨ck,cm,ct,cd⟩⟩ w7 hJ7 (by rw[←HST.out];exact List.take_prefix _ _);rw[←HST.out] at hy;have HK7:=zH (HR.out.2.2.trans (KeepG.below (B0:=B0) (ts:=ts) (ty:=9) (gs:=gs) hb7 hszr (zQ HCP.out.1 (zT H1.out.2.1.keep.low.size HR.out.2.2.keep.low.size))));obtain⟨fn,tmps,assign,body,hyy,hR⟩:=hy;simp only[eCR] at hyy hR;clear hB2 hb7 hJ7 HR;refine(wpIn_wide (n:=n)).1 ?_;(gi_wp2);refine⟨fun _=>by omega,hR.mono ?_⟩;rintro e W3 (⟨rfl,hJ3,hk3⟩ | ⟨rfl,hJx3⟩)
    ·have HZ:=zH (zA hJ3 (HK7.out.trans hk3));clear hJ3 hk3;(gi_wp2);(go_wp2_with fail);go_roundw
     case rel=>exact⟨i+1,by go_num,by omega,HZ.out.1,HZ.out.2⟩
     case measure=>simp [intOf];omega
    ·(gi_wp2);(go_wp2_with fail);refine bodyPost_ret (results_none rfl _ _ _) rfl ?_;exact⟨⟨_,rfl⟩,.inr ⟨_,List.take_prefix _ _,hJx3⟩⟩
  ·obtain rfl:i=n0:=by omega
   have hf:ans.take i=ans:=zO (by rw[HA.out,zS];have:=HN.out;omega);rw[hf] at hJr;(go_wp2_with fail);(go_end0);exact⟨⟨_,rfl⟩,.inl ⟨_,rfl,hJr⟩⟩
end Go.Proofs.YtnpehjgnplaabaaGreatDoor
namespace Sw
open Go Go.RowKit
variable {F:Fence} {n:Nat} {P:Program}
theorem keepsF_put {B l:Nat}{W:World}(o':Obj)(h:l<B):KeepsFrom B W (W.putObj l o'):=⟨(grownBy_putObj' W l o').size,fun k o hB hk _=>(World.putObj_heap_other (by omega)).trans hk⟩
theorem _root_.Go.KeepsFrom.far {B B':Nat}{W W':World}(h:KeepsFrom B W W')(hB:B≤B'):KeepsFrom B' W W':=⟨h.size,fun k o hk ho hc=>h.same k o (by omega) ho hc⟩
def ownPostF {α:Type} (B:Nat) (Kp:World→World→Prop) (I:List α→World→Prop) (Ix:Code→List α→World→Prop) (xs:List α) (W:World):Exit→Act→World→Prop
 | .normal,_,W'=>KeepsFrom B W W'∧Kp W W'∧I xs W'
 | .ret,_,W'=>KeepsFrom B W W'∧Ix .ret xs W'
 | .exit id,_,W'=>KeepsFrom B W W'∧Ix (.exit id) xs W'
 | .goto t,_,W'=>KeepsFrom B W W'∧Ix (.goto t) xs W'
 | .panic _,_,_=>False
 | .outgrown,_,_=>False
def SeqIn {α:Type} (Mine:Nat→Prop) (F:Fence) (n:Nat) (P:Program) (g:Nat) (lb:Array Value) (encs:α→Array Value) (Kp:World→World→Prop) (S Sp Tell:List α→Prop) (w:World):Prop:=
 ∀(l:Nat) (J Jx:List α→World→Prop) (W:World),Below w.heap.size w W→l<W.heap.size→AbN Mine W.heap.size J→AbN Mine W.heap.size Jx→
  (∀pre x W1,J pre W1→Tell (pre++[x])→YieldAt F (n-1) P l (encs x) W1 fun e W'=>
   (e= .returned (.bool true)∧J (pre++[x]) W'∧Kp W1 W'∧KeepsFrom (l+1) W1 W')∨(e= .returned (.bool false)∧Jx (pre++[x]) W'∧KeepsFrom (l+1) W1 W'))→
  J [] W→
  CallsIn F n P g (#[.func (.yield l) #[] #[]]++lb) W fun e W'=>(∃v,e= .returned v)∧((∃xs,S xs∧J xs W')∨(∃pre,Sp pre∧Jx pre W'))
theorem SeqTells.into {α:Type}{Mine:Nat→Prop}{g:Nat}{lb:Array Value}{encs:α→Array Value}{Kp:World→World→Prop}{S Sp Tell:List α→Prop}{w:World}(h:SeqTells Mine F n P g lb encs Kp S Sp Tell w):SeqIn Mine F n P g lb encs Kp S Sp Tell w:=
 fun l J Jx W hW _ hJ hJx hY h0=>h l J Jx W hW hJ.abM hJx.abM (fun pre x W1 h1 h2=>YieldAt.mono (hY pre x W1 h1 h2) fun e w2 he=>by
  rcases he with he | he
  ·exact .inl ⟨he.1,he.2.1,he.2.2.1⟩
  ·exact .inr ⟨he.1,he.2.1⟩) h0
theorem wpIn_rangeFunc_in {α:Type}{g:Operand}{ps:Array Tmp}{assign body:Code}{Q:Exit→Act→World→Prop}{a:Act}{w:World}{Mine:Nat→Prop}(hM:∀r,Mine r→r<w.heap.size)
  (hro:F.round=none) (h1:1≤n) {gf:Nat} {lb:Array Value} (hg:a.eval g= .func (.func gf) #[] lb) (hFg:F.fn gf) (eg:∀args w,(callFunc gf args).run P w= .ok (.enter gf args) w)
  {encs:α→Array Value} {Kp:World→World→Prop} {S Sp Tell:List α→Prop} {w0:World} (hseq:SeqIn Mine F (n-1) P gf lb encs Kp S Sp Tell w0)
  (hKt:∀{A B C:World},Kp A B→Kp B C→Kp A C) (hKb:∀(W:World) (l:Nat) (o o':Loop),w.heap.size≤l→W.heap[l]? =some (.loop o)→Kp W (W.putObj l (.loop o'))) (hb0:Below w0.heap.size w0 w) (hps:∀x,(encs x).size=ps.size)
  (I:List α→World→Prop) (Ix:Code→List α→World→Prop) (hI:OwnM Mine w.heap.size I) (hIx:∀c,OwnM Mine w.heap.size (Ix c)) (h0:I [] w) (a₁:α→Nat→Act) (wA:α→World→World) (J:α→Nat→List α→World→Prop) (hJ:∀x n,OwnM Mine w.heap.size (J x n))
  (hA:∀pre x W,I pre W→Tell (pre++[x])→J x W.heap.size pre (wA x W)∧KeepsOthers W (wA x W)∧Kp W (wA x W))
  (hassign:∀(l:Nat) (x:α) (n₀:Nat) (W:World) (_:W.heap.size=n₀) (K:Act→World→Prop),K (a₁ x n₀) (wA x W)→
   assign.wpIn (F.inRound l) (n-1-1) P (Exit.then K (fun _ _ _=>False)) {tmps:=(ps.zip (encs x)).foldl (fun t (p,v)=>t.setIfInBounds p v) a.tmps,defers:=[]} W)
  (hbody:∀(l:Nat) (pre:List α) (x:α) (n₀:Nat) (W:World),J x n₀ pre W→Tell (pre++[x])→w.heap.size+1<W.heap.size→body.wpIn (F.inRound l) (n-1-1) P (ownPostF w.heap.size Kp I Ix (pre++[x]) W) (a₁ x n₀) W)
  (hdone:∀(D:Nat) (xs:List α) (W:World),D=w.heap.size→S xs→I xs W→W.heap[D]? =some (.deferred (some []))→Q .normal {a with defers:={target:= .collected D,args:= #[]}::a.defers} W)
  (hstop:∀(D:Nat) (c:Code) (pre:List α) (W:World),D=w.heap.size→Sp pre→Ix c pre W→W.heap[D]? =some (.deferred (some []))→c.wpIn F n P Q {a with defers:={target:= .collected D,args:= #[]}::a.defers} W):
  (Code.rangeFunc g ps assign body).wpIn F n P Q a w:=by
 refine wpIn_rangeFunc fun fn hfn=>?_
 rw[hro];obtain⟨D,hD⟩:∃D,D=w.heap.size:=⟨_,rfl⟩;obtain⟨R,hR⟩:∃R:LoopState→Option Code→Loop,R=fun st pe=>{state:=st,pending:=pe,fn,tmps:=a.tmps,params:=ps,assign,body,defers:=w.heap.size}:=⟨_,rfl⟩
 obtain⟨W1,hW1⟩:∃W1,(w.alloc (.deferred (some []))).alloc (.loop (R .ready none))=W1:=⟨_,rfl⟩;have hs1:W1.heap.size=D+1+1:=by rw[←hW1,hD];simp
 have hL1:W1.heap[D+1]? =some (.loop (R .ready none)):=by
  rw[←hW1,hD];have:=World.alloc_heap_new (w.alloc (.deferred (some []))) (.loop (R .ready none))
  rwa [World.size_alloc] at this
 have hD1:W1.heap[D]? =some (.deferred (some [])):=by
  rw[←hW1,hD];exact(Below.heap_alloc _ _ _ (by simp)).trans (World.alloc_heap_new w _)
 have hI1:I [] W1:=by rw[←hW1];exact hI.new _ (hI.new _ h0)
 have hb1:Below w0.heap.size w0 W1:=by
  rw[←hW1];exact hb0.trans ((((zR _ w).alloc (zN _) _).alloc (by simp) _).mono hb0.size)
 have stays:∀{A B:World} {row:Option Nat} {k:Nat} {o:Obj},D≤k→k≤D+1→A.heap[k]? =some o→A.grownBy B row→(∀r,row=some r→Mine r∨(W1.heap.size≤r∧∃o:Obj,A.heap[r]? =some o∧o.isCells=false))→B.heap[k]? =some o:=by
  intro A B row k o hk hk2 ho hgr hr;refine(hgr.block k (Array.getElem?_eq_some_iff.1 ho).1 (fun e=>?_)).trans ho;rcases hr k e.symm with h | ⟨h,_⟩
  ·have:=hM k h;omega
  ·omega
 have wide:∀{A:World} {row:Option Nat},(∀r,row=some r→Mine r∨(W1.heap.size≤r∧∃o:Obj,A.heap[r]? =some o∧o.isCells=false))→(∀r,row=some r→Mine r∨(w.heap.size≤r∧∃o:Obj,A.heap[r]? =some o∧o.isCells=false)):=by
  intro A row hr r e;rcases hr r e with h | ⟨hB,o,ho,hw⟩
  ·exact .inl h
  ·exact .inr ⟨by omega,o,ho,hw⟩
 refine⟨D+1,[{target:= .collected D,args:= #[]}],W1,{target:= .fn (.func gf) lb,args:= #[.func (.yield (D+1)) #[] #[]]},W1,gf,#[.func (.yield (D+1)) #[] #[]]++lb,W1,?_,?_,?_,?_,fun _=>h1,?_⟩
 ·rw[←hW1,hR,hD];exact run_enterLoop_outer _ _ _ _ _
 ·simp only[resolve,hg];simp [go_sem]
 ·intro f' hf';simp [Target.leads] at hf'
  subst hf';exact hFg
 ·simp [invoke,go_sem,eg]
 refine(hseq (D+1) (fun pre W=>I pre W∧W.heap[D+1]? =some (.loop (R .ready none))∧W.heap[D]? =some (.deferred (some [])))
  (fun pre W=>∃c,Ix c pre W∧W.heap[D+1]? =some (.loop (R .done (some c)))∧W.heap[D]? =some (.deferred (some []))) W1 hb1 (by omega)
  (fun s A B row hs hgr hr=>⟨hI s A B row hs.1 hgr (wide hr),stays (by omega) (by omega) hs.2.1 hgr hr,stays (zN _) (by omega) hs.2.2 hgr hr⟩)
  (fun s A B row hs hgr hr=>by
   obtain⟨c,hc,hl,hk⟩:=hs;exact⟨c,hIx c s A B row hc hgr (wide hr),stays (by omega) (by omega) hl hgr hr,stays (zN _) (by omega) hk hgr hr⟩)
  ?_ ⟨hI1,hL1,hD1⟩).mono ?_
 ·rintro pre x W ⟨hi,hl0,hk0⟩ hlen;obtain⟨hjA,hoA,hpA⟩:=hA pre x W hi hlen;have hl:=hoA.same _ _ hl0 rfl;have hk:=hoA.same _ _ hk0 rfl;have hlt:D+1<(wA x W).heap.size:=(Array.getElem?_eq_some_iff.1 hl).1;obtain⟨busy,hbusy⟩:∃b:Loop,b={R .ready none with state:= .busy}:=⟨_,rfl⟩;obtain⟨W2,hW2⟩:∃W2,(wA x W).putObj (D+1) (.loop busy)=W2:=⟨_,rfl⟩;have hy:=run_yield (P:=P) (args:=encs x) hl0 (by rw[hR];exact hps x);rw[hR] at hy;refine⟨fn,_,assign,body,hy,roundIn_of_wpIn hfn (hassign _ x _ W rfl _ ⟨W2,by rw[←hW2,hbusy];exact run_beginRound hl (by rw[hR]),?_⟩)⟩;have hl2:W2.heap[D+1]? =some (.loop busy):=by rw[←hW2];exact World.putObj_heap_same hlt
  have hk2:W2.heap[D]? =some (.deferred (some [])):=by rw[←hW2];exact(World.putObj_heap_other (by omega)).trans hk
  have hw2:Kp W W2:=hKt hpA (by rw[←hW2];exact hKb _ _ _ _ (by omega) hl);have hi2:J x W.heap.size pre W2:=by rw[←hW2];exact(hJ x _).turn _ hjA (by omega) hl rfl
  refine wpIn_mono (hbody _ pre x _ _ hi2 hlen (by rw[←hD];exact(Array.getElem?_eq_some_iff.1 hl2).1)) ?_;have fin:∀(jump:Option Code) (W3:World),KeepsFrom w.heap.size W2 W3→∃W4,W3.putObj (D+1) (.loop (R (if jump.isNone then .ready else .done) jump))=W4∧
    (Instr.endRound (D+1) jump).run P W3= .ok (.bool jump.isNone) W4∧W3.heap[D+1]? =some (.loop busy)∧
    W4.heap[D+1]? =some (.loop (R (if jump.isNone then .ready else .done) jump))∧W4.heap[D]? =some (.deferred (some []))∧KeepsFrom (D+1+1) W W4:=fun jump W3 hk3=>by
   have hl3:=hk3.same _ _ (by omega) hl2 rfl;have hkf:KeepsFrom (D+1+1) W (W3.putObj (D+1) (.loop (R (if jump.isNone then .ready else .done) jump))):=(((hoA.from _).trans (by rw[←hW2];exact keepsF_put _ (by omega))).trans (hk3.far (by omega))).trans (keepsF_put _ (by omega));have:=run_endRound (P:=P) jump hl3;rw[hbusy,hR] at this;refine⟨_,rfl,?_,hl3,World.putObj_heap_same (Array.getElem?_eq_some_iff.1 hl3).1,(World.putObj_heap_other (by omega)).trans (hk3.same _ _ (by omega) hk2 rfl),hkf⟩;rw[hR];exact this
  rintro e a3 W3 hp;have out:∀c,KeepsFrom w.heap.size W2 W3→Ix c (pre++[x]) W3→∃v W4,(Instr.endRound (D+1) (some c)).run P W3= .ok v W4∧Ending.returned v= .returned (.bool false)∧(Ix c (pre++[x]) W4∧W4.heap[D+1]? =some (.loop (R .done (some c)))∧W4.heap[D]? =some (.deferred (some [])))∧KeepsFrom (D+1+1) W W4:=fun c hk3 hi3=>by
   obtain⟨W4,hW4,hr,hl3,hl4,hk4,hkf⟩:=fin (some c) W3 hk3;exact⟨_,W4,hr,rfl,⟨by rw[←hW4];exact(hIx c).turn _ hi3 (by omega) hl3 rfl,hl4,hk4⟩,hkf⟩
  cases e with
  | normal=>
   obtain⟨hk3,hkp3,hi3⟩:=hp;obtain⟨W4,hW4,hr,hl3,hl4,hk4,hkf⟩:=fin none W3 hk3;refine⟨_,W4,hr,.inl ⟨rfl,⟨?_,hl4,hk4⟩,?_,hkf⟩⟩
   ·rw[←hW4];exact hI.turn _ hi3 (by omega) hl3 rfl
   ·rw[←hW4];exact hKt (hKt hw2 hkp3) (hKb _ _ _ _ (by omega) hl3)
  | ret=>
   obtain⟨v,W4,hr,hv,h4⟩:=out .ret hp.1 hp.2;exact⟨v,W4,hr,.inr ⟨hv,⟨.ret,h4.1⟩,h4.2⟩⟩
  | exit id=>
   obtain⟨v,W4,hr,hv,h4⟩:=out (.exit id) hp.1 hp.2;exact⟨v,W4,hr,.inr ⟨hv,⟨.exit id,h4.1⟩,h4.2⟩⟩
  | goto t=>
   obtain⟨v,W4,hr,hv,h4⟩:=out (.goto t) hp.1 hp.2;exact⟨v,W4,hr,.inr ⟨hv,⟨.goto t,h4.1⟩,h4.2⟩⟩
  | panic ch=>exact hp.elim
  | outgrown=>exact hp.elim
 ·rintro e W2 ⟨⟨v,rfl⟩,(⟨xs,hS,hi,hl,hk⟩ | ⟨pre,hSp,c,hi,hl,hk⟩)⟩
  ·have hr:=run_endLoop (P:=P) hl (by rw[hR];simp);rw[hR] at hr;refine⟨none,_,hr,?_⟩;exact hdone D xs _ hD hS (hI.turn _ hi (by omega) hl rfl) ((World.putObj_heap_other (by omega)).trans hk)
  ·have hr:=run_endLoop (P:=P) hl (by rw[hR];simp);rw[hR] at hr;refine⟨some c,_,hr,?_⟩;exact hstop D c pre _ hD hSp ((hIx c).turn _ hi (by omega) hl rfl) ((World.putObj_heap_other (by omega)).trans hk)
section
variable {F:Fence} {n:Nat} {P:Program} {ops:Array Oper} {md:Region.Mode} {C:World→Prop}
end
def noDefer (l:List Oper):Bool:=l.all fun o=>match o.op with | .defer _=>false | _=>true
theorem noDefer_spec {l:List Oper}(h:noDefer l=true):∀(i:Nat) (o:Oper),l.toArray[i]? =some o→∀c,o.op≠ .defer c:=by
 intro i o ho c hc;have hm:o∈l:=by
  have:l[i]? =some o:=by simpa using ho
  exact List.mem_of_getElem? this
 have:=List.all_eq_true.1 h o hm;rw[hc] at this;cases this
end Sw
namespace Sw
open Go
section
variable {l n:Nat} {P:Program} {ops:Array Oper} {md:Region.Mode} {Q:Exit→Act→World→Prop}
theorem opIn_of_op {o:Oper}{a:Act}{w:World}{K:Act→World→Prop}(hnd:∀c,o.op≠ .defer c)(h:o.wp P a w K (OnlyN Q)):o.wpIn (Fence.wide.inRound l) n P a w K Q:=by
 unfold Oper.wpIn;refine⟨fun _ _=>trivial,?_⟩;rw[Oper.semAt_eq _ _ _ hnd];unfold Oper.wp at h;generalize (execOp a.eval o).run P w=r at*;cases r with
 | halt x w'=>cases x<;>simp only[Oper.upon] at h<;>first | exact h.elim | exact(h:False).elim
 | ok x w'=>
  cases x with
  | value u=>exact h
  | skip=>exact h
  | defer d=>exact h
  | enter f args=>
   refine⟨fun hd=>by simp [Fence.wide] at hd,((callsIn_wide.2 h).inRound l).mono fun e w'' he=>?_⟩;cases e with
   | returned v=>exact he
   | panicked c=>exact(he:False).elim
   | outgrown=>exact absurd he OnlyN.out
  | row row args=>
   refine⟨fun hd=>by simp [Fence.wide] at hd,fun c cs _=>?_⟩;obtain⟨v,w2,r,s⟩:=h c cs;exact⟨v,w2,r,stepsIn_wide.2 s⟩
  | _=>exact(h:False).elim
theorem anyIn_of_any (hnd:∀(i:Nat) (o:Oper),ops[i]? =some o→∀c,o.op≠ .defer c):∀(f:Nat) (listed:Array Bool) (a:Act) (w:World),wpAny P md ops (OnlyN Q) f listed a w→wpAnyIn (Fence.wide.inRound l) n P md ops Q f listed a w
 | 0,_,_,_,h=>h
 | f+1,listed,a,w,h=>⟨h.1,fun i hi=>by
   have h2:=h.2 i hi;unfold wpOp at h2;unfold wpOpIn;cases ho:ops[i]?with
   | none=>rw[ho] at h2;exact anyIn_of_any hnd f _ a w h2
   | some o=>
    rw[ho] at h2;simp only at h2⊢;split
    ·rename_i hw
     rw[if_pos hw] at h2;rcases h2 with h2 | h2
     ·exact opIn_of_op (hnd i o ho) (Oper.wp_mono (fun a w=>anyIn_of_any hnd f _ a w) h2)
     ·exact absurd h2.2 OnlyN.out
    ·rename_i hw
     rw[if_neg hw] at h2;exact⟨fun _ _=>trivial,anyIn_of_any hnd f _ _ w h2⟩⟩
end
theorem wpIn_region_mixD {P:Program}{lr n:Nat}(C:World→Prop)(perm:List (Nat×Bool)){id:Nat}{Q:Exit→Act→World→Prop}{a:Act}{w:World}{l:List Oper}(hm:P.follows .mixedOrders=true)
  (hB:(noDefer l&&Region.noSelect l.toArray&&decide (perm.length=l.length)&&permD .any l.toArray perm (Array.replicate l.length false))=true)
  (h:mixD P l.toArray C Q (pickP l.toArray perm) a w.drew):(Code.region id l.toArray true).wpIn (Fence.wide.inRound lr) n P Q a w:=by
 simp only[Bool.and_eq_true,decide_eq_true_eq] at hB;obtain⟨⟨⟨hnd,hs⟩,hl⟩,hp⟩:=hB;refine wpIn_region_any hm (anyIn_of_any (noDefer_spec hnd) _ _ _ _ (wpAny_of_anyD (C:=C) _ _ _ _ ?_));have:=anyD_of_mix (C:=C) (Q:=Q) hs perm (Array.replicate l.length false) a w.drew (fun k ok _ hl=>by
  rw[Array.getD_eq_getD_getElem?] at hl;rcases Nat.lt_or_ge k l.length with hk | hk
  ·simp [hk] at hl
  ·rw[Array.getElem?_eq_none (by simpa using hk)] at hl;cases hl) (by simp) hp h
 rw[hl] at this
 simpa using this
end Sw
namespace Go.Proofs.YtnpehjgnplaabaaGreatDoor
open Go Go.RowKit Go.Shelf
open Sw
attribute [local go_sem] Oper.semAt_some
def tsG:List TypeId:=[76,9]
theorem keepOkG:KeepOkG tsG:=by unfold KeepOkG tsG;decide
section
variable {B0:Nat} {w w':World} {gs bt bt2 m0 m1 mc N M:Nat} {policy:Int} {pv pv' gv:Value} {ps ps' gr:List ByteArray} {f0 f1 fc g0 g1 gc:ByteArray→Option Value}
theorem RgIn.ownF {B:Nat}{row:Option Nat}(h:RgIn B0 w gs bt bt2 m0 m1 mc N policy pv gv ps gr f0 f1 fc)(hB:gs<B∧m0<B∧m1<B∧mc<B)(hg:w.grownBy w' row)(hr:∀r,row=some r→B≤r∧∃o:Obj,w.heap[r]? =some o∧o.isCells=false):RgIn B0 w' gs bt bt2 m0 m1 mc N policy pv gv ps gr f0 f1 fc:=h.same fun i hi=>hg.block i (h.lt i hi) (fun e=>by
 obtain⟨h1,o,ho,hc⟩:=hr i e.symm;have cells:∀t cs,¬Blk w i t cs:=fun t cs hb=>by
  unfold Blk at hb;rw[ho] at hb;cases hb
  cases hc
 rcases hi with rfl | rfl | rfl | rfl | hi | hi
 ·omega
 ·omega
 ·omega
 ·omega
 ·obtain⟨cur,hb⟩:=own_blkB h.rp hi;exact cells _ _ hb
 ·obtain⟨cur,hb⟩:=own_blkB h.rg hi;exact cells _ _ hb)
theorem keepG_reg (h:RgIn B0 w gs bt bt2 m0 m1 mc N policy pv gv ps gr f0 f1 fc)(h':RgIn B0 w' gs bt bt2 m0 m1 mc M policy pv' gv ps' gr g0 g1 gc)(ht:TurnB (fun i=>i=gs∨i=m0∨i=m1∨i=mc∨pv.ownBlock=some i) w w')(hp:∀g,pv'.ownBlock=some g→pv.ownBlock=some g∨w.heap.size≤g):KeepG B0 tsG 9 gs w w':=by
 have hB0:B0≤w.heap.size:=zT h.bs (Nat.le_of_lt h.box.lt);have notF:∀g t cs,Blk w g t cs→¬t=76→(¬t=9∨¬pv.ownBlock=some g)→Blk w' g t cs:=fun g t cs hb h1 h2=>hb.turnB ht (fun hf=>by
  rcases hf with rfl | rfl | rfl | rfl | hf
  ·exact Blk.other hb h.box h1 rfl
  ·exact map_noblk h.mA hb
  ·exact map_noblk h.mB hb
  ·exact map_noblk h.mC hb
  ·rcases h2 with h2 | h2
   ·obtain⟨cur,hc⟩:=own_blkB h.rp hf;exact Blk.other hb hc h2 rfl
   ·exact h2 hf)
 refine⟨⟨ht.to_below hB0 (fun i hi=>?_),fun g t cs hb hn=>?_⟩,fun g cs hb hn=>?_,fun g hc=>?_⟩
 ·rcases hi with rfl | rfl | rfl | rfl | hi
  ·exact h.bs
  ·exact h.b0
  ·exact h.b1
  ·exact h.bc
  ·exact(h.rp.lt i hi).1
 ·unfold tsG at hn;simp only[List.mem_cons,List.not_mem_nil,or_false,not_or] at hn;exact notF g t cs hb hn.1 (.inl hn.2)
 ·exact notF g _ cs hb (by decide) (.inr (fun e=>hn ⟨_,_,3,pv,h.box,by simp,e⟩))
 ·obtain⟨t,cs,i,v,hb,hi,hv⟩:=hc;have h2:=h'.box;unfold Blk at hb h2;rw[h2] at hb;cases hb
  have hlt:i<8:=by
   have:=(Array.getElem?_eq_some_iff.1 hi).1
   simpa using this
  by_cases h3:i=3
  ·subst h3;simp at hi
   subst hi;rcases hp g hv with h4 | h4
   ·exact .inl ⟨_,_,3,pv,h.box,by simp,h4⟩
   ·exact .inr h4
  ·refine .inl ⟨_,_,i,v,h.box,?_,hv⟩;rw[←hi];have:i=0∨i=1∨i=2∨i=4∨i=5∨i=6∨i=7:=by omega
   rcases this with rfl | rfl | rfl | rfl | rfl | rfl | rfl<;>simp
theorem keepsF_reg {B:Nat}(h:RgIn B0 w gs bt bt2 m0 m1 mc N policy pv gv ps gr f0 f1 fc)(hB:gs<B∧m0<B∧m1<B∧mc<B)(ht:TurnB (fun i=>i=gs∨i=m0∨i=m1∨i=mc∨pv.ownBlock=some i) w w'):KeepsFrom B w w':=
 ⟨ht.size,fun k o hk ho hc=>(ht.block k (Array.getElem?_eq_some_iff.1 ho).1 (fun hf=>by
  rcases hf with rfl | rfl | rfl | rfl | hf
  ·omega
  ·omega
  ·omega
  ·omega
  ·obtain⟨cur,hb⟩:=own_blkB h.rp hf;unfold Blk at hb;rw[ho] at hb;cases hb
   cases hc)).trans ho⟩
end
theorem first_snoc {policy:Int}{L:List MkE}{xs ys:List NE}{pre r:List StR}{x:StR}(h:pre++x::r=allR L xs ys):¬x.path∈(pre.map (firstN policy xs ys)).map NP.path∧(x.verdict=3→¬x.cls=0)∧x.path∈pathsS (L.map Prod.fst++xs.map Prod.fst++ys.map Prod.fst)∧(pre.map (firstN policy xs ys)).map NP.path=pre.map StR.path:=by
 have hpm:(pre.map (firstN policy xs ys)).map NP.path=pre.map StR.path:=by
  rw[List.map_map];exact List.map_congr_left (fun s _=>rfl)
 have hall:(allR L xs ys).map StR.path=pathsS (L.map Prod.fst++xs.map Prod.fst++ys.map Prod.fst):=by
  unfold allR;rw[List.map_map];exact(List.map_congr_left (fun p _=>rfl)).trans (List.map_id _)
 have hr:=pathsS_rise (L.map Prod.fst++xs.map Prod.fst++ys.map Prod.fst);rw[←hall,←h,List.map_append,List.map_cons] at hr;have hx:x∈allR L xs ys:=by rw[←h];simp
 refine⟨fun hm=>?_,fun hv hc=>?_,?_,hpm⟩
 ·rw[hpm] at hm;have h2:=(List.pairwise_append.1 hr).2.2 _ hm x.path (List.mem_cons_self ..);rw[ordS_refl] at h2;omega
 ·obtain⟨p,_,rfl⟩:=List.mem_map.1 hx;unfold stepR decideN classN at hv hc;simp only at hv hc;split at hv
  ·cases hv
  ·rename_i h1
   rw[if_neg h1] at hc;split at hv
   ·cases hv
   ·rename_i h2
    rw[if_neg h2] at hc;split at hv
    ·cases hv
    ·rename_i h3
     rw[if_neg h3] at hc;split at hc
     ·cases hc
     ·split at hc<;>cases hc
 ·rw[←hall];exact List.mem_map.2 ⟨x,hx,rfl⟩
end Go.Proofs.YtnpehjgnplaabaaGreatDoor
