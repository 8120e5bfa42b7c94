/- Several texts of ours, joined. -/
import Derived.Test.YtnpehjgnplaabaaGreatDoorJoin1
import Derived.Test.YtnpehjgnplaabaaGreatDoorJoin14
import Derived.Test.YtnpehjgnplaabaaGreatDoorJoin11
import Derived.Test.YtnpehjgnplaabaaGreatDoorJoin12
import Derived.Test.YtnpehjgnplaabaaGreatDoorJoin5
import Derived.Test.YtnpehjgnplaabaaGreatDoorJoin13
import Derived.Test.YtnpehjgnplaabaaGreatDoorJoin6
import Derived.Test.YtnpehjgnplaabaaGreatDoorJoin4
set_option linter.unusedVariables false
set_option linter.unusedSimpArgs false
set_option maxRecDepth 100000
set_option maxHeartbeats 64000000
namespace Go.Proofs.YtnpehjgnplaabaaGreatDoor
open Go Go.RowKit
open Sw
theorem infoS30:(Tryz.prog.info? 88).map (fun i=>(i.zero,i.size,i.bytes))=some (some (.agg #[.string ⟨#[]⟩,.int .i64 0,.int .i64 0,.int .i64 0,.int .i64 0,.int .u32 0,.string ⟨#[]⟩,.int .i64 0,.int .i64 0,.int .u32 0,.string ⟨#[]⟩]),11,112):=by kernel_rfl
def OwnS30 (w:World) (base:Nat) (u:Value) (l:List StR):Prop:=w.ownsRow base 88 11 u l.length (l.flatMap eCR)
theorem OwnS30.app {w1:World}{base g cap n:Nat}{l:List StR}{x:StR}(h:w1.ownsRow base 88 11 (.slice (some ⟨g,0,none⟩) (n+1) cap) (n+1) (l.flatMap eCR++eCR x))(hn:l.length=n):OwnS30 w1 base (.slice (some ⟨g,0,none⟩) (n+1) cap) (l++[x]):=by
 unfold OwnS30;rw[zF,List.length_singleton,hn,List.flatMap_append]
 simpa using h
def AllRAns (w':World) (B:Nat) (l:List StR) (e:Ending):Prop:=∃u,e= .returned u∧OwnS30 w' B u l
theorem refAllR_any (w:World)(u1 u2:Value)(l1 l2:List MkE)(h1:SlV w 6 eCM u1 l1)(h2:SlV w 6 eCM u2 l2)(hn1:l1.length≤100)(hn2:l2.length≤100)(hz1:∀m∈l1++l2,m.1.size≤90000)
  (v1 v2:Value) (xs ys:List NE) (g1:SlV w 5 eCSN v1 xs) (g2:SlV w 5 eCSN v2 ys) (hm1:xs.length≤100) (hm2:ys.length≤100) (hz2:∀m∈xs++ys,m.1.size≤90000) (hup:Up ordS xs) (hup2:Up ordS ys) (hxd:∀e∈xs,e.2.data.size≤maxLen) (hyd:∀e∈ys,e.2.data.size≤maxLen):
  Calls Tryz.prog 32 #[.agg #[u1,u2],v1,v2] w fun e w'=>AllRAns w' w.heap.size (allR (l1++l2) xs ys) e∧Below w.heap.size w w':=by
 obtain⟨W0,hW0⟩:∃W0,w.alloc (.cells #[u1,u2] 24)=W0:=⟨_,rfl⟩;have hb0:Below w.heap.size w W0:=by rw[←hW0];exact(zR _ w).alloc (zN _) _
 have hB0:Blk W0 w.heap.size 24 #[u1,u2]:=by rw[←hW0];exact Blk.new _ _ _
 have hpp:=refPathsP_any W0 u1 u2 l1 l2 (h1.below hb0 (zN _)) (h2.below hb0 (zN _)) hn1 hn2 hz1 v1 v2 xs ys (g1.below hb0 (zN _)) (g2.below hb0 (zN _)) hm1 hm2 hz2;have hpe:(l1++l2).map Prod.fst++(xs++ys).map Prod.fst=(l1++l2).map Prod.fst++xs.map Prod.fst++ys.map Prod.fst:=by simp only[List.map_append,zV]
 rw[hpe] at hpp;have HP:=zH hpp;have HW:=zH hW0;have H0:=zH (zA hb0 (zA hB0 (zA (zA h1 h2) (zA g1 g2))));have hpl:(pathsS ((l1++l2).map Prod.fst++xs.map Prod.fst++ys.map Prod.fst)).length≤3000:=zT (pathsS_len _) (by simp only[zF,zS];omega);have HA:=zH (show allR (l1++l2) xs ys=(pathsS ((l1++l2).map Prod.fst++xs.map Prod.fst++ys.map Prod.fst)).map (stepR (l1++l2) xs ys) from rfl);have HX:=zH (zA (zA hup hxd) (zA hup2 hyd));obtain⟨ans,hans⟩:∃ans,allR (l1++l2) xs ys=ans:=⟨_,rfl⟩;obtain⟨ps,hps⟩:∃ps,pathsS ((l1++l2).map Prod.fst++xs.map Prod.fst++ys.map Prod.fst)=ps:=⟨_,rfl⟩;unfold PathsAns at HP;rw[hps] at HP hpl HA;rw[hans] at HA;rw[hans];obtain⟨A1,c1,rfl,_,_,_⟩:=g1;obtain⟨A2,c2,rfl,_,_,_⟩:=g2;obtain⟨n3,hn3⟩:∃n,xs.length=n:=⟨_,rfl⟩;obtain⟨n4,hn4⟩:∃n,ys.length=n:=⟨_,rfl⟩;simp only[hn3,hn4] at HP H0⊢;clear hb0 hB0 hW0 h1 h2 hz1 hz2 hup hup2 hxd hyd hpp hps hans hpe hn3 hn4;go_enter Tryz.func32,Tryz.ntmps32
 go_wp2_with fail
 rw[HW.out];refine HP.out.mono ?_;rintro e w1 ⟨⟨u,rfl,ho⟩,hb1⟩;have hslu:=ho.slv;unfold OwnS at ho;obtain⟨A3,k3,rfl,hk3,-,-⟩:=SlV_of_any ho;have H1:=zH (zA hslu (zA (H0.out.1.trans (hb1.mono H0.out.1.size)) (H0.out.2.1.below hb1 H0.out.2.1.lt)));obtain⟨n,hn⟩:∃n,ps.length=n:=⟨_,rfl⟩;rw[hn] at H1 hpl hk3;rw[hn];have HN:=zH hn;clear ho hb1 hn HP hslu;go_wp2_with fail
 go_loopw [7,21] (fun o iv wr=>∃i:Nat,iv= .int .i64 i∧i≤n∧OwnS30 wr w1.heap.size o (ans.take i)∧Below w1.heap.size w1 wr) (fun _ iv _=>n-(intOf iv).toNat)
 case atStart=>exact⟨0,rfl,Nat.zero_le _,World.ownsRow_nil _ _ _ _,zR _ _⟩
 case round=>
  obtain⟨i,rfl,hi,ho,hb⟩:=hrel;have hbw:=H1.out.2.1.trans (hb.mono H1.out.2.1.size);have hbs:=hbw.size;have hB:=H1.out.2.2.below hb H1.out.2.2.lt;by_cases hlt:i<n
  ·have hiL:i<ps.length:=by have:=HN.out;omega
   obtain⟨A',c',hA',_,_,hso⟩:=H1.out.1.below hb (zN _);(obtain⟨rfl,rfl⟩:A3=A'∧k3=c':=by injection hA' with e1 e2 e3;exact⟨e1,e3⟩);clear hA';obtain⟨b,off,rfl,hbb,hcs⟩:=hso (by omega);have c0:=hcs i hiL 0 (by omega);simp only[sE,qC,Nat.add_zero,Nat.mul_one] at c0;clear hcs hso;(have hi1:(i:Int)<n:=by omega);have hst:ans.take (i+1)=ans.take i++[stepR (l1++l2) xs ys ps[i]]:=by
    rw[HA.out,zG (by rw[zS];exact hiL),List.getElem_map]
   (have hml:(ans.take i).length=i:=by rw[zL,HA.out,zS];omega);obtain⟨q,hx⟩:∃x,ps[i]=x:=⟨_,rfl⟩;simp only[hx] at c0 hst;clear hx;(have hff:=fun W (hW:Below w.heap.size w W)=>refFindM_any W u1 u2 l1 l2 q (H0.out.2.2.1.1.below hW (zN _)) (H0.out.2.2.1.2.below hW (zN _)) (by omega) (by omega));have hg1:=fun W (hW:Below w.heap.size w W)=>(show Calls Tryz.prog 70 #[.slice A1 n3 c1,.string q] W fun e w'=>e= .returned (.agg (getT xs q).c)∧Below W.heap.size W w' from by
    have:=ref16Get_any W _ xs q (H0.out.2.2.2.1.below hW (zN _));rw[refGetT_eq xs q HX.out.1.1] at this;exact this)
   have hg2:=fun W (hW:Below w.heap.size w W)=>(show Calls Tryz.prog 70 #[.slice A2 n4 c2,.string q] W fun e w'=>e= .returned (.agg (getT ys q).c)∧Below W.heap.size W w' from by
    have:=ref16Get_any W _ ys q (H0.out.2.2.2.2.below hW (zN _));rw[refGetT_eq ys q HX.out.2.1] at this;exact this)
   have hs1:=getT_size (p:=q) HX.out.1.1 HX.out.1.2;have hs2:=getT_size (p:=q) HX.out.2.1 HX.out.2.2;have hsd:stepR (l1++l2) xs ys q=⟨q,(decideN ((findM (l1++l2) q).getD ⟨0,0,0,0,0⟩) (findM (l1++l2) q).isSome (getT xs q) (getT ys q)).1,(decideN ((findM (l1++l2) q).getD ⟨0,0,0,0,0⟩) (findM (l1++l2) q).isSome (getT xs q) (getT ys q)).2,getT xs q,getT ys q⟩:=rfl;(have hdd:=fun W'=>refDecide_any W' ((findM (l1++l2) q).getD ⟨0,0,0,0,0⟩) (findM (l1++l2) q).isSome (getT xs q) (getT ys q) hs1 hs2);generalize stepR (l1++l2) xs ys q=st at*;generalize (findM (l1++l2) q).getD ⟨0,0,0,0,0⟩=pr at*;generalize (findM (l1++l2) q).isSome=had at*;generalize getT xs q=nd1 at*;generalize getT ys q=nd2 at*;obtain⟨vd,hvd⟩:∃v,(decideN pr had nd1 nd2).1=v:=⟨_,rfl⟩;obtain⟨cl,hcl⟩:∃v,(decideN pr had nd1 nd2).2=v:=⟨_,rfl⟩;rw[hvd,hcl] at hsd;simp only[hvd,hcl] at hdd;clear hvd hcl hs1 hs2;obtain⟨fa,fb,fc,fd,fs⟩:=pr;obtain⟨ak,am,at',ad⟩:=nd1;obtain⟨ck,cm,ct,cd⟩:=nd2;simp only[Pr.c,Nd.c] at hff hg1 hg2 hdd;subst hsd;have HFF:=zH hff;have HG1:=zH hg1;have HG2:=zH hg2;have HDD:=zH hdd;obtain⟨A4,k4,rfl,_,_,_⟩:=SlV_of_any ho;have HO:=zH ho;have HR:=zH (zA hst (zA hb (zA hbw hB)));have HML:=zH hml;clear hff hg1 hg2 hdd ho hb hB hst hbw;generalize ans.take i=F at*;unfold OwnS30 at HO;rw[hml] at HO⊢;clear hml;(go_wp2_with fail);refine(HG1.out wr HR.out.2.2.1).mono ?_;rintro e w2 ⟨rfl,hb2⟩;have H2:=zH (zA (HR.out.2.2.1.trans (hb2.mono hbs)) hb2);clear hb2 HG1;(go_wp2_with fail);refine(HG2.out w2 H2.out.1).mono ?_;rintro e w3 ⟨rfl,hb3⟩;have H3:=zH (H2.out.2.trans (hb3.mono H2.out.2.size));clear hb3 HG2 H2;(go_upto_region 6 with fail);have hba:Below w3.heap.size w3 ((w3.alloc (.cells #[.int .i64 ak,.int .i64 am,.int .u32 at',.string ad] 57)).alloc (.cells #[.int .i64 ck,.int .i64 cm,.int .u32 ct,.string cd] 57)):=((zR _ w3).alloc (zN _) _).alloc (by simp) _;have hBa:Blk ((w3.alloc (.cells #[.int .i64 ak,.int .i64 am,.int .u32 at',.string ad] 57)).alloc (.cells #[.int .i64 ck,.int .i64 cm,.int .u32 ct,.string cd] 57)) w3.heap.size 57 #[.int .i64 ak,.int .i64 am,.int .u32 at',.string ad]:=blk_fst _ _ _ _;have hBb:Blk ((w3.alloc (.cells #[.int .i64 ak,.int .i64 am,.int .u32 at',.string ad] 57)).alloc (.cells #[.int .i64 ck,.int .i64 cm,.int .u32 ct,.string cd] 57)) (w3.heap.size+1) 57 #[.int .i64 ck,.int .i64 cm,.int .u32 ct,.string cd]:=blk_snd _ _ _ _;generalize (w3.alloc (.cells #[.int .i64 ak,.int .i64 am,.int .u32 at',.string ad] 57)).alloc (.cells #[.int .i64 ck,.int .i64 cm,.int .u32 ct,.string cd] 57)=w5 at*;generalize w3.heap.size+1=Gb at*;have hb5:=H3.out.trans (hba.mono H3.out.size);generalize w3.heap.size=Ga at*;have H5:=zH (zA hb5 (zA hBa hBb));have hBx:=HR.out.2.2.2.below hb5 HR.out.2.2.2.lt;have q0:=hBx.cell 0;have q1:=hBx.cell 1;simp only[qA,qB,qC] at q0 q1;clear hba hBa hBb hb5 hBx H3;(go_wp2_with fail);refine(HFF.out w5 (HR.out.2.2.1.trans (H5.out.1.mono hbs))).mono ?_;rintro e w6 ⟨rfl,hb6⟩;have H6:=zH (zA (H5.out.1.trans (hb6.mono H5.out.1.size)) (zA (H5.out.2.1.below hb6 H5.out.2.1.lt) (H5.out.2.2.below hb6 H5.out.2.2.lt)));clear hb6 HFF H5 q0 q1;(go_upto_region 7 with fail);have hba:Below w6.heap.size w6 (w6.alloc (.cells #[.int .i64 fa,.int .i64 fb,.int .u32 fc,.int .i64 fd,.int .u32 fs] 61)):=(zR _ w6).alloc (zN _) _;have hBP:Blk (w6.alloc (.cells #[.int .i64 fa,.int .i64 fb,.int .u32 fc,.int .i64 fd,.int .u32 fs] 61)) w6.heap.size 61 #[.int .i64 fa,.int .i64 fb,.int .u32 fc,.int .i64 fd,.int .u32 fs]:=Blk.new _ _ _;generalize w6.alloc (.cells #[.int .i64 fa,.int .i64 fb,.int .u32 fc,.int .i64 fd,.int .u32 fs] 61)=w7 at*;have H7:=zH (zA (H6.out.1.trans (hba.mono H6.out.1.size)) (zA (H6.out.2.1.below hba H6.out.2.1.lt) (H6.out.2.2.below hba H6.out.2.2.lt)));obtain⟨p0,p1,p2,p3,p4⟩:=zc5 hBP;simp only[qA,qB,qC] at p0 p1 p2 p3 p4;obtain⟨x0,x1,x2,x3⟩:=zc4 H7.out.2.1;obtain⟨y0,y1,y2,y3⟩:=zc4 H7.out.2.2;simp only[qA,qB,qC] at x0 x1 x2 x3 y0 y1 y2 y3;clear hba hBP H6;(go_wp2_with fail);refine(HDD.out w7).mono ?_;rintro e w8 ⟨rfl,hb8⟩;have H8:=zH (zA (H7.out.1.trans (hb8.mono H7.out.1.size)) (zA (H7.out.2.1.below hb8 H7.out.2.1.lt) (H7.out.2.2.below hb8 H7.out.2.2.lt)));have HO8:=zH (own_kept HO.out H8.out.1);have HB8:=zH (HR.out.2.1.trans (H8.out.1.mono HR.out.2.1.size));have hs8:=HB8.out.size;clear p0 p1 p2 p3 p4 x0 x1 x2 x3 y0 y1 y2 y3 hb8 H7 HDD;obtain⟨x0,x1,x2,x3⟩:=zc4 H8.out.2.1;obtain⟨y0,y1,y2,y3⟩:=zc4 H8.out.2.2;simp only[qA,qB,qC] at x0 x1 x2 x3 y0 y1 y2 y3;(go_wp2_with (at_builtin;refine wpList_app rfl _ _ 85 rfl w1.heap.size 88 _ _ _ Tryz.underlying85 infoS30 rfl (by decide) _ i _ rfl (HO8.out.alloc _) w8.heap.size 1 #[.string q,.int .i64 vd,.int .i64 cl,.int .i64 ak,.int .i64 am,.int .u32 at',.string ad,.int .i64 ck,.int .i64 cm,.int .u32 ct,.string cd] 88 rfl (Blk.new _ _ _) rfl (by simp [Value.oneCell']) (by omega) (by decide) (by simp;omega) _ rfl ?_;intro g cap w9 hown1 hgrow1 hat hlt1));have HNX:=zH (zA (OwnS30.app (x:=⟨q,vd,cl,⟨ak,am,at',ad⟩,⟨ck,cm,ct,cd⟩⟩) hown1 HML.out) (own_below HO8.out (HB8.out.alloc HB8.out.size _) hgrow1 (zN _) (by simp;omega)));clear hown1 hgrow1 hat hlt1 x0 x1 x2 x3 y0 y1 y2 y3;(go_wp2_with fail);go_roundw
   case rel=>exact⟨i+1,by go_num,by omega,by rw[HR.out.1];exact HNX.out.1,HNX.out.2⟩
   case measure=>simp [intOf];omega
  ·obtain rfl:i=n:=by omega
   have hf:ans.take i=ans:=zO (by rw[HA.out,zS];have:=HN.out;omega);rw[hf] at ho;obtain⟨A4,k4,rfl,_,_,_⟩:=SlV_of_any ho;have h9:OwnS30 wr w.heap.size (.slice A4 ans.length k4) ans:=own_wide ho H1.out.2.1.size;have HF:=zH (zA (⟨_,rfl,h9⟩:AllRAns wr w.heap.size ans (.returned (.slice A4 ans.length k4))) hbw);clear h9 ho hb hB hf hbw;generalize ans.length=z at*;(go_wp2_with fail);go_ret;exact HF.out
end Go.Proofs.YtnpehjgnplaabaaGreatDoor
namespace Sw
open Go
def fineR (p:Pr):Bool:=
 if p.kind<0∨2<p.kind∨p.mode<0∨511<p.mode∨p.size<0∨65000<p.size then false
 else if p.kind=1 then decide (splitD p.time).Ok&&(!(p.size==0)||(p.sum==0))
 else(p.time==0)&&((p.size==0)&&((p.sum==0)&&((p.kind==2)||(p.mode==0))))
theorem fine_eq (p:Pr):fineP p=fineR p:=by
 obtain⟨k,m,t,z,u⟩:=p;unfold fineP fineR;simp only;generalize decide (splitD t).Ok=ok;by_cases h0:k=0
 ·subst h0;rw[if_pos rfl];by_cases hb:m<0∨511<m∨z<0∨65000<z
  ·rw[if_pos (.inr (.inr hb)),zD];intro e;injection e with e1 e2 e3 e4 e5;omega
  ·rw[if_neg (by omega),if_neg (by decide)];rw[Bool.eq_iff_iff];simp only[decide_eq_true_eq,Bool.and_eq_true,Bool.or_eq_true,beq_iff_eq,Pr.mk.injEq];constructor
   ·rintro ⟨-,h1,h2,h3,h4⟩;exact⟨h2,h3,h4,.inr h1⟩
   ·rintro ⟨h2,h3,h4,h1⟩;exact⟨by first | trivial | rfl,by rcases h1 with h1 | h1;exact absurd h1 (by decide);exact h1,h2,h3,h4⟩
 ·rw[if_neg h0];by_cases h2:k=2
  ·subst h2;rw[if_pos rfl];by_cases hb:m<0∨511<m∨z<0∨65000<z
   ·rw[if_pos (.inr (.inr hb)),Bool.eq_iff_iff];simp only[decide_eq_true_eq,Bool.and_eq_true,beq_iff_eq];constructor
    ·intro h;omega
    ·intro h;cases h
   ·rw[if_neg (by omega),if_neg (by decide),Bool.eq_iff_iff];simp only[decide_eq_true_eq,Bool.and_eq_true,Bool.or_eq_true,beq_iff_eq];constructor
    ·rintro ⟨-,h1,h2,h3⟩;exact⟨h1,h2,h3,.inl (by first | rfl | trivial)⟩
    ·rintro ⟨h1,h2,h3,-⟩;exact⟨by omega,h1,h2,h3⟩
  ·rw[if_neg h2];by_cases h1:k=1
   ·subst h1;rw[if_pos rfl];by_cases hb:m<0∨511<m∨z<0∨65000<z
    ·rw[if_pos (.inr (.inr hb)),Bool.eq_iff_iff];simp only[decide_eq_true_eq,Bool.and_eq_true,beq_iff_eq];constructor
     ·intro h;omega
     ·intro h;cases h
    ·rw[if_neg (by omega),if_pos rfl];cases ok
     ·simp
     ·rw[Bool.eq_iff_iff];simp only[decide_eq_true_eq,Bool.and_eq_true,Bool.or_eq_true,beq_iff_eq,Bool.not_eq_true',zB,true_and,ne_eq];omega
   ·rw[if_neg h1,if_pos (by omega)]
end Sw
namespace Go.Proofs.YtnpehjgnplaabaaGreatDoor
open Go Go.RowKit
open Sw
theorem refFineX_any (w:World)(p:Pr)(ht0:0≤p.time)(ht1:p.time<4294967296):
  Calls Tryz.prog 107 #[.agg p.c] w fun e w'=>e= .returned (.bool (fineP p))∧Below w.heap.size w w':=by
 rw[fine_eq];obtain⟨kd,md,tm,sz,sm⟩:=p;simp only at ht0 ht1;have hb0:=(zR w.heap.size w).alloc (zN _) (.cells #[.int .i64 kd,.int .i64 md,.int .u32 tm,.int .i64 sz,.int .u32 sm] 61);have hB0:=Blk.new w 61 #[.int .i64 kd,.int .i64 md,.int .u32 tm,.int .i64 sz,.int .u32 sm];have HB:=zH (zA hb0 hB0);clear hb0 hB0;have HT:=zH (fun W=>refTime_any W tm ht0 ht1);clear ht0 ht1;have HR:fineR ⟨kd,md,tm,sz,sm⟩=if kd<0∨2<kd∨md<0∨511<md∨sz<0∨65000<sz then false
 else if kd=1 then decide (splitD tm).Ok&&(!(sz==0)||(sm==0))
 else(tm==0)&&((sz==0)&&((sm==0)&&((kd==2)||(md==0)))):=rfl
 rw[HR];clear HR;generalize decide (splitD tm).Ok=ok at*;unfold Pr.c;by_cases a1:kd<0
 ·rw[if_pos (by omega)];go_enter Tryz.func107,Tryz.ntmps107
  go_wp2_with fail
  go_ret;exact⟨rfl,HB.out.1⟩
 by_cases a2:2<kd
 ·rw[if_pos (by omega)];go_enter Tryz.func107,Tryz.ntmps107
  go_wp2_with fail
  go_ret;exact⟨rfl,HB.out.1⟩
 by_cases a3:md<0
 ·rw[if_pos (by omega)];go_enter Tryz.func107,Tryz.ntmps107
  go_wp2_with fail
  go_ret;exact⟨rfl,HB.out.1⟩
 by_cases a4:511<md
 ·rw[if_pos (by omega)];go_enter Tryz.func107,Tryz.ntmps107
  go_wp2_with fail
  go_ret;exact⟨rfl,HB.out.1⟩
 by_cases a5:sz<0
 ·rw[if_pos (by omega)];go_enter Tryz.func107,Tryz.ntmps107
  go_wp2_with fail
  go_ret;exact⟨rfl,HB.out.1⟩
 by_cases a6:65000<sz
 ·rw[if_pos (by omega)];go_enter Tryz.func107,Tryz.ntmps107
  go_wp2_with fail
  go_ret;exact⟨rfl,HB.out.1⟩
 rw[if_neg (by omega)];by_cases k1:kd=1
 ·subst k1;rw[if_pos rfl];cases ok with
  | false=>
   (go_enter Tryz.func107,Tryz.ntmps107);(go_wp2_with fail);refine(HT.out _).mono ?_;rintro e w1 ⟨rfl,hb1⟩;have x3:=(HB.out.2.below hb1 HB.out.2.lt).cell 3;have x4:=(HB.out.2.below hb1 HB.out.2.lt).cell 4;(simp at x3 x4);have H1:=zH (HB.out.1.trans (hb1.mono HB.out.1.size));clear hb1;(go_wp2_with fail);go_ret;exact⟨rfl,H1.out⟩
  | true=>
   obtain⟨q3,hq3⟩:∃q,(sm==0)=q:=⟨_,rfl⟩;rw[hq3];by_cases z:sz=0
   ·subst z;rw[show((0:Int)==0)=true from rfl];cases q3
    ·(go_enter Tryz.func107,Tryz.ntmps107);(go_wp2_with fail);refine(HT.out _).mono ?_;rintro e w1 ⟨rfl,hb1⟩;have x3:=(HB.out.2.below hb1 HB.out.2.lt).cell 3;have x4:=(HB.out.2.below hb1 HB.out.2.lt).cell 4;(simp at x3 x4);have H1:=zH (HB.out.1.trans (hb1.mono HB.out.1.size));clear hb1;(go_wp2_with fail);go_ret;exact⟨rfl,H1.out⟩
    ·(go_enter Tryz.func107,Tryz.ntmps107);(go_wp2_with fail);refine(HT.out _).mono ?_;rintro e w1 ⟨rfl,hb1⟩;have x3:=(HB.out.2.below hb1 HB.out.2.lt).cell 3;have x4:=(HB.out.2.below hb1 HB.out.2.lt).cell 4;(simp at x3 x4);have H1:=zH (HB.out.1.trans (hb1.mono HB.out.1.size));clear hb1;(go_wp2_with fail);go_ret;exact⟨rfl,H1.out⟩
   ·(have ez:(sz==0)=false:=by rw[zB];exact z);rw[ez];(go_enter Tryz.func107,Tryz.ntmps107);(go_wp2_with fail);refine(HT.out _).mono ?_;rintro e w1 ⟨rfl,hb1⟩;have x3:=(HB.out.2.below hb1 HB.out.2.lt).cell 3;have x4:=(HB.out.2.below hb1 HB.out.2.lt).cell 4;(simp at x3 x4);have H1:=zH (HB.out.1.trans (hb1.mono HB.out.1.size));clear hb1;(go_wp2_with fail);go_ret;exact⟨rfl,H1.out⟩
 ·rw[if_neg k1];have e1:(kd==1)=false:=by rw[zB];exact k1
  obtain⟨q1,hq1⟩:∃q,(tm==0)=q:=⟨_,rfl⟩;obtain⟨q2,hq2⟩:∃q,(sz==0)=q:=⟨_,rfl⟩;obtain⟨q3,hq3⟩:∃q,(sm==0)=q:=⟨_,rfl⟩;obtain⟨q4,hq4⟩:∃q,(kd==2)=q:=⟨_,rfl⟩;obtain⟨q5,hq5⟩:∃q,(md==0)=q:=⟨_,rfl⟩;rw[hq1,hq2,hq3,hq4,hq5];cases q1
  ·go_enter Tryz.func107,Tryz.ntmps107
   (go_wp2_with fail);go_ret;exact⟨rfl,HB.out.1⟩
  cases q2
  ·go_enter Tryz.func107,Tryz.ntmps107
   (go_wp2_with fail);go_ret;exact⟨rfl,HB.out.1⟩
  cases q3
  ·go_enter Tryz.func107,Tryz.ntmps107
   (go_wp2_with fail);go_ret;exact⟨rfl,HB.out.1⟩
  cases q4<;>cases q5
  all_goals
   (go_enter Tryz.func107,Tryz.ntmps107);(go_wp2_with fail);go_ret;exact⟨rfl,HB.out.1⟩
theorem rises26X_any (w:World)(u:Value)(L:List MkE)(h:SlV w 6 eCM u L)(hn:L.length≤100)(hin:∀m∈L,MkInA m):
  Calls Tryz.prog 68 #[u] w fun e w'=>e= .returned (.bool (risesM L))∧Below w.heap.size w w':=by
 have HS:=zH (zA h hin);clear hin;obtain⟨A,c,rfl,_,_,_⟩:=h;obtain⟨n,hn2⟩:∃n,L.length=n:=⟨_,rfl⟩;rw[hn2] at HS hn⊢;have HL:=zH hn2;clear hn2;have HNO:=zH (fun i (hi:i<L.length)=>risesM_no hi);have HYES:=zH (fun(hy:∀i,i<L.length→okI L i=true)=>risesM_yes hy);generalize risesM L=RES at*;go_enter Tryz.func68,Tryz.ntmps68
 go_wp2_with fail
 go_loopw [7] (fun iv wr=>∃i:Nat,i≤n∧iv= .int .i64 i∧(∀j,j<i→okI L j=true)∧Below w.heap.size w wr) (fun iv _=>n-(intOf iv).toNat)
 case atStart=>exact⟨0,Nat.zero_le _,rfl,fun j hj=>by omega,zR _ _⟩
 case round=>
  obtain⟨i,hi,rfl,hok,hb⟩:=hrel;have HOK:=zH hok;clear hok;have hslr:=HS.out.1.below hb (zN _);by_cases hlt:i<n
  ·have hiL:i<L.length:=by have:=HL.out;omega
   obtain⟨A',c',hA,_,_,hso⟩:=hslr;(obtain⟨rfl,rfl⟩:A=A'∧c=c':=by injection hA with e1 e2 e3;exact⟨e1,e3⟩);clear hA;obtain⟨b,off,rfl,hbb,hcs⟩:=hso (by omega);obtain⟨c0,c1,c2⟩:=zs3 (hcs i hiL);have c3':=hcs i hiL 3 (by omega);have c4:=hcs i hiL 4 (by omega);have c5:=hcs i hiL 5 (by omega);simp only[eCM,qB,qC,Nat.add_zero] at c0 c1 c2 c3' c4 c5;have HCS:=zH (zA hbb hcs);clear hcs hso hbb;(have hi1:(i:Int)<n:=by omega);have hmi:=HS.out.2 _ (zP hiL);have hLi:=zM hiL;obtain⟨⟨q,⟨kd,md,tm,sz,sm⟩⟩,hx⟩:∃x,L[i]=x:=⟨_,rfl⟩;simp only[hx] at c0 c1 c2 c3' c4 c5 hmi hLi;clear hx;have HLI:=zH hLi;clear hLi;obtain⟨W0,hW0⟩:∃W0,wr.alloc (.cells #[.string q,.int .i64 kd,.int .i64 md,.int .u32 tm,.int .i64 sz,.int .u32 sm] 63)=W0:=⟨_,rfl⟩;(have hba:Below wr.heap.size wr W0:=by rw[←hW0];exact(zR _ _).alloc (zN _) _);(have hB0:Blk W0 wr.heap.size 63 #[.string q,.int .i64 kd,.int .i64 md,.int .u32 tm,.int .i64 sz,.int .u32 sm]:=by rw[←hW0];exact Blk.new _ _ _);have H0:=zH (zA hW0 (zA hba (zA hb hB0)));have x0:=hB0.cell 0;(simp at x0);obtain⟨hq0,ht0,ht1⟩:=hmi;simp only at hq0 ht0 ht1;have HRR:=zH (refRight_any W0 q (by omega));have HFI:=zH (fun W=>refFineX_any W ⟨kd,md,tm,sz,sm⟩ ht0 ht1);have HQ:=zH hq0;unfold Pr.c at HFI;clear hW0 hba hb hB0 hq0 ht0 ht1;obtain⟨R,hR⟩:∃R,rightL q.data.toList=R:=⟨_,rfl⟩;obtain⟨F,hF⟩:∃F,fineP ⟨kd,md,tm,sz,sm⟩=F:=⟨_,rfl⟩;rw[hR] at HRR;rw[hF] at HFI;have HRF:=zH (zA hR hF);clear hR hF;(go_upto_region 4 with fail);rw[H0.out.1];obtain⟨G,hG⟩:∃G,wr.heap.size=G:=⟨_,rfl⟩;simp only[hG] at x0⊢;have HG:=zH hG;clear hG;clear c0 c1 c2 c3' c4 c5;(go_wp2_with fail);refine HRR.out.mono ?_;rintro e w1 ⟨rfl,hb1⟩;have hbw0:=H0.out.2.2.1.trans (H0.out.2.1.mono H0.out.2.2.1.size);have H1:=zH (zA (hbw0.trans (hb1.mono hbw0.size)) (zA (H0.out.2.1.trans (hb1.mono H0.out.2.1.size)) (H0.out.2.2.2.below hb1 H0.out.2.2.2.lt)));clear hb1 hbw0 x0 HRR;rw[HG.out] at H1;have x1:=H1.out.2.2.cell 1;have x2:=H1.out.2.2.cell 2;have x3:=H1.out.2.2.cell 3;have x4:=H1.out.2.2.cell 4;have x5:=H1.out.2.2.cell 5;(simp at x1 x2 x3 x4 x5);cases R with
   | false=>
    have hoki:okI L i=false:=by
     cases i with
     | zero=>rw[okI_zero HLI.out];simp [HRF.out.1]
     | succ j=>
      (have hjL:j<L.length:=by omega);rw[okI_succ HLI.out (zM hjL)];simp [HRF.out.1]
    have hres:=HNO.out i (by have:=HL.out;omega) hoki;have HRES:=zH hres;clear hres hoki;(go_wp2_with fail);go_ret;exact⟨by rw[HRES.out];rfl,H1.out.1⟩
   | true=>
    (go_wp2_with fail);refine(HFI.out _).mono ?_;rintro e w2 ⟨rfl,hb2⟩;have H2:=zH (zA (H1.out.1.trans (hb2.mono H1.out.1.size)) (zA (H1.out.2.1.trans (hb2.mono (by have:=H1.out.2.1.size;rw[HG.out] at this;exact this))) (H1.out.2.2.below hb2 H1.out.2.2.lt)));clear hb2 x1 x2 x3 x4 x5 HFI;obtain⟨x0,x1⟩:=zc2 H2.out.2.2;(simp at x0 x1);cases F with
    | false=>
     have hoki:okI L i=false:=by
      cases i with
      | zero=>rw[okI_zero HLI.out];simp [HRF.out.1,HRF.out.2]
      | succ j=>
       (have hjL:j<L.length:=by omega);rw[okI_succ HLI.out (zM hjL)];simp [HRF.out.1,HRF.out.2]
     have hres:=HNO.out i (by have:=HL.out;omega) hoki;have HRES:=zH hres;clear hres hoki;(go_wp2_with fail);go_ret;exact⟨by rw[HRES.out];rfl,H2.out.1⟩
    | true=>
     by_cases hk:kd=0
     ·subst hk;have hoki:okI L i=false:=by
       cases i with
       | zero=>rw[okI_zero HLI.out];simp [HRF.out.1,HRF.out.2]
       | succ j=>
        (have hjL:j<L.length:=by omega);rw[okI_succ HLI.out (zM hjL)];simp [HRF.out.1,HRF.out.2]
      have hres:=HNO.out i (by have:=HL.out;omega) hoki;have HRES:=zH hres;clear hres hoki;(go_wp2_with fail);go_ret;exact⟨by rw[HRES.out];rfl,H2.out.1⟩
     ·(have ek:(kd==0)=false:=by rw[zB];exact hk);have HK:=zH hk;clear hk;have hgl:=H2.out.2.2.lt
      haveI:=Aft.some w2
      by_cases hi0:i=0
      ·subst hi0;(have k0:∀m:Held (Aft w2),(HeldW m).cell? ⟨G,0,none⟩=some (.string q):=fun m=>(Aft.cell m hgl).trans x0);clear x0 hgl;(go_upto_region 6 with fail);refine wp_region_class (Aft w2) (by kernel_rfl) (by kernel_rfl) (Aft.start w2) ?_;(repeat (go_big_quiet_step (fail)));refine wpQuiet_nil ?_;rintro _ ⟨nn,rfl⟩;have HW:=zH (H2.out.1.trans ((HeldW_spec nn:Below w2.heap.size w2 (HeldW nn)).mono H2.out.1.size));have hok1:∀t,t<1→okI L t=true:=fun t ht=>by
        (obtain rfl:t=0:=by omega);rw[okI_zero HLI.out,HRF.out.1,HRF.out.2,zD HK.out];rfl
       have HOK2:=zH hok1;clear k0 x1 hok1;(go_wp2_with fail);go_roundw
       case rel=>exact⟨1,by omega,by go_num,HOK2.out,HW.out⟩
       case measure=>simp [intOf];omega
      ·obtain⟨j,rfl⟩:∃j,i=j+1:=⟨i-1,by omega⟩;(have hjL:j<L.length:=by omega);have c0:=HCS.out.2 j hjL 0 (by omega);have hmj:=(HS.out.2 _ (zP hjL)).1;have hLj:=zM hjL;obtain⟨⟨q',pr'⟩,hx⟩:∃x,L[j]=x:=⟨_,rfl⟩;simp only[hx] at c0 hmj hLj;simp only[eCM,qB,qC,Nat.add_zero] at c0;clear hx;(have hbl:b<w2.heap.size:=by have:=HCS.out.1;have:=H2.out.2.1.size;omega);have c02:w2.cell? ⟨b,off+j*6,none⟩=some (.string q'):=(H2.out.2.1.cell (by show b<G;rw[←HG.out];exact HCS.out.1)).trans c0;(have k0:∀m:Held (Aft w2),(HeldW m).cell? ⟨G,0,none⟩=some (.string q):=fun m=>(Aft.cell m hgl).trans x0);(have k1:∀m:Held (Aft w2),(HeldW m).cell? ⟨b,off+j*6,none⟩=some (.string q'):=fun m=>(Aft.cell m hbl).trans c02);have HBF:=zH (fun m:Held (Aft w2)=>refBefore_any (HeldW m) q' q (by omega) (by have:=HQ.out;omega));(have hwj:IntKind.i64.wrap ((j:Int)+1-1)=j:=by rw[show(j:Int)+1-1=j by omega];exact IntWalk.i64_in _ (by omega));(have hj0:(j:Int)<n:=by omega);have HLJ:=zH hLj;clear hLj;obtain⟨B,hB⟩:∃B,decide (ordS q' q= -1)=B:=⟨_,rfl⟩;rw[hB] at HBF;(have hokj:okI L (j+1)=B:=by rw[okI_succ HLI.out HLJ.out,HRF.out.1,HRF.out.2,zD HK.out,hB];rfl);have HOJ:=zH hokj;clear hB hokj;clear x0 hgl c0 c02 hbl hmj;(go_upto_region 6 with fail);refine wp_region_class (Aft w2) (by kernel_rfl) (by kernel_rfl) (Aft.start w2) ?_;(repeat (go_big_quiet_step (with_reducible exact held_below Aft.keep (HBF.out _))));refine wpQuiet_nil ?_;rintro _ ⟨nn,rfl⟩;have HW:=zH (H2.out.1.trans ((HeldW_spec nn:Below w2.heap.size w2 (HeldW nn)).mono H2.out.1.size));clear k0 k1 x1;cases B with
       | false=>
        have hres:=HNO.out (j+1) (by have:=HL.out;omega) HOJ.out;have HRES:=zH hres;clear hres;(go_wp2_with fail);go_ret;exact⟨by rw[HRES.out];rfl,HW.out⟩
       | true=>
        (go_wp2_with fail);go_roundw
        case rel=>exact⟨j+1+1,by omega,by go_num,fun t ht=>(by
         by_cases e:t=j+1
         ·rw[e];exact HOJ.out
         ·exact HOK.out t (by omega)),HW.out⟩
        case measure=>simp [intOf];omega
  ·obtain rfl:i=n:=by omega
   have HB:=zH hb;clear hb hslr;have hres:=HYES.out (fun j hj=>HOK.out j (by have:=HL.out;omega));have HRES:=zH hres;clear hres;(go_wp2_with fail);go_ret;exact⟨by rw[HRES.out];rfl,HB.out⟩
theorem right26X_any (w:World)(u1 u2:Value)(l1 l2:List MkE)(h1:SlV w 6 eCM u1 l1)(h2:SlV w 6 eCM u2 l2)(hn1:l1.length≤100)(hn2:l2.length≤100)(hin1:∀m∈l1,MkInA m)(hin2:∀m∈l2,MkInA m):
  Calls Tryz.prog 31 #[.agg #[u1,u2]] w fun e w'=>e= .returned (.bool (rightM l1 l2))∧Below w.heap.size w w':=by
 obtain⟨W,hW⟩:∃W,w.alloc (.cells #[u1,u2] 24)=W:=⟨_,rfl⟩;have hb0:Below w.heap.size w W:=by rw[←hW];exact(zR _ w).alloc (zN _) _
 have hB0:Blk W w.heap.size 24 #[u1,u2]:=by rw[←hW];exact Blk.new w _ _
 have HS:=zH (zA h1 (zA h2 (zA hin1 hin2)));clear hin1 hin2;have HNO:=zH (fun m (hm:m∈l2) (hf:(findM l1 m.1).isSome=true)=>(by
  unfold rightM;rw[show(l2.any fun m=>(findM l1 m.1).isSome)=true from List.any_eq_true.2 ⟨m,hm,hf⟩];cases risesM l1<;>cases risesM l2<;>rfl:rightM l1 l2=false))
 have HYES:=zH (fun(hf:∀m∈l2,(findM l1 m.1).isSome=false)=>(by
  unfold rightM;rw[show(l2.any fun m=>(findM l1 m.1).isSome)=false from by rw[List.any_eq_false];exact fun m hm=>by rw[hf m hm];decide];cases risesM l2<;>simp:rightM l1 l2=(risesM l1&&risesM l2)))
 generalize rightM l1 l2=RES at*;obtain⟨A1,c1,rfl,_,_,_⟩:=h1;obtain⟨A,c,rfl,_,_,_⟩:=h2;obtain⟨n,hn⟩:∃n,l2.length=n:=⟨_,rfl⟩;rw[hn] at HS hn2 hB0 hW⊢;have HL:=zH hn;clear hn;obtain⟨k1,hk1⟩:∃n,l1.length=n:=⟨_,rfl⟩;rw[hk1] at HS hn1 hB0 hW⊢;have HL1:=zH hk1;clear hk1;have x0:=hB0.cell 0;have x1:=hB0.cell 1;simp at x0 x1
 obtain⟨g,hg⟩:∃g,w.heap.size=g:=⟨_,rfl⟩;rw[hg] at hB0 x0 x1;have HW:=zH (zA hW (zA hb0 (zA hB0 hg)));clear hW hb0 hB0;go_enter Tryz.func31,Tryz.ntmps31
 go_upto_region 1 with fail
 rw[HW.out.1];try rw[hg]
 clear hg;go_wp2_with fail
 clear x0 x1;go_loopw [10] (fun iv wr=>∃i:Nat,i≤n∧iv= .int .i64 i∧(∀j (h:j<l2.length),j<i→(findM l1 l2[j].1).isSome=false)∧Below w.heap.size w wr∧Below W.heap.size W wr) (fun iv _=>n-(intOf iv).toNat)
 case atStart=>exact⟨0,Nat.zero_le _,rfl,fun j h hj=>by omega,HW.out.2.1,zR _ _⟩
 case round=>
  obtain⟨i,hi,rfl,hno,hb,hbW⟩:=hrel;have HNN:=zH hno;clear hno;have hBr:=HW.out.2.2.1.below hbW HW.out.2.2.1.lt;have hsl1:=HS.out.1.below hb (zN _);have hslr:=HS.out.2.1.below hb (zN _);by_cases hlt:i<n
  ·have hiL:i<l2.length:=by have:=HL.out;omega
   obtain⟨A',c',hA,_,_,hso⟩:=hslr;(obtain⟨rfl,rfl⟩:A=A'∧c=c':=by injection hA with e1 e2 e3;exact⟨e1,e3⟩);clear hA;obtain⟨b,off,rfl,hbb,hcs⟩:=hso (by omega);obtain⟨c0,c1,c2⟩:=zs3 (hcs i hiL);have c3':=hcs i hiL 3 (by omega);have c4:=hcs i hiL 4 (by omega);have c5:=hcs i hiL 5 (by omega);simp only[eCM,qB,qC,Nat.add_zero] at c0 c1 c2 c3' c4 c5;clear hcs hso hbb;(have hi1:(i:Int)<n:=by omega);have HYI:=zH (fun(hf:(findM l1 l2[i].1).isSome=true)=>HNO.out l2[i] (zP hiL) hf);have HNI:=zH (fun(hf:(findM l1 l2[i].1).isSome=false) j (h:j<l2.length) (hj:j<i+1)=>(by
    by_cases e:j=i
    ·subst e;exact hf
    ·exact HNN.out j h (by omega):(findM l1 l2[j].1).isSome=false))
   obtain⟨⟨q,⟨kd,md,tm,sz,sm⟩⟩,hx⟩:∃x,l2[i]=x:=⟨_,rfl⟩;simp only[hx] at c0 c1 c2 c3' c4 c5;rw[hx] at HYI HNI;clear hx;have hba:=(zR wr.heap.size wr).alloc (zN _) (.cells #[.string q,.int .i64 kd,.int .i64 md,.int .u32 tm,.int .i64 sz,.int .u32 sm] 63);have hBa:=hBr.below hba hBr.lt;have x0:=hBa.cell 0;(simp at x0);have HG:=zH (refGet26_any _ _ l1 q (hsl1.below hba (zN _)) (by have:=HL1.out;omega));have H1:=zH (zA (hb.trans (hba.mono hb.size)) (hbW.trans (hba.mono hbW.size)));clear hb hbW hba hBr hBa hsl1;generalize (findM l1 q).getD ⟨0,0,0,0,0⟩=pp at HG;simp only at HYI HNI;generalize (findM l1 q).isSome=bb at HG HYI HNI;obtain⟨pk,pm,pt,ps,pu⟩:=pp;simp only[Pr.c] at HG;(go_wp2_with fail);refine HG.out.mono ?_;rintro e w1 ⟨rfl,hb1⟩;have hba2:=(zR w1.heap.size w1).alloc (zN _) (.cells #[.int .i64 pk,.int .i64 pm,.int .u32 pt,.int .i64 ps,.int .u32 pu] 61);have hb2:=H1.out.1.trans (hb1.mono H1.out.1.size);have hb3:=H1.out.2.trans (hb1.mono H1.out.2.size);have H2:=zH (zA (hb2.trans (hba2.mono hb2.size)) (hb3.trans (hba2.mono hb3.size)));clear hb1 hba2 hb2 hb3 H1 HG;clear x0 c0 c1 c2 c3' c4 c5;cases bb with
   | true=>
    have hres:=HYI.out rfl;have HRES:=zH hres;clear hres HYI HNI;(go_wp2_with fail);go_ret;exact⟨by rw[HRES.out];rfl,H2.out.1⟩
   | false=>
    have hno2:=HNI.out rfl;have HNO2:=zH hno2;clear hno2 HYI HNI;(go_wp2_with fail);go_roundw
    case rel=>exact⟨i+1,by omega,by go_num,HNO2.out,H2.out.1,H2.out.2⟩
    case measure=>simp [intOf];omega
  ·obtain rfl:i=n:=by omega
   have x0:=hBr.cell 0;(simp at x0);have HR:=zH (rises26X_any wr _ l1 hsl1 (by have:=HL1.out;omega) HS.out.2.2.1);have HB:=zH (zA hb (zA hslr hBr));clear hb hbW hslr hsl1 hBr;have hres:=HYES.out (fun m hm=>by
    obtain⟨j,hj,rfl⟩:=List.getElem_of_mem hm;exact HNN.out j hj (by have:=HL.out;omega))
   have HRES:=zH hres;clear hres;obtain⟨R,hR⟩:∃R,risesM l1=R:=⟨_,rfl⟩;obtain⟨R2,hR2⟩:∃R,risesM l2=R:=⟨_,rfl⟩;rw[hR] at HR;rw[hR,hR2] at HRES;have HR2E:=zH hR2;clear hR hR2;(go_wp2_with fail);refine HR.out.mono ?_;rintro e w1 ⟨rfl,hb1⟩;have hB1:=HB.out.2.2.below hb1 HB.out.2.2.lt;have x1:=hB1.cell 1;(simp at x1);have hbw:=HB.out.1.trans (hb1.mono HB.out.1.size);have HR2:=zH (rises26X_any w1 _ l2 (HB.out.2.1.below hb1 (zN _)) (by have:=HL.out;omega) HS.out.2.2.2);rw[HR2E.out] at HR2;have H1:=zH hbw;clear hbw hb1 hB1 x0 HR;cases R with
   | false=>
    (go_wp2_with fail);go_ret;exact⟨by rw[HRES.out];rfl,H1.out⟩
   | true=>
    (go_wp2_with fail);refine HR2.out.mono ?_;rintro e w2 ⟨rfl,hb2⟩;have H2:=zH (H1.out.trans (hb2.mono H1.out.size));clear hb2;(go_wp2_with fail);go_ret;exact⟨by rw[HRES.out];rfl,H2.out⟩
end Go.Proofs.YtnpehjgnplaabaaGreatDoor
namespace Sw
open Go Go.RowKit
section
variable {P:Program}
theorem run_app_zero (w:World)(base:Nat)(t ty e:TypeId)(i:TypeInfo)(size:Nat)(ht:P.underlying t=some (.slice e))(hi:P.info? e=some i)(v:Value)(n:Nat)(xs:List Value)(hown:w.ownsRow base e size v n xs)(B:Option Addr)(c:Nat):
  (Builtin.append_ #[t,t] ty #[v,.slice B 0 c]).run P w= .ok v w:=by
 obtain⟨A,k,rfl,hnk,_,_⟩:=SlV_of_any hown;cases A<;>cases B<;>simp [Builtin.append_,run_underlying ht,Builtin.lenOf,Builtin.firstCells,Go.sizeOf,typeInfo,hi,hnk,Go.loadCells,Go.loadCellsFrom,Go.storeCells]
theorem wpList_app_slvAt {w:World}{ops:Array Oper}{rest:List Oper}{o:Oper}{a:Act}{Q:Exit→Act→World→Prop}(hgd:o.guard=none)(s x:Operand)(t:TypeId)
  (ho:o.op= .call {callee:= .builtin .append,args:= #[s,x],argTypes:= #[t,t]})
  (base:Nat) (e:TypeId) (z:Value) (size bytes:Nat) (ht:P.underlying t=some (.slice e)) (hi:(P.info? e).map (fun i=>(i.zero,i.size,i.bytes))=some (some z,size,bytes)) (hzs:z.cells.size=size) (hsz:0<size)
  (v:Value) (n:Nat) (xs:List Value) (hs:a.eval s=v) (hown:w.ownsRow base e size v n xs)
  {α:Type} (E:α→List Value) (hE:∀y,(E y).length=size) (hE1:∀y,∀u∈E y,u.oneCell'=true) (u:Value) (l:List α) (hx:a.eval x=u) (hu:SlV w size E u l)
  (hn:n+l.length≤1000000) (hby:bytes≤1000000) (hbase:base≤w.heap.size)
  (h:∀v' w',w'.ownsRow base e size v' (n+l.length) (xs++l.flatMap E)→w.grownBy w' v.ownBlock→(∀g,v'.ownBlock=some g→v.ownBlock=some g∨g=w.heap.size)→wpList P ops Q rest (a.put o.dst v') w'):wpList P ops Q (o::rest) a w:=by
 obtain⟨i,hi0,hz,hs2,hb⟩:=info_parts hi;obtain⟨A,c,rfl,hc1,hc2,hsl⟩:=hu;cases l with
 | nil=>
  have hrun:=run_app_zero w base t o.type e i size ht hi0 v n xs hown A c;refine wpList_plain hgd fun K hK=>?_
  unfold Oper.wp;simp only[List.length_nil] at hx;simp [execOp,ho,resolve,invoke,builtin,hs,hx,hrun,Result.andThen]
  exact hK _ _ (h v w (by simpa using hown) (grown_refl _ _) (fun g hg=> .inl hg))
 | cons y l=>
  have hlen:((y::l).flatMap E).length=(y::l).length*size:=flat_len hE _;obtain⟨b,off,rfl,_,hcs⟩:=hsl (by simp);refine wpList_append_lies w hgd s x t ho base e i z size bytes ht hi0 hz hs2 hb hzs hsz v n xs hs hown ⟨b,off,none⟩ (y::l).length c ((y::l).flatMap E) hx hlen ?_ ?_ (by simp) (by unfold maxLen;omega) ?_ hbase _ rfl (fun g cap w' h1 h2 h3 _=>h _ w' h1 h2 (fun g' hg'=>by
   (have e:g=g':=by simpa [Value.ownBlock] using hg');subst e;exact h3))
  ·intro j q hj;have hjl:=(List.getElem?_eq_some_iff.1 hj).1;rw[hlen] at hjl;rw[add_mk];have hq:j/size<(y::l).length:=Nat.div_lt_of_lt_mul (by rw[Nat.mul_comm];exact hjl);have hr:j % size<size:=Nat.mod_lt _ hsz;have hd:j/size*size+j % size=j:=by rw[Nat.mul_comm];exact Nat.div_add_mod j size
   have h1:=flat_get hE (y::l) (j/size) hq (j % size) hr;rw[hd,hj] at h1;have h2:=hcs (j/size) hq (j % size) hr;rw[Nat.add_assoc,hd] at h2;rw[h2,←h1]
  ·intro q hq;rw[List.mem_flatMap] at hq;obtain⟨y,_,hy⟩:=hq;exact hE1 y q hy
  ·calc (n+(y::l).length)*bytes≤1000000*1000000:=Nat.mul_le_mul hn hby
    _≤140737488355328:=by decide
end
end Sw
namespace Go.Proofs.YtnpehjgnplaabaaGreatDoor
open Go Go.RowKit
open Sw
theorem _root_.Sw.SlV.cellsAt {w:World}{size:Nat}{α:Type}{E:α→List Value}{b off n c:Nat}{l:List α}(h:SlV w size E (.slice (some ⟨b,off,none⟩) n c) l)(i:Nat)(hi:i<l.length):b<w.heap.size∧∀j,j<size→w.cell? ⟨b,off+i*size+j,none⟩=(E l[i])[j]? :=by
 obtain⟨A,c',he,_,_,hs⟩:=h;obtain⟨b',off',hA,hb,hc⟩:=hs (by omega);subst hA;injection he with e1 e2 e3;injection e1 with e1;injection e1 with e1 e4 e5;subst e1 e4;exact⟨hb,hc i hi⟩
theorem _root_.Sw.SlV.addr {w:World}{size:Nat}{α:Type}{E:α→List Value}{A:Option Addr}{n c:Nat}{l:List α}(h:SlV w size E (.slice A n c) l)(hl:0<l.length):∃b off,A=some ⟨b,off,none⟩:=by
 obtain⟨A',c',he,_,_,hs⟩:=h;obtain⟨b',off',hA,hb,hc⟩:=hs hl;injection he with e1 e2 e3;exact⟨b',off',e1.trans hA⟩
theorem own_open {w:World}{base s n:Nat}{t:TypeId}{v:Value}{xs:List Value}(h:w.ownsRow base t s v n xs):∃A m c,v= .slice A m c:=by
 obtain⟨A,c,rfl,-,-,-⟩:=SlV_of_any h;exact⟨A,n,c,rfl⟩
theorem ne_printR (p q:Pr)(W:World):(binOp .neq 61 (.agg p.c) (.agg q.c)).run Tryz.prog W= .ok (.bool (!decide (p=q))) W:=by
 obtain⟨k1,m1,t1,z1,u1⟩:=p;obtain⟨k2,m2,t2,z2,u2⟩:=q;unfold Pr.c;by_cases h1:k1=k2
 ·subst h1;by_cases h2:m1=m2
  ·subst h2;by_cases h3:t1=t2
   ·subst h3;by_cases h4:z1=z2
    ·subst h4;by_cases h5:u1=u2
     ·subst h5;simp [go_sem,Tryz.underlying61,Tryz.underlying3,Tryz.underlying51]
     ·have hb:=beq_eq_false_iff_ne.2 h5;simp [go_sem,hb,h5,Tryz.underlying61,Tryz.underlying3,Tryz.underlying51]
    ·have hb:=beq_eq_false_iff_ne.2 h4;simp [go_sem,hb,h4,Tryz.underlying61,Tryz.underlying3,Tryz.underlying51]
   ·have hb:=beq_eq_false_iff_ne.2 h3;simp [go_sem,hb,h3,Tryz.underlying61,Tryz.underlying3,Tryz.underlying51]
  ·have hb:=beq_eq_false_iff_ne.2 h2;simp [go_sem,hb,h2,Tryz.underlying61,Tryz.underlying3,Tryz.underlying51]
 ·have hb:=beq_eq_false_iff_ne.2 h1;simp [go_sem,hb,h1,Tryz.underlying61,Tryz.underlying3,Tryz.underlying51]
def HadAt (fs:Bool) (l r:Nd) (q:ByteArray) (f:Pr) (HA:List MkE):Prop:=HA=if fs=true∧¬printN l=printN r then [(q,f)] else []
theorem HadAt.no1 {l r:Nd}{q:ByteArray}{f:Pr}{HA:List MkE}(h:HadAt false l r q f HA):HA=[]:=h.trans (if_neg (fun h=>by cases h.1))
theorem HadAt.no2 {fs:Bool}{l r:Nd}{q:ByteArray}{f:Pr}{HA:List MkE}(h:HadAt fs l r q f HA)(e:printN l=printN r):HA=[]:=h.trans (if_neg (fun h=>h.2 e))
theorem HadAt.yes {l r:Nd}{q:ByteArray}{f:Pr}{HA:List MkE}(h:HadAt true l r q f HA)(e:¬printN l=printN r):HA=[(q,f)]:=h.trans (if_pos ⟨rfl,e⟩)
def ClsAt (z:Int) (q:ByteArray) (CA:List (ByteArray×Int)):Prop:=CA=if z=0 then [] else [(q,z)]
theorem ClsAt.no {q:ByteArray}{CA:List (ByteArray×Int)}(h:ClsAt 0 q CA):CA=[]:=h.trans (if_pos rfl)
theorem ClsAt.yes {z:Int}{q:ByteArray}{CA:List (ByteArray×Int)}(h:ClsAt z q CA)(e:¬z=0):CA=[(q,z)]:=h.trans (if_neg e)
theorem own_farR {w w':World}{b1 b2 s1 s2 n1 n2:Nat}{t1 t2:TypeId}{u v:Value}{xs ys:List Value}(h:w.ownsRow b1 t1 s1 u n1 xs)(g:w.ownsRow b2 t2 s2 v n2 ys)(ht:t1≠t2)(hg:w.grownBy w' v.ownBlock):w'.ownsRow b1 t1 s1 u n1 xs:=own_sameB h (fun i hi=>hg.block i (h.lt i hi).2 (fun e=>by
 obtain⟨c1,k1⟩:=own_blkB h hi;obtain⟨c2,k2⟩:=own_blkB g e.symm;exact Blk.other k1 k2 ht rfl))
theorem blk_farR {w w':World}{b2 s2 n2 i:Nat}{t1 t2:TypeId}{v:Value}{ys:List Value}{cs:Array Value}(h:Blk w i t1 cs)(g:w.ownsRow b2 t2 s2 v n2 ys)(ht:t1≠t2)(hg:w.grownBy w' v.ownBlock):Blk w' i t1 cs:=(hg.block i h.lt (fun e=>by
 obtain⟨c2,k2⟩:=own_blkB g e.symm;exact Blk.other h k2 ht rfl)).trans h
theorem own_setR {w:World}{b1 s1 n1 D k:Nat}{t1 t2:TypeId}{u x:Value}{xs:List Value}{cs:Array Value}(h:w.ownsRow b1 t1 s1 u n1 xs)(hB:Blk w D t2 cs)(ht:t1≠t2):(w.setCell ⟨D,k,none⟩ x).ownsRow b1 t1 s1 u n1 xs:=own_sameB h (fun i hi=>zJ w ⟨D,k,none⟩ x i (fun e=>by
 obtain⟨c1,k1⟩:=own_blkB h hi;exact Blk.other k1 hB ht e))
structure Out4 (w0:World) (base D D0 D1:Nat) (c0 c1:Array Value) (vn:Value) (ns:List NP) (w:World) (vl vr vh vc gv:Value) (ls rs:List NE) (hs:List MkE) (cs:List (ByteArray×Int)) (gs:List ByteArray):Prop where
 box:Blk w D 40 #[vl,vr,.slice none 0 0,vh,vc,gv]
 lr:Two w base 59 5 vl ls.length (ls.flatMap eCSN) vr rs.length (rs.flatMap eCSN)
 hd:w.ownsRow base 63 6 vh hs.length (hs.flatMap eCM)
 cl:w.ownsRow base 66 2 vc cs.length (cs.flatMap eCl)
 gr:w.ownsRow base 9 1 gv gs.length (gs.map Value.string)
 ln:w.ownsRow base 90 10 vn ns.length (ns.flatMap eNP)
 b0:Blk w D0 24 c0
 b1:Blk w D1 40 c1
 d1:D1≠D
 low:Below w0.heap.size w0 w
 bs:w0.heap.size≤D
 bb:w0.heap.size≤base
 bw:base≤w.heap.size
section
variable {w0 w w':World} {base D D0 D1:Nat} {c0 c1:Array Value} {vn:Value} {ns:List NP} {vl vr vh vc gv:Value} {ls rs:List NE} {hs:List MkE} {cs:List (ByteArray×Int)} {gs:List ByteArray}
theorem Out4.below (h:Out4 w0 base D D0 D1 c0 c1 vn ns w vl vr vh vc gv ls rs hs cs gs)(hb:Below w.heap.size w w'):Out4 w0 base D D0 D1 c0 c1 vn ns w' vl vr vh vc gv ls rs hs cs gs:=
 ⟨h.box.below hb h.box.lt,h.lr.kept hb,own_kept h.hd hb,own_kept h.cl hb,own_kept h.gr hb,own_kept h.ln hb,h.b0.below hb h.b0.lt,h.b1.below hb h.b1.lt,h.d1,h.low.trans (hb.mono h.low.size),h.bs,h.bb,zT h.bw hb.size⟩
theorem _root_.Sw.Two.grow1 {v1 v2 v:Value}{n1 n2 n size:Nat}{e:TypeId}{x1 x2 x:List Value}(h:Two w base e size v1 n1 x1 v2 n2 x2)(ho:w'.ownsRow base e size v n x)(hg:w.grownBy w' v1.ownBlock)(hat:∀g,v.ownBlock=some g→v1.ownBlock=some g∨g=w.heap.size):Two w' base e size v n x v2 n2 x2:=
 ⟨ho,h.b.kept hg (by
  rcases h.symm.ne with k | k
  ·exact .inl k
  ·exact .inr k),by
  rcases Option.eq_none_or_eq_some v.ownBlock with k | ⟨g,k⟩
  ·exact .inl k
  ·right
   rw[k];rcases hat g k with k3 | k3
   ·rcases h.ne with k2 | k2
    ·rw[k3] at k2;cases k2
    ·rw[←k3];exact k2
   ·intro k2;exact own_ne h.b g (by omega) k2.symm⟩
theorem _root_.Sw.Two.setR1 {v1 v2 x:Value}{n1 n2 size k:Nat}{e t2:TypeId}{x1 x2:List Value}{c2:Array Value}(h:Two w base e size v1 n1 x1 v2 n2 x2)(hB:Blk w D t2 c2)(ht:e≠t2):Two (w.setCell ⟨D,k,none⟩ x) base e size v1 n1 x1 v2 n2 x2:=⟨own_setR h.a hB ht,own_setR h.b hB ht,h.ne⟩
theorem Out4.rest (h:Out4 w0 base D D0 D1 c0 c1 vn ns w vl vr vh vc gv ls rs hs cs gs){b2 s2 n2 k:Nat}{t2:TypeId}{u x:Value}{ys:List Value}(g:w.ownsRow b2 t2 s2 u n2 ys)(hg:w.grownBy w' u.ownBlock)(h1:90≠t2)(h2:24≠t2)(h3:40≠t2)(hb2:w0.heap.size≤b2):
  (w'.setCell ⟨D,k,none⟩ x).ownsRow base 90 10 vn ns.length (ns.flatMap eNP)∧Blk (w'.setCell ⟨D,k,none⟩ x) D0 24 c0∧Blk (w'.setCell ⟨D,k,none⟩ x) D1 40 c1∧Below w0.heap.size w0 (w'.setCell ⟨D,k,none⟩ x)∧base≤(w'.setCell ⟨D,k,none⟩ x).heap.size:=by
 have hB:=blk_farR h.box g h3 hg;have e0:=blk_farR h.b0 g h2 hg;have e1:=blk_farR h.b1 g h3 hg;refine⟨own_setR (own_farR h.ln g h1 hg) hB (by decide),e0.far (Blk.other e0 hB (by decide)) _,e1.far h.d1 _,(h.low.grown hg h.low.size (fun k hk=>zT hb2 (g.lt k hk).1)).setCell (p:=⟨D,k,none⟩) h.bs _,?_⟩;have h4:=hg.size;have h5:=h.bw;simp only[World.setCell,Array.size_modify];omega
theorem Out4.setL (h:Out4 w0 base D D0 D1 c0 c1 vn ns w vl vr vh vc gv ls rs hs cs gs){v:Value}{l:List NE}(ho:w'.ownsRow base 59 5 v (ls.length+l.length) (ls.flatMap eCSN++l.flatMap eCSN))(hg:w.grownBy w' vl.ownBlock)(hat:∀g,v.ownBlock=some g→vl.ownBlock=some g∨g=w.heap.size):
  Out4 w0 base D D0 D1 c0 c1 vn ns (w'.setCell ⟨D,0,none⟩ v) v vr vh vc gv (ls++l) rs hs cs gs:=by
 have hB:=blk_farR h.box h.lr.a (by decide) hg;obtain⟨r1,r2,r3,r4,r5⟩:=h.rest (k:=0) (x:=v) h.lr.a hg (by decide) (by decide) (by decide) h.bb;refine⟨?_,?_,own_setR (own_farR h.hd h.lr.a (by decide) hg) hB (by decide),own_setR (own_farR h.cl h.lr.a (by decide) hg) hB (by decide),own_setR (own_farR h.gr h.lr.a (by decide) hg) hB (by decide),r1,r2,r3,h.d1,r4,h.bs,h.bb,r5⟩
 ·have:=hB.put 0 v
  simpa using this
 ·rw[zF,List.flatMap_append];exact Two.setR1 (h.lr.grow1 ho hg hat) hB (by decide)
theorem Out4.setR (h:Out4 w0 base D D0 D1 c0 c1 vn ns w vl vr vh vc gv ls rs hs cs gs){v:Value}{l:List NE}(ho:w'.ownsRow base 59 5 v (rs.length+l.length) (rs.flatMap eCSN++l.flatMap eCSN))(hg:w.grownBy w' vr.ownBlock)(hat:∀g,v.ownBlock=some g→vr.ownBlock=some g∨g=w.heap.size):
  Out4 w0 base D D0 D1 c0 c1 vn ns (w'.setCell ⟨D,1,none⟩ v) vl v vh vc gv ls (rs++l) hs cs gs:=by
 have hB:=blk_farR h.box h.lr.b (by decide) hg;obtain⟨r1,r2,r3,r4,r5⟩:=h.rest (k:=1) (x:=v) h.lr.b hg (by decide) (by decide) (by decide) h.bb;refine⟨?_,?_,own_setR (own_farR h.hd h.lr.b (by decide) hg) hB (by decide),own_setR (own_farR h.cl h.lr.b (by decide) hg) hB (by decide),own_setR (own_farR h.gr h.lr.b (by decide) hg) hB (by decide),r1,r2,r3,h.d1,r4,h.bs,h.bb,r5⟩
 ·have:=hB.put 1 v
  simpa using this
 ·rw[zF,List.flatMap_append];exact Two.setR1 (Two.grow1 h.lr.symm ho hg hat).symm hB (by decide)
theorem Out4.setH (h:Out4 w0 base D D0 D1 c0 c1 vn ns w vl vr vh vc gv ls rs hs cs gs){v:Value}{m:MkE}(ho:w'.ownsRow base 63 6 v (hs.length+1) (hs.flatMap eCM++eCM m))(hg:w.grownBy w' vh.ownBlock):
  Out4 w0 base D D0 D1 c0 c1 vn ns (w'.setCell ⟨D,3,none⟩ v) vl vr v vc gv ls rs (hs++[m]) cs gs:=by
 have hB:=blk_farR h.box h.hd (by decide) hg;obtain⟨r1,r2,r3,r4,r5⟩:=h.rest (k:=3) (x:=v) h.hd hg (by decide) (by decide) (by decide) h.bb;refine⟨?_,Two.setR1 ⟨own_farR h.lr.a h.hd (by decide) hg,own_farR h.lr.b h.hd (by decide) hg,h.lr.ne⟩ hB (by decide),?_,own_setR (own_farR h.cl h.hd (by decide) hg) hB (by decide),own_setR (own_farR h.gr h.hd (by decide) hg) hB (by decide),r1,r2,r3,h.d1,r4,h.bs,h.bb,r5⟩
 ·have:=hB.put 3 v
  simpa using this
 ·have h1:=own_setR (k:=3) (x:=v) ho hB (by decide);rw[zF,List.flatMap_append]
  simpa using h1
theorem Out4.setC (h:Out4 w0 base D D0 D1 c0 c1 vn ns w vl vr vh vc gv ls rs hs cs gs){v:Value}{m:ByteArray×Int}(ho:w'.ownsRow base 66 2 v (cs.length+1) (cs.flatMap eCl++eCl m))(hg:w.grownBy w' vc.ownBlock):
  Out4 w0 base D D0 D1 c0 c1 vn ns (w'.setCell ⟨D,4,none⟩ v) vl vr vh v gv ls rs hs (cs++[m]) gs:=by
 have hB:=blk_farR h.box h.cl (by decide) hg;obtain⟨r1,r2,r3,r4,r5⟩:=h.rest (k:=4) (x:=v) h.cl hg (by decide) (by decide) (by decide) h.bb;refine⟨?_,Two.setR1 ⟨own_farR h.lr.a h.cl (by decide) hg,own_farR h.lr.b h.cl (by decide) hg,h.lr.ne⟩ hB (by decide),own_setR (own_farR h.hd h.cl (by decide) hg) hB (by decide),?_,own_setR (own_farR h.gr h.cl (by decide) hg) hB (by decide),r1,r2,r3,h.d1,r4,h.bs,h.bb,r5⟩
 ·have:=hB.put 4 v
  simpa using this
 ·have h1:=own_setR (k:=4) (x:=v) ho hB (by decide);rw[zF,List.flatMap_append]
  simpa using h1
theorem infoNP:(Tryz.prog.info? 90).map (fun i=>(i.zero,i.size,i.bytes))=some (some (.agg #[.string ⟨#[]⟩,.int .i64 0,.int .i64 0,.int .u32 0,.string ⟨#[]⟩,.int .i64 0,.int .i64 0,.int .u32 0,.string ⟨#[]⟩,.int .i64 0]),10,104):=by kernel_rfl
structure RefIs (w':World) (E:List NP×List ByteArray) (L:List MkE) (v:Value):Prop where
 ex:∃ul ur ua uh uc ug b1 b2 b3 b4 b5 b6,v= .agg #[ul,ur,ua,uh,uc,ug]∧OwnIt w' b1 ul (leftN E.1)∧OwnIt w' b2 ur (rightN E.1)∧
  OwnMk w' b3 ua (agreeM (marksT (leftN E.1)) (marksT (rightN E.1)))∧OwnMk w' b4 uh (heldN L E.1)∧w'.ownsRow b5 66 2 uc (clashN E.1).length ((clashN E.1).flatMap eCl)∧w'.ownsRow b6 9 1 ug E.2.length (E.2.map Value.string)
structure Out6 (w0:World) (base D1:Nat) (c1:Array Value) (w:World) (vl vr vh vc gv:Value) (ls rs:List NE) (hs:List MkE) (cs:List (ByteArray×Int)) (gs:List ByteArray):Prop where
 a:w.ownsRow base 59 5 vl ls.length (ls.flatMap eCSN)
 b:w.ownsRow base 59 5 vr rs.length (rs.flatMap eCSN)
 hd:w.ownsRow base 63 6 vh hs.length (hs.flatMap eCM)
 cl:w.ownsRow base 66 2 vc cs.length (cs.flatMap eCl)
 gr:w.ownsRow base 9 1 gv gs.length (gs.map Value.string)
 b1:Blk w D1 40 c1
 low:Below w0.heap.size w0 w
theorem Out4.out6 (h:Out4 w0 base D D0 D1 c0 c1 vn ns w vl vr vh vc gv ls rs hs cs gs)(k:Nat)(x:Value):Out6 w0 base D1 c1 (w.setCell ⟨D,k,none⟩ x) vl vr vh vc gv ls rs hs cs gs:=
 ⟨own_setR h.lr.a h.box (by decide),own_setR h.lr.b h.box (by decide),own_setR h.hd h.box (by decide),own_setR h.cl h.box (by decide),own_setR h.gr h.box (by decide),h.b1.far h.d1 _,h.low.setCell (p:=⟨D,k,none⟩) h.bs _⟩
theorem Out6.is {E:List NP×List ByteArray}{L:List MkE}{w2:World}{r:Value}{b2:Nat}(h:Out6 w0 base D1 c1 w vl vr vh vc gv (leftN E.1) (rightN E.1) (heldN L E.1) (clashN E.1) E.2)(hm:OwnMk w b2 r (agreeM (marksT (leftN E.1)) (marksT (rightN E.1))))(hst:∀k,k≠D1→w2.heap[k]? =w.heap[k]?):RefIs w2 E L (.agg #[vl,vr,r,vh,vc,gv]):=by
 have hown:∀(t:TypeId) (s bs n:Nat) (u:Value) (L:List Value),t≠40→w.ownsRow bs t s u n L→w2.ownsRow bs t s u n L:=fun t s bs n u L ht ho=>own_sameB ho (fun g' hg'=>hst g' (fun e=>by
  obtain⟨cur,hc⟩:=own_blkB ho hg';exact Blk.other hc h.b1 ht e))
 exact⟨⟨vl,vr,r,vh,vc,gv,base,base,b2,base,base,base,rfl,hown _ _ _ _ _ _ (by decide) h.a,hown _ _ _ _ _ _ (by decide) h.b,hown _ _ _ _ _ _ (by decide) hm,hown _ _ _ _ _ _ (by decide) h.hd,hown _ _ _ _ _ _ (by decide) h.cl,hown _ _ _ _ _ _ (by decide) h.gr⟩⟩
end
end Go.Proofs.YtnpehjgnplaabaaGreatDoor
namespace Sw
open Go Go.Proofs.YtnpehjgnplaabaaGreatDoor
theorem one_len (p:ByteArray)(n:Nd):(oneN p n).length≤1:=by unfold oneN;split<;>simp
theorem side_len (f:NP→Nd):∀l:List NP,(l.flatMap fun n=>oneN n.path (f n)).length≤l.length
 | []=>by simp
 | n::l=>by
  have h1:=one_len n.path (f n);have h2:=side_len f l;rw[List.flatMap_cons,zF,zI];omega
theorem left_snoc (l:List NP)(i:Nat)(h:i<l.length):leftN (l.take (i+1))=leftN (l.take i)++oneN l[i].path l[i].left:=by
 unfold leftN;rw[zG h,List.flatMap_append];simp
theorem right_snoc (l:List NP)(i:Nat)(h:i<l.length):rightN (l.take (i+1))=rightN (l.take i)++oneN l[i].path l[i].right:=by
 unfold rightN;rw[zG h,List.flatMap_append];simp
theorem held_snoc (L:List MkE)(l:List NP)(i:Nat)(h:i<l.length):heldN L (l.take (i+1))=heldN L (l.take i)++(if(findM L l[i].path).isSome=true∧¬printN l[i].left=printN l[i].right then [(l[i].path,(findM L l[i].path).getD ⟨0,0,0,0,0⟩)] else []):=by
 unfold heldN;rw[zG h,List.filterMap_append];congr 1
 rw[List.filterMap_cons,List.filterMap_nil];split<;>rename_i hh<;>split at hh<;>rename_i h2<;>first | (cases hh;done) | (cases hh;rw[if_pos h2]) | rw[if_neg h2]
theorem clash_snoc (l:List NP)(i:Nat)(h:i<l.length):clashN (l.take (i+1))=clashN (l.take i)++(if l[i].cls=0 then [] else [(l[i].path,l[i].cls)]):=by
 rw[clash_take l i h];unfold clsP;split<;>rfl
theorem held_len (L:List MkE)(l:List NP):(heldN L l).length≤l.length:=List.length_filterMap_le _ _
theorem clash_len (l:List NP):(clashN l).length≤l.length:=List.length_filterMap_le _ _
theorem sh_nd {policy:Int}{xs ys:List NE}{n:NP}(h:ShN policy xs ys n)(hx:TI xs)(hy:TI ys)(hxn:∀e∈xs,NdIn e.2)(hyn:∀e∈ys,NdIn e.2):NdIn n.left∧NdIn n.right:=by
 obtain⟨⟨h1,h2⟩,_⟩:=h;constructor
 ·rcases h1 with e | e
  ·rw[e];exact getT_nd hx.up hxn
  ·rw[e];exact getT_nd hy.up hyn
 ·rcases h2 with e | e
  ·rw[e];exact getT_nd hx.up hxn
  ·rw[e];exact getT_nd hy.up hyn
end Sw
