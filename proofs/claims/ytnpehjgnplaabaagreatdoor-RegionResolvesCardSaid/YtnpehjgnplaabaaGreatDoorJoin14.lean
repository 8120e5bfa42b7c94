/- Several texts of ours, joined. -/
import Derived.Test.YtnpehjgnplaabaaGreatDoorJoin1
import Derived.Test.YtnpehjgnplaabaaGreatDoorJoin12
import Derived.Test.YtnpehjgnplaabaaGreatDoorJoin13
import Derived.Test.YtnpehjgnplaabaaGreatDoorJoin11
import Derived.Test.YtnpehjgnplaabaaGreatDoorJoin8
import Derived.Test.YtnpehjgnplaabaaGreatDoorJoin6
import Derived.Test.YtnpehjgnplaabaaGreatDoorJoin5
import Derived.Test.YtnpehjgnplaabaaGreatDoorJoin4
set_option linter.unusedVariables false
set_option linter.unusedSimpArgs false
set_option maxRecDepth 100000
set_option maxHeartbeats 64000000
namespace Go.Proofs.YtnpehjgnplaabaaGreatDoor
open Go Go.RowKit
open Sw
def eCl (c:ByteArray×Int):List Value:=[.string c.1,.int .i64 c.2]
theorem eCl_len (c:ByteArray×Int):(eCl c).length=2:=rfl
theorem infoCl:(Tryz.prog.info? 66).map (fun i=>(i.zero,i.size,i.bytes))=some (some (.agg #[.string ⟨#[]⟩,.int .i64 0]),2,24):=by kernel_rfl
theorem mapI0 (w:World):(zeroValue 3).run Tryz.prog w= .ok (.int .i64 0) w:=by kernel_rfl
structure ResIs (w':World) (E:List NP×List ByteArray) (L:List MkE) (v:Value):Prop where
 ex:∃tl ml tr mr ua uh uc ug b1 b2 b3,v= .agg #[.pointer (some ⟨tl,0,none⟩),.pointer (some ⟨tr,0,none⟩),ua,uh,uc,ug]∧TreeAt w' tl ml (leftN E.1)∧TreeAt w' tr mr (rightN E.1)∧
  OwnMk w' b1 ua (agreeM (marksT (leftN E.1)) (marksT (rightN E.1)))∧OwnMk w' b1 uh (heldN L E.1)∧w'.ownsRow b2 66 2 uc (clashN E.1).length ((clashN E.1).flatMap eCl)∧w'.ownsRow b3 9 1 ug E.2.length (E.2.map Value.string)
theorem one_mem {f:NP→Nd}{l:List NP}{e:NE}(h:e∈l.flatMap fun n=>oneN n.path (f n)):∃n∈l,e=(n.path,f n):=by
 obtain⟨n,hn,he⟩:=List.mem_flatMap.1 h;unfold oneN at he;split at he
 ·cases he
 ·exact⟨n,hn,List.mem_singleton.1 he⟩
theorem ndZ_in:NdIn ndZ:=⟨by decide,by decide,by decide⟩
theorem getT_nd {xs:List NE}{p:ByteArray}(hu:Up ordS xs)(h:∀e∈xs,NdIn e.2):NdIn (getT xs p):=by
 rcases Classical.em (∃e∈xs,e.1=p) with ⟨e,he,rfl⟩ | hn
 ·rw[getT_in hu he];exact h e he
 ·rw[getT_out hu (fun e he h=>hn ⟨e,he,h⟩)];exact ndZ_in
theorem _root_.Go.Proofs.YtnpehjgnplaabaaGreatDoor.TreeAt.sameR {W W':World}{bt bm g:Nat}{xs:List NE}{t:TypeId}{cs:Array Value}(h:TreeAt W bt bm xs)(hB:Blk W g t cs)(h1:110≠t)(h2:139≠t)(h3:146≠t)(hs:∀i,i≠g→W'.heap[i]? =W.heap[i]?):TreeAt W' bt bm xs:=by
 obtain⟨v,hb,ho⟩:=h.map.row;refine⟨(hs bt (fun e=>Blk.other h.box hB h1 (by rw[e]))).trans h.box,⟨v,(hs bm (fun e=>Blk.other hb hB h2 (by rw[e]))).trans hb,own_sameB ho (fun g' hg'=>hs g' (fun e=>?_))⟩,h.map.up,h.map.ok⟩;obtain⟨cur,hc⟩:=own_blkB ho hg';exact Blk.other hc hB h3 (by rw[e])
theorem ResIs.same {w' w2:World}{E:List NP×List ByteArray}{L:List MkE}{v:Value}(h:ResIs w' E L v){g:Nat}{cs:Array Value}(hB:Blk w' g 36 cs)(hs:∀i,i≠g→w2.heap[i]? =w'.heap[i]?):ResIs w2 E L v:=by
 obtain⟨tl,ml,tr,mr,ua,uh,uc,ug,b1,b2,b3,rfl,h1,h2,h3,h4,h5,h6⟩:=h.ex;have hown:∀(t:TypeId) (s bs n:Nat) (u:Value) (L:List Value),t≠36→w'.ownsRow bs t s u n L→w2.ownsRow bs t s u n L:=fun t s bs n u L ht ho=>own_sameB ho (fun g' hg'=>hs g' (fun e=>by
  obtain⟨cur,hc⟩:=own_blkB ho hg';exact Blk.other hc hB ht (by rw[e])))
 exact⟨⟨tl,ml,tr,mr,ua,uh,uc,ug,b1,b2,b3,rfl,h1.sameR hB (by decide) (by decide) (by decide) hs,h2.sameR hB (by decide) (by decide) (by decide) hs,hown _ _ _ _ _ _ (by decide) h3,hown _ _ _ _ _ _ (by decide) h4,hown _ _ _ _ _ _ (by decide) h5,hown _ _ _ _ _ _ (by decide) h6⟩⟩
theorem ResIs.below {w' w2:World}{E:List NP×List ByteArray}{L:List MkE}{v:Value}(h:ResIs w' E L v)(hb:Below w'.heap.size w' w2):ResIs w2 E L v:=by
 obtain⟨tl,ml,tr,mr,ua,uh,uc,ug,b1,b2,b3,rfl,h1,h2,h3,h4,h5,h6⟩:=h.ex;exact⟨⟨tl,ml,tr,mr,ua,uh,uc,ug,b1,b2,b3,rfl,h1.below hb,h2.below hb,h3.below hb,h4.below hb,own_kept h5 hb,own_kept h6 hb⟩⟩
theorem ResIs.agg {w':World}{E:List NP×List ByteArray}{L:List MkE}{v:Value}(h:ResIs w' E L v):∃tl tr A1 n1 c1 A2 n2 c2 A3 n3 c3 A4 n4 c4,v= .agg #[.pointer (some ⟨tl,0,none⟩),.pointer (some ⟨tr,0,none⟩),.slice A1 n1 c1,.slice A2 n2 c2,.slice A3 n3 c3,.slice A4 n4 c4]:=by
 obtain⟨tl,ml,tr,mr,ua,uh,uc,ug,b1,b2,b3,rfl,h1,h2,h3,h4,h5,h6⟩:=h.ex;obtain⟨A1,c1,rfl,-,-,-⟩:=SlV_of_any h3;obtain⟨A2,c2,rfl,-,-,-⟩:=SlV_of_any h4;obtain⟨A3,c3,rfl,-,-,-⟩:=SlV_of_any h5;obtain⟨A4,c4,rfl,-,-,-⟩:=SlV_of_any h6;exact⟨_,_,_,_,_,_,_,_,_,_,_,_,_,_,rfl⟩
def resZ:Value:= .agg #[.pointer none,.pointer none,.slice none 0 0,.slice none 0 0,.slice none 0 0,.slice none 0 0]
theorem regResolve_any (w:World)(u1 u2:Value)(l1 l2:List MkE)(bt bm bt2 bm2:Nat)(xs ys:List NE)(policy:Int)(h1:SlV w 6 eCM u1 l1)(h2:SlV w 6 eCM u2 l2)(hl1:l1.length≤100)(hl2:l2.length≤100)(hm1:∀m∈l1,MkInA m)(hm2:∀m∈l2,MkInA m)
  (hT:TreeAt w bt bm xs) (hT2:TreeAt w bt2 bm2 ys) (hxl:xs.length≤50) (hyl:ys.length≤50) (hxi:TI xs) (hyi:TI ys) (hxn:∀e∈xs,NdIn e.2) (hyn:∀e∈ys,NdIn e.2)
  (hok:(0≤policy∧policy≤3)∧rightM l1 l2=true):
  Calls Tryz.prog 8 #[.agg #[u1,u2],.pointer (some ⟨bt,0,none⟩),.pointer (some ⟨bt2,0,none⟩),.int .i64 policy] w fun e w'=>(∃v,e= .returned (.tuple #[v,.int .i64 0])∧ResIs w' (endN policy (l1++l2) xs ys) (l1++l2) v)∧Below w.heap.size w w':=by
 obtain⟨W,hW⟩:∃W,(w.alloc (.cells #[u1,u2] 24)).alloc (.cells #[.pointer none,.pointer none,.slice none 0 0,.slice none 0 0,.slice none 0 0,.slice none 0 0] 36)=W:=⟨_,rfl⟩;have hbW:Below w.heap.size w W:=by rw[←hW];exact((zR _ w).alloc (zN _) _).alloc (by simp) _
 have hBb:Blk W w.heap.size 24 #[u1,u2]:=by rw[←hW];exact blk_fst _ _ _ _
 have hBr:Blk W (w.heap.size+1) 36 #[.pointer none,.pointer none,.slice none 0 0,.slice none 0 0,.slice none 0 0,.slice none 0 0]:=by rw[←hW];exact blk_snd _ _ _ _
 obtain⟨B0,hB0⟩:∃n,W.heap.size=n:=⟨_,rfl⟩;have hB0s:B0=w.heap.size+1+1:=by rw[←hB0,←hW];simp
 have HPO:=zH (fun V=>regPolicy_any V policy);have HAR:=zH (fun V (hV:Below w.heap.size w V)=>archRight_any V u1 u2 l1 l2 (h1.below hV (zN _)) (h2.below hV (zN _)) (by omega) (by omega) hm1 hm2);rw[zE hok.1] at HPO;rw[hok.2] at HAR;have hxd:∀e∈xs,e.2.data.size≤maxLen:=fun e he=>(hxn e he).size
 have hyd:∀e∈ys,e.2.data.size≤maxLen:=fun e he=>(hyn e he).size
 have HIN:=zH (zA (fun V (hV:Below w.heap.size w V)=>zA (h1.below hV (zN _)) (zA (h2.below hV (zN _)) (zA (hT.below hV) (hT2.below hV)))) (zA hm1 hm2));have HTI:=zH (zA (zA hxi hyi) (zA (zA hxn hyn) (zA hxd hyd)));have HL:=zH (zA (zA hl1 hl2) (zA hxl hyl));have q0:=hBb.cell 0;have q1:=hBb.cell 1;simp only[qA,qB,qC] at q0 q1;obtain⟨A1,c1,rfl,-,-,-⟩:=h1;obtain⟨A2,c2,rfl,-,-,-⟩:=h2;obtain⟨n1,hn1⟩:∃n,l1.length=n:=⟨_,rfl⟩;obtain⟨n2,hn2⟩:∃n,l2.length=n:=⟨_,rfl⟩;have H0:=zH (zA hbW (zA hBb (zA hBr (zA hB0 hB0s))));have HW:=zH hW;simp only[hn1,hn2] at HW H0 HAR HIN q0 q1⊢;clear hbW hBb hBr hB0 hW hok hm1 hm2 hT hT2 hxi hyi hxn hyn hxd hyd hn1 hn2;go_enter Tryz.func8,Tryz.ntmps8
 go_upto_region 1 with fail
 rw[HW.out];go_wp2_with fail
 refine(HPO.out W).mono ?_;rintro e w1 ⟨rfl,rfl⟩;go_wp2_with fail
 refine(HAR.out w1 H0.out.1).mono ?_;rintro e w2 ⟨rfl,hb2⟩;have h0w2:Below w.heap.size w w2:=H0.out.1.trans (hb2.mono H0.out.1.size);have hW2:B0≤w2.heap.size:=by rw[←H0.out.2.2.2.1];exact hb2.size
 have hbb2:=H0.out.2.1.below hb2 H0.out.2.1.lt;have hbr2:=H0.out.2.2.1.below hb2 H0.out.2.2.1.lt;have H2:=zH (zA h0w2 (zA hW2 (zA hbb2 hbr2)));clear hb2 h0w2 hbb2 hbr2 q0 q1 HAR HPO HW;go_upto_region 3 with fail
 obtain⟨gc,hgc⟩:∃n,w2.heap.size=n:=⟨_,rfl⟩;obtain⟨W3,hW3⟩:∃X,(w2.alloc (.map #[] 0)).alloc (.cells #[.pointer (some ⟨bt,0,none⟩),.pointer (some ⟨bt2,0,none⟩),.int .i64 policy,.slice none 0 0,.map none,.map none,.map (some gc),.slice none 0 0] 76)=X:=⟨_,rfl⟩;have hgs3:(w2.alloc (.map #[] 0)).heap.size=gc+1:=by simp [hgc]
 have hb23:Below w2.heap.size w2 W3:=by rw[←hW3];exact((zR _ w2).alloc (zN _) _).alloc (by simp) _
 have hs3:W3.heap.size=gc+1+1:=by rw[←hW3];simp [hgc]
 have hB3:Blk W3 (gc+1) 76 #[.pointer (some ⟨bt,0,none⟩),.pointer (some ⟨bt2,0,none⟩),.int .i64 policy,.slice none 0 0,.map none,.map none,.map (some gc),.slice none 0 0]:=by rw[←hW3,←hgs3];exact Blk.new _ _ _
 have hm3:MapV W3 Tryz.prog 9 litT okT gc 0 (fun _=>none):=by
  have h9:=MapV.made (α:=ByteArray) w2 Tryz.prog 9 litT okT;rw[hgc] at h9;have h10:=h9.below ((zR _ _).alloc (zN _) (.cells #[.pointer (some ⟨bt,0,none⟩),.pointer (some ⟨bt2,0,none⟩),.int .i64 policy,.slice none 0 0,.map none,.map none,.map (some gc),.slice none 0 0] 76)) h9.lt;rw[hW3] at h10;exact h10
 have H3:=zH (zA hb23 (zA hs3 (zA hB3 (zA hm3 hgc))));have HW3:=zH (zA hW3 (zA hgs3 hgc));clear hb23 hs3 hB3 hm3 hW3 hgs3;have hmm:= @run_makeMap Tryz.prog;go_upto_region 4 with fail
 try simp only[World.size_alloc,HW3.out.2.2]
 rw[HW3.out.1];clear hgc;go_wp2_with fail
 go_loopw [39] (fun iv wr=>∃(i:Nat) (v4 v5:Value),i≤2∧iv= .int .i64 i∧Below w2.heap.size w2 wr∧wr.heap.size=gc+1+1+i∧Blk wr (gc+1) 76 #[.pointer (some ⟨bt,0,none⟩),.pointer (some ⟨bt2,0,none⟩),.int .i64 policy,.slice none 0 0,v4,v5,.map (some gc),.slice none 0 0]∧MapV wr Tryz.prog 9 litT okT gc 0 (fun _=>none)∧(1≤i→v4= .map (some (gc+1+1))∧MapV wr Tryz.prog 9 litT okT (gc+1+1) 0 (fun _=>none))∧(2≤i→v5= .map (some (gc+1+1+1))∧MapV wr Tryz.prog 9 litT okT (gc+1+1+1) 0 (fun _=>none))) (fun iv _=>2-(intOf iv).toNat)
 case atStart=>exact⟨0,_,_,by omega,rfl,H3.out.1,H3.out.2.1,H3.out.2.2.1,H3.out.2.2.2.1,fun h=>(by omega),fun h=>(by omega)⟩
 case round=>
  obtain⟨i,v4,v5,hi,rfl,hbr,hsz,hBx,hmx,hA,hB⟩:=hrel;by_cases hi2:i=2
  ·subst hi2;obtain⟨e4,hm4⟩:=hA (by omega);obtain⟨e5,hm5⟩:=hB (by omega);subst e4 e5;have hgc:=H3.out.2.2.2.2;have h0r:Below w.heap.size w wr:=H2.out.1.trans (hbr.mono H2.out.1.size);have hB0w:w.heap.size≤B0:=by have:=H0.out.2.2.2.2;omega
   have hRg:RgAt B0 wr (gc+1) bt bt2 (gc+1+1) (gc+1+1+1) gc 0 policy (.slice none 0 0) (.slice none 0 0) [] []:=
    ⟨hBx,hm4,hm5,hmx,World.ownsRow_nil _ _ _ _,World.ownsRow_nil _ _ _ _,by omega,by omega,by omega,fun g h _=>by simp [Value.ownBlock] at h,by have:=H2.out.2.1;omega,by have:=H2.out.2.1;omega,by have:=H2.out.2.1;omega,by have:=H2.out.2.1;omega⟩
   have hbb4:=H2.out.2.2.1.below hbr H2.out.2.2.1.lt;have hbr4:=H2.out.2.2.2.below hbr H2.out.2.2.2.lt;have x0:=hbb4.cell 0;have x1:=hbb4.cell 1;simp only[qA,qB,qC] at x0 x1;have HFI:=zH (regFirst_any B0 wr (gc+1) bt bm bt2 bm2 (gc+1+1) (gc+1+1+1) gc policy (.slice A1 n1 c1) (.slice A2 n2 c2) l1 l2 xs ys hRg (fun U hU=>(HIN.out.1 U (h0r.trans (hU.mono hB0w))).2.2.1) (fun U hU=>(HIN.out.1 U (h0r.trans (hU.mono hB0w))).2.2.2) (fun U hU=>(HIN.out.1 U (h0r.trans (hU.mono hB0w))).1) (fun U hU=>(HIN.out.1 U (h0r.trans (hU.mono hB0w))).2.1) (by have:=HL.out.1.1;omega) (by have:=HL.out.1.2;omega) (fun m hm=>(HIN.out.2.1 m hm).1) (fun m hm=>(HIN.out.2.2 m hm).1) (by have:=HL.out.2.1;omega) (by have:=HL.out.2.2;omega) HTI.out.2.2.1 HTI.out.2.2.2);have H4:=zH (zA h0r (zA hB0w (zA hbb4 (zA hbr4 (show B0≤wr.heap.size by have:=H2.out.2.1;have:=hbr.size;omega)))));clear hbr hsz hBx hmx hA hB hm4 hm5 h0r hRg hbb4 hbr4;generalize wr=w4 at*;(go_wp2_with fail);refine HFI.out.mono ?_;rintro e w5 ⟨rfl,pv5,hR5,hb5⟩;obtain⟨L0,hL0⟩:∃L,beginN policy (l1++l2) xs ys=L:=⟨_,rfl⟩;have hLl:=begin_len policy (l1++l2) xs ys;have hLp:=begin_path policy (l1++l2) xs ys;have hLs:=begin_sh policy (l1++l2) xs ys;have hEN:endN policy (l1++l2) xs ys=Sw.runN policy xs ys (beginN policy (l1++l2) xs ys) (beginN policy (l1++l2) xs ys).length:=rfl;(have hxz:∀e∈xs,e.1.size≤90000:=fun e he=>((HIN.out.1 w (zR _ _)).2.2.1).ok (n:=e.2) he);(have hyz:∀e∈ys,e.1.size≤90000:=fun e he=>((HIN.out.1 w (zR _ _)).2.2.2).ok (n:=e.2) he);have hLz:∀q∈(beginN policy (l1++l2) xs ys).map NP.path,q.size≤90000:=fun q hq=>by
    rw[hLp,pathsS_mem,List.mem_append,List.mem_append] at hq;rcases hq with (hp | hp) | hp
    ·obtain⟨m,hm,rfl⟩:=List.mem_map.1 hp;exact(List.mem_append.1 hm).elim (fun h=>(HIN.out.2.1 m h).1) (fun h=>(HIN.out.2.2 m h).1)
    ·obtain⟨e,he,rfl⟩:=List.mem_map.1 hp;exact hxz e he
    ·obtain⟨e,he,rfl⟩:=List.mem_map.1 hp;exact hyz e he
   (have hLr:Rise ((beginN policy (l1++l2) xs ys).map NP.path):=by rw[hLp];exact pathsS_rise _);(have hLe:(l1++l2).length≤200:=by rw[zF];have:=HL.out.1.1;have:=HL.out.1.2;omega);have hLTI:TI (leftN (endN policy (l1++l2) xs ys).1):=left_ti policy (l1++l2) HTI.out.1.1 HTI.out.1.2;have hRTI:TI (rightN (endN policy (l1++l2) xs ys).1):=right_ti policy (l1++l2) HTI.out.1.1 HTI.out.1.2;rw[hEN] at hLTI hRTI;rw[hL0] at hR5 hLl hLs hLz hLr hLTI hRTI hEN;obtain⟨n,hn⟩:∃n,L0.length=n:=⟨_,rfl⟩;(have hn300:n≤300:=by have:=HL.out.2.1;have:=HL.out.2.2;omega);have HL0:=zH (zA hLs (zA hLz (zA hLr (zA hn (zA hLTI hRTI)))));have hrp5:=(hR5:RgIn _ _ _ _ _ _ _ _ _ _ _ _ _ _ _ _ _).rp;rw[zS,hn] at hrp5;obtain⟨Ap,cp,rfl,-,hcp,-⟩:=SlV_of_any hrp5;have h05:Below w.heap.size w w5:=H4.out.1.trans (hb5.mono H4.out.2.1);have hbb5:=H4.out.2.2.1.below hb5 (by have:=H0.out.2.2.2.2;omega);have hbr5:=H4.out.2.2.2.1.below hb5 (by have:=H0.out.2.2.2.2;omega);have z3:=(hR5:RgIn _ _ _ _ _ _ _ _ _ _ _ _ _ _ _ _ _).box.cell 3;simp only[qA,qB,qC] at z3;have H5:=zH (zA h05 (zA hbb5 (zA hbr5 (zA hR5 (zT H4.out.2.2.2.2 hb5.size)))));unfold maxLen at hcp;rw[hn] at hEN hLl;have HEN:=zH hEN;clear hb5 hL0 hLl hLp hLs hEN hxz hyz hLz hLr hLe hLTI hRTI hrp5 h05 hbb5 hbr5 hR5 HFI x0 x1 hn;(go_wp2_with fail);go_loopw [57] (fun iv wr=>∃(i:Nat) (gv:Value),i≤n∧iv= .int .i64 i∧RgAt B0 wr (gc+1) bt bt2 (gc+1+1) (gc+1+1+1) gc (12000+i*1001) policy (.slice Ap n cp) gv (Sw.runN policy xs ys L0 i).1 (Sw.runN policy xs ys L0 i).2∧Below B0 w5 wr) (fun iv _=>n-(intOf iv).toNat)
   case atStart=>exact⟨0,_,Nat.zero_le _,rfl,H5.out.2.2.2.1,zR _ _⟩
   case round=>
    obtain⟨i,gv,hi,rfl,hR,hb⟩:=hrel;(have hi300:i≤300:=by omega);obtain⟨S,hS⟩:∃S,Sw.runN policy xs ys L0 i=S:=⟨_,rfl⟩;(have hSp:S.1.map NP.path=L0.map NP.path:=by rw[←hS];exact run_path i);(have hSl:S.1.length=n:=by rw[←hS,run_len];exact HL0.out.2.2.2.1);(have hSg:S.2.length≤i:=by rw[←hS];exact run_graft i);rw[hS] at hR;by_cases hlt:i<n
    ·(have hiL:i<L0.length:=by rw[HL0.out.2.2.2.1];exact hlt);obtain⟨m,hmS,hmp,hrun⟩:=run_at (policy:=policy) (xs:=xs) (ys:=ys) HL0.out.2.2.1 hiL;rw[hS] at hmS hrun;have hrp:=(hR:RgIn _ _ _ _ _ _ _ _ _ _ _ _ _ _ _ _ _).rp;rw[←flat_sE] at hrp;have hsv:=SlV.of_own hrp sE_lenP (by decide);have hsv':=hsv;obtain⟨A',c',hA',_,_,hso⟩:=hsv';rw[zS,hSl] at hA';(obtain⟨rfl,rfl⟩:Ap=A'∧cp=c':=by injection hA' with e1 e2 e3;exact⟨e1,e3⟩);clear hA';(have hiM:i<(S.1.map NP.path).length:=by rw[zS,hSl];exact hlt);obtain⟨b,off,rfl,hbb,hcs⟩:=hso (by omega);have c0:=hcs i hiM 0 (by omega);have hpe:(S.1.map NP.path)[i]=m.path:=by
      rw[hmp];(have h2:(S.1.map NP.path)[i]? =(L0.map NP.path)[i]? :=by rw[hSp]);rw[zM hiM,List.getElem?_map,zM hiL] at h2;exact Option.some.inj h2
     rw[hpe] at c0;simp only[sE,qC,Nat.add_zero,Nat.mul_one] at c0;clear hcs hso;(have hi1:(i:Int)<n:=by omega);(have hSr:Rise (S.1.map NP.path):=by rw[hSp];exact HL0.out.2.2.1);(have hSz:∀q∈S.1.map NP.path,q.size≤90000:=by rw[hSp];exact HL0.out.2.1);have hpm:m.path∈S.1.map NP.path:=List.mem_map.2 ⟨m,hmS,rfl⟩;have hbad:=bad_holds hSr hmS;have hBD:=regBad_any wr (gc+1) bt bt2 (gc+1+1) (gc+1+1+1) gc (12000+i*1001) policy _ gv S.1 m.path (hR:RgIn _ _ _ _ _ _ _ _ _ _ _ _ _ _ _ _ _).box hsv (by omega) hSz (hSz _ hpm) (hR:RgIn _ _ _ _ _ _ _ _ _ _ _ _ _ _ _ _ _).mA (hR:RgIn _ _ _ _ _ _ _ _ _ _ _ _ _ _ _ _ _).mB;rw[hbad] at hBD;have HBD:=zH hBD;have h0r:Below w.heap.size w wr:=H5.out.1.trans (hb.mono H4.out.2.1);have HRR:=zH (fun V (hV:Below wr.heap.size wr V)=>regRegion_any B0 V (gc+1) bt bm bt2 bm2 (gc+1+1) (gc+1+1+1) gc (12000+i*1001) policy _ gv xs ys S.1 S.2 m.path (RgIn.below hR hV) ((HIN.out.1 V (h0r.trans (hV.mono h0r.size))).2.2.1) ((HIN.out.1 V (h0r.trans (hV.mono h0r.size))).2.2.2) (by have:=HL.out.2.1;omega) (by have:=HL.out.2.2;omega) (by omega) (by omega) hSz hpm (by omega) (zT H5.out.2.2.2.2 (zT hb.size hV.size)));(have hgo:goN policy xs ys S m=if badN S.1 m=true then(turnN policy xs ys S.1 m.path,if sideR policy xs ys m.path=2 then S.2++[m.path] else S.2) else S:=rfl);obtain⟨p,hp⟩:∃p,m.path=p:=⟨_,rfl⟩;rw[hp] at c0 HBD HRR hgo;obtain⟨BD,hBD2⟩:∃b,badN S.1 m=b:=⟨_,rfl⟩;rw[hBD2] at HBD hgo;have HS:=zH (zA hR (zA hb (zA hrun hgo)));clear hR hb hrun hgo hrp hsv hmS hmp hpe hSr hSz hpm hbad hBD h0r hp hBD2 hSp hSl hSg hS hiM;(go_wp2_with fail);refine HBD.out.mono ?_;rintro e w6 ⟨rfl,hb6⟩;have H6:=zH hb6;clear hb6 HBD c0;cases BD with
     | false=>
      (go_wp2_with fail);go_roundw
      case rel=>
       refine⟨i+1,gv,by omega,by go_num,?_,HS.out.2.1.trans (H6.out.mono (zT H5.out.2.2.2.2 HS.out.2.1.size))⟩;rw[HS.out.2.2.1,HS.out.2.2.2,if_neg (by decide)];exact(RgIn.below HS.out.1 H6.out).more (by omega)
      case measure=>simp [intOf];omega
     | true=>
      (go_wp2_with fail);refine(HRR.out w6 H6.out).mono ?_;rintro e w7 ⟨rfl,gv7,hR7,hb7⟩;have H7:=zH (zA hR7 hb7);clear hR7 hb7 HRR;(go_wp2_with fail);go_roundw
      case rel=>
       refine⟨i+1,gv7,by omega,by go_num,?_,(HS.out.2.1.trans (H6.out.mono (zT H5.out.2.2.2.2 HS.out.2.1.size))).trans H7.out.2⟩;rw[HS.out.2.2.1,HS.out.2.2.2];simp only[if_true];exact RgIn.more H7.out.1 (by omega)
      case measure=>simp [intOf];omega
    ·(obtain rfl:i=n:=by omega);have hE:endN policy (l1++l2) xs ys=S:=HEN.out.trans hS;(have hSh:∀n∈S.1,ShN policy xs ys n:=by rw[←hS];exact run_sh HL0.out.1 i);(have hTl:TI (leftN S.1):=by have:=HL0.out.2.2.2.2.1;rw[HL0.out.2.2.2.1,hS] at this;exact this);(have hTr:TI (rightN S.1):=by have:=HL0.out.2.2.2.2.2;rw[HL0.out.2.2.2.1,hS] at this;exact this);(have hSr:Rise (S.1.map NP.path):=by rw[hSp];exact HL0.out.2.2.1);(have hSz:∀q∈S.1.map NP.path,q.size≤90000:=by rw[hSp];exact HL0.out.2.1);have hxu:=(HIN.out.1 w (zR _ _)).2.2.1.map.up;have hyu:=(HIN.out.1 w (zR _ _)).2.2.2.map.up;(have hgx:∀p,NdIn (getT xs p):=fun p=>getT_nd hxu HTI.out.2.1.1);(have hgy:∀p,NdIn (getT ys p):=fun p=>getT_nd hyu HTI.out.2.1.2);(have hnl:∀n∈S.1,NdIn n.left:=fun n hn=>(hSh n hn).1.1.elim (fun e=>by rw[e];exact hgx _) (fun e=>by rw[e];exact hgy _));(have hnr:∀n∈S.1,NdIn n.right:=fun n hn=>(hSh n hn).1.2.elim (fun e=>by rw[e];exact hgx _) (fun e=>by rw[e];exact hgy _));have hlL:(leftN S.1).length≤300:=zT (flat_one_len NP.left S.1) (by omega);have hlR:(rightN S.1).length≤300:=zT (flat_one_len NP.right S.1) (by omega);have hdL:∀e∈leftN S.1,e.2.data.size≤maxLen:=fun e he=>by
      obtain⟨n,hn,rfl⟩:=one_mem (f:=NP.left) he;exact(hnl n hn).size
     have hdR:∀e∈rightN S.1,e.2.data.size≤maxLen:=fun e he=>by
      obtain⟨n,hn,rfl⟩:=one_mem (f:=NP.right) he;exact(hnr n hn).size
     have hhp:(S.1.map NP.path).filterMap (heldP (l1++l2) (leftN S.1) (rightN S.1))=heldN (l1++l2) S.1:=held_paths HTI.out.1.1 HTI.out.1.2 (l1++l2) hSh hSr;have h0r:Below w.heap.size w wr:=H5.out.1.trans (hb.mono H4.out.2.1);have hB0r:B0≤wr.heap.size:=zT H5.out.2.2.2.2 hb.size;have hbbr:=H5.out.2.1.below hb (by have:=H0.out.2.2.2.2;omega);have hbrr:=H5.out.2.2.1.below hb (by have:=H0.out.2.2.2.2;omega);have HT0:=zH (fun V (hV:Below wr.heap.size wr V)=>regTree0_any B0 V (gc+1) bt bt2 (gc+1+1) (gc+1+1+1) gc (12000+i*1001) policy _ gv S.1 S.2 (RgIn.below hR hV) (by omega) (fun n hn=>⟨hSz _ (List.mem_map.2 ⟨n,hn,rfl⟩),hnl n hn⟩) hSr hTl);have HT1:=zH (fun V (hV:Below wr.heap.size wr V)=>regTree1_any B0 V (gc+1) bt bt2 (gc+1+1) (gc+1+1+1) gc (12000+i*1001) policy _ gv S.1 S.2 (RgIn.below hR hV) (by omega) (fun n hn=>⟨hSz _ (List.mem_map.2 ⟨n,hn,rfl⟩),hnr n hn⟩) hSr hTr);have HBS:=zH (fun V (hV:Below wr.heap.size wr V) tb tm tb2 tm2 (hX:TreeAt V tb tm (leftN S.1)) (hY:TreeAt V tb2 tm2 (rightN S.1))=>regBase_any B0 V (gc+1) bt bt2 (gc+1+1) (gc+1+1+1) gc (12000+i*1001) policy _ gv (.slice A1 n1 c1) (.slice A2 n2 c2) S.1 S.2 l1 l2 tb tm tb2 tm2 (leftN S.1) (rightN S.1) (RgIn.below hR hV) (by omega) hSz ((HIN.out.1 V (h0r.trans (hV.mono h0r.size))).1) ((HIN.out.1 V (h0r.trans (hV.mono h0r.size))).2.1) (by have:=HL.out.1.1;omega) (by have:=HL.out.1.2;omega) hX hY (by omega) (by omega) hdL hdR);rw[hhp] at HBS;have hrg:=(hR:RgIn _ _ _ _ _ _ _ _ _ _ _ _ _ _ _ _ _).rg;obtain⟨Ag,cg,rfl,-,hcg,-⟩:=SlV_of_any hrg;have HS:=zH (zA hR (zA h0r (zA hB0r (zA hbbr (zA hbrr (zA hE (zA hSr (zA hSl (zA hSp hSz)))))))));obtain⟨ng,hng⟩:∃n,S.2.length=n:=⟨_,rfl⟩;(have hng2:ng≤300:=by omega);have HNG:=zH hng;(try rw[hng] at hcg);rw[hng] at HS;obtain⟨AM,hAM⟩:∃L,agreeM (marksT (leftN S.1)) (marksT (rightN S.1))=L:=⟨_,rfl⟩;obtain⟨HM,hHM⟩:∃L,heldN (l1++l2) S.1=L:=⟨_,rfl⟩;obtain⟨na,hna⟩:∃n,AM.length=n:=⟨_,rfl⟩;obtain⟨nh,hnh⟩:∃n,HM.length=n:=⟨_,rfl⟩;unfold OwnMk at HBS;rw[hAM,hHM,hna,hnh] at HBS;have HMS:=zH (zA (zA hAM hHM) (zA hna hnh));clear hAM hHM hna hnh;clear hSg hng hE hSh hTl hTr hSr hSz hxu hyu hgx hgy hnl hnr hlL hlR hdL hdR hhp h0r hB0r hbbr hbrr hR hrg hS hSp hb;(go_wp2_with fail);refine(HT0.out wr (zR _ _)).mono ?_;rintro e w7 ⟨tl,ml,rfl,hTL,hb7⟩;have H7:=zH (zA hTL hb7);clear hTL hb7 HT0;(go_wp2_with fail);refine(HT1.out w7 H7.out.2).mono ?_;rintro e w8 ⟨tr,mr,rfl,hTR,hb8⟩;have h8:Below wr.heap.size wr w8:=H7.out.2.trans (hb8.mono H7.out.2.size);have hTL8:=H7.out.1.below hb8;have H8:=zH (zA hTL8 (zA hTR h8));have hbb8:=HS.out.2.2.2.1.below h8 HS.out.2.2.2.1.lt;have hst8:=(RgIn.below HS.out.1 h8).box;have x0:=hbb8.cell 0;have x1:=hbb8.cell 1;have x7:=hst8.cell 7;simp only[qA,qB,qC] at x0 x1 x7;clear hb8 h8 hTL8 hTR HT1 z3;have HBL:=zH (zA hbb8.lt hst8.lt);clear hbb8 hst8;(go_upto_region 20 with fail);go_cut [18] from 88 to 99 (fun s18 wx=>∃(g bs:Nat) (ua uh:Value),s18= .pointer (some ⟨g,0,none⟩)∧w8.heap.size≤g∧Blk wx g 36 #[.pointer (some ⟨tl,0,none⟩),.pointer (some ⟨tr,0,none⟩),ua,uh,.slice none 0 0,.slice Ag ng cg]∧wx.ownsRow bs 63 6 ua na (AM.flatMap eCM)∧wx.ownsRow bs 63 6 uh nh (HM.flatMap eCM)∧Below w8.heap.size w8 wx)
     case first=>
      have HC0:=zH (Aft.start w8);(have k0:∀m:Held (Aft w8),(HeldW m).cell? ⟨w.heap.size,0,none⟩=some (.slice A1 n1 c1):=fun m=>(Aft.cell m HBL.out.1).trans x0);(have k1:∀m:Held (Aft w8),(HeldW m).cell? ⟨w.heap.size,1,none⟩=some (.slice A2 n2 c2):=fun m=>(Aft.cell m HBL.out.1).trans x1);(have k7:∀m:Held (Aft w8),(HeldW m).cell? ⟨gc+1,7,none⟩=some (.slice Ag ng cg):=fun m=>(Aft.cell m HBL.out.2).trans x7);clear x0 x1 x7;refine wp_region_mixT (Aft w8) (.first 0 (.first 1 (.first 2 (.first 3 (.first 4 (.first 5 (.first 7 (.first 8 (.first 9 (.first 10 (.two 6 (.first 11 (.forced 12 (.forced 13 .nil))) 12 (.forced 6 (.first 11 (.forced 13 .nil)))))))))))))) (by kernel_rfl) (by kernel_rfl) ?_;simp only[pickT,qA,qB,qC];(repeat (apply mixT_first;apply Exists.intro;refine⟨fun m=>?_,HC0.out,?_⟩;·(go_big_quiet_step (fail);exact wpQuiet_nil rfl)));refine mixT_two HC0.out ?_ ?_
      ·(go_wp2_with fail);refine(HBS.out _ (H8.out.2.2.trans (HC0.out.mono H8.out.2.2.size)) tl ml tr mr (H8.out.1.below HC0.out) (H8.out.2.1.below HC0.out)).mono ?_;rintro e w9 ⟨ua,uh,rfl,ho1,ho2,hb9⟩;obtain⟨Aa,ca,rfl,-,-,-⟩:=SlV_of_any ho1;obtain⟨Ah,ch,rfl,-,-,-⟩:=SlV_of_any ho2;have H9:=zH (zA (show Aft w8 w9 from Aft.keep _ _ HC0.out hb9) (zA ho1 ho2));clear hb9 ho1 ho2;(go_wp2_with fail);(show mixT ..);(apply mixT_first;apply Exists.intro;refine⟨fun m=>?_,H9.out.1,?_⟩;·(go_big_quiet_step (fail);exact wpQuiet_nil rfl));refine mixT_forced H9.out.1 ?_;(go_wp2_with fail);(show mixT ..);refine mixT_forced (H9.out.1.alloc H9.out.1.size _) ?_;(go_wp2_with fail);(show mixT ..);refine mixT_nil (H9.out.1.alloc H9.out.1.size _) ?_;(go_wp2_with fail);(go_meet);exact⟨w9.heap.size,_,_,_,rfl,H9.out.1.size,Blk.new _ _ _,own_kept H9.out.2.1 ((zR _ w9).alloc (zN _) _),own_kept H9.out.2.2 ((zR _ w9).alloc (zN _) _),H9.out.1.alloc H9.out.1.size _⟩
      ·(go_wp2_with fail);(show mixT ..);obtain⟨V0,hV0⟩:∃V0,(w8.alloc (.cells #[.pointer none,.pointer none,.slice none 0 0,.slice none 0 0,.slice none 0 0,.slice none 0 0] 36)).drew=V0:=⟨_,rfl⟩;obtain⟨g,hg⟩:∃g,w8.heap.size=g:=⟨_,rfl⟩;(have hBg:Blk V0 g 36 #[.pointer none,.pointer none,.slice none 0 0,.slice none 0 0,.slice none 0 0,.slice none 0 0]:=by rw[←hV0,←hg];exact(Blk.new w8 _ _));(have hbV0:Aft w8 V0:=by rw[←hV0];exact((zR _ w8).alloc (zN _) _).drew);(have hgw:w8.heap.size≤g:=by omega);(try rw[hV0]);(try rw[hg]);clear hV0 hg;refine mixT_forced hbV0 ?_;(go_wp2_with fail);refine(HBS.out _ (H8.out.2.2.trans (hbV0.mono H8.out.2.2.size)) tl ml tr mr (H8.out.1.below hbV0) (H8.out.2.1.below hbV0)).mono ?_;rintro e V ⟨ua,uh,rfl,ho1,ho2,hb9⟩;obtain⟨Aa,ca,rfl,-,-,-⟩:=SlV_of_any ho1;obtain⟨Ah,ch,rfl,-,-,-⟩:=SlV_of_any ho2;have HV:=zH (zA (hBg.below hb9 hBg.lt) (zA (show Aft w8 V from Aft.keep _ _ hbV0 hb9) (zA hgw (zA ho1 ho2))));clear hb9 ho1 ho2 hBg hbV0 hgw;(go_wp2_with fail);(show mixT ..);(apply mixT_first;apply Exists.intro;refine⟨fun m=>?_,HV.out.2.1,?_⟩;·(go_big_quiet_step (fail);exact wpQuiet_nil rfl));have z0:=HV.out.1.cell 0;have fz0:=HV.out.1.frozen 0;have z1:=HV.out.1.cell 1;have fz1:=HV.out.1.frozen 1;have z2:=HV.out.1.cell 2;have fz2:=HV.out.1.frozen 2;have z3:=HV.out.1.cell 3;have fz3:=HV.out.1.frozen 3;have z4:=HV.out.1.cell 4;have fz4:=HV.out.1.frozen 4;have z5:=HV.out.1.cell 5;have fz5:=HV.out.1.frozen 5;simp only[qA,qB,qC] at z0 z1 z2 z3 z4 z5;refine mixT_forced HV.out.2.1 ?_;(go_wp2_with fail);(show mixT ..);obtain⟨VF,hVF⟩:∃VF,((((((V.setCell ⟨g,0,none⟩ (.pointer (some ⟨tl,0,none⟩))).setCell ⟨g,1,none⟩ (.pointer (some ⟨tr,0,none⟩))).setCell ⟨g,2,none⟩ (.slice Aa na ca)).setCell ⟨g,3,none⟩ (.slice Ah nh ch)).setCell ⟨g,4,none⟩ (.slice none 0 0)).setCell ⟨g,5,none⟩ (.slice Ag ng cg))=VF:=⟨_,rfl⟩;rw[hVF];have p5:Blk ((((((V.setCell ⟨g,0,none⟩ (.pointer (some ⟨tl,0,none⟩))).setCell ⟨g,1,none⟩ (.pointer (some ⟨tr,0,none⟩))).setCell ⟨g,2,none⟩ (.slice Aa na ca)).setCell ⟨g,3,none⟩ (.slice Ah nh ch)).setCell ⟨g,4,none⟩ (.slice none 0 0)).setCell ⟨g,5,none⟩ (.slice Ag ng cg)) g 36 #[.pointer (some ⟨tl,0,none⟩),.pointer (some ⟨tr,0,none⟩),.slice Aa na ca,.slice Ah nh ch,.slice none 0 0,.slice Ag ng cg]:=Blk.put6 (HV.out.1);(have hBF:Blk VF g 36 #[.pointer (some ⟨tl,0,none⟩),.pointer (some ⟨tr,0,none⟩),.slice Aa na ca,.slice Ah nh ch,.slice none 0 0,.slice Ag ng cg]:=by rw[←hVF];exact p5);clear p5;(have hbV:Aft w8 VF:=by rw[←hVF];exact Below.set6 (HV.out.2.1) (HV.out.2.2.1));have hown:∀(bs n:Nat) (u:Value) (L:List Value),V.ownsRow bs 63 6 u n L→VF.ownsRow bs 63 6 u n L:=fun bs n u L ho=>own_sameB ho (fun g' hg'=>by
        have hne:g'≠g:=fun e=>by
         obtain⟨cur,hc⟩:=own_blkB ho hg';exact Blk.other hc HV.out.1 (by decide) (by rw[e])
        rw[←hVF];exact((zJ _ ⟨g,5,none⟩ _ g' hne).trans ((zJ _ ⟨g,4,none⟩ _ g' hne).trans ((zJ _ ⟨g,3,none⟩ _ g' hne).trans ((zJ _ ⟨g,2,none⟩ _ g' hne).trans ((zJ _ ⟨g,1,none⟩ _ g' hne).trans (zJ _ ⟨g,0,none⟩ _ g' hne)))))))
       clear hVF z0 fz0 z1 fz1 z2 fz2 z3 fz3 z4 fz4 z5 fz5;refine mixT_nil hbV ?_;(go_wp2_with fail);(go_meet);exact⟨g,_,_,_,rfl,HV.out.2.2.1,hBF,hown _ _ _ _ HV.out.2.2.2.1,hown _ _ _ _ HV.out.2.2.2.2,hbV⟩
     case rest=>
      obtain⟨g,bs,ua,uh,rfl,hgw,hBg,hoa,hoh,hbx⟩:=hcut;generalize wc=w9 at*;obtain⟨Aa,ca,rfl,-,-,-⟩:=SlV_of_any hoa;obtain⟨Ah,ch,rfl,-,-,-⟩:=SlV_of_any hoh;have x3:=(RgIn.below HS.out.1 (H8.out.2.2.trans (hbx.mono H8.out.2.2.size))).box.cell 3;simp only[qA,qB,qC] at x3;have H9:=zH (zA hgw (zA hBg (zA hoa (zA hoh hbx))));clear hgw hBg hoa hoh hbx x0 x1 x7;(go_wp2_with fail);go_loopw [105] (fun iv wx=>∃(k:Nat) (uc:Value),k≤i∧iv= .int .i64 k∧Below w8.heap.size w8 wx∧Blk wx g 36 #[.pointer (some ⟨tl,0,none⟩),.pointer (some ⟨tr,0,none⟩),.slice Aa na ca,.slice Ah nh ch,uc,.slice Ag ng cg]∧wx.ownsRow bs 63 6 (.slice Aa na ca) na (AM.flatMap eCM)∧wx.ownsRow bs 63 6 (.slice Ah nh ch) nh (HM.flatMap eCM)∧wx.ownsRow w8.heap.size 66 2 uc (clashN (S.1.take k)).length ((clashN (S.1.take k)).flatMap eCl)) (fun iv _=>i-(intOf iv).toNat)
      case atStart=>exact⟨0,_,Nat.zero_le _,rfl,H9.out.2.2.2.2,H9.out.2.1,H9.out.2.2.1,H9.out.2.2.2.1,World.ownsRow_nil _ _ _ _⟩
      case round=>
       obtain⟨k,uc,hk,rfl,hb,hBg,hoa,hoh,hoc⟩:=hrel;(have hk300:k≤300:=by omega);obtain⟨K,hK⟩:∃K,clashN (S.1.take k)=K:=⟨_,rfl⟩;rw[hK] at hoc;obtain⟨kc,hkc⟩:∃n,K.length=n:=⟨_,rfl⟩;rw[hkc] at hoc;(have hkl:kc≤300:=by rw[←hkc,←hK];exact zT (List.length_filterMap_le _ _) (by rw[zL];omega));obtain⟨Ac,cc,rfl,-,-,-⟩:=SlV_of_any hoc;by_cases hlt2:k<i
       ·(have hkS:k<S.1.length:=by rw[hSl];exact hlt2);have hR:=RgIn.below HS.out.1 (H8.out.2.2.trans (hb.mono H8.out.2.2.size));have hrp:=(hR:RgIn _ _ _ _ _ _ _ _ _ _ _ _ _ _ _ _ _).rp;rw[←flat_sE] at hrp;have hsv:=SlV.of_own hrp sE_lenP (by decide);obtain⟨A',c',hA',_,_,hso⟩:=hsv;rw[zS,hSl] at hA';(obtain⟨rfl,rfl⟩:Ap=A'∧cp=c':=by injection hA' with e1 e2 e3;exact⟨e1,e3⟩);clear hA';(have hkM:k<(S.1.map NP.path).length:=by rw[zS,hSl];exact hlt2);obtain⟨b,off,rfl,hbb,hcs⟩:=hso (by omega);have c0:=hcs k hkM 0 (by omega);(have hpe:(S.1.map NP.path)[k]=S.1[k].path:=by simp);rw[hpe] at c0;simp only[sE,qC,Nat.add_zero,Nat.mul_one] at c0;clear hcs hso;have hct:=clash_take S.1 k hkS;have hlk:=lkC_mem HS.out.2.2.2.2.2.2.1 (zP hkS);have hqz:=HS.out.2.2.2.2.2.2.2.2.2 _ (List.mem_map.2 ⟨_,zP hkS,rfl⟩);obtain⟨nd,hnd⟩:∃n,S.1[k]=n:=⟨_,rfl⟩;simp only[hnd] at c0 hct hlk hqz;rw[hK] at hct;obtain⟨q,hq⟩:∃q,nd.path=q:=⟨_,rfl⟩;obtain⟨cl,hcl⟩:∃c,nd.cls=c:=⟨_,rfl⟩;(have hcp:clsP nd=if cl=0 then none else some (q,cl):=by unfold clsP;rw[hq,hcl]);rw[hcp] at hct;rw[hq] at c0 hlk hqz;rw[hcl] at hlk;(have hk1:(k:Int)<i:=by omega);have hMC:=(hR:RgIn _ _ _ _ _ _ _ _ _ _ _ _ _ _ _ _ _).mC;have x6:=(hR:RgIn _ _ _ _ _ _ _ _ _ _ _ _ _ _ _ _ _).box.cell 6;simp only[qA,qB,qC] at x6;have HMC:=zH (zA hMC (show okT q from by unfold okT maxLen;omega));have HH:=zH (zA hb (zA hBg (zA hoa (zA hoh hoc))));clear hR hrp hb hBg hoa hoh hoc hMC hcp hq hcl hnd hpe hkM hkS hqz;by_cases h0:cl=0
        ·subst h0;rw[if_pos rfl] at hlk hct;have HQ:=zH hlk;have HC:=zH (zA hct (zA hK hkc));clear hlk hct hK hkc;(go_wp2_with (at_lookup;refine wpList_lookV_ok rfl _ _ 72 rfl 3 (keyStr Tryz.underlying9) Tryz.underlying72 (mapI0 _) gc _ _ rfl HMC.out.1 q rfl HMC.out.2 ?_;rw[HQ.out]));go_roundw
         case rel=>
          refine⟨k+1,_,by omega,by go_num,HH.out.1,HH.out.2.1,HH.out.2.2.1,HH.out.2.2.2.1,?_⟩;rw[HC.out.1];simp only[Option.toList,List.append_nil,HC.out.2.2];exact HH.out.2.2.2.2
         case measure=>simp [intOf];omega
        ·rw[if_neg h0] at hlk hct;have HQ:=zH hlk;have HC:=zH (zA hct (zA hK hkc));have HZ:=zH h0;clear hlk hct hK hkc h0;(go_wp2_with (first | (at_lookup;refine wpList_lookV_ok rfl _ _ 72 rfl 3 (keyStr Tryz.underlying9) Tryz.underlying72 (mapI0 _) gc _ _ rfl HMC.out.1 q rfl HMC.out.2 ?_;rw[HQ.out];have z4:=HH.out.2.1.cell 4;simp only[qA,qB,qC] at z4) | (at_builtin;go_loud (refine wpList_app rfl _ _ 33 rfl w8.heap.size 66 _ _ _ Tryz.underlying33 infoCl rfl (by decide) _ kc (K.flatMap eCl) rfl (own_kept HH.out.2.2.2.2 ((zR _ _).alloc (zN _) _)) wr.heap.size 1 #[.string q,.int .i64 cl] 66 rfl (Blk.new wr _ _) rfl (by simp [Value.oneCell']) (by omega) (by decide) (zT HH.out.1.size (by simp)) _ rfl ?_;intro g2 cap w7 ho7 hg7 hat7 hlt7;have hnb:∀g' cs,Blk wr g' 36 cs→Blk w7 g' 36 cs:=(fun g' cs hB=>(hB.alloc _).grown hg7 (fun e=>by obtain⟨cur,hc⟩:=own_blkB HH.out.2.2.2.2 e.symm;exact Blk.other hc hB (by decide) rfl));have HO7:=zH (zA ho7 (zA hg7 hat7));have hb7:=hnb _ _ HH.out.2.1;have HB7:=zH hb7;have c7:=hb7.cell 4;have f7:=hb7.frozen 4;simp only[qA,qB,qC] at c7;clear hnb hb7 ho7 hg7 hat7 z4))));go_roundw
         case rel=>
          have hal:Below wr.heap.size wr (wr.alloc (.cells #[.string q,.int .i64 cl] 66)):=(zR _ _).alloc (zN _) _;have hbw7:Below w8.heap.size w8 w7:=(HH.out.1.trans (hal.mono HH.out.1.size)).grown HO7.out.2.1 (zT HH.out.1.size hal.size) (fun k hk=>(HH.out.2.2.2.2.lt k hk).1);have hmk:∀(v:Value) (n:Nat) (L:List Value),wr.ownsRow bs 63 6 v n L→(w7.setCell ⟨g,4,none⟩ (.slice (some ⟨g2,0,none⟩) (kc+1) cap)).ownsRow bs 63 6 v n L:=fun v n L ho=>own_sameB ho (fun g' hg'=>by
           obtain⟨cur,hc⟩:=own_blkB ho hg';(have hne:g'≠g:=fun e=>Blk.other hc HH.out.2.1 (by decide) (by rw[e]));have hlt:=(ho.lt g' hg').2;exact((zJ w7 ⟨g,4,none⟩ _ g' hne).trans (HO7.out.2.1.block g' (zQ hlt hal.size) (fun e=>by obtain⟨cur2,hc2⟩:=own_blkB HH.out.2.2.2.2 e.symm;exact Blk.other hc2 hc (by decide) rfl))).trans (hal.block g' hlt))
          refine⟨k+1,.slice (some ⟨g2,0,none⟩) (kc+1) cap,by omega,by go_num,hbw7.setCell (p:=⟨g,4,none⟩) H9.out.1 _,?_,hmk _ _ _ HH.out.2.2.1,hmk _ _ _ HH.out.2.2.2.1,?_⟩
          ·have:=HB7.out.put 4 (.slice (some ⟨g2,0,none⟩) (kc+1) cap)
           simpa using this
          ·rw[HC.out.1];simp only[Option.toList,zF,List.length_singleton,HC.out.2.2,List.flatMap_append];exact own_sameB HO7.out.1 (fun g' hg'=>zJ w7 ⟨g,4,none⟩ _ g' (fun e=>by
            obtain⟨cur,hc⟩:=own_blkB HO7.out.1 hg';exact Blk.other hc HB7.out (by decide) (by rw[e])))
         case measure=>simp [intOf];omega
       ·(obtain rfl:i=k:=by omega);rw[zO (by omega)] at hK;have hr0:=H8.out.2.2.trans (hb.mono H8.out.2.2.size);have hbr:=HS.out.2.2.2.2.1.below hr0 HS.out.2.2.2.2.1.lt;have hrg:=(RgIn.below HS.out.1 hr0).rg;have hw0:Below w.heap.size w wr:=HS.out.2.1.trans (hr0.mono HS.out.2.1.size);have x0:=hBg.cell 0;have z0:=hbr.cell 0;have fz0:=hbr.frozen 0;have x1:=hBg.cell 1;have z1:=hbr.cell 1;have fz1:=hbr.frozen 1;have x2:=hBg.cell 2;have z2:=hbr.cell 2;have fz2:=hbr.frozen 2;have x3:=hBg.cell 3;have z3:=hbr.cell 3;have fz3:=hbr.frozen 3;have x4:=hBg.cell 4;have z4:=hbr.cell 4;have fz4:=hbr.frozen 4;have x5:=hBg.cell 5;have z5:=hbr.cell 5;have fz5:=hbr.frozen 5;simp only[qA,qB,qC] at x0 x1 x2 x3 x4 x5 z0 z1 z2 z3 z4 z5;have HE:=zH (zA hw0 (zA hb (zA hBg (zA hoa (zA hoh (zA hoc (zA hK (zA hkc (zA hbr hrg)))))))));clear hw0 hb hBg hoa hoh hoc hK hkc hbr hrg hr0;(go_wp2_with fail);obtain⟨VF,hVF⟩:∃VF,((((((wr.setCell ⟨w.heap.size+1,0,none⟩ (.pointer (some ⟨tl,0,none⟩))).setCell ⟨w.heap.size+1,1,none⟩ (.pointer (some ⟨tr,0,none⟩))).setCell ⟨w.heap.size+1,2,none⟩ (.slice Aa na ca)).setCell ⟨w.heap.size+1,3,none⟩ (.slice Ah nh ch)).setCell ⟨w.heap.size+1,4,none⟩ (.slice Ac kc cc)).setCell ⟨w.heap.size+1,5,none⟩ (.slice Ag ng cg))=VF:=⟨_,rfl⟩;have hbr:=HE.out.2.2.2.2.2.2.2.2.1;have p5:Blk ((((((wr.setCell ⟨w.heap.size+1,0,none⟩ (.pointer (some ⟨tl,0,none⟩))).setCell ⟨w.heap.size+1,1,none⟩ (.pointer (some ⟨tr,0,none⟩))).setCell ⟨w.heap.size+1,2,none⟩ (.slice Aa na ca)).setCell ⟨w.heap.size+1,3,none⟩ (.slice Ah nh ch)).setCell ⟨w.heap.size+1,4,none⟩ (.slice Ac kc cc)).setCell ⟨w.heap.size+1,5,none⟩ (.slice Ag ng cg)) (w.heap.size+1) 36 #[.pointer (some ⟨tl,0,none⟩),.pointer (some ⟨tr,0,none⟩),.slice Aa na ca,.slice Ah nh ch,.slice Ac kc cc,.slice Ag ng cg]:=Blk.put6 (hbr);(have hBF:Blk VF (w.heap.size+1) 36 #[.pointer (some ⟨tl,0,none⟩),.pointer (some ⟨tr,0,none⟩),.slice Aa na ca,.slice Ah nh ch,.slice Ac kc cc,.slice Ag ng cg]:=by rw[←hVF];exact p5);clear p5;(have hbF:Below w.heap.size w VF:=by rw[←hVF];exact Below.set6 (HE.out.1) (Nat.le_succ _));(have hset:∀g',g'≠w.heap.size+1→VF.heap[g']? =wr.heap[g']? :=fun g' hne=>by rw[←hVF];exact((zJ _ ⟨w.heap.size+1,5,none⟩ _ g' hne).trans ((zJ _ ⟨w.heap.size+1,4,none⟩ _ g' hne).trans ((zJ _ ⟨w.heap.size+1,3,none⟩ _ g' hne).trans ((zJ _ ⟨w.heap.size+1,2,none⟩ _ g' hne).trans ((zJ _ ⟨w.heap.size+1,1,none⟩ _ g' hne).trans (zJ _ ⟨w.heap.size+1,0,none⟩ _ g' hne)))))));rw[hVF];clear hVF z0 fz0 z1 fz1 z2 fz2 z3 fz3 z4 fz4 z5 fz5 x0 x1 x2 x3 x4 x5;have hown:∀(t:TypeId) (s bs n:Nat) (u:Value) (L:List Value),t≠36→wr.ownsRow bs t s u n L→VF.ownsRow bs t s u n L:=fun t s bs n u L ht ho=>own_sameB ho (fun g' hg'=>hset g' (fun e=>by
         obtain⟨cur,hc⟩:=own_blkB ho hg';exact Blk.other hc hbr ht (by rw[e])))
        have hRes:ResIs VF (endN policy (l1++l2) xs ys) (l1++l2) (.agg #[.pointer (some ⟨tl,0,none⟩),.pointer (some ⟨tr,0,none⟩),.slice Aa na ca,.slice Ah nh ch,.slice Ac kc cc,.slice Ag ng cg]):=by
         rw[HS.out.2.2.2.2.2.1];refine⟨⟨tl,ml,tr,mr,_,_,_,_,bs,w8.heap.size,B0,rfl,?_,?_,?_,?_,?_,?_⟩⟩
         ·exact(H8.out.1.below HE.out.2.1).sameR hbr (by decide) (by decide) (by decide) hset
         ·exact(H8.out.2.1.below HE.out.2.1).sameR hbr (by decide) (by decide) (by decide) hset
         ·rw[HMS.out.1.1];unfold OwnMk;rw[HMS.out.2.1];exact hown _ _ _ _ _ _ (by decide) HE.out.2.2.2.1
         ·rw[HMS.out.1.2];unfold OwnMk;rw[HMS.out.2.2];exact hown _ _ _ _ _ _ (by decide) HE.out.2.2.2.2.1
         ·rw[HE.out.2.2.2.2.2.2.1,HE.out.2.2.2.2.2.2.2.1];exact hown _ _ _ _ _ _ (by decide) HE.out.2.2.2.2.2.1
         ·exact hown _ _ _ _ _ _ (by decide) HE.out.2.2.2.2.2.2.2.2.2
        refine bodyPost_ret (res_blk_tmp rfl _ _ (w.heap.size+1) 36 #[.pointer (some ⟨tl,0,none⟩),.pointer (some ⟨tr,0,none⟩),.slice Aa na ca,.slice Ah nh ch,.slice Ac kc cc,.slice Ag ng cg] _ rfl hBF Tryz.underlying36 rfl (by kernel_rfl)) rfl ⟨⟨_,rfl,hRes⟩,hbF⟩
  ·have hi1:(i:Int)<2:=by omega
   obtain⟨V,hV⟩:∃X,wr.alloc (.map #[] 0)=X:=⟨_,rfl⟩;(have hbV:Below wr.heap.size wr V:=by rw[←hV];exact(zR _ wr).alloc (zN _) _);have hmV:=MapV.made (α:=ByteArray) wr Tryz.prog 9 litT okT;rw[hV,hsz] at hmV;(have hsV:V.heap.size=gc+1+1+i+1:=by rw[←hV];simp [hsz]);have hBV:=hBx.below hbV hBx.lt;have hmcV:=hmx.below hbV hmx.lt;have c4:=hBV.cell (4+i);have f4:=hBV.frozen (4+i);have HR:=zH (zA hbr (zA hbV (zA hmV (zA hsV (zA hBV (zA hmcV (zA hA (zA hB hsz))))))));clear hbr hbV hmV hsV hBV hmcV hA hB hBx hmx;(have hput:∀(k:Nat) (u:Value) (g':Nat) (N:Nat) (f:ByteArray→Option Value),MapV V Tryz.prog 9 litT okT g' N f→MapV (V.setCell ⟨gc+1,k,none⟩ u) Tryz.prog 9 litT okT g' N f:=fun k u g' N f hm=>hm.same (zJ V ⟨gc+1,k,none⟩ u g' (fun e=>(by have e':g'=gc+1:=e;subst e';exact map_noblk hm HR.out.2.2.2.2.1))));have HPT:=zH hput;clear hput;by_cases hi0:i=0
   ·subst hi0;simp only[qA,qB,qC,Nat.add_zero] at c4 f4;(go_wp2_with fail);clear hV hsz;go_roundw
    case rel=>
     refine⟨1,.map (some (gc+1+1)),v5,by omega,by go_num,(HR.out.1.trans (HR.out.2.1.mono HR.out.1.size)).setCell (p:=⟨gc+1,4,none⟩) (by show w2.heap.size≤gc+1;have:=H3.out.2.2.2.2;omega) _,by have:=HR.out.2.2.2.1;simpa [World.setCell] using this,?_,HPT.out _ _ _ _ _ HR.out.2.2.2.2.2.1,fun _=>⟨rfl,HPT.out _ _ _ _ _ HR.out.2.2.1⟩,fun h=>(by omega)⟩;have:=HR.out.2.2.2.2.1.put 4 (.map (some (gc+1+1)))
     simpa using this
    case measure=>simp [intOf]
   ·(obtain rfl:i=1:=by omega);simp only[qA,qB,qC,Nat.reduceAdd] at c4 f4;(go_wp2_with fail);clear hV hsz;go_roundw
    case rel=>
     obtain⟨e4,hm4⟩:=HR.out.2.2.2.2.2.2.1 (by omega);refine⟨2,v4,.map (some (gc+1+1+1)),by omega,by go_num,(HR.out.1.trans (HR.out.2.1.mono HR.out.1.size)).setCell (p:=⟨gc+1,5,none⟩) (by show w2.heap.size≤gc+1;have:=H3.out.2.2.2.2;omega) _,by have:=HR.out.2.2.2.1;simpa [World.setCell] using this,?_,HPT.out _ _ _ _ _ HR.out.2.2.2.2.2.1,fun _=>⟨e4,HPT.out _ _ _ _ _ (hm4.below HR.out.2.1 hm4.lt)⟩,fun _=>⟨rfl,HPT.out _ _ _ _ _ HR.out.2.2.1⟩⟩;have:=HR.out.2.2.2.2.1.put 5 (.map (some (gc+1+1+1)))
     simpa using this
    case measure=>simp [intOf]
theorem eq_ref26Same (a:ByteArray)(k m t z s:Int)(W:World):(binOp .eql 63 (.agg #[.string a,.int .i64 k,.int .i64 m,.int .u32 t,.int .i64 z,.int .u32 s]) (.agg #[.string a,.int .i64 k,.int .i64 m,.int .u32 t,.int .i64 z,.int .u32 s])).run Tryz.prog W= .ok (.bool true) W:=by
 simp [go_sem,Tryz.underlying63,Tryz.underlying61,Tryz.underlying3,Tryz.underlying51,Tryz.underlying9]
theorem ref26Same_same (w:World)(u v:Value)(l:List MkE)(hu:SlV w 6 eCM u l)(hv:SlV w 6 eCM v l):
  Calls Tryz.prog 42 #[u,v] w fun e w'=>e= .returned (.bool true)∧Below w.heap.size w w':=by
 obtain⟨A1,c1,rfl,hc11,hc12,hsl1⟩:=hu;obtain⟨A2,c2,rfl,hc21,hc22,hsl2⟩:=hv;obtain⟨n,hn⟩:∃n,l.length=n:=⟨_,rfl⟩;rw[hn] at hc11 hc21⊢;unfold maxLen at hc12 hc22;have HL:=zH hn;clear hn;have H1:=zH hsl1;clear hsl1;have H2:=zH hsl2;clear hsl2;have HEQ:=eq_ref26Same;go_enter Tryz.func42,Tryz.ntmps42
 go_wp2_with fail
 go_loopw [13] (fun iv wr=>∃i:Nat,i≤n∧iv= .int .i64 i∧Below w.heap.size w wr) (fun iv _=>n-(intOf iv).toNat)
 case atStart=>exact⟨0,Nat.zero_le _,rfl,zR _ _⟩
 case round=>
  obtain⟨i,hi,rfl,hb⟩:=hrel;by_cases hlt:i<n
  ·have hiL:i<l.length:=by have:=HL.out;omega
   obtain⟨b1,off1,rfl,hbb1,hcs1⟩:=(H1.out.below hb (zN _)) (by omega);obtain⟨b2,off2,rfl,hbb2,hcs2⟩:=(H2.out.below hb (zN _)) (by omega);have p0:=hcs1 i hiL 0 (by omega);have q0:=hcs2 i hiL 0 (by omega);have p1:=hcs1 i hiL 1 (by omega);have q1:=hcs2 i hiL 1 (by omega);have p2:=hcs1 i hiL 2 (by omega);have q2:=hcs2 i hiL 2 (by omega);have p3:=hcs1 i hiL 3 (by omega);have q3:=hcs2 i hiL 3 (by omega);have p4:=hcs1 i hiL 4 (by omega);have q4:=hcs2 i hiL 4 (by omega);have p5:=hcs1 i hiL 5 (by omega);have q5:=hcs2 i hiL 5 (by omega);simp only[eCM,qB,qC,Nat.add_zero] at p0 p1 p2 p3 p4 p5 q0 q1 q2 q3 q4 q5;clear hcs1 hcs2;(have hi1:(i:Int)<n:=by omega);obtain⟨x,hx⟩:∃x,l[i]=x:=⟨_,rfl⟩;simp only[hx] at p0 p1 p2 p3 p4 p5 q0 q1 q2 q3 q4 q5;obtain⟨a,k,m,t,z,s⟩:=x;simp only at p0 p1 p2 p3 p4 p5 q0 q1 q2 q3 q4 q5;clear hx;have HB:=zH hb;clear hb;(go_wp2_with fail);(go_region);(go_wp2_with fail);go_roundw
   case rel=>exact⟨i+1,by omega,by go_num,HB.out.drew⟩
   case measure=>simp [intOf];omega
  ·obtain rfl:i=n:=by omega
   have HB:=zH hb;clear hb;(go_wp2_with fail);go_ret;exact⟨rfl,HB.out⟩
theorem eq_ref31SameCl (a:ByteArray)(k:Int)(W:World):(binOp .eql 66 (.agg #[.string a,.int .i64 k]) (.agg #[.string a,.int .i64 k])).run Tryz.prog W= .ok (.bool true) W:=by
 simp [go_sem,Tryz.underlying66,Tryz.underlying3,Tryz.underlying9]
theorem ref31SameCl_same (w:World)(u v:Value)(l:List (ByteArray×Int))(hu:SlV w 2 eCl u l)(hv:SlV w 2 eCl v l):
  Calls Tryz.prog 13 #[u,v] w fun e w'=>e= .returned (.bool true)∧Below w.heap.size w w':=by
 obtain⟨A1,c1,rfl,hc11,hc12,hsl1⟩:=hu;obtain⟨A2,c2,rfl,hc21,hc22,hsl2⟩:=hv;obtain⟨n,hn⟩:∃n,l.length=n:=⟨_,rfl⟩;rw[hn] at hc11 hc21⊢;unfold maxLen at hc12 hc22;have HL:=zH hn;clear hn;have H1:=zH hsl1;clear hsl1;have H2:=zH hsl2;clear hsl2;have HEQ:=eq_ref31SameCl;go_enter Tryz.func13,Tryz.ntmps13
 go_wp2_with fail
 go_loopw [13] (fun iv wr=>∃i:Nat,i≤n∧iv= .int .i64 i∧Below w.heap.size w wr) (fun iv _=>n-(intOf iv).toNat)
 case atStart=>exact⟨0,Nat.zero_le _,rfl,zR _ _⟩
 case round=>
  obtain⟨i,hi,rfl,hb⟩:=hrel;by_cases hlt:i<n
  ·have hiL:i<l.length:=by have:=HL.out;omega
   obtain⟨b1,off1,rfl,hbb1,hcs1⟩:=(H1.out.below hb (zN _)) (by omega);obtain⟨b2,off2,rfl,hbb2,hcs2⟩:=(H2.out.below hb (zN _)) (by omega);have p0:=hcs1 i hiL 0 (by omega);have q0:=hcs2 i hiL 0 (by omega);have p1:=hcs1 i hiL 1 (by omega);have q1:=hcs2 i hiL 1 (by omega);simp only[eCl,qB,qC,Nat.add_zero] at p0 p1 q0 q1;clear hcs1 hcs2;(have hi1:(i:Int)<n:=by omega);obtain⟨x,hx⟩:∃x,l[i]=x:=⟨_,rfl⟩;simp only[hx] at p0 p1 q0 q1;obtain⟨a,k⟩:=x;simp only at p0 p1 q0 q1;clear hx;have HB:=zH hb;clear hb;(go_wp2_with fail);(go_region);(go_wp2_with fail);go_roundw
   case rel=>exact⟨i+1,by omega,by go_num,HB.out.drew⟩
   case measure=>simp [intOf];omega
  ·obtain rfl:i=n:=by omega
   have HB:=zH hb;clear hb;(go_wp2_with fail);go_ret;exact⟨rfl,HB.out⟩
theorem ref26SameBase_same (w:World)(u1 u2 v1 v2:Value)(l1 l2:List MkE)(h1:SlV w 6 eCM u1 l1)(h2:SlV w 6 eCM u2 l2)(g1:SlV w 6 eCM v1 l1)(g2:SlV w 6 eCM v2 l2):
  Calls Tryz.prog 12 #[.agg #[u1,u2],.agg #[v1,v2]] w fun e w'=>e= .returned (.bool true)∧Below w.heap.size w w':=by
 obtain⟨W,hW⟩:∃W,(w.alloc (.cells #[u1,u2] 24)).alloc (.cells #[v1,v2] 24)=W:=⟨_,rfl⟩;have hbW:Below w.heap.size w W:=by rw[←hW];exact((zR _ w).alloc (zN _) _).alloc (by simp) _
 have hB1:Blk W w.heap.size 24 #[u1,u2]:=by rw[←hW];exact blk_fst _ _ _ _
 have hB2:Blk W (w.heap.size+1) 24 #[v1,v2]:=by rw[←hW];exact blk_snd _ _ _ _
 have HS1:=zH (ref26Same_same W u1 v1 l1 (h1.below hbW (zN _)) (g1.below hbW (zN _)));have HS2:=zH (fun V (hV:Below w.heap.size w V)=>ref26Same_same V u2 v2 l2 (h2.below hV (zN _)) (g2.below hV (zN _)));have x0:=hB1.cell 0;have y0:=hB2.cell 0;simp only[qA,qB,qC] at x0 y0;have HB:=zH (zA hbW (zA hB1 hB2));clear h1 h2 g1 g2 hbW hB1 hB2;have HW:=zH hW;clear hW;go_enter Tryz.func12,Tryz.ntmps12
 go_upto_region 1 with fail
 rw[HW.out];go_wp2_with fail
 refine HS1.out.mono ?_;rintro e w1 ⟨rfl,hb1⟩;have x1:=(HB.out.2.1.below hb1 HB.out.2.1.lt).cell 1;have y1:=(HB.out.2.2.below hb1 HB.out.2.2.lt).cell 1;simp only[qA,qB,qC] at x1 y1;have H1:=zH (HB.out.1.trans (hb1.mono HB.out.1.size));clear hb1 x0 y0;go_wp2_with fail
 refine(HS2.out w1 H1.out).mono ?_;rintro e w2 ⟨rfl,hb2⟩;have H2:=zH (H1.out.trans (hb2.mono H1.out.size));clear hb2;go_wp2_with fail
 go_ret;exact⟨rfl,H2.out⟩
theorem own_emptyB (w:World)(base:Nat)(e:TypeId)(size:Nat)(hb:base≤w.heap.size):(w.alloc (.cells #[] e)).ownsRow base e size (.slice (some ⟨w.heap.size,0,none⟩) 0 0) 0 []:=
 own_mk hb (Blk.new w e #[]) (zN _) (by simp [maxLen]) (by simp) (by simp)
def LightAns (l1 l2:List MkE) (e:Ending):Prop:=∃R:Bool,e= .returned (.bool R)∧(R=true→l1.length≤30∧l2.length≤30∧∀m∈l1++l2,m.1.size≤150)
theorem LightAns.no {l1 l2:List MkE}:LightAns l1 l2 (.returned (.bool false)):=⟨false,rfl,fun h=>(by cases h)⟩
theorem LightAns.yes {l1 l2:List MkE}(h:l1.length≤30∧l2.length≤30∧∀m∈l1++l2,m.1.size≤150):LightAns l1 l2 (.returned (.bool true)):=⟨true,rfl,fun _=>h⟩
theorem light26_any (w:World)(u1 u2:Value)(l1 l2:List MkE)(h1:SlV w 6 eCM u1 l1)(h2:SlV w 6 eCM u2 l2):
  Calls Tryz.prog 43 #[.agg #[u1,u2]] w fun e w'=>LightAns l1 l2 e∧Below w.heap.size w w':=by
 obtain⟨W,hW⟩:∃W,w.alloc (.cells #[u1,u2] 24)=W:=⟨_,rfl⟩;have hb0:Below w.heap.size w W:=by rw[←hW];exact(zR _ w).alloc (zN _) _
 have hB0:Blk W w.heap.size 24 #[u1,u2]:=by rw[←hW];exact Blk.new w _ _
 have HS:=zH (zA (h1.below hb0 (zN _)) (h2.below hb0 (zN _)));obtain⟨A1,c1,rfl,hc1,hm1,_⟩:=h1;obtain⟨A2,c2,rfl,hc2,hm2,_⟩:=h2;obtain⟨n2,hn2⟩:∃n,l2.length=n:=⟨_,rfl⟩;obtain⟨n1,hn1⟩:∃n,l1.length=n:=⟨_,rfl⟩;rw[hn2] at hB0 hW hc2⊢;rw[hn1] at hB0 hW hc1⊢;unfold maxLen at hm1 hm2;have HL:=zH (zA hn1 hn2);rw[hn1,hn2] at HS;clear hn1 hn2;have x0:=hB0.cell 0;have x1:=hB0.cell 1;simp at x0 x1
 obtain⟨g,hg⟩:∃g,w.heap.size=g:=⟨_,rfl⟩;rw[hg] at hB0 x0 x1;have HW:=zH (zA hW (zA hb0 (zA hB0 hg)));clear hW hb0 hB0;by_cases hk1:30<n1
 ·go_enter Tryz.func43,Tryz.ntmps43
  go_upto_region 1 with fail
  rw[HW.out.1];clear hg;have hk1':(30:Int)<n1:=by omega
  go_wp2_with fail
  go_ret;exact⟨.no,HW.out.2.1⟩
 by_cases hk2:30<n2
 ·go_enter Tryz.func43,Tryz.ntmps43
  go_upto_region 1 with fail
  rw[HW.out.1];clear hg;obtain⟨hk1',hk2'⟩:¬(30:Int)<n1∧(30:Int)<n2:=by omega
  go_wp2_with fail
  go_ret;exact⟨.no,HW.out.2.1⟩
 obtain⟨hk1',hk2'⟩:¬(30:Int)<n1∧¬(30:Int)<n2:=by omega
 go_enter Tryz.func43,Tryz.ntmps43
 go_upto_region 1 with fail
 rw[HW.out.1];clear hg;go_upto_region 3 with fail
 have k0:∀m:Held (fun W=>Blk W g 24 #[.slice A1 n1 c1,.slice A2 n2 c2]),(HeldW m).cell? ⟨g,0,none⟩=some (.slice A1 n1 c1):=fun m=>(HeldW_spec m).cell 0
 have k1:∀m:Held (fun W=>Blk W g 24 #[.slice A1 n1 c1,.slice A2 n2 c2]),(HeldW m).cell? ⟨g,1,none⟩=some (.slice A2 n2 c2):=fun m=>(HeldW_spec m).cell 1
 have HC0:=zH HW.out.2.2.1.drew;clear x0 x1;refine wp_region_mix (fun W=>Blk W g 24 #[.slice A1 n1 c1,.slice A2 n2 c2]) [(1,true),(2,true),(4,true),(5,true),(8,true),(0,false),(3,false),(6,false),(7,true)] (by kernel_rfl) (by kernel_rfl) ?_;simp only[pickP,List.filterMap_cons,List.filterMap_nil,qA,qB,qC,Option.map_some];repeat (apply mix_first;apply Exists.intro;refine⟨fun m=>?_,HC0.out,?_⟩;·(go_big_quiet_step (fail);exact wpQuiet_nil rfl))
 refine mix_forced HC0.out ?_;go_wp2_with fail
 show mixC ..
 have hs0:=HW.out.2.1.size;rw[HW.out.2.2.2] at hs0;have hbE:Below W.heap.size W (W.alloc (.cells #[] 63)).drew:=((zR _ W).alloc (zN _) _).drew;have hoE:(W.alloc (.cells #[] 63)).drew.ownsRow W.heap.size 63 6 (.slice (some ⟨W.heap.size,0,none⟩) 0 0) 0 []:=own_emptyB W W.heap.size _ 6 (zN _);have HE:=zH (zA hbE (zA hoE (zA (HW.out.2.2.1.below hbE HW.out.2.2.1.lt) (zA (HS.out.1.below hbE (zN _)) (HS.out.2.below hbE (zN _))))));clear hbE hoE HC0;generalize (W.alloc (.cells #[] 63)).drew=W1 at*;refine mix_forced HE.out.2.2.1 ?_;go_wp2_with (at_builtin;refine wpList_app_slv rfl _ _ 22 rfl W.heap.size 63 _ _ _ Tryz.underlying22 infoMk rfl (by decide) _ 0 _ rfl HE.out.2.1 eCM eCM_len eCM_one _ l1 rfl HE.out.2.2.2.1 (by have:=HL.out.1;omega) (by decide) HE.out.1.size ?_;intro v5 w5 ho5 hg5)
 show mixC ..
 obtain⟨A5,k5,rfl,_,_,_⟩:=SlV_of_any ho5;have hb5:=HE.out.1.grown hg5 HE.out.1.size (fun q hq=>(HE.out.2.1.lt q hq).1);have H5:=zH (zA hb5 (zA ho5 (zA (HW.out.2.2.1.below hb5 HW.out.2.2.1.lt) (HS.out.2.below hb5 (zN _)))));clear ho5 hg5 hb5 HE;refine mix_forced H5.out.2.2.1 ?_;go_wp2_with (at_builtin;refine wpList_app_slv rfl _ _ 22 rfl W.heap.size 63 _ _ _ Tryz.underlying22 infoMk rfl (by decide) _ (0+l1.length) _ rfl H5.out.2.1 eCM eCM_len eCM_one _ l2 rfl H5.out.2.2.2 (by have:=HL.out;omega) (by decide) H5.out.1.size ?_;intro v6 w6 ho6 hg6)
 show mixC ..
 have hb6:=H5.out.1.grown hg6 H5.out.1.size (fun q hq=>(H5.out.2.1.lt q hq).1);have ho6':w6.ownsRow W.heap.size 63 6 v6 (l1++l2).length ((l1++l2).flatMap eCM):=by
  rw[zF,List.flatMap_append];rw[List.nil_append,Nat.zero_add] at ho6;exact ho6
 have hsl6:SlV w6 6 eCM v6 (l1++l2):=SlV.of_own ho6' eCM_len (by decide);have hll:(l1++l2).length=n1+n2:=by rw[zF,HL.out.1,HL.out.2]
 have HYES:=zH (fun(h:∀m∈l1++l2,m.1.size≤150)=>(LightAns.yes ⟨by have:=HL.out.1;omega,by have:=HL.out.2;omega,h⟩:LightAns l1 l2 (.returned (.bool true))));rw[hll] at ho6';obtain⟨A6,k6,rfl,_,_,_⟩:=SlV_of_any ho6';have H6:=zH (zA hb6 (zA (HW.out.2.2.1.below hb6 HW.out.2.2.1.lt) hsl6));clear ho6 hg6 hb6 H5 ho6' hsl6;generalize l1++l2=L at*;obtain⟨n,hnn⟩:∃n,n1+n2=n:=⟨_,rfl⟩;rw[hnn] at hll;have hn60:n≤60:=by omega
 have HN:=zH hll;rw[hnn] at H6⊢;clear hll hnn;repeat (apply mix_first;apply Exists.intro;refine⟨fun m=>?_,H6.out.2.1,?_⟩;·(go_big_quiet_step (fail);exact wpQuiet_nil rfl))
 refine mix_nil H6.out.2.1 ?_;clear k0 k1;go_wp2_with fail
 go_loopw [23] (fun iv wr=>∃i:Nat,i≤n∧iv= .int .i64 i∧Below w.heap.size w wr∧Below w6.heap.size w6 wr∧∀j (hj:j<L.length),j<i→L[j].1.size≤150) (fun iv _=>n-(intOf iv).toNat)
 case atStart=>exact⟨0,Nat.zero_le _,rfl,HW.out.2.1.trans (H6.out.1.mono HW.out.2.1.size),zR _ _,fun j _ h=>absurd h (Nat.not_lt_zero _)⟩
 case round=>
  obtain⟨i,hi,rfl,hb,hb6,hall⟩:=hrel;have HA:=zH hall;clear hall;have hslr:=H6.out.2.2.below hb6 (zN _);by_cases hlt:i<n
  ·have hiL:i<L.length:=by have:=HN.out;omega
   obtain⟨A',c',hA,_,_,hso⟩:=hslr;(obtain⟨rfl,-,rfl⟩:A6=A'∧n=L.length∧k6=c':=by simpa using hA);clear hA;obtain⟨b,off,rfl,hbb,hcs⟩:=hso (by omega);obtain⟨c0,c1,c2⟩:=zs3 (hcs i hiL);have c3':=hcs i hiL 3 (by omega);have c4:=hcs i hiL 4 (by omega);have c5:=hcs i hiL 5 (by omega);simp only[eCM,qB,qC,Nat.add_zero] at c0 c1 c2 c3' c4 c5;clear hcs hso hbb;(have hi1:(i:Int)<n:=by omega);have HS1:=zH (fun(hx:L[i].1.size≤150) j (hj:j<L.length) (hji:j<i+1)=>(by
    by_cases h:j<i
    ·exact HA.out j hj h
    ·(obtain rfl:j=i:=by omega);exact hx:L[j].1.size≤150))
   obtain⟨⟨q,⟨kd,md,tm,sz,sm⟩⟩,hx⟩:∃x,L[i]=x:=⟨_,rfl⟩;simp only[hx] at c0 c1 c2 c3' c4 c5 HS1;clear hx;have hba:=(zR wr.heap.size wr).alloc (zN _) (.cells #[.string q,.int .i64 kd,.int .i64 md,.int .u32 tm,.int .i64 sz,.int .u32 sm] 63);have H1:=zH (zA (hb.trans (hba.mono hb.size)) (hb6.trans (hba.mono hb6.size)));clear hb hb6 hba;by_cases hq:(150:Int)<q.size
   ·(go_wp2_with fail);go_ret;exact⟨.no,H1.out.1⟩
   ·have HQ:=zH (HS1.out (by omega));clear HS1;(go_wp2_with fail);go_roundw
    case rel=>exact⟨i+1,by omega,by go_num,H1.out.1,H1.out.2,HQ.out⟩
    case measure=>simp [intOf];omega
  ·obtain rfl:i=n:=by omega
   have HB:=zH hb;clear hb hb6 hslr;(go_wp2_with fail);go_ret;exact⟨HYES.out (fun m hm=>by
    obtain⟨j,hj,rfl⟩:=List.getElem_of_mem hm;exact HA.out j hj (by have:=HN.out;omega)),HB.out⟩
end Go.Proofs.YtnpehjgnplaabaaGreatDoor
namespace Sw
open Go
theorem ordS_lt {p q:ByteArray}:ordS p q<0↔ordS p q= -1:=by
 rcases ordS_three p q with h | h | h<;>omega
theorem ins_rise {ps:List ByteArray}{p:ByteArray}{j:Nat}(h:Rise ps)(hj:j≤ps.length)(h1:∀i (hi:i<ps.length),i<j→ordS ps[i] p= -1)(h2:∀(h:j<ps.length),¬ordS ps[j] p= -1∧¬ps[j]=p):Rise (ps.take j++p::ps.drop j):=by
 unfold Rise at*;have hcut:=h;rw[←List.take_append_drop j ps,List.pairwise_append] at hcut;have hlo:∀a∈ps.take j,ordS a p<0:=fun a ha=>by
  obtain⟨i,hi,rfl⟩:=List.getElem_of_mem ha;rw[zL] at hi;rw[List.getElem_take,ordS_lt];exact h1 i (by omega) (by omega)
 have hhi:∀b∈ps.drop j,ordS p b<0:=fun b hb=>by
  obtain⟨i,hi,rfl⟩:=List.getElem_of_mem hb;rw[List.length_drop] at hi;rw[List.getElem_drop];have hjl:j<ps.length:=by omega
  have h3:=h2 hjl;have h4:ordS p ps[j]<0:=by
   have h5:=ordS_neg ps[j] p;rcases ordS_three ps[j] p with h6 | h6 | h6
   ·exact absurd h6 h3.1
   ·exact absurd (ordS_zero h6) h3.2
   ·omega
  by_cases hi0:i=0
  ·subst hi0;exact h4
  ·have h7:=List.pairwise_iff_getElem.1 h j (j+i) hjl (by omega) (by omega);exact ordS_ord.trans _ _ _ h4 h7
 rw[List.pairwise_append,List.pairwise_cons];refine⟨hcut.1,⟨hhi,hcut.2.1⟩,fun a ha b hb=>?_⟩;rcases List.mem_cons.1 hb with rfl | hb
 ·exact hlo a ha
 ·exact hcut.2.2 a ha b hb
theorem ins_mem (ps:List ByteArray)(p:ByteArray)(j:Nat)(q:ByteArray):q∈ps.take j++p::ps.drop j↔q=p∨q∈ps:=by
 rw[List.mem_append,List.mem_cons];constructor
 ·rintro (h | h | h)
  ·exact .inr (List.mem_of_mem_take h)
  ·exact .inl h
  ·exact .inr (List.mem_of_mem_drop h)
 ·rintro (h | h)
  ·exact .inr (.inl h)
  ·rw[←List.take_append_drop j ps,List.mem_append] at h;exact h.elim .inl (fun h=> .inr (.inr h))
def PutP (ps:List ByteArray) (p:ByteArray) (qs:List ByteArray):Prop:=(Rise ps→Rise qs)∧(∀q,q∈qs↔q=p∨q∈ps)∧qs.length≤ps.length+1∧0<qs.length
open Go.RowKit in
theorem wpList_app_fullP {P:Program}{w:World}{ops:Array Oper}{rest:List Oper}{o:Oper}{a:Act}{Q:Exit→Act→World→Prop}(hgd:o.guard=none)(s x:Operand)(t:TypeId)
  (ho:o.op= .call {callee:= .builtin .append,args:= #[s,x],argTypes:= #[t,t]})
  (e:TypeId) (z:Value) (size bytes:Nat) (ht:P.underlying t=some (.slice e)) (hi:(P.info? e).map (fun i=>(i.zero,i.size,i.bytes))=some (some z,size,bytes)) (hzs:z.cells.size=size) (hsz:0<size)
  (ao:Option Addr) (n:Nat) (olds:List Value) (hs:a.eval s= .slice ao n n) (hnone:ao=none→n=0) (hlo:olds.length=n*size) (holds:∀b,ao=some b→∀j u,olds[j]? =some u→w.cell? (b.add j)=some u)
  (B:Nat) (c:Nat) (news:Array Value) (te:TypeId) (hx:a.eval x= .slice (some ⟨B,0,none⟩) 1 c) (hB:Blk w B te news) (hl:news.size=size) (h1:∀u∈news.toList,u.oneCell'=true)
  (hn:n+1≤1000000) (hby:bytes≤1000000)
  (h:∀v' w',w'.ownsRow w.heap.size e size v' (n+1) (olds++news.toList)→w.grownBy w' none→wpList P ops Q rest (a.put o.dst v') w'):
  wpList P ops Q (o::rest) a w:=by
 obtain⟨i,hi,hz,hs2,hb⟩:=info_parts hi;refine wpList_append_grows w hgd s x t ho e i z size bytes ht hi hz hs2 hb hzs hsz ao n n olds hs (fun q=>⟨hnone q,hnone q⟩) hlo holds ⟨B,0,none⟩ 1 c news.toList hx (by simpa using hl) ?_ h1 (Nat.lt_succ_self _) (by unfold maxLen;omega) ?_ h
 ·exact World.news_of_block hB
 ·calc (n+1)*bytes≤1000000*1000000:=Nat.mul_le_mul hn hby
   _≤140737488355328:=by decide
end Sw
namespace Go.Proofs.YtnpehjgnplaabaaGreatDoor
open Go Go.RowKit
open Sw
theorem infoStP:(Tryz.prog.info? 9).map (fun i=>(i.zero,i.size,i.bytes))=some (some (.string ⟨#[]⟩),1,16):=by kernel_rfl
theorem sE_len (s:ByteArray):(sE s).length=1:=rfl
theorem sE_one (s:ByteArray):∀u∈sE s,u.oneCell'=true:=fun u hu=>by
 simp only[sE,List.mem_cons,List.not_mem_nil,or_false] at hu;subst hu;rfl
theorem grown_none_belowP {A B:World}(h:A.grownBy B none):Below A.heap.size A B:=⟨h.os,h.tape,h.output,h.size,fun k hk=>h.block k hk (by simp)⟩
def OwnS (w:World) (base:Nat) (v:Value) (ps:List ByteArray):Prop:=w.ownsRow base 9 1 v ps.length (ps.flatMap sE)
theorem OwnS.below {w w':World}{base:Nat}{v:Value}{ps:List ByteArray}(h:OwnS w base v ps)(hb:Below w.heap.size w w'):OwnS w' base v ps:=own_kept h hb
theorem OwnS.slv {w:World}{base:Nat}{v:Value}{ps:List ByteArray}(h:OwnS w base v ps):SlV w 1 sE v ps:=SlV.of_own h sE_len (by decide)
def PutAns (w':World) (B:Nat) (ps:List ByteArray) (p:ByteArray) (e:Ending):Prop:=∃u qs,e= .returned u∧OwnS w' B u qs∧PutP ps p qs
theorem PutAns.put {w':World}{B:Nat}{ps qs:List ByteArray}{p:ByteArray}{u:Value}(h1:OwnS w' B u qs)(h2:PutP ps p qs):PutAns w' B ps p (.returned u):=⟨u,qs,rfl,h1,h2⟩
theorem ownS_drop {w:World}{base n c g:Nat}{L:List ByteArray}(h:w.ownsRow base 9 1 (.slice (some ⟨g,0,none⟩) n c) n (L.flatMap sE))(hn:L.length=n)(j:Nat)(hj:j≤n)(T:Addr)(hT:j<c→T=⟨g,0+j*1,none⟩):
  SlV w 1 sE (.slice (some T) (n-j) (c-j)) (L.drop j):=by
 subst hn;exact((Lies.of_own h sE_len (by decide)).drop sE_len j hj T hT).slv sE_len
theorem ownS_olds {w:World}{base n c g:Nat}{L:List ByteArray}(h:w.ownsRow base 9 1 (.slice (some ⟨g,0,none⟩) n c) n (L.flatMap sE))(hn:L.length=n)(k:Nat)(hk:k≤n):
  ((L.take k).flatMap sE).length=k*1∧∀b,(some (⟨g,0,none⟩:Addr))=some b→∀j u,((L.take k).flatMap sE)[j]? =some u→w.cell? (b.add j)=some u:=by
 subst hn;have hlen:((L.take k).flatMap sE).length=k*1:=by rw[flat_len sE_len,zL];omega
 refine⟨hlen,?_⟩;rintro b hb j u hj;obtain rfl:=Option.some.inj hb;have hjl:=(List.getElem?_eq_some_iff.1 hj).1;rw[hlen] at hjl;obtain⟨g',cap,cur,hA,hbg,hB,hnc,hcm,hcs,htk⟩:=own_form h (by omega);obtain rfl:g=g':=by injection hA with e1 e2 e3;exact congrArg Addr.block (Option.some.inj e1)
 rw[flat_take sE_len,List.getElem?_take,if_pos hjl,←htk,List.getElem?_take,if_pos (by omega)] at hj;rw[add_mk,hB.cell,Nat.zero_add,←Array.getElem?_toList,hj]
theorem refPutP_any (w:World)(B:Nat)(v:Value)(ps:List ByteArray)(p:ByteArray)(h:OwnS w B v ps)(hB:B≤w.heap.size)(hn:ps.length≤1000)(hz:∀q∈ps,q.size≤90000)(hp:p.size≤90000)(hnil:ps=[]→v= .slice none 0 0):
  Calls Tryz.prog 109 #[v,.string p] w fun e w'=>PutAns w' B ps p e∧Below w.heap.size w w':=by
 obtain⟨n,hl⟩:∃n,ps.length=n:=⟨_,rfl⟩;have hs0:=h.slv;unfold OwnS at h;rw[hl] at h hn;obtain⟨A,c,rfl,hnc,hcm,-⟩:=SlV_of_any h;unfold maxLen at hcm;have HO:=zH (zA h (zA hs0 hz));have HL:=zH hl;clear hs0 hz hl;by_cases h0:n=0
 ·subst h0;obtain rfl:ps=[]:=List.length_eq_zero_iff.1 HL.out;obtain⟨rfl,rfl⟩:A=none∧c=0:=by have:=hnil rfl;injection this with e1 e2 e3;exact⟨e1,e3⟩
  clear h HO hnil;go_enter Tryz.func109,Tryz.ntmps109
  go_wp2_with fail
  go_loopw [5] (fun kv wr=>kv= .int .i64 0∧wr=w) (fun kv _=>0)
  case atStart=>exact⟨rfl,rfl⟩
  case round=>
   obtain⟨rfl,hw⟩:=hrel;rw[hw];clear hw;(go_upto_region 7 with (at_builtin;go_loud (refine wpList_app_slv rfl _ _ 34 rfl w.heap.size 9 _ _ _ Tryz.underlying34 infoStP rfl (by decide) _ 0 _ rfl (own_emptyB w w.heap.size _ 1 (zN _)) sE sE_len sE_one _ [] rfl ⟨none,0,rfl,zN _,by simp [maxLen],SlOf.nil _ _ _ _⟩ (by simp) (by decide) (by simp) ?_;intro v2 w2 ho2 hg2;obtain⟨A2,c2,rfl,-,-,-⟩:=SlV_of_any ho2)));have hb2:Below w.heap.size w w2:=((zR _ w).alloc (zN _) _).grown hg2 (by simp) (fun q hq=>by cases hq;exact zN _);have hba:Below w2.heap.size w2 (w2.alloc (.cells #[.string p] 9)):=(zR _ w2).alloc (zN _) _;have H2:=zH (zA hb2 ho2);have hs2:=hb2.size;clear hb2 ho2 hg2;have hsl2:SlV w2 1 sE (.slice A2 0 c2) []:=SlV.of_own (l:=[]) H2.out.2 sE_len (by decide);have HSL:=zH hsl2;clear hsl2;have HBA:=zH hba;clear hba;(go_wp2_with (first | (at_builtin;refine wpList_app_fullP rfl _ _ 34 rfl 9 (.string ⟨#[]⟩) 1 16 Tryz.underlying34 infoStP rfl (by decide) none 0 [] rfl (fun _=>rfl) rfl (fun b h=>by cases h) w2.heap.size 1 #[.string p] 9 rfl (Blk.new _ _ _) rfl (by simp [Value.oneCell']) (by omega) (by decide) ?_;intro v4 w4 ho4 hg4;have hb4:Below w2.heap.size w2 w4:=(HBA.out.trans ((grown_none_belowP hg4).mono HBA.out.size));have hsl4:=HSL.out.below hb4 (zN _);have hz4:=hb4.size;obtain⟨A4,c4,rfl,-,-,-⟩:=SlV_of_any ho4;have ho4':=own_wide ho4 (show w2.heap.size≤_ by simp);have H4:=zH (zA ho4' (zA hb4 hsl4));clear ho4 hg4 hb4 hsl4 ho4') | (at_builtin;refine wpList_app_slv rfl _ _ 34 rfl w2.heap.size 9 _ _ _ Tryz.underlying34 infoStP rfl (by decide) (.slice A4 (0+1) c4) (0+1) _ rfl H4.out.1 sE sE_len sE_one _ [] rfl H4.out.2.2 (by simp) (by decide) hz4 ?_;intro v5 w5 ho5 hg5;obtain⟨A5,c5,rfl,-,-,-⟩:=SlV_of_any ho5)));have hb5:Below w2.heap.size w4 w5:=(zR _ w4).grown hg5 hz4 (fun q hq=>(H4.out.1.lt q hq).1);have hbF:=H2.out.1.trans ((H4.out.2.1.trans (hb5.mono (zN _))).mono H2.out.1.size);have HF:=zH (zA (own_wide ho5 (show w.heap.size≤w2.heap.size from H2.out.1.size)) hbF);clear ho5 hg5 hb5 hbF;(go_wp2_with fail);go_ret;refine⟨PutAns.put (qs:=[p]) ?_ ⟨fun _=>List.pairwise_singleton _ _,fun q=>by simp,by simp,by simp⟩,HF.out.2⟩;have h9:=own_wide HF.out.1 hB;unfold OwnS
   simpa [sE] using h9
 ·have hn1:0<n:=Nat.pos_of_ne_zero h0;obtain⟨g,rfl,hgl⟩:∃g,A=some ⟨g,0,none⟩∧g<w.heap.size:=by
   obtain⟨g,cap,cur,hA,hbg,hB,_⟩:=own_form HO.out.1 hn1;injection hA with e1 e2 e3;exact⟨g,e1,hB.lt⟩
  clear h hnil;obtain⟨hn1000,hnc0⟩:(n:Int)≤1000∧(n:Int)≤c:=by omega
  go_enter Tryz.func109,Tryz.ntmps109
  go_wp2_with fail
  go_loopw [5] (fun kv wr=>∃j:Nat,j≤n∧kv= .int .i64 j∧(∀i (hi:i<ps.length),i<j→ordS ps[i] p= -1)∧Below w.heap.size w wr) (fun kv _=>n-(intOf kv).toNat)
  case atStart=>exact⟨0,Nat.zero_le _,rfl,fun i _ h=>absurd h (Nat.not_lt_zero _),zR _ _⟩
  case round=>
   obtain⟨j,hj,rfl,hall,hb⟩:=hrel;have HA:=zH hall;clear hall;(obtain⟨hj0,hjc⟩:(0:Int)≤j∧(j:Int)≤c:=by omega);by_cases hlt:j<n
   ·(have hjl:j<ps.length:=by have:=HL.out;omega);(have hji:(j:Int)<n:=by omega);have hsl:=HO.out.2.1.below hb (zN _);obtain⟨A',c',hA,-,-,hso⟩:=hsl;(obtain⟨rfl,-,rfl⟩:some (⟨g,0,none⟩:Addr)=A'∧n=ps.length∧c=c':=by simpa using hA);obtain⟨b,off,hgb,hbb,hcs⟩:=hso (by omega);(obtain⟨rfl,rfl⟩:g=b∧0=off:=by have:=Option.some.inj hgb;exact⟨congrArg Addr.block this,congrArg Addr.off this⟩);have c0:=hcs j hjl 0 (by omega);simp only[sE,qC,Nat.add_zero,Nat.zero_add,Nat.mul_one] at c0;have hqz:=HO.out.2.2 _ (zP hjl);have HBF:=zH (refBefore_any wr ps[j] p (by omega) (by omega));have HE:=zH (fun(h:ordS ps[j] p= -1) i (hi:i<ps.length) (hij:i<j+1)=>(by
     by_cases h2:i<j
     ·exact HA.out i hi h2
     ·(obtain rfl:i=j:=by omega);exact h:ordS ps[i] p= -1))
    obtain⟨bb,hbb2⟩:∃bb:Bool,decide (ordS ps[j] p= -1)=bb:=⟨_,rfl⟩;rw[hbb2] at HBF;have HBB:=zH hbb2;clear hbb2;have hqm:=zP hjl;obtain⟨q,hq⟩:∃q,ps[j]=q:=⟨_,rfl⟩;rw[hq] at c0 HBF HBB HE hqm;have HQ:=zH hqm;clear hqm;have HQE:=zH hq;clear hcs hso hA hgb hq hqz hbb;(go_wp2_with fail);refine HBF.out.mono ?_;rintro e w1 ⟨rfl,hb1⟩;have c1:w1.cell? ⟨g,j,none⟩=some (.string q):=(hb1.cell (p:=⟨g,j,none⟩) (by have:=hb.size;show g<_;omega)).trans c0;have H1:=zH (hb.trans (hb1.mono hb.size));clear hb hb1 c0 HBF;cases bb with
    | true=>
     have HE2:=zH (HE.out (by simpa using HBB.out));clear HE;(go_wp2_with fail);go_roundw
     case rel=>exact⟨j+1,by omega,by go_num,HE2.out,H1.out⟩
     case measure=>simp [intOf];omega
    | false=>
     clear HE;by_cases hqp:q=p
     ·(have te:(q.toList==p.toList)=true:=by rw[str_beq];simpa using hqp);have HQP:=zH hqp;clear hqp;(go_wp2_with fail);go_ret;refine⟨PutAns.put (qs:=ps) ?_ ⟨id,fun x=>⟨.inr,fun h'=>h'.elim (fun h'=>by rw[h',←HQP.out];exact HQ.out) id⟩,by omega,by rw[HL.out];exact hn1⟩,H1.out⟩;have h9:=own_kept HO.out.1 H1.out;unfold OwnS;rw[HL.out];exact h9
     ·(have te:(q.toList==p.toList)=false:=by rw[str_beq];simpa using hqp);have HE:=zH (show∀(h:j<ps.length),¬ordS ps[j] p= -1∧¬ps[j]=p from fun h=>by
       have:=HQE.out;rw[this];exact⟨by simpa using HBB.out,hqp⟩)
      clear hqp;obtain⟨T,hT,hTa,hTb,_⟩:=slice_from (P:=Tryz.prog) 34 9 1 Tryz.underlying34 (by kernel_rfl) Tryz.sizeOf9 g 0 n c j (j:Int) rfl hj;have ho1:=own_kept HO.out.1 H1.out;(have hSL:=fun(o:Obj)=>ownS_drop (own_kept ho1 ((zR _ w1).alloc (zN _) o)) HL.out j hj T hTa);(have hll:(ps.drop j).length=n-j:=by rw[List.length_drop,HL.out]);obtain⟨R,hR⟩:∃R,ps.drop j=R:=⟨_,rfl⟩;rw[hR] at hSL hll;have HRR:=zH hR;clear hR;have HSL:=zH hSL;have HLL:=zH hll;have HO1:=zH ho1;clear hSL hll ho1 hTa hTb;(go_upto_region 7 with (at_builtin;go_loud (refine wpList_app_slv rfl _ _ 34 rfl w1.heap.size 9 _ _ _ Tryz.underlying34 infoStP rfl (by decide) _ 0 _ rfl (own_emptyB w1 w1.heap.size _ 1 (zN _)) sE sE_len sE_one _ R rfl (HSL.out _) (by rw[HLL.out];omega) (by decide) (by simp) ?_;intro v2 w2 ho2 hg2;rw[HLL.out,Nat.zero_add] at ho2;obtain⟨A2,c2,rfl,-,-,-⟩:=SlV_of_any ho2)));have hb2:Below w1.heap.size w1 w2:=((zR _ w1).alloc (zN _) _).grown hg2 (by simp) (fun q hq=>by cases hq;exact zN _);have hs2:=H1.out.size;have hs3:=hb2.size;have hba:Below w2.heap.size w2 (w2.alloc (.cells #[.string p] 9)):=(zR _ w2).alloc (zN _) _;have hbw:=H1.out.trans (hb2.mono hs2);have ho2s:w2.ownsRow B 9 1 (.slice (some ⟨g,0,none⟩) n c) n (ps.flatMap sE):=own_kept HO1.out hb2;have hsl2:SlV w2 1 sE (.slice A2 (n-j) c2) R:=SlV.of_own (by rw[List.nil_append] at ho2;exact ho2) sE_len (by decide);have HOL:=zH (ownS_olds (own_kept ho2s hba) HL.out j hj);have H2:=zH (zA hbw (zA hba hsl2));clear hb2 hg2 ho2 hba hbw ho2s hsl2 HSL HO1;(go_wp2_with (first | (at_builtin;refine wpList_app_fullP rfl _ _ 34 rfl 9 (.string ⟨#[]⟩) 1 16 Tryz.underlying34 infoStP rfl (by decide) _ j _ rfl (fun h=>by cases h) HOL.out.1 HOL.out.2 w2.heap.size 1 #[.string p] 9 rfl (Blk.new _ _ _) rfl (by simp [Value.oneCell']) (by omega) (by decide) ?_;intro v4 w4 ho4 hg4;have hb4:Below w2.heap.size w2 w4:=(H2.out.2.1.trans ((grown_none_belowP hg4).mono H2.out.2.1.size));have hsl4:=H2.out.2.2.below hb4 (zN _);have hz4:=hb4.size;obtain⟨A4,c4,rfl,-,-,-⟩:=SlV_of_any ho4;have ho4':=own_wide ho4 (show w2.heap.size≤_ by simp);have H4:=zH (zA ho4' (zA hb4 hsl4));clear ho4 hg4 hb4 hsl4 ho4') | (at_builtin;refine wpList_app_slv rfl _ _ 34 rfl w2.heap.size 9 _ _ _ Tryz.underlying34 infoStP rfl (by decide) (.slice A4 (j+1) c4) (j+1) _ rfl H4.out.1 sE sE_len sE_one _ R rfl H4.out.2.2 (by rw[HLL.out];omega) (by decide) hz4 ?_;intro v5 w5 ho5 hg5;obtain⟨A5,c5,rfl,-,-,-⟩:=SlV_of_any ho5)));have hb5:Below w2.heap.size w4 w5:=(zR _ w4).grown hg5 hz4 (fun q hq=>(H4.out.1.lt q hq).1);have hbF:=H2.out.1.trans ((H4.out.2.1.trans (hb5.mono (zN _))).mono H2.out.1.size);have HF:=zH (zA (own_wide ho5 (show B≤w2.heap.size by omega)) hbF);clear ho5 hg5 hb5 hbF;(go_wp2_with fail);go_ret;(have hlen:(ps.take j++p::R).length=j+1+R.length:=by rw[zF,zL,zI,HL.out];omega);refine⟨PutAns.put (qs:=ps.take j++p::R) ?_ ⟨fun h=>by rw[←HRR.out];exact ins_rise h (by rw[HL.out];exact hj) HA.out HE.out,fun x=>by rw[←HRR.out];exact ins_mem ps p j x,by rw[hlen,HLL.out,HL.out];omega,by rw[hlen];omega⟩,HF.out.2⟩;unfold OwnS;rw[hlen];have h9:=HF.out.1
      simpa [sE] using h9
   ·(have hlt':¬(j:Int)<n:=by omega);have HE:=zH (show∀(h:j<ps.length),¬ordS ps[j] p= -1∧¬ps[j]=p from fun h=>by have:=HL.out;omega);have H1:=zH hb;clear hb;generalize wr=w1 at*;obtain⟨T,hT,hTa,hTb,_⟩:=slice_from (P:=Tryz.prog) 34 9 1 Tryz.underlying34 (by kernel_rfl) Tryz.sizeOf9 g 0 n c j (j:Int) rfl hj;have ho1:=own_kept HO.out.1 H1.out;(have hSL:=fun(o:Obj)=>ownS_drop (own_kept ho1 ((zR _ w1).alloc (zN _) o)) HL.out j hj T hTa);(have hll:(ps.drop j).length=n-j:=by rw[List.length_drop,HL.out]);obtain⟨R,hR⟩:∃R,ps.drop j=R:=⟨_,rfl⟩;rw[hR] at hSL hll;have HRR:=zH hR;clear hR;have HSL:=zH hSL;have HLL:=zH hll;have HO1:=zH ho1;clear hSL hll ho1 hTa hTb;(go_upto_region 7 with (at_builtin;go_loud (refine wpList_app_slv rfl _ _ 34 rfl w1.heap.size 9 _ _ _ Tryz.underlying34 infoStP rfl (by decide) _ 0 _ rfl (own_emptyB w1 w1.heap.size _ 1 (zN _)) sE sE_len sE_one _ R rfl (HSL.out _) (by rw[HLL.out];omega) (by decide) (by simp) ?_;intro v2 w2 ho2 hg2;rw[HLL.out,Nat.zero_add] at ho2;obtain⟨A2,c2,rfl,-,-,-⟩:=SlV_of_any ho2)));have hb2:Below w1.heap.size w1 w2:=((zR _ w1).alloc (zN _) _).grown hg2 (by simp) (fun q hq=>by cases hq;exact zN _);have hs2:=H1.out.size;have hs3:=hb2.size;have hba:Below w2.heap.size w2 (w2.alloc (.cells #[.string p] 9)):=(zR _ w2).alloc (zN _) _;have hbw:=H1.out.trans (hb2.mono hs2);have ho2s:w2.ownsRow B 9 1 (.slice (some ⟨g,0,none⟩) n c) n (ps.flatMap sE):=own_kept HO1.out hb2;have hsl2:SlV w2 1 sE (.slice A2 (n-j) c2) R:=SlV.of_own (by rw[List.nil_append] at ho2;exact ho2) sE_len (by decide);have HOL:=zH (ownS_olds (own_kept ho2s hba) HL.out j hj);have H2:=zH (zA hbw (zA hba hsl2));clear hb2 hg2 ho2 hba hbw ho2s hsl2 HSL HO1;(go_wp2_with (first | (at_builtin;refine wpList_app_fullP rfl _ _ 34 rfl 9 (.string ⟨#[]⟩) 1 16 Tryz.underlying34 infoStP rfl (by decide) _ j _ rfl (fun h=>by cases h) HOL.out.1 HOL.out.2 w2.heap.size 1 #[.string p] 9 rfl (Blk.new _ _ _) rfl (by simp [Value.oneCell']) (by omega) (by decide) ?_;intro v4 w4 ho4 hg4;have hb4:Below w2.heap.size w2 w4:=(H2.out.2.1.trans ((grown_none_belowP hg4).mono H2.out.2.1.size));have hsl4:=H2.out.2.2.below hb4 (zN _);have hz4:=hb4.size;obtain⟨A4,c4,rfl,-,-,-⟩:=SlV_of_any ho4;have ho4':=own_wide ho4 (show w2.heap.size≤_ by simp);have H4:=zH (zA ho4' (zA hb4 hsl4));clear ho4 hg4 hb4 hsl4 ho4') | (at_builtin;refine wpList_app_slv rfl _ _ 34 rfl w2.heap.size 9 _ _ _ Tryz.underlying34 infoStP rfl (by decide) (.slice A4 (j+1) c4) (j+1) _ rfl H4.out.1 sE sE_len sE_one _ R rfl H4.out.2.2 (by rw[HLL.out];omega) (by decide) hz4 ?_;intro v5 w5 ho5 hg5;obtain⟨A5,c5,rfl,-,-,-⟩:=SlV_of_any ho5)));have hb5:Below w2.heap.size w4 w5:=(zR _ w4).grown hg5 hz4 (fun q hq=>(H4.out.1.lt q hq).1);have hbF:=H2.out.1.trans ((H4.out.2.1.trans (hb5.mono (zN _))).mono H2.out.1.size);have HF:=zH (zA (own_wide ho5 (show B≤w2.heap.size by omega)) hbF);clear ho5 hg5 hb5 hbF;(go_wp2_with fail);go_ret;(have hlen:(ps.take j++p::R).length=j+1+R.length:=by rw[zF,zL,zI,HL.out];omega);refine⟨PutAns.put (qs:=ps.take j++p::R) ?_ ⟨fun h=>by rw[←HRR.out];exact ins_rise h (by rw[HL.out];exact hj) HA.out HE.out,fun x=>by rw[←HRR.out];exact ins_mem ps p j x,by rw[hlen,HLL.out,HL.out];omega,by rw[hlen];omega⟩,HF.out.2⟩;unfold OwnS;rw[hlen];have h9:=HF.out.1
    simpa [sE] using h9
def PsI (w:World) (o:Value) (S:List ByteArray) (W:World):Prop:=∃qs,OwnS W w.heap.size o qs∧Rise qs∧(∀q,q∈qs↔q∈S)∧qs.length≤S.length∧(qs=[]→o= .slice none 0 0)
theorem PsI.below {w:World}{o:Value}{S:List ByteArray}{A B:World}(h:PsI w o S A)(hb:Below A.heap.size A B):PsI w o S B:=by
 obtain⟨qs,h1,h2⟩:=h;exact⟨qs,h1.below hb,h2⟩
def PathsAns (w':World) (B:Nat) (S:List ByteArray) (e:Ending):Prop:=∃u,e= .returned u∧OwnS w' B u (pathsS S)
theorem PsI.ans {w:World}{o:Value}{S:List ByteArray}{W:World}(h:PsI w o S W):PathsAns W w.heap.size S (.returned o):=by
 obtain⟨qs,h1,h2,h3,_⟩:=h;exact⟨o,rfl,by rw[pathsS_eq h2 h3];exact h1⟩
theorem psI_put {w:World}{o:Value}{S:List ByteArray}{W:World}(h:PsI w o S W)(hB:w.heap.size≤W.heap.size)(hl:S.length≤1000)(p:ByteArray)(hz:∀q∈S,q.size≤90000)(hp:p.size≤90000):
  Calls Tryz.prog 109 #[o,.string p] W fun e w'=>(∃u,e= .returned u∧PsI w u (S++[p]) w')∧Below W.heap.size W w':=by
 obtain⟨qs,h1,h2,h3,h4,h5⟩:=h;refine(refPutP_any W w.heap.size o qs p h1 hB (by omega) (fun q hq=>hz q ((h3 q).1 hq)) hp h5).mono ?_;rintro e w' ⟨⟨u,rs,rfl,g1,g2⟩,hb⟩;exact⟨⟨u,rfl,rs,g1,g2.1 h2,fun q=>by rw[g2.2.1 q,h3 q,List.mem_append,List.mem_singleton,Or.comm],by rw[zF];have:=g2.2.2.1;simp only[List.length_singleton];omega,fun h=>by have:=g2.2.2.2;rw[h] at this;simp at this⟩,hb⟩
theorem refPathsPsI_any (w:World)(u1 u2:Value)(l1 l2:List MkE)(h1:SlV w 6 eCM u1 l1)(h2:SlV w 6 eCM u2 l2)(hn1:l1.length≤100)(hn2:l2.length≤100)(hz1:∀m∈l1++l2,m.1.size≤90000)
  (v1 v2:Value) (xs ys:List NE) (g1:SlV w 5 eCSN v1 xs) (g2:SlV w 5 eCSN v2 ys) (hm1:xs.length≤100) (hm2:ys.length≤100) (hz2:∀m∈xs++ys,m.1.size≤90000):
  Calls Tryz.prog 69 #[.agg #[u1,u2],v1,v2] w fun e w'=>(∃u,e= .returned u∧PsI w u ((l1++l2).map Prod.fst++(xs++ys).map Prod.fst) w')∧Below w.heap.size w w':=by
 obtain⟨W,hW⟩:∃W,w.alloc (.cells #[u1,u2] 24)=W:=⟨_,rfl⟩;have hb0:Below w.heap.size w W:=by rw[←hW];exact(zR _ w).alloc (zN _) _
 have hB0:Blk W w.heap.size 24 #[u1,u2]:=by rw[←hW];exact Blk.new w _ _
 have HS:=zH (zA (h1.below hb0 (zN _)) (h2.below hb0 (zN _)));have HI:=zH (zA (zA (g1.below hb0 (zN _)) (g2.below hb0 (zN _))) (zA hz1 hz2));obtain⟨A1,c1,rfl,hc1,hm1',_⟩:=h1;obtain⟨A2,c2,rfl,hc2,hm2',_⟩:=h2;obtain⟨A3,c3,rfl,_,_,_⟩:=g1;obtain⟨A4,c4,rfl,_,_,_⟩:=g2;clear hz1 hz2;obtain⟨n2,hn2'⟩:∃n,l2.length=n:=⟨_,rfl⟩;obtain⟨n1,hn1'⟩:∃n,l1.length=n:=⟨_,rfl⟩;obtain⟨n4,hn4'⟩:∃n,ys.length=n:=⟨_,rfl⟩;obtain⟨n3,hn3'⟩:∃n,xs.length=n:=⟨_,rfl⟩;rw[hn2'] at hB0 hW hc2 hn2⊢;rw[hn1'] at hB0 hW hc1 hn1⊢;rw[hn3'] at hm1⊢;rw[hn4'] at hm2⊢;unfold maxLen at hm1' hm2';have HL:=zH (zA (zA hn1' hn2') (zA hn3' hn4'));rw[hn1',hn2'] at HS;rw[hn3',hn4'] at HI;clear hn1' hn2' hn3' hn4';obtain⟨g,hg⟩:∃g,w.heap.size=g:=⟨_,rfl⟩;rw[hg] at hB0;have HW:=zH (zA hW (zA hb0 (zA hB0 hg)));clear hW hb0 hB0;go_enter Tryz.func69,Tryz.ntmps69
 go_upto_region 1 with fail
 rw[HW.out.1];clear hg;go_upto_region 2 with fail
 have k0:∀m:Held (fun W=>Blk W g 24 #[.slice A1 n1 c1,.slice A2 n2 c2]),(HeldW m).cell? ⟨g,0,none⟩=some (.slice A1 n1 c1):=fun m=>(HeldW_spec m).cell 0
 have k1:∀m:Held (fun W=>Blk W g 24 #[.slice A1 n1 c1,.slice A2 n2 c2]),(HeldW m).cell? ⟨g,1,none⟩=some (.slice A2 n2 c2):=fun m=>(HeldW_spec m).cell 1
 have HC0:=zH HW.out.2.2.1.drew;refine wp_region_mix (fun W=>Blk W g 24 #[.slice A1 n1 c1,.slice A2 n2 c2]) [(1,true),(2,true),(4,true),(5,true),(8,true),(0,false),(3,false),(6,false),(7,true)] (by kernel_rfl) (by kernel_rfl) ?_;simp only[pickP,List.filterMap_cons,List.filterMap_nil,qA,qB,qC,Option.map_some];repeat (apply mix_first;apply Exists.intro;refine⟨fun m=>?_,HC0.out,?_⟩;·(go_big_quiet_step (fail);exact wpQuiet_nil rfl))
 refine mix_forced HC0.out ?_;go_wp2_with fail
 show mixC ..
 have hs0:=HW.out.2.1.size;rw[HW.out.2.2.2] at hs0;have hbE:Below W.heap.size W (W.alloc (.cells #[] 63)).drew:=((zR _ W).alloc (zN _) _).drew;have hoE:(W.alloc (.cells #[] 63)).drew.ownsRow W.heap.size 63 6 (.slice (some ⟨W.heap.size,0,none⟩) 0 0) 0 []:=own_emptyB W W.heap.size _ 6 (zN _);have HE:=zH (zA hbE (zA hoE (zA (HW.out.2.2.1.below hbE HW.out.2.2.1.lt) (zA (HS.out.1.below hbE (zN _)) (HS.out.2.below hbE (zN _))))));clear hbE hoE HC0;generalize (W.alloc (.cells #[] 63)).drew=W1 at*;refine mix_forced HE.out.2.2.1 ?_;go_wp2_with (at_builtin;refine wpList_app_slv rfl _ _ 22 rfl W.heap.size 63 _ _ _ Tryz.underlying22 infoMk rfl (by decide) _ 0 _ rfl HE.out.2.1 eCM eCM_len eCM_one _ l1 rfl HE.out.2.2.2.1 (by have:=HL.out.1.1;omega) (by decide) HE.out.1.size ?_;intro v5 w5 ho5 hg5)
 show mixC ..
 obtain⟨A5,k5,rfl,_,_,_⟩:=SlV_of_any ho5;have hb5:=HE.out.1.grown hg5 HE.out.1.size (fun q hq=>(HE.out.2.1.lt q hq).1);have H5:=zH (zA hb5 (zA ho5 (zA (HW.out.2.2.1.below hb5 HW.out.2.2.1.lt) (HS.out.2.below hb5 (zN _)))));clear ho5 hg5 hb5 HE;refine mix_forced H5.out.2.2.1 ?_;go_wp2_with (at_builtin;refine wpList_app_slv rfl _ _ 22 rfl W.heap.size 63 _ _ _ Tryz.underlying22 infoMk rfl (by decide) _ (0+l1.length) _ rfl H5.out.2.1 eCM eCM_len eCM_one _ l2 rfl H5.out.2.2.2 (by have:=HL.out.1;omega) (by decide) H5.out.1.size ?_;intro v6 w6 ho6 hg6)
 show mixC ..
 have hb6:=H5.out.1.grown hg6 H5.out.1.size (fun q hq=>(H5.out.2.1.lt q hq).1);have ho6':w6.ownsRow W.heap.size 63 6 v6 (l1++l2).length ((l1++l2).flatMap eCM):=by
  rw[zF,List.flatMap_append];rw[List.nil_append,Nat.zero_add] at ho6;exact ho6
 have hsl6:SlV w6 6 eCM v6 (l1++l2):=SlV.of_own ho6' eCM_len (by decide);have hll:(l1++l2).length=n1+n2:=by rw[zF,HL.out.1.1,HL.out.1.2]
 rw[hll] at ho6';obtain⟨A6,k6,rfl,_,_,_⟩:=SlV_of_any ho6';have H6:=zH (zA hb6 (zA (HW.out.2.2.1.below hb6 HW.out.2.2.1.lt) hsl6));clear ho6 hg6 hb6 H5 ho6' hsl6;obtain⟨L,hLe⟩:∃L,l1++l2=L:=⟨_,rfl⟩;rw[hLe] at hll H6 HI;have HLE:=zH hLe;clear hLe;obtain⟨n,hnn⟩:∃n,n1+n2=n:=⟨_,rfl⟩;rw[hnn] at hll;have hn60:n≤200:=by omega
 have HN:=zH hll;rw[hnn] at H6⊢;clear hll hnn;repeat (apply mix_first;apply Exists.intro;refine⟨fun m=>?_,H6.out.2.1,?_⟩;·(go_big_quiet_step (fail);exact wpQuiet_nil rfl))
 refine mix_nil H6.out.2.1 ?_;clear k0 k1;go_wp2_with fail
 go_loopw [7,20] (fun o iv wr=>∃i:Nat,i≤n∧iv= .int .i64 i∧Below W.heap.size W wr∧Below w6.heap.size w6 wr∧PsI w o ((L.take i).map Prod.fst) wr) (fun _ iv _=>n-(intOf iv).toNat)
 case atStart=>exact⟨0,Nat.zero_le _,rfl,H6.out.1,zR _ _,[],World.ownsRow_nil _ _ _ _,List.Pairwise.nil,fun q=>by simp,by simp,fun _=>rfl⟩
 case round=>
  obtain⟨i,hi,rfl,hb,hb6,hP⟩:=hrel;have hslr:=H6.out.2.2.below hb6 (zN _);have hww:=zT HW.out.2.1.size hb.size;by_cases hlt:i<n
  ·have hiL:i<L.length:=by have:=HN.out;omega
   obtain⟨A',c',hA,_,_,hso⟩:=hslr;(obtain⟨rfl,-,rfl⟩:A6=A'∧n=L.length∧k6=c':=by simpa using hA);clear hA;obtain⟨b,off,rfl,hbb,hcs⟩:=hso (by omega);obtain⟨c0,c1,c2⟩:=zs3 (hcs i hiL);have c3':=hcs i hiL 3 (by omega);have c4:=hcs i hiL 4 (by omega);have c5:=hcs i hiL 5 (by omega);simp only[eCM,qB,qC,Nat.add_zero] at c0 c1 c2 c3' c4 c5;clear hcs hso hbb;(have hi1:(i:Int)<n:=by omega);have hqz:=HI.out.2.1 _ (zP hiL);(have hst:(L.take (i+1)).map Prod.fst=(L.take i).map Prod.fst++[L[i].1]:=by rw[zG hiL,List.map_append];rfl);obtain⟨⟨q,⟨kd,md,tm,sz,sm⟩⟩,hx⟩:∃x,L[i]=x:=⟨_,rfl⟩;simp only[hx] at c0 c1 c2 c3' c4 c5 hqz hst;clear hx;have hba:=(zR wr.heap.size wr).alloc (zN _) (.cells #[.string q,.int .i64 kd,.int .i64 md,.int .u32 tm,.int .i64 sz,.int .u32 sm] 63);have HPU:=zH (psI_put (hP.below hba) (by simp;omega) (by rw[zS,zL];omega) q (fun x hx=>by
    obtain⟨m,hm,rfl⟩:=List.mem_map.1 hx;exact HI.out.2.1 m (List.mem_of_mem_take hm)) hqz)
   have H1:=zH (zA (hb.trans (hba.mono hb.size)) (hb6.trans (hba.mono hb6.size)));have HST:=zH hst;clear hb hb6 hba hP hst hqz;(go_wp2_with fail);refine HPU.out.mono ?_;rintro e w7 ⟨⟨u,rfl,hP7⟩,hb7⟩;rw[←HST.out] at hP7;have H7:=zH (zA (H1.out.1.trans (hb7.mono H1.out.1.size)) (zA (H1.out.2.trans (hb7.mono H1.out.2.size)) hP7));clear hb7 hP7 HPU H1;(go_wp2_with fail);go_roundw
   case rel=>exact⟨i+1,by omega,by go_num,H7.out.1,H7.out.2.1,H7.out.2.2⟩
   case measure=>simp [intOf];omega
  ·obtain rfl:i=n:=by omega
   have hf:L.take i=L:=zO (by have:=HN.out;omega);rw[hf] at hP;have H8:=zH (zA hb hP);have hsI1:=HI.out.1.1.below hb (zN _);have hsI2:=HI.out.1.2.below hb (zN _);have HI2:=zH (zA hsI1 hsI2);clear hf hb hb6 hP hslr hsI1 hsI2 H6;generalize wr=w8 at*;(have hmm:n3+ys.length=(xs++ys).length:=by rw[zF,HL.out.2.1]);(have hmf:xs.flatMap eCSN++ys.flatMap eCSN=(xs++ys).flatMap eCSN:=by rw[List.flatMap_append]);(have hml:(xs++ys).length≤200:=by rw[zF,HL.out.2.1,HL.out.2.2];omega);obtain⟨M,hMe⟩:∃M,xs++ys=M:=⟨_,rfl⟩;rw[hMe] at hmm hmf hml HI;have HME:=zH hMe;clear hMe;obtain⟨m,hm⟩:∃m,M.length=m:=⟨_,rfl⟩;rw[hm] at hmm hml;have HMM:=zH (zA hmm (zA hmf hm));clear hmm hmf hm;(go_wp2_with (first | (at_builtin;refine wpList_app_slv rfl _ _ 25 rfl w8.heap.size 59 _ _ _ Tryz.underlying25 infoIt rfl (by decide) _ 0 _ rfl (own_emptyB w8 w8.heap.size _ 5 (zN _)) eCSN eCSN_len eCSN_one _ xs rfl (HI2.out.1.below ((zR _ w8).alloc (zN _) _) (zN _)) (by have:=HL.out.2.1;omega) (by decide) (by simp) ?_;intro v9 w9 ho9 hg9;rw[Nat.zero_add,List.nil_append,HL.out.2.1] at ho9;have hb9:Below w8.heap.size w8 w9:=((zR _ w8).alloc (zN _) _).grown hg9 (by simp) (fun q hq=>by cases hq;exact zN _);obtain⟨A9,k9,rfl,_,_,_⟩:=SlV_of_any ho9;have hz9:=hb9.size;have H9:=zH (zA hb9 (zA ho9 (HI2.out.2.below hb9 (zN _))));clear ho9 hg9 hb9) | (at_builtin;refine wpList_app_slv rfl _ _ 25 rfl w8.heap.size 59 _ _ _ Tryz.underlying25 infoIt rfl (by decide) (.slice A9 n3 k9) n3 _ rfl H9.out.2.1 eCSN eCSN_len eCSN_one _ ys rfl H9.out.2.2 (by have:=HL.out.2;omega) (by decide) hz9 ?_;intro v10 w10 ho10 hg10;rw[HMM.out.1,HMM.out.2.1] at ho10;have hb10:=H9.out.1.grown hg10 hz9 (fun q hq=>(H9.out.2.1.lt q hq).1);obtain⟨A10,k10,rfl,_,_,_⟩:=SlV_of_any ho10;have H10:=zH (zA hb10 ho10);clear ho10 hg10 hb10 H9)));have hsl10:SlV w10 5 eCSN (.slice A10 m k10) M:=SlV.of_own H10.out.2 eCSN_len (by decide);have hbW10:=H8.out.1.trans (H10.out.1.mono H8.out.1.size);have H11:=zH (zA hbW10 (zA (H8.out.2.below H10.out.1) hsl10));clear hsl10 hbW10 H10;go_loopw [7,35] (fun o iv wr=>∃j:Nat,j≤m∧iv= .int .i64 j∧Below W.heap.size W wr∧Below w10.heap.size w10 wr∧PsI w o (L.map Prod.fst++(M.take j).map Prod.fst) wr) (fun _ iv _=>m-(intOf iv).toNat)
   case atStart=>exact⟨0,Nat.zero_le _,rfl,H11.out.1,zR _ _,by have:=H11.out.2.1;simpa using this⟩
   case round=>
    obtain⟨j,hj,rfl,hb,hb10,hP⟩:=hrel;have hslr:=H11.out.2.2.below hb10 (zN _);have hww2:=zT HW.out.2.1.size hb.size;by_cases hlt2:j<m
    ·(have hjM:j<M.length:=by have:=HMM.out.2.2;omega);obtain⟨A',c',hA,_,_,hso⟩:=hslr;(obtain⟨rfl,-,rfl⟩:A10=A'∧m=M.length∧k10=c':=by simpa using hA);clear hA;obtain⟨b,off,rfl,hbb,hcs⟩:=hso (by omega);obtain⟨c0,c1,c2⟩:=zs3 (hcs j hjM);have c3':=hcs j hjM 3 (by omega);have c4:=hcs j hjM 4 (by omega);simp only[eCSN,qB,qC,Nat.add_zero] at c0 c1 c2 c3' c4;clear hcs hso hbb;(have hj1:(j:Int)<m:=by omega);have hqz:=HI.out.2.2 _ (zP hjM);(have hst:L.map Prod.fst++(M.take (j+1)).map Prod.fst=L.map Prod.fst++(M.take j).map Prod.fst++[M[j].1]:=by rw[zG hjM,List.map_append,zV];rfl);obtain⟨⟨q,⟨kd,md,tm,dt⟩⟩,hx⟩:∃x,M[j]=x:=⟨_,rfl⟩;simp only[hx] at c0 c1 c2 c3' c4 hqz hst;clear hx;have hba:=(zR wr.heap.size wr).alloc (zN _) (.cells #[.string q,.int .i64 kd,.int .i64 md,.int .u32 tm,.string dt] 59);have HPU:=zH (psI_put (hP.below hba) (by simp;omega) (by rw[zF,zS,zS,zL];have:=HN.out;omega) q (fun x hx=>by
      rcases List.mem_append.1 hx with hx | hx
      ·obtain⟨m,hm,rfl⟩:=List.mem_map.1 hx;exact HI.out.2.1 m hm
      ·obtain⟨m,hm,rfl⟩:=List.mem_map.1 hx;exact HI.out.2.2 m (List.mem_of_mem_take hm)) hqz)
     have H1:=zH (zA (hb.trans (hba.mono hb.size)) (hb10.trans (hba.mono hb10.size)));have HST:=zH hst;clear hb hb10 hba hP hst hqz;(go_wp2_with fail);refine HPU.out.mono ?_;rintro e w7 ⟨⟨u,rfl,hP7⟩,hb7⟩;rw[←HST.out] at hP7;have H7:=zH (zA (H1.out.1.trans (hb7.mono H1.out.1.size)) (zA (H1.out.2.trans (hb7.mono H1.out.2.size)) hP7));clear hb7 hP7 HPU H1;(go_wp2_with fail);go_roundw
     case rel=>exact⟨j+1,by omega,by go_num,H7.out.1,H7.out.2.1,H7.out.2.2⟩
     case measure=>simp [intOf];omega
    ·(obtain rfl:j=m:=by omega);have hf:M.take j=M:=zO (by have:=HMM.out.2.2;omega);rw[hf] at hP;have HF:=zH (zA hP (HW.out.2.1.trans (hb.mono HW.out.2.1.size)));clear hf hP hb hb10 hslr;(go_wp2_with fail);go_ret;exact⟨⟨_,rfl,by rw[HLE.out,HME.out];exact HF.out.1⟩,HF.out.2⟩
theorem refPathsP_any (w:World)(u1 u2:Value)(l1 l2:List MkE)(h1:SlV w 6 eCM u1 l1)(h2:SlV w 6 eCM u2 l2)(hn1:l1.length≤100)(hn2:l2.length≤100)(hz1:∀m∈l1++l2,m.1.size≤90000)
  (v1 v2:Value) (xs ys:List NE) (g1:SlV w 5 eCSN v1 xs) (g2:SlV w 5 eCSN v2 ys) (hm1:xs.length≤100) (hm2:ys.length≤100) (hz2:∀m∈xs++ys,m.1.size≤90000):
  Calls Tryz.prog 69 #[.agg #[u1,u2],v1,v2] w fun e w'=>PathsAns w' w.heap.size ((l1++l2).map Prod.fst++(xs++ys).map Prod.fst) e∧Below w.heap.size w w':=by
 refine(refPathsPsI_any w u1 u2 l1 l2 h1 h2 hn1 hn2 hz1 v1 v2 xs ys g1 g2 hm1 hm2 hz2).mono ?_;rintro e w' ⟨⟨u,rfl,h⟩,hb⟩;exact⟨h.ans,hb⟩
end Go.Proofs.YtnpehjgnplaabaaGreatDoor
namespace Sw
open Go
theorem findM_app (l1 l2:List MkE)(p:ByteArray):findM (l1++l2) p=if(findM l1 p).isSome=true then findM l1 p else findM l2 p:=by
 unfold findM;rw[List.find?_append];cases h:l1.find? (fun m=>decide (m.1=p)) with
 | none=>simp
 | some x=>simp
end Sw
namespace Go.Proofs.YtnpehjgnplaabaaGreatDoor
open Go Go.RowKit
open Sw
theorem refFindM_any (w:World)(u1 u2:Value)(l1 l2:List MkE)(p:ByteArray)(h1:SlV w 6 eCM u1 l1)(h2:SlV w 6 eCM u2 l2)(hl1:l1.length≤100000)(hl2:l2.length≤100000):
  Calls Tryz.prog 38 #[.agg #[u1,u2],.string p] w fun e w'=>e= .returned (.tuple #[.agg ((findM (l1++l2) p).getD ⟨0,0,0,0,0⟩).c,.bool (findM (l1++l2) p).isSome])∧Below w.heap.size w w':=by
 obtain⟨W0,hW0⟩:∃W0,(w.alloc (.cells #[u1,u2] 24)).alloc (.cells #[.int .i64 0,.int .i64 0,.int .u32 0,.int .i64 0,.int .u32 0] 61)=W0:=⟨_,rfl⟩;have hb2:Below w.heap.size w W0:=by rw[←hW0];exact((zR _ w).alloc (zN _) _).alloc (by simp) _
 have hR0:Blk W0 (w.heap.size+1) 61 #[.int .i64 0,.int .i64 0,.int .u32 0,.int .i64 0,.int .u32 0]:=by rw[←hW0];exact blk_snd _ _ _ _
 have hB0:Blk W0 w.heap.size 24 #[u1,u2]:=by rw[←hW0];exact blk_fst _ _ _ _
 have HG1:=zH (refGet26_any W0 u1 l1 p (h1.below hb2 (zN _)) (by omega));have HS2:=zH h2;have HB:=zH (zA hb2 (zA hR0 hB0));have HW0:=zH hW0;have q0:=hB0.cell 0;simp at q0
 obtain⟨A1,k1,rfl,_,_,_⟩:=h1;obtain⟨A2,k2,rfl,_,_,_⟩:=h2;have HF:=zH (findM_app l1 l2 p);generalize findM (l1++l2) p=ff at*;obtain⟨f1,hf1⟩:∃f,findM l1 p=f:=⟨_,rfl⟩;rw[hf1] at HG1 HF;clear hb2 hR0 hW0 hB0 hl1 hf1;generalize l1.length=n1 at*;obtain⟨n2,hn2⟩:∃n,l2.length=n:=⟨_,rfl⟩;rw[hn2] at HB HS2 HW0⊢;have HN2:=zH hn2;clear hn2;obtain⟨⟨pk,pm,pt,ps,pu⟩,hpp⟩:∃x,f1.getD ⟨0,0,0,0,0⟩=x:=⟨_,rfl⟩;obtain⟨bb,hbb⟩:∃b,f1.isSome=b:=⟨_,rfl⟩;rw[hpp,hbb] at HG1;simp only[Pr.c] at HG1;rw[hbb] at HF;have HPP:=zH (zA hpp hbb);clear hpp hbb;go_enter Tryz.func38,Tryz.ntmps38
 go_upto_region 1 with fail
 rw[HW0.out];go_wp2_with fail
 refine HG1.out.mono ?_;rintro e w1 ⟨rfl,hb1⟩;have hba:Below w1.heap.size w1 (w1.alloc (.cells #[.int .i64 pk,.int .i64 pm,.int .u32 pt,.int .i64 ps,.int .u32 pu] 61)):=(zR _ w1).alloc (zN _) _;have hb3:=hb1.trans (hba.mono hb1.size);have H1:=zH (zA (HB.out.1.trans (hb3.mono HB.out.1.size)) (zA (HB.out.2.1.below hb3 HB.out.2.1.lt) (HB.out.2.2.below hb3 HB.out.2.2.lt)));clear hb1 hba hb3 HG1 q0;cases bb with
 | true=>
  obtain⟨x0,x1,x2,x3,x4⟩:=zc5 H1.out.2.1;simp at x0 x1 x2 x3 x4
  obtain⟨f0,f1,f2,f3,f4⟩:=zf5 H1.out.2.1;go_wp2_with fail
  refine bodyPost_ret (res_blk_tmp rfl _ _ (w.heap.size+1) 61 #[.int .i64 pk,.int .i64 pm,.int .u32 pt,.int .i64 ps,.int .u32 pu] _ rfl (((((H1.out.2.1.put 0 (.int .i64 pk)).put 1 (.int .i64 pm)).put 2 (.int .u32 pt)).put 3 (.int .i64 ps)).put 4 (.int .u32 pu)) Tryz.underlying61 rfl (by kernel_rfl)) rfl ⟨?_,?_⟩
  ·have h1:=HF.out;rw[if_pos trivial] at h1;rw[h1,HPP.out.1,HPP.out.2];rfl
  ·exact((((H1.out.1.setCell (p:=⟨w.heap.size+1,0,none⟩) (Nat.le_succ _) (.int .i64 pk)).setCell (p:=⟨w.heap.size+1,1,none⟩) (Nat.le_succ _) (.int .i64 pm)).setCell (p:=⟨w.heap.size+1,2,none⟩) (Nat.le_succ _) (.int .u32 pt)).setCell (p:=⟨w.heap.size+1,3,none⟩) (Nat.le_succ _) (.int .i64 ps)).setCell (p:=⟨w.heap.size+1,4,none⟩) (Nat.le_succ _) (.int .u32 pu)
 | false=>
  have q1:=H1.out.2.2.cell 1;simp at q1
  have HG2:=zH (refGet26_any _ (.slice A2 n2 k2) l2 p (HS2.out.below H1.out.1 (zN _)) (by have:=HN2.out;omega));obtain⟨f2,hf2⟩:∃f,findM l2 p=f:=⟨_,rfl⟩;rw[hf2] at HG2 HF;clear hf2;obtain⟨⟨qk,qm,qt,qs,qu⟩,hqq⟩:∃x,f2.getD ⟨0,0,0,0,0⟩=x:=⟨_,rfl⟩;obtain⟨b2,hb2⟩:∃b,f2.isSome=b:=⟨_,rfl⟩;rw[hqq,hb2] at HG2;simp only[Pr.c] at HG2;have HQQ:=zH (zA hqq hb2);clear hqq hb2;go_wp2_with fail
  refine HG2.out.mono ?_;rintro e w3 ⟨rfl,hb3⟩;have H3:=zH (zA (H1.out.1.trans (hb3.mono H1.out.1.size)) (H1.out.2.1.below hb3 H1.out.2.1.lt));clear hb3 q1 HG2;obtain⟨x0,x1,x2,x3,x4⟩:=zc5 H3.out.2;simp at x0 x1 x2 x3 x4
  obtain⟨g0,g1,g2,g3,g4⟩:=zf5 H3.out.2;go_wp2_with fail
  refine bodyPost_ret (res_blk_tmp rfl _ _ (w.heap.size+1) 61 #[.int .i64 qk,.int .i64 qm,.int .u32 qt,.int .i64 qs,.int .u32 qu] _ rfl (((((H3.out.2.put 0 (.int .i64 qk)).put 1 (.int .i64 qm)).put 2 (.int .u32 qt)).put 3 (.int .i64 qs)).put 4 (.int .u32 qu)) Tryz.underlying61 rfl (by kernel_rfl)) rfl ⟨?_,?_⟩
  ·have h1:=HF.out;rw[if_neg (by decide)] at h1;rw[h1,HQQ.out.1,HQQ.out.2];rfl
  ·exact((((H3.out.1.setCell (p:=⟨w.heap.size+1,0,none⟩) (Nat.le_succ _) (.int .i64 qk)).setCell (p:=⟨w.heap.size+1,1,none⟩) (Nat.le_succ _) (.int .i64 qm)).setCell (p:=⟨w.heap.size+1,2,none⟩) (Nat.le_succ _) (.int .u32 qt)).setCell (p:=⟨w.heap.size+1,3,none⟩) (Nat.le_succ _) (.int .i64 qs)).setCell (p:=⟨w.heap.size+1,4,none⟩) (Nat.le_succ _) (.int .u32 qu)
end Go.Proofs.YtnpehjgnplaabaaGreatDoor
