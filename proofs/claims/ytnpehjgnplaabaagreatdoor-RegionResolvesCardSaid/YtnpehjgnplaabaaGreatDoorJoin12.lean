/- Several texts of ours, joined. -/
import Derived.Test.YtnpehjgnplaabaaGreatDoorJoin1
import Derived.Test.YtnpehjgnplaabaaGreatDoorJoin11
import Derived.Test.YtnpehjgnplaabaaGreatDoorJoin5
import Derived.Test.YtnpehjgnplaabaaGreatDoorJoin3
import Derived.Test.YtnpehjgnplaabaaGreatDoorJoin4
set_option linter.unusedVariables false
set_option linter.unusedSimpArgs false
set_option maxRecDepth 100000
set_option maxHeartbeats 64000000
namespace Go.Proofs.YtnpehjgnplaabaaGreatDoor
open Go Go.RowKit Go.Shelf
open Sw
attribute [local go_sem] Oper.semAt_some
def FiI (B0:Nat) (w0:World) (gsb gs bt bt2 m0 m1 mc:Nat) (policy:Int) (xs ys:List NE) (pre:List StR) (W:World):Prop:=
 (∃pv,RgAt B0 W gs bt bt2 m0 m1 mc (2*pre.length) policy pv (.slice none 0 0) (pre.map (firstN policy xs ys)) [])∧Blk W gsb 70 #[.pointer (some ⟨gs,0,none⟩)]∧Below B0 w0 W
def CFi (gsb gs n0:Nat) (cs xcs:Array Value) (V:World):Prop:=Blk V gsb 70 #[.pointer (some ⟨gs,0,none⟩)]∧Blk V gs 76 cs∧Blk V n0 119 xcs
theorem CFi.below {gsb gs n0:Nat}{cs xcs:Array Value}{V V':World}(h:CFi gsb gs n0 cs xcs V)(hb:Below V.heap.size V V'):CFi gsb gs n0 cs xcs V':=⟨h.1.below hb h.1.lt,h.2.1.below hb h.2.1.lt,h.2.2.below hb h.2.2.lt⟩
theorem regFirst_any (B0:Nat)(w:World)(gs bt bm bt2 bm2 m0 m1 mc:Nat)(policy:Int)(u1 u2:Value)(l1 l2:List MkE)(xs ys:List NE)
  (h:RgAt B0 w gs bt bt2 m0 m1 mc 0 policy (.slice none 0 0) (.slice none 0 0) [] []) (hT:∀W,Below B0 w W→TreeAt W bt bm xs) (hT2:∀W,Below B0 w W→TreeAt W bt2 bm2 ys) (h1:∀W,Below B0 w W→SlV W 6 eCM u1 l1) (h2:∀W,Below B0 w W→SlV W 6 eCM u2 l2)
  (hl1:l1.length≤1000) (hl2:l2.length≤1000) (hp1:∀m∈l1,m.1.size≤90000) (hp2:∀m∈l2,m.1.size≤90000) (hxl:xs.length≤1000) (hyl:ys.length≤1000) (hxd:∀e∈xs,e.2.data.size≤maxLen) (hyd:∀e∈ys,e.2.data.size≤maxLen):
  Calls Tryz.prog 26 #[.pointer (some ⟨gs,0,none⟩),.agg #[u1,u2]] w fun e w'=>e= .returned (.tuple #[])∧∃pv,RgAt B0 w' gs bt bt2 m0 m1 mc 12000 policy pv (.slice none 0 0) (beginN policy (l1++l2) xs ys) []∧Below B0 w w':=by
 have hxp:∀e∈xs,e.1.size≤90000:=fun e he=>(hT w (zR _ _)).ok (n:=e.2) he
 have hyp:∀e∈ys,e.1.size≤90000:=fun e he=>(hT2 w (zR _ _)).ok (n:=e.2) he
 have hpz:∀p∈pathsS ((l1++l2).map Prod.fst++xs.map Prod.fst++ys.map Prod.fst),p.size≤90000:=fun p hp=>by
  rw[pathsS_mem,List.mem_append,List.mem_append] at hp;rcases hp with (hp | hp) | hp
  ·obtain⟨m,hm,rfl⟩:=List.mem_map.1 hp;exact(List.mem_append.1 hm).elim (hp1 m) (hp2 m)
  ·obtain⟨e,he,rfl⟩:=List.mem_map.1 hp;exact hxp e he
  ·obtain⟨e,he,rfl⟩:=List.mem_map.1 hp;exact hyp e he
 have hlen:(allR (l1++l2) xs ys).length≤6000:=by
  unfold allR;rw[zS];exact zT (pathsS_len _) (by simp only[zF,zS];omega)
 have hB0w:B0≤w.heap.size:=zT (h:RgIn _ _ _ _ _ _ _ _ _ _ _ _ _ _ _ _ _).bs (Nat.le_of_lt (h:RgIn _ _ _ _ _ _ _ _ _ _ _ _ _ _ _ _ _).box.lt);obtain⟨W,hW⟩:∃W,(w.alloc (.cells #[.pointer (some ⟨gs,0,none⟩)] 70)).alloc (.cells #[u1,u2] 24)=W:=⟨_,rfl⟩;have hb0:Below w.heap.size w W:=by rw[←hW];exact((zR _ w).alloc (zN _) _).alloc (by simp) _
 have hBs:Blk W w.heap.size 70 #[.pointer (some ⟨gs,0,none⟩)]:=by rw[←hW];exact blk_fst _ _ _ _
 have hBb:Blk W (w.heap.size+1) 24 #[u1,u2]:=by rw[←hW];exact blk_snd _ _ _ _
 have hrW:=(h:RgIn _ _ _ _ _ _ _ _ _ _ _ _ _ _ _ _ _).below hb0;have HTE:=zH (fun V (hb:Below B0 w V) (hgs:gs<V.heap.size) (hcap:∀g,Cap V gs g→g<V.heap.size) gB gl gr (hE:EachAt V gB gl gr bt bm bt2 bm2 u1 u2 xs ys)=>SeqTells.into (each_tellsG 8 (by omega) tsG keepOkG B0 V gs hgs hcap (zT hB0w hb.size) gB gl gr bt bm bt2 bm2 u1 u2 l1 l2 xs ys hE (fun U hU=>h1 U (hb.trans hU)) (fun U hU=>h2 U (hb.trans hU)) hl1 hl2 hp1 hp2 hxl hyl hxd hyd));have HTR:=zH (zA hT hT2);have s1:=h1 w (zR _ _);have s2:=h2 w (zR _ _);obtain⟨A1,c1,rfl,-,-,-⟩:=s1;obtain⟨A2,c2,rfl,-,-,-⟩:=s2;have HE:=zH (fun V=>reconEach_any V (.slice A1 l1.length c1) (.slice A2 l2.length c2) bt bt2 A1 A2 _ _ _ _ rfl rfl);obtain⟨ans,hans⟩:∃a,allR (l1++l2) xs ys=a:=⟨_,rfl⟩;have HFS:=zH (fun pre r x (hh:pre++x::r=ans)=>first_snoc (policy:=policy) (L:=l1++l2) (xs:=xs) (ys:=ys) (pre:=pre) (r:=r) (x:=x) (by rw[hans];exact hh));have HBE:=zH (show beginN policy (l1++l2) xs ys=ans.map (firstN policy xs ys) by unfold beginN;rw[hans]);have HPZ:=zH hpz;rw[hans] at HTE hlen;have q0:=hBb.cell 0;have q1:=hBb.cell 1;have q2:=hBs.cell 0;obtain⟨r0,r1⟩:=zc2 hrW.box;simp only[qA,qB,qC] at q0 q1 q2 r0 r1;have hgl:=hrW.box.lt;have HC0:=zH (Aft.start W);have k0:∀m:Held (Aft W),(HeldW m).cell? ⟨w.heap.size+1,0,none⟩=some (.slice A1 l1.length c1):=fun m=>(Aft.cell m hBb.lt).trans q0
 have k1:∀m:Held (Aft W),(HeldW m).cell? ⟨w.heap.size+1,1,none⟩=some (.slice A2 l2.length c2):=fun m=>(Aft.cell m hBb.lt).trans q1
 have k2:∀m:Held (Aft W),(HeldW m).cell? ⟨w.heap.size,0,none⟩=some (.pointer (some ⟨gs,0,none⟩)):=fun m=>(Aft.cell m hBs.lt).trans q2
 have k3:∀m:Held (Aft W),(HeldW m).cell? ⟨gs,0,none⟩=some (.pointer (some ⟨bt,0,none⟩)):=fun m=>(Aft.cell m hgl).trans r0
 have k4:∀m:Held (Aft W),(HeldW m).cell? ⟨gs,1,none⟩=some (.pointer (some ⟨bt2,0,none⟩)):=fun m=>(Aft.cell m hgl).trans r1
 have H0:=zH (zA hrW (zA hBs (zA hBb hb0)));have HW:=zH hW;obtain⟨n1,hn1⟩:∃n,l1.length=n:=⟨_,rfl⟩;obtain⟨n2,hn2⟩:∃n,l2.length=n:=⟨_,rfl⟩;simp only[hn1,hn2] at HE HW H0 HTE k0 k1⊢;rw[HBE.out];clear h hT hT2 h1 h2 hp1 hp2 hxd hyd hxp hyp hpz hW hb0 hBs hBb hrW q0 q1 q2 r0 r1 hgl hans hn1 hn2;refine callsIn_wide.1 (?_:CallsIn Fence.wide 9 _ _ _ _ _);refine callsIn_of_wp_marks Tryz.func26 rfl trivial ?_ rfl;simp only[Tryz.ntmps26,List.size_toArray,zI,List.length_nil,Nat.reduceAdd,Nat.reduceSub,Array.replicate_succ,Array.replicate_zero,List.push_toArray,List.append_toArray,List.nil_append,List.cons_append];refine wpIn_wide.2 ?_;go_upto_region 1 with fail
 rw[HW.out];refine wp_region_mix (Aft W) [(0,true),(1,true),(2,true),(3,true),(4,true),(5,true),(6,true),(7,true),(8,true),(9,true),(10,true),(11,false)] (by kernel_rfl) (by kernel_rfl) ?_;simp only[pickP,List.filterMap_cons,List.filterMap_nil,qA,qB,qC,Option.map_some];repeat (apply mix_first;apply Exists.intro;refine⟨fun m=>?_,HC0.out,?_⟩;·(go_big_quiet_step (fail);exact wpQuiet_nil rfl))
 clear k0 k1 k2 k3 k4;refine mix_forced HC0.out ?_;go_wp2_with fail
 refine(HE.out W.drew).mono ?_;rintro e w1 ⟨rfl,hw1⟩;obtain⟨V,hV⟩:∃V,W.drew=V:=⟨_,rfl⟩;rw[hV] at hw1 HC0⊢;have hVW:Below W.heap.size W V:=HC0.out;have hb1:Below V.heap.size V w1:=by rw[hw1];exact(((zR _ V).alloc (zN _) _).alloc (by simp) _).alloc (by simp;omega) _
 have hWw1:Below W.heap.size W w1:=hVW.trans (hb1.mono hVW.size);have hww1:Below w.heap.size w w1:=H0.out.2.2.2.trans (hWw1.mono H0.out.2.2.2.size);have hB1:Below B0 w w1:=hww1.mono hB0w;have hE1:EachAt w1 V.heap.size (V.heap.size+1) (V.heap.size+1+1) bt bm bt2 bm2 (.slice A1 n1 c1) (.slice A2 n2 c2) xs ys:=by
  refine⟨?_,?_,?_,HTR.out.1 w1 hB1,HTR.out.2 w1 hB1⟩
  ·rw[hw1];exact(blk_fst _ _ _ _).alloc _
  ·rw[hw1];exact(blk_snd _ _ _ _).alloc _
  ·rw[hw1];exact blk_trd _ _ _ _ _
 have hr1:=H0.out.1.below hWw1;have hcap:∀g,Cap w1 gs g→g<w1.heap.size:=fun g hc=>by
  obtain⟨t,cs,i,v,hb,hi,hv⟩:=hc;have hbx:=hr1.box;unfold Blk at hb hbx;rw[hbx] at hb;cases hb
  have hlt:i<8:=by
   have:=(Array.getElem?_eq_some_iff.1 hi).1
   simpa using this
  have hi':i=0∨i=1∨i=2∨i=3∨i=4∨i=5∨i=6∨i=7:=by omega
  rcases hi' with rfl | rfl | rfl | rfl | rfl | rfl | rfl | rfl<;>(simp at hi;subst hi;simp [Value.ownBlock] at hv)
 have HTE1:=zH (HTE.out w1 hB1 hr1.box.lt hcap _ _ _ hE1);have hI0:FiI B0 w w.heap.size gs bt bt2 m0 m1 mc policy xs ys [] w1:=⟨⟨_,hr1⟩,H0.out.2.1.below hWw1 H0.out.2.1.lt,hB1⟩;have HI0:=zH hI0;have hlt4:gs<w1.heap.size∧m0<w1.heap.size∧m1<w1.heap.size∧mc<w1.heap.size:=⟨hr1.box.lt,hr1.mA.lt,hr1.mB.lt,hr1.mC.lt⟩;have hsb:w.heap.size<w1.heap.size:=(H0.out.2.1.below hWw1 H0.out.2.1.lt).lt;have HL4:=zH (zA hlt4 hsb);have HIO:=zH (show OwnM (fun _=>False) w1.heap.size (FiI B0 w w.heap.size gs bt bt2 m0 m1 mc policy xs ys) from OwnM.of_none (fun s A B row hs hg hr=>⟨by
   obtain⟨pv,hp⟩:=hs.1;exact⟨pv,RgIn.ownF hp hlt4 hg hr⟩,blk_ownF hs.2.1 hg (fun r e=>(hr r e).2),hs.2.2.grown hg (zT hB0w hs.2.2.size) (fun k hk=>zT (zT hB0w hww1.size) (hr k hk).1)⟩))
 have HAF:=zH hWw1;clear hw1 hb1 hWw1 hE1 hr1 hcap HTE HE H0 hI0 hVW;go_wp2_with fail
 show mixC ..
 refine mix_nil (show Aft W w1 from HAF.out) ?_;go_wp2_with fail
 refine(wpIn_wide (n:=9)).1 ?_;refine wpIn_rangeFunc_in (Mine:=fun _=>False) (fun _ h=>h.elim) rfl (by omega) (gf:=91) (lb:= #[.pointer (some ⟨V.heap.size,0,none⟩),.pointer (some ⟨V.heap.size+1,0,none⟩),.pointer (some ⟨V.heap.size+1+1,0,none⟩)]) rfl trivial (enters_of Tryz.func91 (by kernel_rfl) rfl)
  HTE1.out KeepG.trans (fun W l o o' hl h=>keepG_b _ (zT (zT hB0w hww1.size) hl) (zQ HL4.out.1.1 hl) h rfl) (zR _ _) (fun _=>rfl)
  (FiI B0 w w.heap.size gs bt bt2 m0 m1 mc policy xs ys)
  (fun c pre W=>False)
  HIO.out
  (fun c=>OwnM.of_none (fun _ _ _ _ hs _ _=>hs.elim))
  HI0.out
  ?a1 (fun x W=>W.alloc (.cells (eCR x).toArray 119))
  (fun x n₀ pre W=>FiI B0 w w.heap.size gs bt bt2 m0 m1 mc policy xs ys pre W∧Blk W n₀ 119 (eCR x).toArray) (fun x n₀=>HIO.out.and (OwnM.of_none (Own.from (fun _ A B row hs hg hr=>blk_ownF hs hg hr) _))) ?made ?assign ?body ?done ?stop
 case assign=>
  intro l x n0 W hn K hK;simp only[eCR];gi_wp2
  exact hK
 case made=>
  rintro pre x W hI hTl;have hba:=(zR W.heap.size W).alloc (zN _) (.cells (eCR x).toArray 119);obtain⟨⟨pv,hp⟩,hbs,hbl⟩:=hI;exact⟨⟨⟨⟨pv,RgIn.below hp hba⟩,hbs.below hba hbs.lt,hbl.trans (hba.mono (zT hB0w hbl.size))⟩,Blk.new _ _ _⟩,keeps_belowF hba,KeepG.below hba (zT hB0w hbl.size) (RgIn.box hp).lt⟩
 case body=>
  rintro l pre x n₀ W ⟨⟨⟨pv,hp⟩,hbs,hbl⟩,hX⟩ hTl hszW;obtain⟨r,hr⟩:=hTl;obtain⟨hnm,hcl,hpm,hpth⟩:=HFS.out pre r x (by rw[←hr];simp);have hqz:=HPZ.out _ hpm;have hpl:pre.length+1≤6000:=by have:=congrArg List.length hr;simp at this;omega
  have hfx:(pre++[x]).map (firstN policy xs ys)=pre.map (firstN policy xs ys)++[firstN policy xs ys x]:=by rw[List.map_append];rfl
  obtain⟨nx,hnx⟩:∃n,firstN policy xs ys x=n:=⟨_,rfl⟩;have hfn:chosenN xs ys (sideF policy x) x.path (if x.verdict=3 then x.cls else 0)=nx:=hnx;have hsf:sideF policy x=if x.verdict=1 then 2 else if x.verdict=2 then 1 else if x.verdict=3 then sideN policy (oneN x.path x.left) (oneN x.path x.right) else 0:=rfl
  rw[hnx] at hfx;clear hr hpm hnx;have hlen1:(pre++[x]).length=pre.length+1:=by simp
  obtain⟨q,vd,cl,⟨ak,am,at',ad⟩,⟨ck,cm,ct,cd⟩⟩:=x;simp only at hnm hcl hqz hfn hsf;obtain⟨side,hsd⟩:∃s,sideF policy ⟨q,vd,cl,⟨ak,am,at',ad⟩,⟨ck,cm,ct,cd⟩⟩=s:=⟨_,rfl⟩;rw[hsd] at hfn hsf;clear hsd;have hnp:nx.path=q:=by rw[←hfn];rfl
  have hqk:okT q:=zT hqz (by unfold maxLen;omega);obtain⟨L,hL⟩:∃L,pre.map (firstN policy xs ys)=L:=⟨_,rfl⟩;rw[hL] at hnm hfx hpth hp;obtain⟨N,hN⟩:∃n,pre.length=n:=⟨_,rfl⟩;have hLl:(L.map NP.path).length=N:=by rw[←hL,zS,zS,hN]
  rw[hN] at hp hpl hlen1;unfold RgAt at hp;have hrp:=hp.rp;rw[hLl] at hrp;obtain⟨Ap,cp,rfl,-,-,-⟩:=SlV_of_any hrp;have hB0W:B0≤W.heap.size:=zT hB0w hbl.size;simp only[eCR,List.toArray] at hX;have hlkA:lkN NP.left (L++[nx])=updV (lkN NP.left L) q (.agg nx.left.c):=by rw[←hnp];exact lkN_append (by rw[hnp];exact hnm)
  have hlkB:lkN NP.right (L++[nx])=updV (lkN NP.right L) q (.agg nx.right.c):=by rw[←hnp];exact lkN_append (by rw[hnp];exact hnm)
  have hlkC:lkC (L++[nx])=if nx.cls=0 then lkC L else updV (lkC L) q (.int .i64 nx.cls):=by rw[←hnp];exact lkC_append (by rw[hnp];exact hnm)
  have hpx:(L++[nx]).map NP.path=L.map NP.path++[q]:=by rw[List.map_append,←hnp];rfl
  have hclose:∀(W4 W5:World) (pv4:Value) (M:Nat) (fc4:ByteArray→Option Value),M+1≤2*N+2→RgIn B0 W4 gs bt bt2 m0 m1 mc M policy pv4 (.slice none 0 0) (L.map NP.path++[q]) [] (lkN NP.left L) (lkN NP.right L) fc4→fc4=lkC (L++[nx])→MapV W5 Tryz.prog 9 litT okT m0 (M+1) (updV (lkN NP.left L) q (.agg (chosenN xs ys side q 0).left.c))→MapV W5 Tryz.prog 9 litT okT m1 (M+1) (updV (lkN NP.right L) q (.agg (chosenN xs ys side q 0).right.c))→TurnB (mapsF m0 m1) W4 W5→TurnB (fun i=>i=gs∨i=m0∨i=m1∨i=mc∨(Value.slice Ap N cp).ownBlock=some i) W W4→(∀g,pv4.ownBlock=some g→(Value.slice Ap N cp).ownBlock=some g∨W.heap.size≤g)→Blk W4 w.heap.size 70 #[.pointer (some ⟨gs,0,none⟩)]→
    KeepsFrom w1.heap.size W W5∧KeepG B0 tsG 9 gs W W5∧FiI B0 w w.heap.size gs bt bt2 m0 m1 mc policy xs ys (pre++[⟨q,vd,cl,⟨ak,am,at',ad⟩,⟨ck,cm,ct,cd⟩⟩]) W5:=fun W4 W5 pv4 M fc4 hM hR4 hfc hA hB ht45 htW hpv hbs4=>by
   (have e1:(chosenN xs ys side q 0).left=nx.left:=by rw[←hfn];rfl);(have e2:(chosenN xs ys side q 0).right=nx.right:=by rw[←hfn];rfl);rw[e1,←hlkA] at hA;rw[e2,←hlkB] at hB;have hR5:=(hR4.maps ht45 (Nat.le_succ M) hA hB).more hM;have htn:TurnB (fun i=>i=gs∨i=m0∨i=m1∨i=mc∨(Value.slice Ap N cp).ownBlock=some i) W W5:=htW.trans ht45 (fun j hj=> .inl (.inr (by rcases hj with rfl | rfl;exact .inl rfl;exact .inr (.inl rfl))));have hkg:=keepG_reg hp hR5 htn hpv;refine⟨keepsF_reg hp HL4.out.1 htn,hkg,⟨⟨pv4,?_⟩,?_,hbl.trans hkg.keep.low⟩⟩
   ·unfold RgAt;rw[hfx,hpx,hlen1,←hfc];have:=hR5;rw[show 2*(N+1)=2*N+2 by omega];exact this
   ·refine hbs4.turnB ht45 (fun hf=>?_);rcases hf with e | e
    ·exact map_noblk hR4.mA (e▸hbs4)
    ·exact map_noblk hR4.mB (e▸hbs4)
  have HCL:=zH hclose;clear hclose;have hC:CFi w.heap.size gs n₀ #[.pointer (some ⟨bt,0,none⟩),.pointer (some ⟨bt2,0,none⟩),.int .i64 policy,.slice Ap N cp,.map (some m0),.map (some m1),.map (some mc),.slice none 0 0] #[.string q,.int .i64 vd,.int .i64 cl,.int .i64 ak,.int .i64 am,.int .u32 at',.string ad,.int .i64 ck,.int .i64 cm,.int .u32 ct,.string cd] W.drew:=⟨hbs.drew,hp.box.drew,hX.drew⟩;have HC:=zH hC;have HP:=zH (zA hp (zA hbs (zA hbl (zA hX hrp))));have HQ:=zH (zA hnm (zA hcl (zA hqz (zA hqk (zA hfn (zA hsf (zA hlkC hLl)))))));clear hp hbs hbl hX hrp hnm hcl hfn hsf hlkA hlkB hlkC hpx hpth hfx hL hC hLl hnp hlen1;gi_wp2
  have q0:∀m:Held (CFi w.heap.size gs n₀ #[.pointer (some ⟨bt,0,none⟩),.pointer (some ⟨bt2,0,none⟩),.int .i64 policy,.slice Ap N cp,.map (some m0),.map (some m1),.map (some mc),.slice none 0 0] #[.string q,.int .i64 vd,.int .i64 cl,.int .i64 ak,.int .i64 am,.int .u32 at',.string ad,.int .i64 ck,.int .i64 cm,.int .u32 ct,.string cd]),(HeldW m).cell? ⟨w.heap.size,0,none⟩=some (.pointer (some ⟨gs,0,none⟩)):=fun m=>by have:=(HeldW_spec m).1.cell 0;simpa using this
  have q1:∀m:Held (CFi w.heap.size gs n₀ #[.pointer (some ⟨bt,0,none⟩),.pointer (some ⟨bt2,0,none⟩),.int .i64 policy,.slice Ap N cp,.map (some m0),.map (some m1),.map (some mc),.slice none 0 0] #[.string q,.int .i64 vd,.int .i64 cl,.int .i64 ak,.int .i64 am,.int .u32 at',.string ad,.int .i64 ck,.int .i64 cm,.int .u32 ct,.string cd]),(HeldW m).cell? ⟨gs,3,none⟩=some (.slice Ap N cp):=fun m=>by have:=(HeldW_spec m).2.1.cell 3;simpa using this
  have q2:∀m:Held (CFi w.heap.size gs n₀ #[.pointer (some ⟨bt,0,none⟩),.pointer (some ⟨bt2,0,none⟩),.int .i64 policy,.slice Ap N cp,.map (some m0),.map (some m1),.map (some mc),.slice none 0 0] #[.string q,.int .i64 vd,.int .i64 cl,.int .i64 ak,.int .i64 am,.int .u32 at',.string ad,.int .i64 ck,.int .i64 cm,.int .u32 ct,.string cd]),(HeldW m).cell? ⟨n₀,0,none⟩=some (.string q):=fun m=>by have:=(HeldW_spec m).2.2.cell 0;simpa using this
  refine wpIn_region_mixD (CFi w.heap.size gs n₀ #[.pointer (some ⟨bt,0,none⟩),.pointer (some ⟨bt2,0,none⟩),.int .i64 policy,.slice Ap N cp,.map (some m0),.map (some m1),.map (some mc),.slice none 0 0] #[.string q,.int .i64 vd,.int .i64 cl,.int .i64 ak,.int .i64 am,.int .u32 at',.string ad,.int .i64 ck,.int .i64 cm,.int .u32 ct,.string cd]) [(0,true),(1,true),(2,true),(3,true),(4,true),(5,true),(6,true),(7,false),(8,false),(9,true),(10,true),(11,false)] (by kernel_rfl) (by kernel_rfl) ?_;simp only[pickP,List.filterMap_cons,List.filterMap_nil,qA,qB,qC,Option.map_some];repeat (apply mixD_first;apply Exists.intro;refine⟨fun m=>?_,HC.out,?_⟩;·(go_big_quiet_step (fail);exact wpQuiet_nil rfl))
  obtain⟨U1,hU1⟩:∃U,W.drew.alloc (.cells #[.string q] 9)=U:=⟨_,rfl⟩;obtain⟨gU,hgU⟩:∃g,W.drew.heap.size=g:=⟨_,rfl⟩;have hbU:Below W.drew.heap.size W.drew U1:=by rw[←hU1];exact(zR _ _).alloc (zN _) _
  have hbU0:Below W.heap.size W U1:=(show Below W.heap.size W W.drew from(zR _ W).drew).trans hbU;have hBq:Blk U1 gU 9 #[.string q]:=by rw[←hU1,←hgU];exact Blk.new _ _ _
  have hszU:U1.heap.size=gU+1:=by rw[←hU1,←hgU];simp
  have HU:=zH (zA hbU0 (zA hBq (zA (HC.out.below hbU) hszU)));have HGU:=zH (show gU=W.heap.size by rw[←hgU];rfl);refine mixD_forced HC.out ?_;clear hbU hbU0 hBq hszU;go_wp2_with fail
  show mixD ..
  clear hU1 hgU;refine mixD_forced HU.out.2.2.1 ?_;go_wp2_with (at_builtin;go_loud (refine wpList_app rfl _ _ 34 rfl B0 9 _ _ _ Tryz.underlying34 infoStrR rfl (by decide) _ N ((L.map NP.path).map Value.string) rfl (own_kept HP.out.2.2.2.2 HU.out.1) gU 1 #[.string q] 9 rfl HU.out.2.1 rfl (by simp [Value.oneCell']) (by omega) (by decide) (zT hB0W HU.out.1.size) _ rfl ?_;intro g cap U2 ho2 hg2 hat2 hlt2))
  have hRP:=HP.out.1.path HU.out.1 hg2 HQ.out.2.2.2.2.2.2.2 ho2 hat2;have hC2:CFi w.heap.size gs n₀ #[.pointer (some ⟨bt,0,none⟩),.pointer (some ⟨bt2,0,none⟩),.int .i64 policy,.slice Ap N cp,.map (some m0),.map (some m1),.map (some mc),.slice none 0 0] #[.string q,.int .i64 vd,.int .i64 cl,.int .i64 ak,.int .i64 am,.int .u32 at',.string ad,.int .i64 ck,.int .i64 cm,.int .u32 ct,.string cd] U2:=by
   have hne:∀g' t cs,Blk U1 g' t cs→¬t=9→Blk U2 g' t cs:=fun g' t cs hb ht=>hb.grown hg2 (fun e=>by
    obtain⟨cur,hc⟩:=own_blkB (own_kept HP.out.2.2.2.2 HU.out.1) e.symm;exact Blk.other hb hc ht rfl)
   exact⟨hne _ _ _ HU.out.2.2.1.1 (by decide),hne _ _ _ HU.out.2.2.1.2.1 (by decide),hne _ _ _ HU.out.2.2.1.2.2 (by decide)⟩
  have HC2:=zH hC2;have HRP:=zH (zA hRP hat2);clear hRP hC2 ho2 hg2 hat2 hlt2;show mixD ..
  repeat (apply mixD_first;apply Exists.intro;refine⟨fun m=>?_,HC2.out,?_⟩;·(go_big_quiet_step (fail);exact wpQuiet_nil rfl))
  clear q0 q1 q2;have c3:=HC2.out.2.1.cell 3;have f3:=HC2.out.2.1.frozen 3;simp only[qA,qB,qC] at c3;refine mixD_forced HC2.out ?_;obtain⟨W3,hW3⟩:∃X,U2.setCell ⟨gs,3,none⟩ (.slice (some ⟨g,0,none⟩) (N+1) cap)=X:=⟨_,rfl⟩;have HW3:=zH hW3;clear hW3;go_wp2_with fail
  show mixD ..
  rw[HW3.out];clear c3 f3;refine mixD_nil ?_;have hR3:=HRP.out.1.1;rw[HW3.out] at hR3;have ht3:=HRP.out.1.2;rw[HW3.out] at ht3;have hne3:∀g' t cs,Blk U2 g' t cs→¬t=76→Blk W3 g' t cs:=fun g' t cs hb ht=>by
   (have h9:g'≠gs:=fun e=>Blk.other hb HC2.out.2.1 ht e);have:=zJ U2 ⟨gs,3,none⟩ (.slice (some ⟨g,0,none⟩) (N+1) cap) g' h9;rw[HW3.out] at this;unfold Blk at hb⊢;rw[this,hb]
  have hbs3:=hne3 _ _ _ HC2.out.1 (by decide);have hX3:=hne3 _ _ _ HC2.out.2.2 (by decide);have hpv3:∀g',(Value.slice (some ⟨g,0,none⟩) (N+1) cap).ownBlock=some g'→(Value.slice Ap N cp).ownBlock=some g'∨W.heap.size≤g':=fun g' h=>by
   (have e:g'=g:=by simpa [Value.ownBlock] using h.symm);subst e;rcases HRP.out.2 with e | e
   ·exact .inl e
   ·right;have:=HU.out.2.2.2;have:=HGU.out;omega
  have ht3':TurnB (fun i=>i=gs∨i=m0∨i=m1∨i=mc∨(Value.slice Ap N cp).ownBlock=some i) W W3:=ht3.mono (fun i hi=>hi.elim .inl (fun h=> .inr (.inr (.inr (.inr h)))));have hB3:Below B0 w W3:=HP.out.2.2.1.trans (ht3.to_below hB0W (fun i hi=>hi.elim (fun e=>by rw[e];exact HP.out.1.bs) (fun e=>(HP.out.2.2.2.2.lt i e).1)));have H3:=zH (zA hR3 (zA ht3' (zA hbs3 (zA hX3 (zA hpv3 hB3)))));have x0:=hX3.cell 0;have x1:=hX3.cell 1;have b0:=hbs3.cell 0;simp only[qA,qB,qC] at x0 x1 b0;clear hR3 ht3 hne3 hbs3 hX3 hpv3 ht3' hB3;have HTK:=zH (fun(W4:World) (M:Nat) (fc4:ByteArray→Option Value) (hM:M≤20000) (hR4:RgIn B0 W4 gs bt bt2 m0 m1 mc M policy (.slice (some ⟨g,0,none⟩) (N+1) cap) (.slice none 0 0) (L.map NP.path++[q]) [] (lkN NP.left L) (lkN NP.right L) fc4) (hB4:Below B0 w W4)=>regTake_any W4 gs bt bm bt2 bm2 m0 m1 mc M policy _ _ _ _ xs ys q side hR4.box hR4.mA hR4.mB hR4.n01 (by unfold maxLen;omega) (HTR.out.1 W4 hB4) (HTR.out.2 W4 hB4) (by omega) (by omega) hqz);by_cases hv1:vd=1
  ·subst hv1;have hsd:side=2:=by rw[HQ.out.2.2.2.2.2.1];rfl
   subst hsd;(gi_wp2);(first | refine((callsIn_wide.2 (HTK.out W3 (2*N) _ (by omega) H3.out.1 H3.out.2.2.2.2.2)).inRound l).mono ?_ | refine⟨trivial,((callsIn_wide.2 (HTK.out W3 (2*N) _ (by omega) H3.out.1 H3.out.2.2.2.2.2)).inRound l).mono ?_⟩);rintro e W5 ⟨rfl,hA,hB,ht⟩;(have hcl0:nx.cls=0:=by rw[←HQ.out.2.2.2.2.1];simp [chosenN]);have hfin:=HCL.out W3 W5 _ (2*N) _ (by omega) H3.out.1 (by rw[HQ.out.2.2.2.2.2.2.1,if_pos hcl0]) hA hB ht H3.out.2.1 H3.out.2.2.2.2.1 H3.out.2.2.1;have HFIN:=zH hfin;clear hfin hA hB ht hcl0;(gi_wp2);exact HFIN.out
  ·have t1:(vd==1)=false:=by simpa using hv1
   by_cases hv2:vd=2
   ·subst hv2;(have hsd:side=1:=by rw[HQ.out.2.2.2.2.2.1];rfl);subst hsd;(gi_wp2);(first | refine((callsIn_wide.2 (HTK.out W3 (2*N) _ (by omega) H3.out.1 H3.out.2.2.2.2.2)).inRound l).mono ?_ | refine⟨trivial,((callsIn_wide.2 (HTK.out W3 (2*N) _ (by omega) H3.out.1 H3.out.2.2.2.2.2)).inRound l).mono ?_⟩);rintro e W5 ⟨rfl,hA,hB,ht⟩;(have hcl0:nx.cls=0:=by rw[←HQ.out.2.2.2.2.1];simp [chosenN]);have hfin:=HCL.out W3 W5 _ (2*N) _ (by omega) H3.out.1 (by rw[HQ.out.2.2.2.2.2.2.1,if_pos hcl0]) hA hB ht H3.out.2.1 H3.out.2.2.2.2.1 H3.out.2.2.1;have HFIN:=zH hfin;clear hfin hA hB ht hcl0;(gi_wp2);exact HFIN.out
   ·(have t2:(vd==2)=false:=by simpa using hv2);by_cases hv3:vd=3
    ·subst hv3;(gi_wp2);(have hs3:sideN policy (oneN q ⟨ak,am,at',ad⟩) (oneN q ⟨ck,cm,ct,cd⟩)=side:=by rw[HQ.out.2.2.2.2.2.1];rfl);have hcl0:=HQ.out.2.1 (by first | rfl | trivial);(have hncl:nx.cls=cl:=by rw[←HQ.out.2.2.2.2.1];rfl);have r2:=H3.out.1.box.cell 2;have r6:=H3.out.1.box.cell 6;have hgl:=H3.out.1.box.lt;simp only[qA,qB,qC] at r2 r6;(have KC:∀(m:Held (Aft W3)) (k:Nat) (v:Value),(#[.string q,.int .i64 3,.int .i64 cl,.int .i64 ak,.int .i64 am,.int .u32 at',.string ad,.int .i64 ck,.int .i64 cm,.int .u32 ct,.string cd]:Array Value)[k]? =some v→(HeldW m).cell? ⟨n₀,k,none⟩=some v:=fun m k v hk=>(Aft.cell m H3.out.2.2.2.1.lt).trans (by rw[H3.out.2.2.2.1.cell];exact hk));(have q0:∀m:Held (Aft W3),(HeldW m).cell? ⟨w.heap.size,0,none⟩=some (.pointer (some ⟨gs,0,none⟩)):=fun m=>(Aft.cell m H3.out.2.2.1.lt).trans b0);(have q1:∀m:Held (Aft W3),(HeldW m).cell? ⟨gs,2,none⟩=some (.int .i64 policy):=fun m=>(Aft.cell m hgl).trans r2);(have k0:∀m:Held (Aft W3),(HeldW m).cell? ⟨n₀,0,none⟩=some (.string q):=fun m=>KC m 0 _ rfl);(have k3:∀m:Held (Aft W3),(HeldW m).cell? ⟨n₀,3,none⟩=some (.int .i64 ak):=fun m=>KC m 3 _ rfl);(have k4:∀m:Held (Aft W3),(HeldW m).cell? ⟨n₀,4,none⟩=some (.int .i64 am):=fun m=>KC m 4 _ rfl);(have k5:∀m:Held (Aft W3),(HeldW m).cell? ⟨n₀,5,none⟩=some (.int .u32 at'):=fun m=>KC m 5 _ rfl);(have k6:∀m:Held (Aft W3),(HeldW m).cell? ⟨n₀,6,none⟩=some (.string ad):=fun m=>KC m 6 _ rfl);(have k7:∀m:Held (Aft W3),(HeldW m).cell? ⟨n₀,7,none⟩=some (.int .i64 ck):=fun m=>KC m 7 _ rfl);(have k8:∀m:Held (Aft W3),(HeldW m).cell? ⟨n₀,8,none⟩=some (.int .i64 cm):=fun m=>KC m 8 _ rfl);(have k9:∀m:Held (Aft W3),(HeldW m).cell? ⟨n₀,9,none⟩=some (.int .u32 ct):=fun m=>KC m 9 _ rfl);(have k10:∀m:Held (Aft W3),(HeldW m).cell? ⟨n₀,10,none⟩=some (.string cd):=fun m=>KC m 10 _ rfl);have HK3:=zH (zA hs3 (zA hcl0 hncl));have HA0:=zH (Aft.start W3);clear hs3 hcl0 hncl KC r2 r6 x0 x1 b0;refine wpIn_region_mixD (Aft W3) [(0,true),(1,true),(2,true),(3,true),(4,true),(5,true),(6,true),(7,true),(9,true),(10,true),(11,true),(12,true),(8,false),(13,false),(14,false),(15,false)] (by kernel_rfl) (by kernel_rfl) ?_;simp only[pickP,List.filterMap_cons,List.filterMap_nil,qA,qB,qC,Option.map_some];(repeat (apply mixD_first;apply Exists.intro;refine⟨fun m=>?_,HA0.out,?_⟩;·(go_big_quiet_step (fail);exact wpQuiet_nil rfl)));refine mixD_forced HA0.out ?_;(go_wp2_with fail);refine(regItems_any _ q ⟨ak,am,at',ad⟩).mono ?_;rintro e W6 ⟨r1',rfl,ho1,hb6⟩;have HA6:=zH (show Aft W3 W6 from Aft.keep _ _ HA0.out hb6);have HO1:=zH ho1.slv;obtain⟨A6,c6,rfl,-,-,-⟩:=SlV_of_any ho1;clear ho1 hb6 HA0;(go_wp2_with fail);(show mixD ..);refine mixD_forced HA6.out ?_;(go_wp2_with fail);refine(regItems_any _ q ⟨ck,cm,ct,cd⟩).mono ?_;rintro e W7 ⟨r2',rfl,ho2,hb7⟩;have HA7:=zH (show Aft W3 W7 from Aft.keep _ _ HA6.out hb7);have HSD:=zH (regSide_any W7 policy _ r2' (oneN q ⟨ak,am,at',ad⟩) (oneN q ⟨ck,cm,ct,cd⟩) (HO1.out.below hb7 (zN _)) ho2.slv);rw[HK3.out.1] at HSD;obtain⟨A7,c7,rfl,-,-,-⟩:=SlV_of_any ho2;clear ho2 hb7 HA6 HO1;generalize (oneN q ⟨ak,am,at',ad⟩).length=e1 at*;generalize (oneN q ⟨ck,cm,ct,cd⟩).length=e2 at*;(go_wp2_with fail);(show mixD ..);refine mixD_forced HA7.out ?_;(go_wp2_with fail);refine HSD.out.mono ?_;rintro e W8 ⟨rfl,hb8⟩;have HA8:=zH (show Aft W3 W8 from Aft.keep _ _ HA7.out hb8);clear hb8 HA7 HSD;(go_wp2_with fail);(show mixD ..);refine mixD_forced HA8.out ?_;(go_wp2_with fail);(show mixD ..);refine mixD_nil ?_;clear q0 q1 k0 k3 k4 k5 k6 k7 k8 k9 k10 hgl;have h38:Below W3.heap.size W3 W8:=HA8.out;have hR8:=H3.out.1.below h38;have hbs8:=H3.out.2.2.1.below h38 H3.out.2.2.1.lt;have hX8:=H3.out.2.2.2.1.below h38 H3.out.2.2.2.1.lt;have y0:=hbs8.cell 0;have y6:=hR8.box.cell 6;have z0:=hX8.cell 0;have z2:=hX8.cell 2;simp only[qA,qB,qC] at y0 y6 z0 z2;(have q0:∀m:Held (Aft W8),(HeldW m).cell? ⟨w.heap.size,0,none⟩=some (.pointer (some ⟨gs,0,none⟩)):=fun m=>(Aft.cell m hbs8.lt).trans y0);(have q1:∀m:Held (Aft W8),(HeldW m).cell? ⟨gs,6,none⟩=some (.map (some mc)):=fun m=>(Aft.cell m hR8.box.lt).trans y6);(have k0:∀m:Held (Aft W8),(HeldW m).cell? ⟨n₀,0,none⟩=some (.string q):=fun m=>(Aft.cell m hX8.lt).trans z0);(have k2:∀m:Held (Aft W8),(HeldW m).cell? ⟨n₀,2,none⟩=some (.int .i64 cl):=fun m=>(Aft.cell m hX8.lt).trans z2);have H8:=zH (zA hR8 (zA hbs8 (zA hX8 (zA (H3.out.2.1.below h38) (H3.out.2.2.2.2.2.trans (h38.mono (zT hB0w H3.out.2.2.2.2.2.size)))))));have HB0:=zH (Aft.start W8);clear h38 hR8 hbs8 hX8 y0 y6 z0 z2;(gi_wp2);refine wpIn_region_mixD (Aft W8) [(0,true),(1,true),(2,true),(3,true),(4,true),(5,true),(6,true),(7,true),(8,false)] (by kernel_rfl) (by kernel_rfl) ?_;simp only[pickP,List.filterMap_cons,List.filterMap_nil,qA,qB,qC,Option.map_some];(repeat (apply mixD_first;apply Exists.intro;refine⟨fun m=>?_,HB0.out,?_⟩;·(go_big_quiet_step (fail);exact wpQuiet_nil rfl)));refine mixD_forced HB0.out ?_;clear q0 q1 k0 k2;(go_wp2_with (at_mapUpdate;go_loud (refine wpList_storeV rfl _ _ _ 72 rfl 3 (keyStr Tryz.underlying9) Tryz.underlying72 mc (2*N) _ rfl (H8.out.1.below HB0.out).mC (by unfold maxLen;omega) q rfl hqk (.int .i64 cl) rfl ?_;intro W9 hm9 hg9)));have hR9:=(H8.out.1.below HB0.out).clash hg9 (Nat.le_succ _) hm9;have hnmc:∀g' t cs,Blk W8 g' t cs→Blk W9 g' t cs:=fun g' t cs hb=>(hb.below HB0.out hb.lt).grown hg9 (fun e=>by
      (have e':g'=mc:=by simpa using e);exact map_noblk H8.out.1.mC (e'▸hb))
     have H9:=zH (zA hR9 (zA (hnmc _ _ _ H8.out.2.1) (zA (hnmc _ _ _ H8.out.2.2.1) (zA ((H8.out.2.2.2.1.below HB0.out).grown hg9 (fun k hk=>by cases hk;exact .inl (.inr (.inr (.inr (.inl rfl)))))) ((H8.out.2.2.2.2.trans ((HB0.out:Below W8.heap.size W8 W8.drew).mono (zT hB0w H8.out.2.2.2.2.size))).grown hg9 (zT hB0w (zT H8.out.2.2.2.2.size (HB0.out:Below W8.heap.size W8 W8.drew).size)) (fun k hk=>by cases hk;exact H8.out.1.bc))))));clear hR9 hnmc hm9 hg9;(show mixD ..);refine mixD_nil ?_;have y0:=H9.out.2.1.cell 0;have z0:=H9.out.2.2.1.cell 0;simp only[qA,qB,qC] at y0 z0;(gi_wp2);(first | refine((callsIn_wide.2 (HTK.out W9 (2*N+1) _ (by omega) H9.out.1 H9.out.2.2.2.2)).inRound l).mono ?_ | refine⟨trivial,((callsIn_wide.2 (HTK.out W9 (2*N+1) _ (by omega) H9.out.1 H9.out.2.2.2.2)).inRound l).mono ?_⟩);rintro e W5 ⟨rfl,hA,hB,ht⟩;have hfin:=HCL.out W9 W5 _ (2*N+1) _ (by omega) H9.out.1 (by rw[HQ.out.2.2.2.2.2.2.1,if_neg (by rw[HK3.out.2.2];exact HK3.out.2.1),HK3.out.2.2]) hA hB ht H9.out.2.2.2.1 H3.out.2.2.2.2.1 H9.out.2.1;have HFIN:=zH hfin;clear hfin hA hB ht;(gi_wp2);exact HFIN.out
    ·(have t3:(vd==3)=false:=by simpa using hv3);(have hsd:side=0:=by rw[HQ.out.2.2.2.2.2.1,if_neg hv1,if_neg hv2,if_neg hv3]);subst hsd;(gi_wp2);(first | refine((callsIn_wide.2 (HTK.out W3 (2*N) _ (by omega) H3.out.1 H3.out.2.2.2.2.2)).inRound l).mono ?_ | refine⟨trivial,((callsIn_wide.2 (HTK.out W3 (2*N) _ (by omega) H3.out.1 H3.out.2.2.2.2.2)).inRound l).mono ?_⟩);rintro e W5 ⟨rfl,hA,hB,ht⟩;(have hcl0:nx.cls=0:=by rw[←HQ.out.2.2.2.2.1];simp [chosenN,hv3]);have hfin:=HCL.out W3 W5 _ (2*N) _ (by omega) H3.out.1 (by rw[HQ.out.2.2.2.2.2.2.1,if_pos hcl0]) hA hB ht H3.out.2.1 H3.out.2.2.2.2.1 H3.out.2.2.1;have HFIN:=zH hfin;clear hfin hA hB ht hcl0;(gi_wp2);exact HFIN.out
 case done=>
  rintro D zs W hD hzs ⟨⟨pv,hp⟩,hbs,hbl⟩ hK;subst hD;have hz:zs=ans:=hzs;subst hz;have HP:=zH (zA hp hbl);clear hp hbs hbl hzs;go_wp2_with fail
  have hgp:=grownBy_putObj' W w1.heap.size (.deferred none);have hr9:=(RgIn.ownF HP.out.1 HL4.out.1 hgp (fun r e=>by cases e;exact⟨zN _,_,hK,rfl⟩)).more (M:=12000) (by omega);have hb9:=HP.out.2.grown hgp (zT hB0w HP.out.2.size) (fun k hk=>by cases hk;exact zT hB0w hww1.size);refine⟨by simp,.inl ⟨_,_,rfl,run_takeDeferred hK,?_⟩⟩;exact⟨_,results_none rfl _ _ _,rfl,_,hr9,hb9⟩
 case stop=>
  rintro D c pre W hD _ hF;exact hF.elim
end Go.Proofs.YtnpehjgnplaabaaGreatDoor
namespace Go.Proofs.YtnpehjgnplaabaaGreatDoor
open Go Go.RowKit
open Sw
def SetAt (w:World) (T:Nat) (n:Nd) (L:List NE) (ov:Value) (wr:World):Prop:=OwnIt wr T ov L∧Blk wr T 57 n.c∧Below T w wr
theorem SetAt.below {w wr wr':World}{T:Nat}{n:Nd}{L:List NE}{ov:Value}(h:SetAt w T n L ov wr)(hb:Below wr.heap.size wr wr'):SetAt w T n L ov wr':=
 ⟨h.1.below hb,h.2.1.below hb h.2.1.lt,h.2.2.trans (hb.mono (Nat.le_of_lt h.2.1.lt))⟩
theorem SetAt.app {w wr w0 w5:World}{T g cap m:Nat}{n:Nd}{L:List NE}{ov:Value}{x:NE}(h:SetAt w T n L ov wr)(hm:L.length=m)(hb:Below wr.heap.size wr w0)
  (hown:w5.ownsRow T 59 5 (.slice (some ⟨g,0,none⟩) (m+1) cap) (m+1) (L.flatMap eCSN++[.string x.1,.int .i64 x.2.kind,.int .i64 x.2.mode,.int .u32 x.2.time,.string x.2.data])) (hg:w0.grownBy w5 ov.ownBlock):SetAt w T n (L++[x]) (.slice (some ⟨g,0,none⟩) (m+1) cap) w5:=by
 have h0:=h.below hb;exact⟨OwnIt.app hown hm,h0.2.1.grown hg (fun e=>own_ne_blk h0.1 h0.2.1 (by decide) e.symm),h0.2.2.grown hg (Nat.le_of_lt h0.2.1.lt) (fun k hk=>(h0.1.lt k hk).1)⟩
theorem ref16Set_any (w:World)(v:Value)(l:List NE)(p:ByteArray)(n:Nd)(h:SlV w 5 eCSN v l)(hl:l.length≤1000)(hp:p.size≤90000)(hok:∀e∈l,e.1.size≤90000):
  Calls Tryz.prog 157 #[v,.string p,.agg n.c] w fun e w'=>∃r,e= .returned r∧OwnIt w' w.heap.size r (Sw.setG ordS p n l)∧Below w.heap.size w w':=by
 obtain⟨A,c,rfl,hc1,hc2,hsl⟩:=h;obtain⟨N,hN⟩:∃N,l.length=N:=⟨_,rfl⟩;rw[hN] at hc1 hl⊢;unfold maxLen at hc2;have HL:=zH hN;clear hN;have HS:=zH hsl;clear hsl;have HOK:=zH hok;clear hok;have hb0:=(zR w.heap.size w).alloc (zN _) (.cells n.c 57);obtain⟨T,hT⟩:∃T,w.heap.size=T:=⟨_,rfl⟩;have hB0:=Blk.new w 57 n.c;rw[hT] at hb0 hB0⊢;have H0:=zH (show SetAt w T n [] (.slice none 0 0) (w.alloc (.cells n.c 57)) from⟨World.ownsRow_nil _ _ _ _,hB0,hb0⟩);clear hb0 hB0;have HST:=zH (show Sw.setG ordS p n l=(let s:=l.foldl (Sw.stepG ordS p n) (false,[]);if s.1=true then s.2 else s.2++[(p,n)]) from rfl);generalize Sw.setG ordS p n l=R at*;obtain⟨kd,md,tm,dt⟩:=n;simp only[Nd.c] at H0⊢;go_enter Tryz.func157,Tryz.ntmps157
 go_wp2_with fail
 go_loopw [7,8,13] (fun ov dv iv wr=>∃i:Nat,i≤N∧iv= .int .i64 i∧dv= .bool ((l.take i).foldl (Sw.stepG ordS p (⟨kd,md,tm,dt⟩:Nd)) (false,[])).1∧SetAt w T ⟨kd,md,tm,dt⟩ ((l.take i).foldl (Sw.stepG ordS p (⟨kd,md,tm,dt⟩:Nd)) (false,[])).2 ov wr) (fun _ _ iv _=>N-(intOf iv).toNat)
 case atStart=>exact⟨0,Nat.zero_le _,rfl,rfl,H0.out⟩
 case round=>
  obtain⟨i,hi,rfl,rfl,hat⟩:=hrel;obtain⟨A3,c3,rfl,-,-,-⟩:=SlV_of_any hat.1;have hfl:=Sw.foldG_len (c:=ordS) p (⟨kd,md,tm,dt⟩:Nd) (l.take i) (false,[]);rw[zL] at hfl;have hbw:T≤wr.heap.size:=Nat.le_of_lt hat.2.1.lt;by_cases hlt:i<N
  ·have hiL:i<l.length:=by have:=HL.out;omega
   have hst:=Sw.foldG_step (c:=ordS) p (⟨kd,md,tm,dt⟩:Nd) l i hiL;obtain⟨S,hS⟩:∃S,(l.take i).foldl (Sw.stepG ordS p (⟨kd,md,tm,dt⟩:Nd)) (false,[])=S:=⟨_,rfl⟩;rw[hS] at hst hat hfl⊢;obtain⟨d,L⟩:=S;simp only at hat hfl hst⊢;obtain⟨b,off,rfl,hbb,hcs⟩:=(HS.out.below (B:=w.heap.size) (by rw[hT];exact hat.2.2) (zN _)) (by omega);obtain⟨c0,c1,c2⟩:=zs3 (hcs i hiL);have c3':=hcs i hiL 3 (by omega);have c4:=hcs i hiL 4 (by omega);simp only[eCSN,qB,qC,Nat.add_zero] at c0 c1 c2 c3' c4;clear hcs;(have hi1:(i:Int)<N:=by omega);have hse:=str_eq l[i].1 p;have hxk:=HOK.out l[i] (zP hiL);obtain⟨x,hx⟩:∃x,l[i]=x:=⟨_,rfl⟩;rw[hx] at hse hst hxk;simp only[hx] at c0 c1 c2 c3' c4;obtain⟨m,hm⟩:∃m,L.length=m:=⟨_,rfl⟩;rw[hm] at hfl;rw[hm] at hat;rw[hm];(have hm2:m≤2000:=by simp at hfl;omega);have HAT:=zH hat;(have hR1:wr.ownsRow T 59 5 (.slice A3 m c3) m (L.flatMap eCSN):=by have:=hat.1;unfold OwnIt at this;rw[hm] at this;exact this);have HR:=zH hR1;clear hR1 hat;have hB1:Below wr.heap.size wr (wr.alloc (.cells #[.string x.1,.int .i64 x.2.kind,.int .i64 x.2.mode,.int .u32 x.2.time,.string x.2.data] 59)):=(zR _ _).alloc (zN _) _;have HB1:=zH hB1;clear hB1;have HST1:=zH (zA hst (zA hS (zA hx hm)));clear hst hS hx hm;have hBX:Blk (wr.alloc (.cells #[.string x.1,.int .i64 x.2.kind,.int .i64 x.2.mode,.int .u32 x.2.time,.string x.2.data] 59)) wr.heap.size 59 #[.string x.1,.int .i64 x.2.kind,.int .i64 x.2.mode,.int .u32 x.2.time,.string x.2.data]:=Blk.new wr _ _;have HBX:=zH hBX;clear hBX;cases d with
   | true=>
    by_cases hk:x.1=p
    ·rw[zE hk] at hse;(have hse2:(!(x.1.toList==p.toList))=false:=by rw[hse];rfl);(have hf:Sw.stepG ordS p (⟨kd,md,tm,dt⟩:Nd) (true,L) x=(true,L):=by unfold Sw.stepG;simp [(ordS_ord.iff x.1 p).2 hk]);have HF:=zH hf;clear hf hk;(go_wp2_with fail);go_roundw
     case rel=>exact⟨i+1,by omega,by go_num,by rw[HST1.out.1,HF.out],by rw[HST1.out.1,HF.out];exact HAT.out.below HB1.out⟩
     case measure=>simp [intOf];omega
    ·rw[zD hk] at hse;(have hse2:(!(x.1.toList==p.toList))=true:=by rw[hse];rfl);(have hf:Sw.stepG ordS p (⟨kd,md,tm,dt⟩:Nd) (true,L) x=(true,L++[x]):=by unfold Sw.stepG;simp [show ¬ordS x.1 p=0 from fun e=>hk ((ordS_ord.iff x.1 p).1 e)]);have HF:=zH hf;clear hf hk;(go_wp2_with (at_builtin;refine wpList_app rfl _ _ 25 rfl T 59 _ _ _ Tryz.underlying25 infoIt rfl (by decide) _ m _ rfl ((HR.out.alloc _).alloc _) (wr.heap.size+1) 1 #[.string x.1,.int .i64 x.2.kind,.int .i64 x.2.mode,.int .u32 x.2.time,.string x.2.data] 59 rfl (blk_snd _ _ _ _) rfl (by simp [Value.oneCell']) (by omega) (by decide) (by simp;omega) _ rfl ?_;intro g cap w5 hown1 hgrow1 hat9 hlt1;have HA:=zH (zA hown1 hgrow1);clear hown1 hgrow1 hat9 hlt1));go_roundw
     case rel=>exact⟨i+1,by omega,by go_num,by rw[HST1.out.1,HF.out],by rw[HST1.out.1,HF.out];exact SetAt.app HAT.out HST1.out.2.2.2 (HB1.out.alloc HB1.out.size _) HA.out.1 HA.out.2⟩
     case measure=>simp [intOf];omega
   | false=>
    by_cases hk:x.1=p
    ·rw[zE hk] at hse;(have hse2:(!(x.1.toList==p.toList))=false:=by rw[hse];rfl);(have hf:Sw.stepG ordS p (⟨kd,md,tm,dt⟩:Nd) (false,L) x=(true,L++[(p,⟨kd,md,tm,dt⟩)]):=by unfold Sw.stepG;simp [(ordS_ord.iff x.1 p).2 hk]);have HF:=zH hf;clear hf hk;obtain⟨e0,e1,e2,e3⟩:=zc4 HAT.out.2.1;(simp [Nd.c] at e0 e1 e2 e3);have hTw:=HAT.out.2.1.lt;(go_wp2_with (at_builtin;refine wpList_app rfl _ _ 25 rfl T 59 _ _ _ Tryz.underlying25 infoIt rfl (by decide) _ m _ rfl ((HR.out.alloc _).alloc _) (wr.heap.size+1) 1 #[.string p,.int .i64 kd,.int .i64 md,.int .u32 tm,.string dt] 59 rfl (blk_snd _ _ _ _) rfl (by simp [Value.oneCell']) (by omega) (by decide) (by simp;omega) _ rfl ?_;intro g cap w5 hown1 hgrow1 hat9 hlt1;have HA:=zH (zA hown1 hgrow1);have x0:=((HBX.out.alloc (.cells #[.string p,.int .i64 kd,.int .i64 md,.int .u32 tm,.string dt] 59)).grown hgrow1 (fun e=>absurd (HR.out.lt _ e.symm).2 (Nat.lt_irrefl _))).cell 0;simp at x0;clear hown1 hgrow1 hat9));go_roundw
     case rel=>exact⟨i+1,by omega,by go_num,by rw[HST1.out.1,HF.out],by rw[HST1.out.1,HF.out];exact SetAt.app HAT.out HST1.out.2.2.2 (HB1.out.alloc HB1.out.size _) HA.out.1 HA.out.2⟩
     case measure=>simp [intOf];omega
    ·rw[zD hk] at hse;(have hse2:(!(x.1.toList==p.toList))=true:=by rw[hse];rfl);have hbf:=refBefore_any (wr.alloc (.cells #[.string x.1,.int .i64 x.2.kind,.int .i64 x.2.mode,.int .u32 x.2.time,.string x.2.data] 59)) p x.1 (by omega) (by omega);(have hz:¬ordS x.1 p=0:=fun e=>hk ((ordS_ord.iff x.1 p).1 e));have hng:=ordS_neg x.1 p;have HB:=zH hbf;clear hbf;have HK:=zH (zA hz hng);clear hz hng hk;by_cases hlt2:ordS p x.1= -1
     ·have hf:Sw.stepG ordS p (⟨kd,md,tm,dt⟩:Nd) (false,L) x=(true,L++[(p,⟨kd,md,tm,dt⟩)]++[x]):=by
       (have h1:0≤ordS x.1 p:=by have:=HK.out.2;have:=ordS_neg p x.1;omega);unfold Sw.stepG;simp [HK.out.1,h1]
      have HF:=zH hf;clear hf;(have hdd:decide (ordS p x.1= -1)=true:=by simpa using hlt2);rw[hdd] at HB;clear hdd hlt2;(go_wp2_with fail);refine HB.out.mono ?_;rintro _ w1 ⟨rfl,hb1⟩;have HBX1:=zH (HBX.out.below hb1 HBX.out.lt);obtain⟨x0,x1,x2,x3,x4⟩:=zc5 HBX1.out;(simp at x0 x1 x2 x3 x4);have HB1':=zH (HB1.out.trans (hb1.mono (by simp)));have hs1:T≤w1.heap.size:=zT hbw HB1'.out.size;have HR1:=zH (own_kept HR.out HB1'.out);have HBT:=HAT.out.2.1.below HB1'.out HAT.out.2.1.lt;have e0:=HBT.cell 0;have e1:=HBT.cell 1;have e2:=HBT.cell 2;have e3:=HBT.cell 3;(simp [Nd.c] at e0 e1 e2 e3);have hTw:=HAT.out.2.1.lt;clear hb1 HBT;(have hneX:(Value.slice A3 m c3).ownBlock≠some wr.heap.size:=fun e=>absurd (HR.out.lt _ e).2 (Nat.lt_irrefl _));have HNE:=zH hneX;clear hneX;go_wp2_with (first
       | (at_builtin;refine wpList_app rfl _ _ 25 rfl T 59 _ _ _ Tryz.underlying25 infoIt rfl (by decide) _ m _ rfl (HR1.out.alloc _) w1.heap.size 1 #[.string p,.int .i64 kd,.int .i64 md,.int .u32 tm,.string dt] 59 rfl (Blk.new _ _ _) rfl (by simp [Value.oneCell']) (by omega) (by decide) (by simp;omega) _ rfl ?_;intro g cap w5 hown1 hgrow1 hat9 hlt1;have HA:=zH (zA hown1 hgrow1);have hbx5:=(HBX1.out.alloc (.cells #[.string p,.int .i64 kd,.int .i64 md,.int .u32 tm,.string dt] 59)).grown hgrow1 HNE.out.symm;have y0:=hbx5.cell 0;have y1:=hbx5.cell 1;have y2:=hbx5.cell 2;have y3:=hbx5.cell 3;have y4:=hbx5.cell 4;simp at y0 y1 y2 y3 y4;have HX5:=zH hbx5;have hs5:w1.heap.size≤w5.heap.size:=zT (by simp) hgrow1.size;clear hbx5;clear hown1 hgrow1 hat9)
       | (at_builtin;refine wpList_app rfl _ _ 25 rfl T 59 _ _ _ Tryz.underlying25 infoIt rfl (by decide) _ (m+1) _ rfl (HA.out.1.alloc _) w5.heap.size 1 #[.string x.1,.int .i64 x.2.kind,.int .i64 x.2.mode,.int .u32 x.2.time,.string x.2.data] 59 rfl (Blk.new _ _ _) rfl (by simp [Value.oneCell']) (by omega) (by decide) (by simp;omega) _ rfl ?_;intro g6 cap6 w56 hown1 hgrow1 hat9 hlt16;have HA6:=zH (zA hown1 hgrow1);clear hown1 hgrow1 hat9))
      go_roundw
      case rel=>
       have h1:=SetAt.app (x:=(p,⟨kd,md,tm,dt⟩)) HAT.out HST1.out.2.2.2 (HB1'.out.alloc HB1'.out.size _) HA.out.1 HA.out.2;refine⟨i+1,by omega,by go_num,by rw[HST1.out.1,HF.out],?_⟩;rw[HST1.out.1,HF.out];have h2:=HA6.out.1;(have h3:(L++[(p,(⟨kd,md,tm,dt⟩:Nd))]).flatMap eCSN=L.flatMap eCSN++ #[.string p,.int .i64 kd,.int .i64 md,.int .u32 tm,.string dt].toList:=by rw[List.flatMap_append];rfl);rw[←h3] at h2;exact SetAt.app h1 (by rw[zF,List.length_singleton,HST1.out.2.2.2]) ((zR _ _).alloc (zN _) _) h2 HA6.out.2
      case measure=>simp [intOf];omega
     ·have hf:Sw.stepG ordS p (⟨kd,md,tm,dt⟩:Nd) (false,L) x=(false,L++[x]):=by
       have h1:¬0≤ordS x.1 p:=by
        have:=ordS_neg x.1 p;(rcases ordS_three p x.1 with h | h | h);all_goals first | exact absurd h hlt2 | (have:=HK.out.1;omega)
       unfold Sw.stepG;simp [HK.out.1,h1]
      have HF:=zH hf;clear hf;(have hdd:decide (ordS p x.1= -1)=false:=by simpa using hlt2);rw[hdd] at HB;clear hdd hlt2;(go_wp2_with fail);refine HB.out.mono ?_;rintro _ w1 ⟨rfl,hb1⟩;have HBX1:=zH (HBX.out.below hb1 HBX.out.lt);obtain⟨x0,x1,x2,x3,x4⟩:=zc5 HBX1.out;(simp at x0 x1 x2 x3 x4);have HB1':=zH (HB1.out.trans (hb1.mono (by simp)));have hs1:T≤w1.heap.size:=zT hbw HB1'.out.size;have HR1:=zH (own_kept HR.out HB1'.out);clear hb1;(go_wp2_with (at_builtin;refine wpList_app rfl _ _ 25 rfl T 59 _ _ _ Tryz.underlying25 infoIt rfl (by decide) _ m _ rfl (HR1.out.alloc _) w1.heap.size 1 #[.string x.1,.int .i64 x.2.kind,.int .i64 x.2.mode,.int .u32 x.2.time,.string x.2.data] 59 rfl (Blk.new _ _ _) rfl (by simp [Value.oneCell']) (by omega) (by decide) (by simp;omega) _ rfl ?_;intro g cap w5 hown1 hgrow1 hat9 hlt1;have HA:=zH (zA hown1 hgrow1);clear hown1 hgrow1 hat9));go_roundw
      case rel=>exact⟨i+1,by omega,by go_num,by rw[HST1.out.1,HF.out],by rw[HST1.out.1,HF.out];exact SetAt.app HAT.out HST1.out.2.2.2 (HB1'.out.alloc HB1'.out.size _) HA.out.1 HA.out.2⟩
      case measure=>simp [intOf];omega
  ·obtain rfl:i=N:=by omega
   have htk:l.take i=l:=zO (by have:=HL.out;omega);rw[htk] at hat⊢;clear htk;have HST2:=HST.out;obtain⟨S,hS⟩:∃S,l.foldl (Sw.stepG ordS p (⟨kd,md,tm,dt⟩:Nd)) (false,[])=S:=⟨_,rfl⟩;rw[hS] at HST2 hat⊢;rw[zO (by have:=HL.out;omega),hS] at hfl;clear hS;obtain⟨d,L⟩:=S;simp only at hat HST2 hfl⊢;obtain⟨m,hm⟩:∃m,L.length=m:=⟨_,rfl⟩;rw[hm] at hfl;rw[hm] at hat;rw[hm];(have hm2:m≤2000:=by simp at hfl;omega);have HAT:=zH hat;(have hR1:wr.ownsRow T 59 5 (.slice A3 m c3) m (L.flatMap eCSN):=by have:=hat.1;unfold OwnIt at this;rw[hm] at this;exact this);have HR:=zH hR1;clear hR1;obtain⟨e0,e1,e2,e3⟩:=zc4 hat.2.1;(simp [Nd.c] at e0 e1 e2 e3);have hTw:=hat.2.1.lt;have HF:=zH (zA HST2 hm);clear HST2 hm hat;cases d with
   | true=>
    (go_wp2_with fail);go_ret;have h1:=HF.out.1;rw[if_pos trivial] at h1;rw[h1];exact⟨_,rfl,by unfold OwnIt;rw[HF.out.2];exact HR.out,HAT.out.2.2⟩
   | false=>
    (go_wp2_with (at_builtin;refine wpList_app rfl _ _ 25 rfl T 59 _ _ _ Tryz.underlying25 infoIt rfl (by decide) _ m _ rfl (HR.out.alloc _) wr.heap.size 1 #[.string p,.int .i64 kd,.int .i64 md,.int .u32 tm,.string dt] 59 rfl (Blk.new _ _ _) rfl (by simp [Value.oneCell']) (by omega) (by decide) (by simp;omega) _ rfl ?_;intro g cap w5 hown1 hgrow1 hat9 hlt1;have HA:=zH (zA hown1 hgrow1);clear hown1 hgrow1 hat9));go_ret;have h1:=HF.out.1;rw[if_neg (by simp)] at h1;rw[h1];have h2:=SetAt.app (x:=(p,⟨kd,md,tm,dt⟩)) HAT.out HF.out.2 ((zR _ _).alloc (zN _) _) HA.out.1 HA.out.2;exact⟨_,rfl,h2.1,h2.2.2⟩
end Go.Proofs.YtnpehjgnplaabaaGreatDoor
namespace Go.Proofs.YtnpehjgnplaabaaGreatDoor
open Go.RowKit
open Sw
theorem refDosDays_any (w:World)(y m:Int)(h0: -9223372036854775808≤y)(h1:y≤9223372036854775807):
  Calls Tryz.prog 210 #[.int .i64 y,.int .i64 m] w fun e w'=>e= .returned (.int .i64 (daysI y m))∧w=w':=by
 by_cases hy:y<1980
 ·have hd:daysI y m=0:=by unfold daysI;rw[if_pos (.inl hy)]
  rw[hd];go_enter Tryz.func210,Tryz.ntmps210
  go_wp2_with fail
  go_ret;exact⟨rfl,rfl⟩
 by_cases hy2:2107<y
 ·have hd:daysI y m=0:=by unfold daysI;rw[if_pos (.inr (.inl hy2))]
  rw[hd];go_enter Tryz.func210,Tryz.ntmps210
  go_wp2_with fail
  go_ret;exact⟨rfl,rfl⟩
 have HD:=zH (fun(hm:¬(m<1∨12<m))=>show daysI y m=(if m=2 then(if leapI y=true then 29 else 28) else if m=4∨m=6∨m=9∨m=11 then 30 else 31) by
  unfold daysI;rw[if_neg (by omega)])
 have hm:m=1∨m=3∨m=4∨m=5∨m=6∨m=7∨m=8∨m=9∨m=10∨m=11∨m=12∨m=2∨m<1∨12<m:=by omega
 rcases hm with rfl | rfl | rfl | rfl | rfl | rfl | rfl | rfl | rfl | rfl | rfl | hm
 case inr.inr.inr.inr.inr.inr.inr.inr.inr.inr.inr=>
  rcases hm with rfl | hm
  ·have e4:(y.tmod 4==0)=decide (y % 4=0):=by
    rw[Bool.eq_iff_iff,beq_iff_eq,decide_eq_true_iff,←Int.dvd_iff_tmod_eq_zero,←Int.dvd_iff_emod_eq_zero]
   have hd:daysI y 2=if leapI y=true then 29 else 28:=by
    unfold daysI;rw[if_neg (by omega),if_pos rfl]
   unfold leapI at hd;by_cases h4:y % 4=0
   ·(have ht:(y.tmod 4==0)=true:=by rw[e4];simpa using h4);by_cases h5:y=2100
    ·(have hn:(y !=2100)=false:=by simp [h5]);(have hd':daysI y 2=28:=by rw[hd];simp [h5]);rw[hd'];clear hd hd' e4 h5;(go_enter Tryz.func210,Tryz.ntmps210);(go_wp2_with fail);go_ret;exact⟨rfl,rfl⟩
    ·(have hn:(y !=2100)=true:=by simp [h5]);(have hd':daysI y 2=29:=by rw[hd];simp [h5,h4]);rw[hd'];clear hd hd' e4;(go_enter Tryz.func210,Tryz.ntmps210);(go_wp2_with fail);go_ret;exact⟨rfl,rfl⟩
   ·(have ht:(y.tmod 4==0)=false:=by rw[e4];simpa using h4);(have hd':daysI y 2=28:=by rw[hd];simp [h4]);rw[hd'];clear hd hd' e4;(go_enter Tryz.func210,Tryz.ntmps210);(go_wp2_with fail);go_ret;exact⟨rfl,rfl⟩
  ·have hd:daysI y m=0:=by unfold daysI;rw[if_pos (.inr (.inr hm))]
   rw[hd];(obtain⟨t1,t2,t3,t4,t5,t6,t7,t8,t9,t10,t11,t12⟩:(m==1)=false∧(m==2)=false∧(m==3)=false∧(m==4)=false∧(m==5)=false∧(m==6)=false∧(m==7)=false∧(m==8)=false∧(m==9)=false∧(m==10)=false∧(m==11)=false∧(m==12)=false:=by simp only[zB];omega);clear hd hm;(go_enter Tryz.func210,Tryz.ntmps210);(go_wp2_with fail);go_ret;exact⟨rfl,rfl⟩
 all_goals
  have hd:=HD.out (by omega);simp at hd
  rw[hd];clear hd HD;go_enter Tryz.func210,Tryz.ntmps210
  go_wp2_with fail
  go_ret;exact⟨rfl,rfl⟩
theorem refDosSplit_any (w:World)(t:Int)(h0:0≤t)(h1:t<4294967296):
  Calls Tryz.prog 184 #[.int .u32 t] w fun e w'=>e= .returned (.agg (Dt.v (splitD t)))∧Below w.heap.size w w':=by
 go_enter Tryz.func184,Tryz.ntmps184
 have hrow:Dt.v (splitD t)= #[Value.int IntKind.i64 (1980+t/32/64/32/32/16),Value.int IntKind.i64 (t/32/64/32/32 % 16),Value.int IntKind.i64 (t/32/64/32 % 32),Value.int IntKind.i64 (t/32/64 % 32),Value.int IntKind.i64 (t/32 % 64),Value.int IntKind.i64 (2*(t % 32))]:=by
  obtain⟨e1,e2,e3,e4⟩:t/32/64/32/32/16=t/33554432∧t/32/64/32/32=t/2097152∧t/32/64/32=t/65536∧t/32/64=t/2048:=by omega
  rw[e1,e2,e3,e4];rfl
 rw[hrow];have HROW:=zH hrow;clear hrow;go_wp2_with fail
 refine bodyPost_ret (results_cell_row rfl _ _ w.heap.size 243 _ (0,0) _ rfl ((Blk.new w _ _).alloc _) Tryz.underlying243 rfl (by kernel_rfl)) rfl ⟨rfl,((zR w.heap.size w).alloc (zN _) _).alloc (by simp) _⟩
theorem refDosRight_any (w:World)(x:Dt)(hx:Dt.In x):
  Calls Tryz.prog 183 #[.agg (Dt.v x)] w fun e w'=>e= .returned (.bool (decide x.Ok))∧Below w.heap.size w w':=by
 have hT:TimeAt w w.heap.size 243 x (w.alloc (Obj.cells (Dt.v x) 243)):=⟨Blk.new _ _ _,(zR _ _).alloc (zN _) _⟩;have HTD:=zH (show TimeAt w w.heap.size 243 x (w.alloc (Obj.cells (Dt.v x) 243)).drew from⟨hT.1,hT.2.drew⟩);have hD:=fun W=>refDosDays_any W x.y x.m hx.y0 hx.y1
 have hdl:=daysI_le x.y x.m;have hOk:x.Ok=(1≤x.d∧x.d≤daysI x.y x.m∧0≤x.h∧x.h<24∧0≤x.mi∧x.mi<60∧0≤x.s∧x.s<60∧x.s % 2=0):=rfl;generalize hdy:daysI x.y x.m=dy at*;have HD:=zH hD;clear hD;have HOK:=zH hOk;clear hOk;have hm2:(x.s.tmod 2==0)=decide (x.s % 2=0):=by rw[Bool.eq_iff_iff,beq_iff_eq,decide_eq_true_iff,←Int.dvd_iff_tmod_eq_zero,←Int.dvd_iff_emod_eq_zero]
 have HM2:=zH hm2;clear hm2;clear hT hdy;have q0:∀n:Held (TimeAt w w.heap.size 243 x),(HeldW n).cell? ⟨w.heap.size,0,none⟩=some (.int .i64 x.y):=fun n=>(HeldW_spec n).1.cell 0
 have q1:∀n:Held (TimeAt w w.heap.size 243 x),(HeldW n).cell? ⟨w.heap.size,1,none⟩=some (.int .i64 x.m):=fun n=>(HeldW_spec n).1.cell 1
 have q2:∀n:Held (TimeAt w w.heap.size 243 x),(HeldW n).cell? ⟨w.heap.size,2,none⟩=some (.int .i64 x.d):=fun n=>(HeldW_spec n).1.cell 2
 have q3:∀n:Held (TimeAt w w.heap.size 243 x),(HeldW n).cell? ⟨w.heap.size,3,none⟩=some (.int .i64 x.h):=fun n=>(HeldW_spec n).1.cell 3
 have q4:∀n:Held (TimeAt w w.heap.size 243 x),(HeldW n).cell? ⟨w.heap.size,4,none⟩=some (.int .i64 x.mi):=fun n=>(HeldW_spec n).1.cell 4
 have q5:∀n:Held (TimeAt w w.heap.size 243 x),(HeldW n).cell? ⟨w.heap.size,5,none⟩=some (.int .i64 x.s):=fun n=>(HeldW_spec n).1.cell 5
 haveI:Nonempty (Held (TimeAt w w.heap.size 243 x)):=held_some HTD.out
 obtain⟨y0,y1,m0,m1,d0,d1,hh0,hh1,i0,i1,s0,s1⟩:=hx;by_cases c0:1≤x.d
 ·skip
  by_cases c1:x.d≤dy
  ·skip
   by_cases c2:0≤x.h
   ·skip
    by_cases c3:x.h≤23
    ·skip
     by_cases c4:0≤x.mi
     ·skip
      by_cases c5:x.mi≤59
      ·skip
       by_cases c6:0≤x.s
       ·skip
        by_cases c7:x.s≤58
        ·skip
         by_cases c8:x.s % 2=0
         ·skip
          (have t2:(x.s.tmod 2==0)=true:=by rw[HM2.out];exact zE c8);have HR:=zH (show decide x.Ok=true by rw[decide_eq_true_iff,HOK.out];omega);(go_enter Tryz.func183,Tryz.ntmps183);(go_wp2_with fail);refine wp_region_class (TimeAt w w.heap.size 243 x) (by kernel_rfl) (by kernel_rfl) HTD.out ?_;(repeat (go_big_quiet_step (with_reducible exact held_same (HD.out _))));refine wpQuiet_nil ?_;rintro _ ⟨n,rfl⟩;(go_wp2_with fail);go_ret;rw[HR.out];exact⟨by first | (simp;done) | (simp;omega),(HeldW_spec n).2⟩
         ·skip
          (have t2:(x.s.tmod 2==0)=false:=by rw[HM2.out];exact zD c8);have HR:=zH (show decide x.Ok=false by rw[decide_eq_false_iff_not,HOK.out];omega);(go_enter Tryz.func183,Tryz.ntmps183);(go_wp2_with fail);refine wp_region_class (TimeAt w w.heap.size 243 x) (by kernel_rfl) (by kernel_rfl) HTD.out ?_;(repeat (go_big_quiet_step (with_reducible exact held_same (HD.out _))));refine wpQuiet_nil ?_;rintro _ ⟨n,rfl⟩;(go_wp2_with fail);go_ret;rw[HR.out];exact⟨by first | (simp;done) | (simp;omega),(HeldW_spec n).2⟩
        ·skip
         have t7f:decide (x.s≤58)=false:=zD c7;have HR:=zH (show decide x.Ok=false by rw[decide_eq_false_iff_not,HOK.out];omega);(go_enter Tryz.func183,Tryz.ntmps183);(go_wp2_with fail);refine wp_region_class (TimeAt w w.heap.size 243 x) (by kernel_rfl) (by kernel_rfl) HTD.out ?_;(repeat (go_big_quiet_step (with_reducible exact held_same (HD.out _))));refine wpQuiet_nil ?_;rintro _ ⟨n,rfl⟩;(go_wp2_with fail);go_ret;rw[HR.out];exact⟨by first | (simp;done) | (simp;omega),(HeldW_spec n).2⟩
       ·skip
        have t6f:decide (0≤x.s)=false:=zD c6;have HR:=zH (show decide x.Ok=false by rw[decide_eq_false_iff_not,HOK.out];omega);(go_enter Tryz.func183,Tryz.ntmps183);(go_wp2_with fail);refine wp_region_class (TimeAt w w.heap.size 243 x) (by kernel_rfl) (by kernel_rfl) HTD.out ?_;(repeat (go_big_quiet_step (with_reducible exact held_same (HD.out _))));refine wpQuiet_nil ?_;rintro _ ⟨n,rfl⟩;(go_wp2_with fail);go_ret;rw[HR.out];exact⟨by first | (simp;done) | (simp;omega),(HeldW_spec n).2⟩
      ·skip
       have t5f:decide (x.mi≤59)=false:=zD c5;have HR:=zH (show decide x.Ok=false by rw[decide_eq_false_iff_not,HOK.out];omega);(go_enter Tryz.func183,Tryz.ntmps183);(go_wp2_with fail);refine wp_region_class (TimeAt w w.heap.size 243 x) (by kernel_rfl) (by kernel_rfl) HTD.out ?_;(repeat (go_big_quiet_step (with_reducible exact held_same (HD.out _))));refine wpQuiet_nil ?_;rintro _ ⟨n,rfl⟩;(go_wp2_with fail);go_ret;rw[HR.out];exact⟨by first | (simp;done) | (simp;omega),(HeldW_spec n).2⟩
     ·skip
      have t4f:decide (0≤x.mi)=false:=zD c4;have HR:=zH (show decide x.Ok=false by rw[decide_eq_false_iff_not,HOK.out];omega);(go_enter Tryz.func183,Tryz.ntmps183);(go_wp2_with fail);refine wp_region_class (TimeAt w w.heap.size 243 x) (by kernel_rfl) (by kernel_rfl) HTD.out ?_;(repeat (go_big_quiet_step (with_reducible exact held_same (HD.out _))));refine wpQuiet_nil ?_;rintro _ ⟨n,rfl⟩;(go_wp2_with fail);go_ret;rw[HR.out];exact⟨by first | (simp;done) | (simp;omega),(HeldW_spec n).2⟩
    ·skip
     have t3f:decide (x.h≤23)=false:=zD c3;have HR:=zH (show decide x.Ok=false by rw[decide_eq_false_iff_not,HOK.out];omega);(go_enter Tryz.func183,Tryz.ntmps183);(go_wp2_with fail);refine wp_region_class (TimeAt w w.heap.size 243 x) (by kernel_rfl) (by kernel_rfl) HTD.out ?_;(repeat (go_big_quiet_step (with_reducible exact held_same (HD.out _))));refine wpQuiet_nil ?_;rintro _ ⟨n,rfl⟩;(go_wp2_with fail);go_ret;rw[HR.out];exact⟨by first | (simp;done) | (simp;omega),(HeldW_spec n).2⟩
   ·skip
    have t2f:decide (0≤x.h)=false:=zD c2;have HR:=zH (show decide x.Ok=false by rw[decide_eq_false_iff_not,HOK.out];omega);(go_enter Tryz.func183,Tryz.ntmps183);(go_wp2_with fail);refine wp_region_class (TimeAt w w.heap.size 243 x) (by kernel_rfl) (by kernel_rfl) HTD.out ?_;(repeat (go_big_quiet_step (with_reducible exact held_same (HD.out _))));refine wpQuiet_nil ?_;rintro _ ⟨n,rfl⟩;(go_wp2_with fail);go_ret;rw[HR.out];exact⟨by first | (simp;done) | (simp;omega),(HeldW_spec n).2⟩
  ·skip
   have t1f:decide (x.d≤dy)=false:=zD c1;have HR:=zH (show decide x.Ok=false by rw[decide_eq_false_iff_not,HOK.out];omega);(go_enter Tryz.func183,Tryz.ntmps183);(go_wp2_with fail);refine wp_region_class (TimeAt w w.heap.size 243 x) (by kernel_rfl) (by kernel_rfl) HTD.out ?_;(repeat (go_big_quiet_step (with_reducible exact held_same (HD.out _))));refine wpQuiet_nil ?_;rintro _ ⟨n,rfl⟩;(go_wp2_with fail);go_ret;rw[HR.out];exact⟨by first | (simp;done) | (simp;omega),(HeldW_spec n).2⟩
 ·skip
  have t0f:decide (1≤x.d)=false:=zD c0;have HR:=zH (show decide x.Ok=false by rw[decide_eq_false_iff_not,HOK.out];omega);go_enter Tryz.func183,Tryz.ntmps183
  go_wp2_with fail
  refine wp_region_class (TimeAt w w.heap.size 243 x) (by kernel_rfl) (by kernel_rfl) HTD.out ?_;repeat (go_big_quiet_step (with_reducible exact held_same (HD.out _)))
  refine wpQuiet_nil ?_;rintro _ ⟨n,rfl⟩;go_wp2_with fail
  go_ret;rw[HR.out];exact⟨by first | (simp;done) | (simp;omega),(HeldW_spec n).2⟩
end Go.Proofs.YtnpehjgnplaabaaGreatDoor
namespace Go.Proofs.YtnpehjgnplaabaaGreatDoor
open Go Go.RowKit
open Sw
theorem refTime_any (w:World)(t:Int)(h0:0≤t)(h1:t<4294967296):
  Calls Tryz.prog 150 #[.int .u32 t] w fun e w'=>e= .returned (.bool (decide (splitD t).Ok))∧Below w.heap.size w w':=by
 have H1:=zH (refDosSplit_any w t h0 h1);have H2:=zH (fun W=>refDosRight_any W (splitD t) (splitD_in t h0 h1));go_enter Tryz.func150,Tryz.ntmps150
 go_wp2_with fail
 refine H1.out.mono ?_;rintro _ w1 ⟨rfl,hb1⟩;have HB1:=zH hb1;clear hb1;go_wp2_with fail
 refine(H2.out _).mono ?_;rintro _ w2 ⟨rfl,hb2⟩;have HB2:=zH (HB1.out.trans (hb2.mono HB1.out.size));clear hb2;go_wp2_with fail
 go_ret;exact⟨rfl,HB2.out⟩
theorem ref14Right_any (w:World)(n:Nd)(hk:¬n.kind=0)(ht0:0≤n.time)(ht1:n.time<4294967296)(hd:n.data.size≤maxLen):
  Calls Tryz.prog 155 #[.agg n.c] w fun e w'=>e= .returned (.int .i64 (nodeR n))∧Below w.heap.size w w':=by
 obtain⟨kd,md,tm,dt⟩:=n;simp only at hk ht0 ht1 hd;unfold maxLen at hd;have hb0:=(zR w.heap.size w).alloc (zN _) (.cells #[.int .i64 kd,.int .i64 md,.int .u32 tm,.string dt] 57);have hB0:=Blk.new w 57 #[.int .i64 kd,.int .i64 md,.int .u32 tm,.string dt];have H0:=zH (zA hb0 hB0);clear hb0 hB0;have e0:(kd==0)=false:=by rw[zB];exact hk
 unfold Nd.c;have hR:nodeR ⟨kd,md,tm,dt⟩=if ¬kd=1∧¬kd=2 then 8 else if kd=2∧(¬dt.data.toList=[]∨¬tm=0) then 1 else if ¬(0≤md∧md≤511) then 12 else if kd=1∧¬(splitD tm).Ok then 13 else if(65000:Int)<dt.size then 4 else 0:=by
  unfold nodeR;simp [hk]
 rw[hR];clear hR;by_cases h1:kd=1
 ·subst h1;rw[if_neg (by omega),if_neg (by omega)];have HD:=zH (fun W=>refTime_any W tm ht0 ht1);by_cases hm0:0≤md
  ·by_cases hm1:md≤511
   ·rw[if_neg (fun h=>h ⟨hm0,hm1⟩)];by_cases hk2:(splitD tm).Ok
    ·rw[zE hk2] at HD;rw[if_neg (fun h=>h.2 hk2)];clear hk hk2;(by_cases hs:(65000:Int)<dt.size);all_goals
      (first | rw[if_pos hs] | rw[if_neg hs]);(go_enter Tryz.func155,Tryz.ntmps155);(go_wp2_with fail);refine(HD.out _).mono ?_;rintro e w2 ⟨rfl,hb2⟩;have x3:=(H0.out.2.below hb2 H0.out.2.lt).cell 3;(simp at x3);have HF:=zH (H0.out.1.trans (hb2.mono H0.out.1.size));clear hb2;(go_wp2_with fail);go_ret;exact⟨rfl,HF.out⟩
    ·rw[zD hk2] at HD;rw[if_pos ⟨rfl,hk2⟩];clear hk hk2;(go_enter Tryz.func155,Tryz.ntmps155);(go_wp2_with fail);refine(HD.out _).mono ?_;rintro e w2 ⟨rfl,hb2⟩;have HF:=zH (H0.out.1.trans (hb2.mono H0.out.1.size));clear hb2;(go_wp2_with fail);go_ret;exact⟨rfl,HF.out⟩
   ·rw[if_pos (fun h=>hm1 h.2)];(go_enter Tryz.func155,Tryz.ntmps155);(go_wp2_with fail);go_ret;exact⟨rfl,H0.out.1⟩
  ·rw[if_pos (fun h=>hm0 h.1)];go_enter Tryz.func155,Tryz.ntmps155
   (go_wp2_with fail);go_ret;exact⟨rfl,H0.out.1⟩
 ·have e1:(kd==1)=false:=by rw[zB];exact h1
  by_cases h2:kd=2
  ·subst h2;rw[if_neg (by omega)];by_cases hx:dt.data.toList=[]
   ·by_cases hy:tm=0
    ·subst hy;rw[if_neg (by rintro ⟨_,h⟩;rcases h with h | h<;>simp_all)];(have hdz:dt=⟨#[]⟩:=by cases dt with | mk d=>cases d with | mk l=>simp at hx;subst hx;rfl);subst hdz;clear hk h1 e1 hx;by_cases hm0:0≤md
     ·by_cases hm1:md≤511
      ·rw[if_neg (fun h=>h ⟨hm0,hm1⟩)];rw[if_neg (by omega),if_neg (by decide)];(go_enter Tryz.func155,Tryz.ntmps155);(go_wp2_with fail);go_ret;exact⟨rfl,H0.out.1⟩
      ·rw[if_pos (fun h=>hm1 h.2)];(go_enter Tryz.func155,Tryz.ntmps155);(go_wp2_with fail);go_ret;exact⟨rfl,H0.out.1⟩
     ·rw[if_pos (fun h=>hm0 h.1)];(go_enter Tryz.func155,Tryz.ntmps155);(go_wp2_with fail);go_ret;exact⟨rfl,H0.out.1⟩
    ·rw[if_pos ⟨rfl,.inr hy⟩];(have hdz:dt=⟨#[]⟩:=by cases dt with | mk d=>cases d with | mk l=>simp at hx;subst hx;rfl);subst hdz;(have t0:(tm==0)=false:=by rw[zB];exact hy);(have t1:(tm !=0)=true:=by rw[bne_iff_ne];exact hy);clear hk h1 e1 hx hy;(go_enter Tryz.func155,Tryz.ntmps155);(go_wp2_with fail);go_ret;exact⟨rfl,H0.out.1⟩
   ·rw[if_pos ⟨rfl,.inl hx⟩];(have s0:dt.data.toList.isEmpty=false:=by cases hl:dt.data.toList with | nil=>exact absurd hl hx | cons a l=>rfl);(have s1:(!dt.data.toList.isEmpty)=true:=by rw[s0];rfl);(have s2:(dt.data.toList==[])=false:=by rw[zB];exact hx);(have s3:dt.toList.isEmpty=false:=by rw[ByteArray.toList_eq];exact s0);clear hk h1 e1 hx;(go_enter Tryz.func155,Tryz.ntmps155);(go_wp2_with fail);go_ret;exact⟨rfl,H0.out.1⟩
  ·rw[if_pos ⟨h1,h2⟩];have e2:(kd==2)=false:=by rw[zB];exact h2
   by_cases hn:kd<0
   ·clear hk h1 h2 e0 e1 e2;(go_enter Tryz.func155,Tryz.ntmps155);(go_wp2_with fail);go_ret;exact⟨rfl,H0.out.1⟩
   ·(have hn2:(2:Int)<kd:=by omega);clear hk h1 h2 e0 e1 e2;(go_enter Tryz.func155,Tryz.ntmps155);(go_wp2_with fail);go_ret;exact⟨rfl,H0.out.1⟩
theorem ref16Put_any (w:World)(B:Nat)(v:Value)(l:List NE)(p:ByteArray)(n:Nd)(h:OwnIt w B v l)(hB:B≤w.heap.size)(hu:Up ordS l)(hpt:Paths l)(hl:l.length≤1000)(hok:∀e∈l,e.1.size≤90000)(hp:p.size≤90000)(ht0:0≤n.time)(ht1:n.time<4294967296)(hd:n.data.size≤maxLen):
  Calls Tryz.prog 115 #[v,.string p,.agg n.c] w fun e w'=>∃r,e= .returned (.tuple #[r,.int .i64 (mayT l p n)])∧OwnIt w' B r (putT l p n)∧Below w.heap.size w w':=by
 have HPR:=zH (fun W=>refRight_any W p (by omega));have HUP:=zH (fun W=>refUps_any W p hp);have HND:=zH (fun W (hk:¬n.kind=0)=>ref14Right_any W n hk ht0 ht1 hd);have HG:=zH (fun W q (hb:Below w.heap.size w W)=>(show Calls Tryz.prog 70 #[v,.string q] W fun e w'=>e= .returned (.agg (getT l q).c)∧Below W.heap.size W w' from by
  rw[←refGetT_eq l q hu];exact ref16Get_any W v l q (h.below hb).slv))
 have HH:=zH (fun W (hb:Below w.heap.size w W)=>(show Calls Tryz.prog 156 #[v,.string p] W fun e w'=>e= .returned (.bool (holdsT l p))∧Below W.heap.size W w' from by
  rw[holds_any l p hu hpt];exact ref16Holds_any W v l p (h.below hb).slv hok))
 have HS:=zH (fun W (hb:Below w.heap.size w W)=>(show Calls Tryz.prog 157 #[v,.string p,.agg n.c] W fun e w'=>∃r,e= .returned r∧OwnIt w' W.heap.size r (putN ordS p n l)∧Below W.heap.size W w' from by
  rw[←setG_eq ordS_ord p n l hu];exact ref16Set_any W v l p n (h.below hb).slv hl hp hok))
 obtain⟨A0,c0,rfl,hAc,hAm,-⟩:=SlV_of_any h;have HO:=zH (zA h hB);clear h hB;have HPL:=zH (parent_last p);obtain⟨N,hN⟩:∃N,l.length=N:=⟨_,rfl⟩;rw[hN] at HG HH HS HO hAc hl⊢;have hM:mayT l p n=if rightL p.data.toList=false then 5 else if n.kind=0 then 1 else if ¬nodeR n=0 then nodeR n else if ¬parentT l p=0 then parentT l p else if ¬n.kind=2∧holdsT l p=true then 8 else if(getT l p).kind=0∧500≤N then 4 else 0:=by unfold mayT;rw[hN]
 have hPT:putT l p n=if mayT l p n=0 then putN ordS p n l else l:=rfl
 generalize mayT l p n=M at hM hPT⊢;generalize putT l p n=PT at hPT⊢;have HN:=zH hN;clear hN;have HB0:=zH (((zR w.heap.size w).alloc (zN _) (.cells n.c 57)));have HX:=zH (Blk.new w 57 n.c);have hpar:parentT l p=if parentS p=⟨#[]⟩ then 0 else if(getT l (parentS p)).kind=0 then 7 else if(getT l (parentS p)).kind=2 then 0 else 8:=rfl
 generalize hPP:parentT l p=PP at hM hpar;clear hPP;generalize hRR:nodeR n=RR at hM HND;clear hRR;generalize hGG:getT l p=GG at hM;have HGP:=zH (fun W (hb:Below w.heap.size w W)=>by have:=HG.out W p hb;rw[hGG] at this;exact this);clear hGG;obtain⟨gk,gm,gt,gd⟩:=GG;obtain⟨kd,md,tm,dt⟩:=n;simp only[Nd.c] at HND HS HB0 HX hM HGP⊢;unfold maxLen at hAm;have hfld:=nodeField0;clear ht0 ht1 hd;by_cases hr:rightL p.data.toList=true
 ·rw[if_neg (by rw[hr];decide)] at hM;rw[hr] at HPR;by_cases hkd:kd=0
  ·rw[if_pos hkd] at hM;have k0:(kd==0)=true:=by rw[beq_iff_eq];exact hkd
   clear hkd;(go_enter Tryz.func115,Tryz.ntmps115);(go_wp2_with fail);refine(HPR.out _).mono ?_;rintro _ w1 ⟨rfl,hb9⟩;have HB1:=zH (HB0.out.trans (hb9.mono HB0.out.size));have HX1:=zH (HX.out.below hb9 HX.out.lt);clear hb9;obtain⟨e0,e1,e2,e3⟩:=zc4 HX1.out;(simp at e0 e1 e2 e3);subst hM;rw[if_neg (by first | decide | assumption)] at hPT;subst hPT;(go_wp2_with fail);(go_ret2);exact⟨_,rfl,HO.out.1.below HB1.out,HB1.out⟩
  ·rw[if_neg hkd] at hM;have k0:(kd==0)=false:=by rw[zB];exact hkd
   have HK0:=zH hkd;clear hkd;(go_enter Tryz.func115,Tryz.ntmps115);(go_wp2_with fail);refine(HPR.out _).mono ?_;rintro _ w1 ⟨rfl,hb9⟩;have HB1:=zH (HB0.out.trans (hb9.mono HB0.out.size));have HX1:=zH (HX.out.below hb9 HX.out.lt);clear hb9;obtain⟨e0,e1,e2,e3⟩:=zc4 HX1.out;(simp at e0 e1 e2 e3);(go_wp2_with fail);refine(HND.out _ HK0.out).mono ?_;rintro _ w2 ⟨rfl,hb9⟩;have HB2:=zH (HB1.out.trans (hb9.mono HB1.out.size));have HX2:=zH (HX1.out.below hb9 HX1.out.lt);clear hb9;obtain⟨e0,e1,e2,e3⟩:=zc4 HX2.out;(simp at e0 e1 e2 e3);by_cases hrr:RR=0
   ·rw[if_neg (fun h=>h hrr)] at hM;(have r0:(RR==0)=true:=by rw[beq_iff_eq];exact hrr);(have r0':(RR !=0)=false:=by rw[bne_eq_false_iff_eq];exact hrr);clear hrr;(go_wp2_with fail);refine(HUP.out _).mono ?_;rintro _ w3 ⟨uv,rfl,us,hb9⟩;have HB3:=zH (HB2.out.trans (hb9.mono HB2.out.size));have HX3:=zH (HX2.out.below hb9 HX2.out.lt);clear hb9;obtain⟨e0,e1,e2,e3⟩:=zc4 HX3.out;(simp at e0 e1 e2 e3);obtain⟨A,c,rfl,hc1,hc2,hsl⟩:=us;obtain⟨U,hU⟩:∃U,upsS p=U:=⟨_,rfl⟩;rw[hU] at hc1 hsl HPL;rw[hU];clear hU;unfold maxLen at hc2;have HSL:=zH hsl;clear hsl;rcases HPL.out with ⟨rfl,hps⟩ | ⟨hne,hla,hps⟩
    ·rw[if_pos hps] at hpar;subst hpar;rw[if_neg (by decide)] at hM;simp only[List.length_nil] at hc1⊢;by_cases hk2:kd=2
     ·(have k2:(kd==2)=true:=by rw[beq_iff_eq];exact hk2);(have k2':(kd !=2)=false:=by rw[bne_eq_false_iff_eq];exact hk2);rw[if_neg (fun h=>h.1 hk2)] at hM;clear hk2;(go_wp2_with fail);refine(HGP.out _ HB3.out).mono ?_;rintro _ w4 ⟨rfl,hb9⟩;have HB4:=zH (HB3.out.trans (hb9.mono HB3.out.size));have HX4:=zH (HX3.out.below hb9 HX3.out.lt);clear hb9;obtain⟨e0,e1,e2,e3⟩:=zc4 HX4.out;(simp at e0 e1 e2 e3);by_cases hgk:gk=0
      ·(have g0:(gk==0)=true:=by rw[beq_iff_eq];exact hgk);by_cases hN5:500≤N
       ·rw[if_pos ⟨hgk,hN5⟩] at hM;clear hgk;subst hM;rw[if_neg (by first | decide | assumption)] at hPT;subst hPT;(go_wp2_with fail);(go_ret2);exact⟨_,rfl,HO.out.1.below HB4.out,HB4.out⟩
       ·rw[if_neg (fun h=>hN5 h.2)] at hM;clear hgk;subst hM;rw[if_pos rfl] at hPT;subst hPT;(go_wp2_with fail);refine(HS.out _ HB4.out).mono ?_;rintro _ w5 ⟨r,rfl,hr9,hb9⟩;have HF:=zH (zA hr9 hb9);clear hr9 hb9;(go_wp2_with fail);(go_ret2);exact⟨_,rfl,own_wide HF.out.1 (zT HO.out.2 HB4.out.size),HB4.out.trans (HF.out.2.mono HB4.out.size)⟩
      ·(have g0:(gk==0)=false:=by rw[zB];exact hgk);rw[if_neg (fun h=>hgk h.1)] at hM;clear hgk;subst hM;rw[if_pos rfl] at hPT;subst hPT;(go_wp2_with fail);refine(HS.out _ HB4.out).mono ?_;rintro _ w5 ⟨r,rfl,hr9,hb9⟩;have HF:=zH (zA hr9 hb9);clear hr9 hb9;(go_wp2_with fail);(go_ret2);exact⟨_,rfl,own_wide HF.out.1 (zT HO.out.2 HB4.out.size),HB4.out.trans (HF.out.2.mono HB4.out.size)⟩
     ·(have k2:(kd==2)=false:=by rw[zB];exact hk2);(have k2':(kd !=2)=true:=by rw[bne_iff_ne];exact hk2);by_cases hh:holdsT l p=true
      ·rw[if_pos ⟨hk2,hh⟩] at hM;rw[hh] at HH;clear hk2;(go_wp2_with fail);refine(HH.out _ HB3.out).mono ?_;rintro _ w4 ⟨rfl,hb9⟩;have HB4:=zH (HB3.out.trans (hb9.mono HB3.out.size));have HX4:=zH (HX3.out.below hb9 HX3.out.lt);clear hb9;obtain⟨e0,e1,e2,e3⟩:=zc4 HX4.out;(simp at e0 e1 e2 e3);subst hM;rw[if_neg (by first | decide | assumption)] at hPT;subst hPT;(go_wp2_with fail);(go_ret2);exact⟨_,rfl,HO.out.1.below HB4.out,HB4.out⟩
      ·rw[if_neg (fun h=>hh h.2)] at hM;rw[Bool.not_eq_true] at hh;rw[hh] at HH;clear hk2;(go_wp2_with fail);refine(HH.out _ HB3.out).mono ?_;rintro _ w4 ⟨rfl,hb9⟩;have HB4:=zH (HB3.out.trans (hb9.mono HB3.out.size));have HX4:=zH (HX3.out.below hb9 HX3.out.lt);clear hb9;obtain⟨e0,e1,e2,e3⟩:=zc4 HX4.out;(simp at e0 e1 e2 e3);(go_wp2_with fail);refine(HGP.out _ HB4.out).mono ?_;rintro _ w5 ⟨rfl,hb9⟩;have HB5:=zH (HB4.out.trans (hb9.mono HB4.out.size));have HX5:=zH (HX4.out.below hb9 HX4.out.lt);clear hb9;obtain⟨e0,e1,e2,e3⟩:=zc4 HX5.out;(simp at e0 e1 e2 e3);by_cases hgk:gk=0
       ·(have g0:(gk==0)=true:=by rw[beq_iff_eq];exact hgk);by_cases hN5:500≤N
        ·rw[if_pos ⟨hgk,hN5⟩] at hM;clear hgk;subst hM;rw[if_neg (by first | decide | assumption)] at hPT;subst hPT;(go_wp2_with fail);(go_ret2);exact⟨_,rfl,HO.out.1.below HB5.out,HB5.out⟩
        ·rw[if_neg (fun h=>hN5 h.2)] at hM;clear hgk;subst hM;rw[if_pos rfl] at hPT;subst hPT;(go_wp2_with fail);refine(HS.out _ HB5.out).mono ?_;rintro _ w6 ⟨r,rfl,hr9,hb9⟩;have HF:=zH (zA hr9 hb9);clear hr9 hb9;(go_wp2_with fail);(go_ret2);exact⟨_,rfl,own_wide HF.out.1 (zT HO.out.2 HB5.out.size),HB5.out.trans (HF.out.2.mono HB5.out.size)⟩
       ·(have g0:(gk==0)=false:=by rw[zB];exact hgk);rw[if_neg (fun h=>hgk h.1)] at hM;clear hgk;subst hM;rw[if_pos rfl] at hPT;subst hPT;(go_wp2_with fail);refine(HS.out _ HB5.out).mono ?_;rintro _ w6 ⟨r,rfl,hr9,hb9⟩;have HF:=zH (zA hr9 hb9);clear hr9 hb9;(go_wp2_with fail);(go_ret2);exact⟨_,rfl,own_wide HF.out.1 (zT HO.out.2 HB5.out.size),HB5.out.trans (HF.out.2.mono HB5.out.size)⟩
    ·rw[if_neg hps] at hpar;obtain⟨m,hm⟩:∃m,U.length=m+1:=⟨U.length-1,by have:=List.length_pos_iff.2 hne;omega⟩;obtain⟨b,off,rfl,hbb,hcs⟩:=HSL.out (by omega);have u0:=hcs m (by omega) 0 (by omega);(have hum:U[m]'(by omega)=parentS p:=by rw[←hla,List.getLast_eq_getElem];congr 1;omega);rw[hum] at u0;(simp [bE] at u0);clear hcs;rw[hm] at hc1⊢;clear hum hla hne;(have hm1:(((m+1:Nat):Int))-1=(m:Int):=by omega);generalize hPG:getT l (parentS p)=PG at hpar;have HPG:=zH (fun W (hb:Below w.heap.size w W)=>by have:=HG.out W (parentS p) hb;rw[hPG] at this;exact this);clear hPG;obtain⟨pk,pm,pt,pd⟩:=PG;simp only[Nd.c] at HPG hpar;(go_wp2_with fail);refine(HPG.out _ HB3.out).mono ?_;rintro _ w4 ⟨rfl,hb9⟩;have HB4:=zH (HB3.out.trans (hb9.mono HB3.out.size));have HX4:=zH (HX3.out.below hb9 HX3.out.lt);clear hb9;obtain⟨e0,e1,e2,e3⟩:=zc4 HX4.out;(simp at e0 e1 e2 e3);by_cases p0:pk=0
     ·rw[if_pos p0] at hpar;subst hpar;rw[if_pos (by decide)] at hM;(have q0:(pk==0)=true:=by rw[beq_iff_eq];exact p0);clear p0;subst hM;rw[if_neg (by first | decide | assumption)] at hPT;subst hPT;(go_wp2_with fail);(go_ret2);exact⟨_,rfl,HO.out.1.below HB4.out,HB4.out⟩
     ·rw[if_neg p0] at hpar;(have q0:(pk==0)=false:=by rw[zB];exact p0);clear p0;by_cases p2:pk=2
      ·rw[if_pos p2] at hpar;subst hpar;rw[if_neg (by decide)] at hM;(have q2:(pk==2)=true:=by rw[beq_iff_eq];exact p2);(have q2':(pk !=2)=false:=by rw[bne_eq_false_iff_eq];exact p2);clear p2;by_cases hk2:kd=2
       ·(have k2:(kd==2)=true:=by rw[beq_iff_eq];exact hk2);(have k2':(kd !=2)=false:=by rw[bne_eq_false_iff_eq];exact hk2);rw[if_neg (fun h=>h.1 hk2)] at hM;clear hk2;(go_wp2_with fail);refine(HGP.out _ HB4.out).mono ?_;rintro _ w5 ⟨rfl,hb9⟩;have HB5:=zH (HB4.out.trans (hb9.mono HB4.out.size));have HX5:=zH (HX4.out.below hb9 HX4.out.lt);clear hb9;obtain⟨e0,e1,e2,e3⟩:=zc4 HX5.out;(simp at e0 e1 e2 e3);by_cases hgk:gk=0
        ·(have g0:(gk==0)=true:=by rw[beq_iff_eq];exact hgk);by_cases hN5:500≤N
         ·rw[if_pos ⟨hgk,hN5⟩] at hM;clear hgk;subst hM;rw[if_neg (by first | decide | assumption)] at hPT;subst hPT;(go_wp2_with fail);(go_ret2);exact⟨_,rfl,HO.out.1.below HB5.out,HB5.out⟩
         ·rw[if_neg (fun h=>hN5 h.2)] at hM;clear hgk;subst hM;rw[if_pos rfl] at hPT;subst hPT;(go_wp2_with fail);refine(HS.out _ HB5.out).mono ?_;rintro _ w6 ⟨r,rfl,hr9,hb9⟩;have HF:=zH (zA hr9 hb9);clear hr9 hb9;(go_wp2_with fail);(go_ret2);exact⟨_,rfl,own_wide HF.out.1 (zT HO.out.2 HB5.out.size),HB5.out.trans (HF.out.2.mono HB5.out.size)⟩
        ·(have g0:(gk==0)=false:=by rw[zB];exact hgk);rw[if_neg (fun h=>hgk h.1)] at hM;clear hgk;subst hM;rw[if_pos rfl] at hPT;subst hPT;(go_wp2_with fail);refine(HS.out _ HB5.out).mono ?_;rintro _ w6 ⟨r,rfl,hr9,hb9⟩;have HF:=zH (zA hr9 hb9);clear hr9 hb9;(go_wp2_with fail);(go_ret2);exact⟨_,rfl,own_wide HF.out.1 (zT HO.out.2 HB5.out.size),HB5.out.trans (HF.out.2.mono HB5.out.size)⟩
       ·(have k2:(kd==2)=false:=by rw[zB];exact hk2);(have k2':(kd !=2)=true:=by rw[bne_iff_ne];exact hk2);by_cases hh:holdsT l p=true
        ·rw[if_pos ⟨hk2,hh⟩] at hM;rw[hh] at HH;clear hk2;(go_wp2_with fail);refine(HH.out _ HB4.out).mono ?_;rintro _ w5 ⟨rfl,hb9⟩;have HB5:=zH (HB4.out.trans (hb9.mono HB4.out.size));have HX5:=zH (HX4.out.below hb9 HX4.out.lt);clear hb9;obtain⟨e0,e1,e2,e3⟩:=zc4 HX5.out;(simp at e0 e1 e2 e3);subst hM;rw[if_neg (by first | decide | assumption)] at hPT;subst hPT;(go_wp2_with fail);(go_ret2);exact⟨_,rfl,HO.out.1.below HB5.out,HB5.out⟩
        ·rw[if_neg (fun h=>hh h.2)] at hM;rw[Bool.not_eq_true] at hh;rw[hh] at HH;clear hk2;(go_wp2_with fail);refine(HH.out _ HB4.out).mono ?_;rintro _ w5 ⟨rfl,hb9⟩;have HB5:=zH (HB4.out.trans (hb9.mono HB4.out.size));have HX5:=zH (HX4.out.below hb9 HX4.out.lt);clear hb9;obtain⟨e0,e1,e2,e3⟩:=zc4 HX5.out;(simp at e0 e1 e2 e3);(go_wp2_with fail);refine(HGP.out _ HB5.out).mono ?_;rintro _ w6 ⟨rfl,hb9⟩;have HB6:=zH (HB5.out.trans (hb9.mono HB5.out.size));have HX6:=zH (HX5.out.below hb9 HX5.out.lt);clear hb9;obtain⟨e0,e1,e2,e3⟩:=zc4 HX6.out;(simp at e0 e1 e2 e3);by_cases hgk:gk=0
         ·(have g0:(gk==0)=true:=by rw[beq_iff_eq];exact hgk);by_cases hN5:500≤N
          ·rw[if_pos ⟨hgk,hN5⟩] at hM;clear hgk;subst hM;rw[if_neg (by first | decide | assumption)] at hPT;subst hPT;(go_wp2_with fail);(go_ret2);exact⟨_,rfl,HO.out.1.below HB6.out,HB6.out⟩
          ·rw[if_neg (fun h=>hN5 h.2)] at hM;clear hgk;subst hM;rw[if_pos rfl] at hPT;subst hPT;(go_wp2_with fail);refine(HS.out _ HB6.out).mono ?_;rintro _ w7 ⟨r,rfl,hr9,hb9⟩;have HF:=zH (zA hr9 hb9);clear hr9 hb9;(go_wp2_with fail);(go_ret2);exact⟨_,rfl,own_wide HF.out.1 (zT HO.out.2 HB6.out.size),HB6.out.trans (HF.out.2.mono HB6.out.size)⟩
         ·(have g0:(gk==0)=false:=by rw[zB];exact hgk);rw[if_neg (fun h=>hgk h.1)] at hM;clear hgk;subst hM;rw[if_pos rfl] at hPT;subst hPT;(go_wp2_with fail);refine(HS.out _ HB6.out).mono ?_;rintro _ w7 ⟨r,rfl,hr9,hb9⟩;have HF:=zH (zA hr9 hb9);clear hr9 hb9;(go_wp2_with fail);(go_ret2);exact⟨_,rfl,own_wide HF.out.1 (zT HO.out.2 HB6.out.size),HB6.out.trans (HF.out.2.mono HB6.out.size)⟩
      ·rw[if_neg p2] at hpar;subst hpar;rw[if_pos (by decide)] at hM;(have q2:(pk==2)=false:=by rw[zB];exact p2);(have q2':(pk !=2)=true:=by rw[bne_iff_ne];exact p2);clear p2;subst hM;rw[if_neg (by first | decide | assumption)] at hPT;subst hPT;(go_wp2_with fail);(go_ret2);exact⟨_,rfl,HO.out.1.below HB4.out,HB4.out⟩
   ·rw[if_pos hrr] at hM;(have r0:(RR==0)=false:=by rw[zB];exact hrr);(have r0':(RR !=0)=true:=by rw[bne_iff_ne];exact hrr);subst hM;rw[if_neg (by first | decide | assumption)] at hPT;subst hPT;(go_wp2_with fail);(go_ret2);exact⟨_,rfl,HO.out.1.below HB2.out,HB2.out⟩
 ·rw[Bool.not_eq_true] at hr;rw[if_pos hr] at hM;rw[hr] at HPR;go_enter Tryz.func115,Tryz.ntmps115
  go_wp2_with fail
  refine(HPR.out _).mono ?_;rintro _ w1 ⟨rfl,hb9⟩;have HB1:=zH (HB0.out.trans (hb9.mono HB0.out.size));have HX1:=zH (HX.out.below hb9 HX.out.lt);clear hb9;obtain⟨e0,e1,e2,e3⟩:=zc4 HX1.out;simp at e0 e1 e2 e3
  subst hM;rw[if_neg (by first | decide | assumption)] at hPT;subst hPT;go_wp2_with fail
  go_ret2
  exact⟨_,rfl,HO.out.1.below HB1.out,HB1.out⟩
theorem eq_item (a d:ByteArray)(k m t:Int)(W:World):(binOp .eql 59 (.agg #[.string a,.int .i64 k,.int .i64 m,.int .u32 t,.string d]) (.agg #[.string a,.int .i64 k,.int .i64 m,.int .u32 t,.string d])).run Tryz.prog W= .ok (.bool true) W:=by
 simp [go_sem,Tryz.underlying59,Tryz.underlying57,Tryz.underlying3,Tryz.underlying51,Tryz.underlying9]
theorem ref16Whole_same (w:World)(u v:Value)(l:List NE)(hu:SlV w 5 eCSN u l)(hv:SlV w 5 eCSN v l):
  Calls Tryz.prog 10 #[u,v] w fun e w'=>e= .returned (.bool true)∧Below w.heap.size w w':=by
 obtain⟨A1,c1,rfl,hc11,hc12,hsl1⟩:=hu;obtain⟨A2,c2,rfl,hc21,hc22,hsl2⟩:=hv;obtain⟨n,hn⟩:∃n,l.length=n:=⟨_,rfl⟩;rw[hn] at hc11 hc21⊢;unfold maxLen at hc12 hc22;have HL:=zH hn;clear hn;have H1:=zH hsl1;clear hsl1;have H2:=zH hsl2;clear hsl2;have HEQ:=eq_item;go_enter Tryz.func10,Tryz.ntmps10
 go_wp2_with fail
 go_loopw [13] (fun iv wr=>∃i:Nat,i≤n∧iv= .int .i64 i∧Below w.heap.size w wr) (fun iv _=>n-(intOf iv).toNat)
 case atStart=>exact⟨0,Nat.zero_le _,rfl,zR _ _⟩
 case round=>
  obtain⟨i,hi,rfl,hb⟩:=hrel;by_cases hlt:i<n
  ·have hiL:i<l.length:=by have:=HL.out;omega
   obtain⟨b1,off1,rfl,hbb1,hcs1⟩:=(H1.out.below hb (zN _)) (by omega);obtain⟨b2,off2,rfl,hbb2,hcs2⟩:=(H2.out.below hb (zN _)) (by omega);have c0:=hcs1 i hiL 0 (by omega);have c1':=hcs1 i hiL 1 (by omega);have c2':=hcs1 i hiL 2 (by omega);have c3':=hcs1 i hiL 3 (by omega);have c4:=hcs1 i hiL 4 (by omega);obtain⟨d0,d1,d2,d3,d4⟩:=zs5 (hcs2 i hiL);simp only[eCSN,qB,qC,Nat.add_zero] at c0 c1' c2' c3' c4 d0 d1 d2 d3 d4;clear hcs1 hcs2;(have hi1:(i:Int)<n:=by omega);obtain⟨x,hx⟩:∃x,l[i]=x:=⟨_,rfl⟩;simp only[hx] at c0 c1' c2' c3' c4 d0 d1 d2 d3 d4;obtain⟨a,k,m,t,d⟩:=x;simp only at c0 c1' c2' c3' c4 d0 d1 d2 d3 d4;clear hx;have HB:=zH hb;clear hb;(go_wp2_with fail);(go_region);(go_wp2_with fail);go_roundw
   case rel=>exact⟨i+1,by omega,by go_num,HB.out.drew⟩
   case measure=>simp [intOf];omega
  ·obtain rfl:i=n:=by omega
   have HB:=zH hb;clear hb;(go_wp2_with fail);go_ret;exact⟨rfl,HB.out⟩
end Go.Proofs.YtnpehjgnplaabaaGreatDoor
namespace Sw
end Sw
namespace Go.Proofs.YtnpehjgnplaabaaGreatDoor
open Go Go.RowKit
open Sw
end Go.Proofs.YtnpehjgnplaabaaGreatDoor
namespace Sw
end Sw
namespace Go.Proofs.YtnpehjgnplaabaaGreatDoor
open Go Go.RowKit
open Sw
end Go.Proofs.YtnpehjgnplaabaaGreatDoor
namespace Sw
open Go.Proofs.YtnpehjgnplaabaaGreatDoor (awayT)
end Sw
namespace Go.Proofs.YtnpehjgnplaabaaGreatDoor
open Go Go.RowKit
open Sw
end Go.Proofs.YtnpehjgnplaabaaGreatDoor
namespace Sw
open Go.Proofs.YtnpehjgnplaabaaGreatDoor (awayT putT_len)
def putsT:List NE→List NE→Int×List NE
 | ys,[]=>(0,ys)
 | ys,x::r=>if mayT ys x.1 x.2=0 then putsT (putT ys x.1 x.2) r else(mayT ys x.1 x.2,ys)
theorem putsT_step (ys:List NE)(L:List NE)(i:Nat)(h:i<L.length):putsT ys (L.drop i)=if mayT ys L[i].1 L[i].2=0 then putsT (putT ys L[i].1 L[i].2) (L.drop (i+1)) else(mayT ys L[i].1 L[i].2,ys):=by
 rw[List.drop_eq_getElem_cons h];rfl
theorem putsT_ti:∀(L:List NE) {ys:List NE},TI ys→TI (putsT ys L).2
 | [],ys,h=>h
 | x::L,ys,h=>by
  unfold putsT;split
  ·exact putsT_ti L (h.putT x.1 x.2)
  ·exact h
end Sw
namespace Go.Proofs.YtnpehjgnplaabaaGreatDoor
open Go Go.RowKit
open Sw
end Go.Proofs.YtnpehjgnplaabaaGreatDoor
namespace Sw
open Go
open Go.Proofs.YtnpehjgnplaabaaGreatDoor (partsS awayT undT)
section
variable {xs:List NE} {fr tt:ByteArray}
end
end Sw
namespace Sw
open Go
open Go.Proofs.YtnpehjgnplaabaaGreatDoor (awayT undT putT_len)
theorem put_end {xs:List NE}{p:ByteArray}(h:∀e∈xs,ordS e.1 p<0)(n:Nd)(hu:Up ordS xs):putN ordS p n xs=xs++[(p,n)]:=by
 rw[put_filter ordS_ord p n xs hu,List.filter_eq_self.2 (fun e he=>by simpa using h e he),List.filter_eq_nil_iff.2 (fun e he=>by have:=h e he;simp;omega)]
theorem may_next {xs pre r:List NE}{x:NE}(h:TI xs)(hl:xs.length≤500)(hx:xs=pre++x::r):mayT pre x.1 x.2=0∧putT pre x.1 x.2=pre++[x]:=by
 have hxm:x∈xs:=by rw[hx];simp
 have hup:=h.up;rw[hx] at hup;have hpx:∀e∈pre,ordS e.1 x.1<0:=fun e he=>(List.pairwise_append.1 hup).2.2 e he x (List.mem_cons_self ..)
 have hpu:Up ordS pre:=(List.pairwise_append.1 hup).1;have hpm:∀e∈pre,e∈xs:=fun e he=>by rw[hx];exact zU _ he
 have hlen:pre.length<500:=by have:=congrArg List.length hx;simp at this;omega
 have hm:mayT pre x.1 x.2=0:=by
  refine may_of (h.paths x hxm) (h.nod x hxm).1 (h.nod x hxm).2 (parentT_of ?_) (.inr (holds_no hpu (fun e he=>h.paths e (hpm e he)) fun e he hq=>?_)) (fun _=>hlen)
  ·rcases parent_last x.1 with ⟨_,h0⟩ | ⟨hne,hlast,h0⟩
   ·exact .inl h0
   ·(right);(have hpm2:parentS x.1∈upsS x.1:=by rw[←hlast];exact List.getLast_mem hne);obtain⟨d,hd1,hd2,hd3⟩:=h.par x hxm _ hpm2;have hdp:d∈pre:=by
     have hd:=hd1;rw[hx] at hd;rcases List.mem_append.1 hd with hd | hd
     ·exact hd
     ·exfalso
      have ho:=ups_order hpm2;rw[←hd2] at ho;rcases List.mem_cons.1 hd with rfl | hd
      ·rw[ordS_refl] at ho;omega
      ·have:=(List.pairwise_cons.1 (List.pairwise_append.1 hup).2.1).1 d hd;have hn:=ordS_neg x.1 d.1;omega
    rw[←hd2,getT_in hpu hdp];exact hd3
  ·have ho:=ups_order hq;have h1:=hpx e he;have hn:=ordS_neg e.1 x.1;omega
 have hput:putT pre x.1 x.2=pre++[x]:=by unfold putT;rw[if_pos hm,put_end hpx x.2 hpu]
 exact⟨hm,hput⟩
theorem may_take {xs:List NE}(h:TI xs)(hl:xs.length≤500)(i:Nat)(hi:i<xs.length):mayT (xs.take i) xs[i].1 xs[i].2=0∧putT (xs.take i) xs[i].1 xs[i].2=xs.take (i+1):=by
 obtain⟨h1,h2⟩:=may_next h hl (pre:=xs.take i) (x:=xs[i]) (r:=xs.drop (i+1)) (by rw[←List.drop_eq_getElem_cons hi,List.take_append_drop]);exact⟨h1,by rw[h2,zG hi]⟩
theorem ti_of_puts {l:List NE}(h:(putsT [] l).2=l):TI l:=by
 rw[←h];exact putsT_ti l TI.nil
end Sw
namespace Go.Proofs.YtnpehjgnplaabaaGreatDoor
open Go Go.RowKit
open Sw
theorem item_ne {a a':ByteArray}{k m t k' m' t':Int}{d d':ByteArray}(h:¬((a,(⟨k,m,t,d⟩:Nd)):NE)=(a',⟨k',m',t',d'⟩)):
  ¬a.toList=a'.toList∨(a=a'∧¬k=k')∨(a=a'∧k=k'∧¬m=m')∨(a=a'∧k=k'∧m=m'∧¬t=t')∨(a=a'∧k=k'∧m=m'∧t=t'∧¬d.toList=d'.toList):=by
 have hd:∀x y:ByteArray,x.toList=y.toList→x=y:=fun x y h=>by rw[ByteArray.toList_eq,ByteArray.toList_eq] at h;exact dat_inj h
 by_cases h1:a.toList=a'.toList
 ·have e1:=hd _ _ h1;by_cases h2:k=k'
  ·by_cases h3:m=m'
   ·by_cases h4:t=t'
    ·by_cases h5:d.toList=d'.toList
     ·have e5:=hd _ _ h5;subst e1 h2 h3 h4 e5;exact absurd rfl h
     ·exact .inr (.inr (.inr (.inr ⟨e1,h2,h3,h4,h5⟩)))
    ·exact .inr (.inr (.inr (.inl ⟨e1,h2,h3,h4⟩)))
   ·exact .inr (.inr (.inl ⟨e1,h2,h3⟩))
  ·exact .inr (.inl ⟨e1,h2⟩)
 ·exact .inl h1
theorem ref16Whole_any (w:World)(u v:Value)(l m:List NE)(hu:SlV w 5 eCSN u l)(hv:SlV w 5 eCSN v m):
  Calls Tryz.prog 10 #[u,v] w fun e w'=>∃R:Bool,e= .returned (.bool R)∧(R=true↔l=m)∧Below w.heap.size w w':=by
 obtain⟨A1,c1,rfl,hc11,hc12,hsl1⟩:=hu;obtain⟨A2,c2,rfl,hc21,hc22,hsl2⟩:=hv;obtain⟨n,hn⟩:∃n,l.length=n:=⟨_,rfl⟩;obtain⟨n2,hn2⟩:∃n2,m.length=n2:=⟨_,rfl⟩;rw[hn] at hc11⊢;rw[hn2] at hc21⊢;unfold maxLen at hc12 hc22;have HL:=zH (zA hn hn2);clear hn hn2;have H1:=zH hsl1;clear hsl1;have H2:=zH hsl2;clear hsl2;by_cases hnn:n=n2
 ·obtain rfl:=hnn;go_enter Tryz.func10,Tryz.ntmps10
  go_wp2_with fail
  go_loopw [13] (fun iv wr=>∃i:Nat,i≤n∧iv= .int .i64 i∧(∀k (hk:k<l.length) (hk2:k<m.length),k<i→l[k]=m[k])∧Below w.heap.size w wr) (fun iv _=>n-(intOf iv).toNat)
  case atStart=>exact⟨0,Nat.zero_le _,rfl,fun k _ _ h=>absurd h (Nat.not_lt_zero _),zR _ _⟩
  case round=>
   obtain⟨i,hi,rfl,hall,hb⟩:=hrel;have HA:=zH hall;clear hall;by_cases hlt:i<n
   ·(have hiL:i<l.length:=by have:=HL.out.1;omega);(have hiM:i<m.length:=by have:=HL.out.2;omega);obtain⟨b1,off1,rfl,hbb1,hcs1⟩:=(H1.out.below hb (zN _)) (by omega);obtain⟨b2,off2,rfl,hbb2,hcs2⟩:=(H2.out.below hb (zN _)) (by omega);have c0:=hcs1 i hiL 0 (by omega);have c1':=hcs1 i hiL 1 (by omega);have c2':=hcs1 i hiL 2 (by omega);have c3':=hcs1 i hiL 3 (by omega);have c4:=hcs1 i hiL 4 (by omega);obtain⟨d0,d1,d2,d3,d4⟩:=zs5 (hcs2 i hiM);simp only[eCSN,qB,qC,Nat.add_zero] at c0 c1' c2' c3' c4 d0 d1 d2 d3 d4;clear hcs1 hcs2;(have hi1:(i:Int)<n:=by omega);have HT:=zH (show l[i]=m[i]→∀k (hk:k<l.length) (hk2:k<m.length),k<i+1→l[k]=m[k] from fun h k hk hk2 hki=>by
     by_cases e:k=i
     ·subst e;exact h
     ·exact HA.out k hk hk2 (by omega))
    have HF:=zH (show ¬l[i]=m[i]→¬l=m from fun h e=>h (by simp only[e]));obtain⟨x,hx⟩:∃x,l[i]=x:=⟨_,rfl⟩;obtain⟨y,hy⟩:∃y,m[i]=y:=⟨_,rfl⟩;rw[hx,hy] at HT HF;simp only[hx] at c0 c1' c2' c3' c4;simp only[hy] at d0 d1 d2 d3 d4;clear hx hy;have HB:=zH hb;clear hb;by_cases hxy:x=y
    ·subst hxy;have HT2:=zH (HT.out rfl);(go_wp2_with fail);(go_region);(go_wp2_with fail);go_roundw
     case rel=>exact⟨i+1,by omega,by go_num,HT2.out,HB.out.drew⟩
     case measure=>simp [intOf];omega
    ·have HF2:=zH (HF.out hxy);obtain⟨a,⟨k,mo,t,d⟩⟩:=x;obtain⟨a',⟨k',mo',t',d'⟩⟩:=y;simp only at c0 c1' c2' c3' c4 d0 d1 d2 d3 d4;have hne:=item_ne hxy;clear hxy HT HF;(rcases hne with hne | ⟨rfl,hne⟩ | ⟨rfl,rfl,hne⟩ | ⟨rfl,rfl,rfl,hne⟩ | ⟨rfl,rfl,rfl,rfl,hne⟩);all_goals
      (go_wp2_with fail);(go_region);(go_wp2_with fail);go_ret;exact⟨false,rfl,⟨fun h=>(by cases h),fun h=>absurd h HF2.out⟩,HB.out.drew⟩
   ·(obtain rfl:i=n:=by omega);(have hlm:l=m:=List.ext_getElem (by rw[HL.out.1,HL.out.2]) fun k h1 h2=>HA.out k h1 h2 (by rw[←HL.out.1];exact h1));have HB:=zH (zA hb hlm);clear hb hlm;(go_wp2_with fail);go_ret;exact⟨true,rfl,⟨fun _=>HB.out.2,fun _=>rfl⟩,HB.out.1⟩
 ·have hne:((n:Int) !=n2)=true:=by rw[bne_iff_ne];omega
  have HN:=zH (show ¬l=m from fun e=>hnn (by rw[←HL.out.1,←HL.out.2,e]));clear hnn;go_enter Tryz.func10,Tryz.ntmps10
  go_wp2_with fail
  go_ret;exact⟨false,rfl,⟨fun h=>(by cases h),fun h=>absurd h HN.out⟩,zR _ _⟩
theorem ref16Of_any (w:World)(v:Value)(l:List NE)(h:SlV w 5 eCSN v l)(hl:l.length≤500)(hin:∀x∈l,x.1.size≤90000∧NdIn x.2):
  Calls Tryz.prog 76 #[v] w fun e w'=>∃A j c,∃k:Int,e= .returned (.tuple #[.slice A j c,.int .i64 k,.int .i64 (putsT [] l).1])∧((putsT [] l).1=0→OwnIt w' w.heap.size (.slice A j c) (putsT [] l).2)∧Below w.heap.size w w':=by
 obtain⟨A,c,rfl,hc1,hc2,hsl⟩:=h;obtain⟨n,hn⟩:∃n,l.length=n:=⟨_,rfl⟩;rw[hn] at hc1 hl⊢;unfold maxLen at hc2;have HL:=zH (zA hn (zA hsl hin));clear hn hsl hin;go_enter Tryz.func76,Tryz.ntmps76
 go_wp2_with fail
 go_loopw [5,12] (fun ov iv wr=>∃(i:Nat) (ys:List NE),i≤n∧iv= .int .i64 i∧OwnIt wr w.heap.size ov ys∧putsT [] l=putsT ys (l.drop i)∧ys.length≤i∧Up ordS ys∧Paths ys∧(∀e∈ys,e.1.size≤90000)∧Below w.heap.size w wr) (fun _ iv _=>n-(intOf iv).toNat)
 case atStart=>exact⟨0,[],Nat.zero_le _,rfl,World.ownsRow_nil _ _ _ _,by rw[List.drop_zero],zN _,List.Pairwise.nil,fun _ h=>absurd h (by simp),fun _ h=>absurd h (by simp),zR _ _⟩
 case round=>
  obtain⟨i,ys,hi,rfl,ho,hps,hyl,hyu,hyp,hyo,hb⟩:=hrel;obtain⟨A5,c5,rfl,_,_,_⟩:=SlV_of_any ho;by_cases hlt:i<n
  ·have hiL:i<l.length:=by rw[HL.out.1];exact hlt
   obtain⟨b,off,rfl,hbb,hcs⟩:=(HL.out.2.1.below hb (zN _)) (by omega);obtain⟨c0,c1,c2⟩:=zs3 (hcs i hiL);have c3':=hcs i hiL 3 (by omega);have c4:=hcs i hiL 4 (by omega);simp only[eCSN,qB,qC,Nat.add_zero] at c0 c1 c2 c3' c4;clear hcs;(have hi1:(i:Int)<n:=by omega);obtain⟨hq,hni⟩:=HL.out.2.2 l[i] (zP hiL);have hst:=putsT_step ys l i hiL;obtain⟨⟨q,kd,md,tm,dt⟩,hx⟩:∃x,l[i]=x:=⟨_,rfl⟩;simp only[hx] at c0 c1 c2 c3' c4 hq hni hst;clear hx;have hba:=(zR wr.heap.size wr).alloc (zN _) (.cells #[.string q,.int .i64 kd,.int .i64 md,.int .u32 tm,.string dt] 59);have HP:=zH (ref16Put_any _ w.heap.size (.slice A5 ys.length c5) ys q ⟨kd,md,tm,dt⟩ (ho.below hba) (zT hb.size hba.size) hyu hyp (by omega) hyo (by omega) hni.t0 hni.t1 hni.size);have hpl:=putT_len ys q ⟨kd,md,tm,dt⟩;(have hpu:Up ordS (putT ys q ⟨kd,md,tm,dt⟩):=by unfold putT;split;exact put_up ordS_ord _ _ _ hyu;exact hyu);have hpo:∀e∈putT ys q ⟨kd,md,tm,dt⟩,e.1.size≤90000:=fun e he=>by
    unfold putT at he;split at he
    ·rcases put_mem q _ ys e he with rfl | he
     ·exact hq
     ·exact hyo e he
    ·exact hyo e he
   have HQ:=zH (zA (hps.trans hst) (zA (hb.trans (hba.mono hb.size)) (zA hpu (zA (hyp.ofPut q ⟨kd,md,tm,dt⟩) hpo))));clear hba ho hps hst hb hpu hpo hyu hyp hyo;generalize mayT ys q ⟨kd,md,tm,dt⟩=why at*;generalize putT ys q ⟨kd,md,tm,dt⟩=zs at*;simp only[Nd.c] at HP;obtain⟨ny,hny⟩:∃ny,ys.length=ny:=⟨_,rfl⟩;rw[hny] at HP hyl hpl;rw[hny];clear hny;(go_wp2_with fail);refine HP.out.mono ?_;rintro e1 w3 ⟨r,rfl,ho3,hb3⟩;obtain⟨A6,c6,rfl,_,_,_⟩:=SlV_of_any ho3;have H3:=zH (zA ho3 (HQ.out.2.1.trans (hb3.mono HQ.out.2.1.size)));clear ho3 hb3 HP;by_cases hw:why=0
   ·(have hwe:(why !=0)=false:=by rw[hw];rfl);have HF:=zH (show putsT [] l=putsT zs (l.drop (i+1)) from by rw[HQ.out.1,if_pos hw]);clear hw;(go_wp2_with fail);go_roundw
    case rel=>exact⟨i+1,zs,by omega,by go_num,H3.out.1,HF.out,by omega,HQ.out.2.2.1,HQ.out.2.2.2.1,HQ.out.2.2.2.2,H3.out.2⟩
    case measure=>simp [intOf];omega
   ·(have hwe:(why !=0)=true:=by rw[bne_iff_ne];exact hw);have HF:=zH (show putsT [] l=(why,ys) from by rw[HQ.out.1,if_neg hw]);have HW:=zH hw;clear hw;(go_wp2_with fail);refine bodyPost_ret (results_tmp3 rfl _ _ _) rfl ?_;rw[HF.out];exact⟨_,_,_,_,rfl,fun h=>absurd h HW.out,H3.out.2⟩
  ·obtain rfl:n=i:=by omega
   rw[List.drop_of_length_le (by rw[HL.out.1];omega)] at hps;have hps':putsT [] l=(0,ys):=hps;have HF:=zH (zA hps' (zA ho hb));clear hps hps' ho hb hyu hyp hyo;(go_wp2_with fail);refine bodyPost_ret (results_tmp3 rfl _ _ _) rfl ?_;rw[HF.out.1];exact⟨_,_,_,_,rfl,fun _=>HF.out.2.1,HF.out.2.2⟩
theorem ref16Right_any (w:World)(v:Value)(l:List NE)(h:SlV w 5 eCSN v l)(hl:l.length≤500)(hin:∀x∈l,x.1.size≤90000∧NdIn x.2):
  Calls Tryz.prog 45 #[v] w fun e w'=>∃R:Bool,e= .returned (.bool R)∧(R=true↔putsT [] l=(0,l))∧Below w.heap.size w w':=by
 have HO:=zH (ref16Of_any w v l h hl hin);have HH:=zH h;obtain⟨A,c,rfl,hc1,hc2,hsl⟩:=h;obtain⟨n,hn⟩:∃n,l.length=n:=⟨_,rfl⟩;rw[hn] at HO HH;rw[hn];clear hsl hc1 hc2 hn hl;obtain⟨⟨why,ys⟩,hP⟩:∃p,putsT [] l=p:=⟨_,rfl⟩;rw[hP] at HO;have HP:=zH hP;clear hP;simp only at HO;by_cases hw:why=0
 ·have hwe:(why==0)=true:=by rw[hw];rfl
  have HW:=zH hw;clear hw;go_enter Tryz.func45,Tryz.ntmps45
  go_wp2_with fail
  refine HO.out.mono ?_;rintro e w1 ⟨A1,j1,c1,k1,rfl,ho1,hb1⟩;have ho2:=ho1 HW.out;have HWH:=zH (ref16Whole_any w1 _ _ ys l ho2.slv (HH.out.below hb1 (zN _)));have HB:=zH hb1;clear ho1 ho2 hb1 HO;go_wp2_with fail
  refine HWH.out.mono ?_;rintro e w2 ⟨R,rfl,hR,hb2⟩;have HF:=zH (zA hR (HB.out.trans (hb2.mono HB.out.size)));clear hR hb2 HWH;go_wp2_with fail
  go_ret;rw[HP.out];refine⟨R,rfl,?_,HF.out.2⟩;rw[HF.out.1,HW.out];exact⟨fun e=>by rw[e],fun e=>congrArg Prod.snd e⟩
 ·have hwe:(why==0)=false:=by rw[zB];exact hw
  have HW:=zH hw;clear hw;go_enter Tryz.func45,Tryz.ntmps45
  go_wp2_with fail
  refine HO.out.mono ?_;rintro e w1 ⟨A1,j1,c1,k1,rfl,ho1,hb1⟩;have HB:=zH hb1;clear ho1 hb1 HO;go_wp2_with fail
  go_ret;rw[HP.out];exact⟨false,rfl,⟨fun h=>(by cases h),fun e=>absurd (congrArg Prod.fst e) HW.out⟩,HB.out⟩
theorem parent_len (p:ByteArray):(parentS p).size≤200:=by
 rcases parent_last p with ⟨_,h⟩ | ⟨h,he,_⟩
 ·rw[h];decide
 ·rw[←he,List.getLast_eq_getElem];exact(ups_step p _ _).2.1
theorem treeOf_any (w:World)(v:Value)(l:List NE)(h:SlV w 5 eCSN v l)(hl:l.length≤500)(hin:∀x∈l,x.1.size≤90000∧NdIn x.2)(hti:TI l):
  Calls Tryz.prog 7 #[v] w fun e w'=>∃bt bm,e= .returned (.tuple #[.pointer (some ⟨bt,0,none⟩),.int .i64 l.length,.int .i64 0])∧TreeAt w' bt bm l∧w.heap.size≤bt∧w.heap.size≤bm∧Below w.heap.size w w':=by
 obtain⟨A,c,rfl,hc1,hc2,hsl⟩:=h;obtain⟨n,hn⟩:∃n,l.length=n:=⟨_,rfl⟩;rw[hn] at hc1 hl⊢;unfold maxLen at hc2;have HL:=zH (zA hn (zA hsl (zA hin hti)));clear hn hsl hin hti;have HN:=zH (treeNew_any w);go_enter Tryz.func7,Tryz.ntmps7
 go_wp2_with fail
 refine HN.out.mono ?_;rintro e w1 ⟨bt,bm,rfl,hT,hbt,hbm,hb1⟩;have H1:=zH (zA hT (zA hb1 (zA hbt hbm)));clear hT hb1 hbt hbm HN;go_wp2_with fail
 go_loopw [12] (fun iv wr=>∃i:Nat,i≤n∧iv= .int .i64 i∧TreeAt wr bt bm (l.take i)∧Below w.heap.size w wr) (fun iv _=>n-(intOf iv).toNat)
 case atStart=>exact⟨0,Nat.zero_le _,rfl,H1.out.1,H1.out.2.1⟩
 case round=>
  obtain⟨i,hi,rfl,hT,hb⟩:=hrel;by_cases hlt:i<n
  ·have hiL:i<l.length:=by rw[HL.out.1];exact hlt
   obtain⟨b,off,rfl,hbb,hcs⟩:=(HL.out.2.1.below hb (zN _)) (by omega);obtain⟨c0,c1,c2⟩:=zs3 (hcs i hiL);have c3':=hcs i hiL 3 (by omega);have c4:=hcs i hiL 4 (by omega);simp only[eCSN,qB,qC,Nat.add_zero] at c0 c1 c2 c3' c4;clear hcs;(have hi1:(i:Int)<n:=by omega);obtain⟨hq,hni⟩:=HL.out.2.2.1 l[i] (zP hiL);obtain⟨hm,hp⟩:=may_take HL.out.2.2.2 (by rw[HL.out.1];exact hl) i hiL;have hpar:(parentS l[i].1).size≤90000:=zT (parent_len _) (by decide);obtain⟨⟨q,kd,md,tm,dt⟩,hx⟩:∃x,l[i]=x:=⟨_,rfl⟩;simp only[hx] at c0 c1 c2 c3' c4 hq hni hm hp hpar;clear hx;have hba:=(zR wr.heap.size wr).alloc (zN _) (.cells #[.string q,.int .i64 kd,.int .i64 md,.int .u32 tm,.string dt] 59);have HP:=zH (treePut_any _ bt bm (l.take i) q ⟨kd,md,tm,dt⟩ (hT.below hba) (by rw[zL];omega) hq hpar hni);rw[hm,hp] at HP;simp only[Nd.c] at HP;have HQ:=zH (hb.trans (hba.mono hb.size));clear hba hT hb hm hp hni hq hpar;(go_wp2_with fail);refine HP.out.mono ?_;rintro e1 w3 ⟨rfl,hT3,hg3⟩;have H3:=zH (zA hT3 (HQ.out.grown hg3 HQ.out.size (fun k hk=>by cases hk;exact H1.out.2.2.2)));clear hT3 hg3 HP;(go_wp2_with fail);go_roundw
   case rel=>exact⟨i+1,by omega,by go_num,H3.out.1,H3.out.2⟩
   case measure=>simp [intOf];omega
  ·obtain rfl:i=n:=by omega
   rw[zO (by rw[HL.out.1];omega)] at hT;have HLN:=zH (treeLen_any wr bt bm l hT);rw[HL.out.1] at HLN;have H3:=zH (zA hT hb);clear hT hb;(go_wp2_with fail);refine HLN.out.mono ?_;rintro e w2 ⟨rfl,rfl⟩;(go_wp2_with fail);refine bodyPost_ret (results_tmp3 rfl _ _ _) rfl ?_;exact⟨bt,bm,rfl,H3.out.1,H1.out.2.2.1,H1.out.2.2.2,H3.out.2⟩
end Go.Proofs.YtnpehjgnplaabaaGreatDoor
