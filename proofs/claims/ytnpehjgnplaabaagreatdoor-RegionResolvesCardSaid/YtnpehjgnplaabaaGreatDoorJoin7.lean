/- Several texts of ours, joined. -/
import Derived.Test.YtnpehjgnplaabaaGreatDoorJoin1
import Derived.Test.YtnpehjgnplaabaaGreatDoorJoin6
import Derived.Test.YtnpehjgnplaabaaGreatDoorJoin3
import Derived.Test.YtnpehjgnplaabaaGreatDoorJoin4
import Derived.Test.YtnpehjgnplaabaaGreatDoorJoin5
set_option linter.unusedVariables false
set_option linter.unusedSimpArgs false
set_option maxRecDepth 100000
set_option maxHeartbeats 64000000
namespace Go.Proofs.YtnpehjgnplaabaaGreatDoor
open Go Go.RowKit
open Sw
def eCSP (e:ByteArray×Pr):List Value:=[.string e.1,.int .i64 e.2.kind,.int .i64 e.2.mode,.int .u32 e.2.time,.int .i64 e.2.size,.int .u32 e.2.sum]
theorem eCSP_len (e:ByteArray×Pr):(eCSP e).length=6:=rfl
theorem eCSP_one (e:ByteArray×Pr):∀u∈eCSP e,u.oneCell'=true:=by
 intro u hu;simp only[eCSP,List.mem_cons,List.mem_append,List.not_mem_nil,or_false] at hu;rcases hu with rfl | rfl | rfl | rfl | rfl | rfl<;>rfl
abbrev ordFSP:Value:= .func (.func 47) #[] #[]
structure SMapSP (w:World) (bm:Nat) (xs:List (ByteArray×Pr)):Prop where
 row:∃v,Blk w bm 233 #[ordFSP,v]∧w.ownsRow 0 204 6 v xs.length (xs.flatMap eCSP)
 up:Up ordS xs
 ok:∀e∈xs,okS e.1
theorem find1SP_any (w:World)(g bm:Nat)(e:ByteArray×Pr)(k:ByteArray)(he:okS e.1)(hk:okS k)(hg:w.cell? ⟨g,0,none⟩=some (.pointer (some ⟨bm,0,none⟩)))(hm:w.cell? ⟨bm,0,none⟩=some ordFSP):
  Calls Tryz.prog 206 #[.agg (eCSP e).toArray,Value.string k,.pointer (some ⟨g,0,none⟩)] w fun r w'=>r= .returned (.int .i64 (ordS e.1 k))∧Below w.heap.size w w':=by
 have HO:=zH (fun W=>orderS_any W e.1 k he hk);have hB:=Blk.new w 204 (eCSP e).toArray;have hb1:=(zR w.heap.size w).alloc (zN _) (.cells (eCSP e).toArray 204);have hgl:=World.block_lt_of_cell? w _ hg;have hml:=World.block_lt_of_cell? w _ hm;have hg1:=(hb1.cell (p:=⟨g,0,none⟩) hgl).trans hg;have hm1:=(hb1.cell (p:=⟨bm,0,none⟩) hml).trans hm;have hlt:=hB.lt;have hk0:(w.alloc (.cells (eCSP e).toArray 204)).cell? ⟨w.heap.size,0,none⟩=some (Value.string e.1):=hB.cell 0;clear hg hm hB;generalize ordS e.1 k=r at*;have l1:∀m:Held (Aft (w.alloc (.cells (eCSP e).toArray 204))),(HeldW m).cell? ⟨g,0,none⟩=some (.pointer (some ⟨bm,0,none⟩)):=fun m=>(Aft.cell m (p:=⟨g,0,none⟩) (zQ hgl hb1.size)).trans hg1
 have l2:∀m:Held (Aft (w.alloc (.cells (eCSP e).toArray 204))),(HeldW m).cell? ⟨bm,0,none⟩=some ordFSP:=fun m=>(Aft.cell m (p:=⟨bm,0,none⟩) (zQ hml hb1.size)).trans hm1
 have l3:∀m:Held (Aft (w.alloc (.cells (eCSP e).toArray 204))),(HeldW m).cell? ⟨w.heap.size,0,none⟩=some (Value.string e.1):=fun m=>(Aft.cell m (p:=⟨w.heap.size,0,none⟩) hlt).trans hk0
 have HB1:=zH hb1;clear hb1 hg1 hm1 hk0
 haveI:=Aft.some (w.alloc (.cells (eCSP e).toArray 204))
 generalize (eCSP e).toArray=ec at*;go_enter Tryz.func206,Tryz.ntmps206
 go_wp2_with fail
 refine wp_region_class (Aft (w.alloc (.cells ec 204))) (by kernel_rfl) (by kernel_rfl) (Aft.start _) ?_;repeat (go_big_quiet_step (with_reducible exact held_below Aft.keep (HO.out _)))
 refine wpQuiet_nil ?_;rintro _ ⟨nn,rfl⟩;have HW:Hid (Below (w.alloc (.cells ec 204)).heap.size (w.alloc (.cells ec 204)) (HeldW nn)):=zH (HeldW_spec nn);go_wp2_with fail
 go_ret;exact⟨rfl,HB1.out.trans (HW.out.mono HB1.out.size)⟩
def InsPostSP (base n:Nat) (xs:List Value) (row:Option Nat) (w:World) (e:Ending) (w':World):Prop:=
 ∃g cap,e= .returned (.slice (some ⟨g,0,none⟩) (n+1) cap)∧w'.ownsRow base 204 6 (.slice (some ⟨g,0,none⟩) (n+1) cap) (n+1) xs∧w.grownBy w' row∧(row=some g∨w.heap.size≤g)
theorem slInsertSP_end (w:World)(base:Nat)(v:Value)(n vb:Nat)(xs:List Value)(te:TypeId)(cx:Array Value)(hown:w.ownsRow base 204 6 v n xs)(hvb:Blk w vb te cx)(hcx:cx.size=6)(h1x:∀u∈cx.toList,u.oneCell'=true)(hn:n+1≤1000000)(hbase:base≤w.heap.size):
  Calls Tryz.prog 177 #[v,.int .i64 n,.slice (some ⟨vb,0,none⟩) 1 1] w (InsPostSP base n (xs++cx.toList) v.ownBlock w):=by
 have hfin:∀g cap w',w'.ownsRow base 204 6 (.slice (some ⟨g,0,none⟩) (n+1) cap) (n+1) (xs++cx.toList)→w.grownBy w' v.ownBlock→(v.ownBlock=some g∨g=w.heap.size)→
   InsPostSP base n (xs++cx.toList) v.ownBlock w (.returned (.slice (some ⟨g,0,none⟩) (n+1) cap)) w':=fun g cap w' h1 h2 h3=>⟨g,cap,rfl,h1,h2,by rcases h3 with h | h;exact .inl h;exact .inr (by omega)⟩
 have HF:=zH hfin;clear hfin;have HO:=zH hown;have HB:=zH hvb;clear hvb;rcases hown.2 with ⟨rfl,rfl⟩ | ⟨g,cap,cur,rfl,hbg,hg,hnc,hcm,hcs,htk⟩
 ·clear hown;go_enter Tryz.func177,Tryz.ntmps177
  go_wp2_with (at_builtin;refine wpList_app rfl _ _ 198 rfl base 204 _ _ _ Tryz.underlying198 infoESP rfl (by decide) _ 0 xs rfl HO.out vb 1 cx te rfl HB.out hcx h1x (by omega) (by decide) hbase _ rfl ?_;intro g cap w1 hown1 hgrow1 hat hlt)
  have HP:=zH (HF.out g cap w1 hown1 hgrow1 hat);clear hown1 hgrow1 hat;go_wp2_with fail
  go_ret;exact HP.out
 ·clear hown htk hg hcs;unfold maxLen at hcm;go_enter Tryz.func177,Tryz.ntmps177
  go_wp2_with (at_builtin;refine wpList_app rfl _ _ 198 rfl base 204 _ _ _ Tryz.underlying198 infoESP rfl (by decide) _ n xs rfl HO.out vb 1 cx te rfl HB.out hcx h1x (by omega) (by decide) hbase _ rfl ?_;intro g cap w1 hown1 hgrow1 hat hlt)
  all_goals
   have HP:=zH (HF.out _ _ w1 hown1 hgrow1 hat);clear hown1 hgrow1 hat;(go_wp2_with fail);go_ret;exact HP.out
theorem slInsertSP_room (w:World)(base g cap n i vb:Nat)(cur:Array Value)(te:TypeId)(cx:Array Value)(hbg:base≤g)(hg:Blk w g 204 cur)(hcs:cur.size=cap*6)(h1c:∀u∈cur.toList.take (n*6),u.oneCell'=true)(hvb:Blk w vb te cx)(hne:vb≠g)(hcx:cx.size=6)(h1x:∀u∈cx.toList,u.oneCell'=true)(hi:i<n)(hroom:n+1≤cap)(hcm:cap≤maxLen):
  Calls Tryz.prog 177 #[.slice (some ⟨g,0,none⟩) n cap,.int .i64 i,.slice (some ⟨vb,0,none⟩) 1 1] w
   (InsPostSP base n (cur.toList.take (i*6)++cx.toList++(cur.toList.take (n*6)).drop (i*6)) (some g) w):=by
 have hov:∀lb cb W,Blk W g 204 cur→Blk W vb te cx→(callFunc 207 #[.slice (some ⟨vb,0,none⟩) 1 1,.slice (some ⟨g,(i+1)*6,none⟩) lb cb]).run Tryz.prog W= .ok (.value (.bool false)) W:=fun lb cb W h1 h2=>by
  rw[run_callFunc_extern Tryz.func207 (by kernel_rfl) (by kernel_rfl) (by kernel_rfl) (e:=Extern.SlicesOverlaps.overlaps #[198,198] #[4]) (by kernel_rfl),
   Lib.run_overlaps_apart W 198 4 204 Tryz.underlying198 6 Tryz.sizeOf204 ⟨vb,0,none⟩ ⟨g,(i+1)*6,none⟩ 1 1 lb cb hne te 204 cx.size cur.size h2.shape h1.shape (by rw[hcs];omega) (h2.frozen 0) (h2.frozen cx.size)]
  rfl
 unfold maxLen at hcm;have hc1:cur.toList.length=cap*6:=by rw[Array.length_toList];exact hcs
 obtain⟨q1,q2,q3,q4⟩:=ins_cells cur.toList cx.toList (i*6) (n*6) 6 (by omega) (by omega) (by simpa using hcx);obtain⟨cs,hcsd⟩:∃cs,(cur.toList.take (n*6)).drop (i*6)=cs:=⟨_,rfl⟩;simp only[hcsd] at q1 q2 q3 q4;rw[hcsd];obtain⟨W1,hW1⟩:∃W1,w.drew.setRow g (cur.toList.take ((i+1)*6)++cs++cur.toList.drop ((i+1)*6+cs.length)).toArray=W1:=⟨_,rfl⟩;have hcp1:∀ty dc sc,(Builtin.copy_ #[198,198] ty #[.slice (some ⟨g,(i+1)*6,none⟩) (n-i) dc,.slice (some ⟨g,i*6,none⟩) (n+1-i) sc]).run Tryz.prog w.drew= .ok (goInt (n-i:Nat)) W1:=fun ty dc sc=>by
  rw[←hW1];refine run_copy_rows w.drew _ _ ty 204 6 g _ _ dc _ _ sc cur 204 cs (n-i) Tryz.underlying198 (by kernel_rfl) hg.drew (by simp only[Nat.min_def];split<;>omega) (by rw[q4];omega) (fun j v hj=>?_) (by rw[q4];omega) (fun v hv=>h1c v ?_)
  ·refine hg.drew.at _ j v ?_;rw[←hcsd] at hj;rw[List.getElem?_drop,List.getElem?_take] at hj;split at hj
   ·rw[List.getElem?_drop];exact hj
   ·cases hj
  ·rw[←hcsd] at hv;exact List.mem_of_mem_drop hv
 have hg1:Blk W1 g 204 (cur.toList.take ((i+1)*6)++cs++cur.toList.drop ((i+1)*6+cs.length)).toArray:=by rw[←hW1];exact hg.drew.setRow _
 have hgr1:w.grownBy W1 (some g):=by rw[←hW1];exact grown_of_drew (grown_setRow _ _ _)
 have hvb1:Blk W1 vb te cx:=hvb.grown hgr1 (by simpa using hne);rw[show i*6+6=(i+1)*6 by omega] at q1 q2 q3;generalize hr1:cur.toList.take ((i+1)*6)++cs++cur.toList.drop ((i+1)*6+cs.length)=r1 at*;obtain⟨W2,hW2⟩:∃W2,W1.setRow g (r1.take (i*6)++cx.toList++r1.drop (i*6+cx.toList.length)).toArray=W2:=⟨_,rfl⟩;have hcp2:∀ty dc,(Builtin.copy_ #[198,198] ty #[.slice (some ⟨g,i*6,none⟩) (n+1-i) dc,.slice (some ⟨vb,0,none⟩) 1 1]).run Tryz.prog W1= .ok (goInt (1:Nat)) W2:=fun ty dc=>by
  rw[←hW2];have:=run_copy_rows (P:=Tryz.prog) W1 198 198 ty 204 6 g (i*6) (n+1-i) dc ⟨vb,0,none⟩ 1 1 r1.toArray 204 cx.toList 1 Tryz.underlying198 (by kernel_rfl) hg1 (by simp only[Nat.min_def];split<;>omega) (by simpa using hcx) (World.news_of_block hvb1) (by rw[List.size_toArray,q3,Array.length_toList];omega) h1x
  simpa using this
 have hg2:Blk W2 g 204 (r1.take (i*6)++cx.toList++r1.drop (i*6+cx.toList.length)).toArray:=by rw[←hW2];exact hg1.setRow _
 have hgr2:w.grownBy W2 (some g):=by rw[←hW2];exact grown_trans hgr1 (grown_setRow _ _ _)
 have hfin:InsPostSP base n (cur.toList.take (i*6)++cx.toList++cs) (some g) w (.returned (.slice (some ⟨g,0,none⟩) (n+1) cap)) W2:=
  ⟨g,cap,rfl,own_mk hbg hg2 hroom (by unfold maxLen;omega) (by rw[List.size_toArray,q2,hc1]) (by rw[List.toList_toArray,←q1];congr 1;omega),hgr2,.inl rfl⟩
 have HF:=zH hfin;clear hfin;clear hgr1 hgr2 hg2 hg1 hvb1 hW1 hW2 q1 q2 q3 q4 hcsd hc1 hr1 h1c h1x;have HV:=zH (fun lb cb=>hov lb cb w hg hvb);clear hov;have hz1:¬((i:Int)=(n:Int)):=by omega
 have hw1:IntKind.i64.wrap ((i:Int)+1)=(i:Int)+1:=by rw[IntKind.wrap_i64];omega
 obtain⟨hb1,hin,htn,hb2,hb3,hb4,hb5⟩:(0:Int)≤(i:Int)+1∧i≤n∧((i:Int)+1).toNat=i+1∧¬(cap=i+1)∧(i:Int)≤(n:Int)+1∧¬(cap=i)∧¬(cap:Int)<n+1:=by omega
 clear hcs;go_enter Tryz.func177,Tryz.ntmps177
 go_wp2_with (simp only[HV.out])
 go_region_law (refine step_copy_rows rfl _ _ 198 198 rfl _ _ (by simp [Act.eval,Act.put]) (by simp [Act.eval,Act.put]) (hcp1 _ _ _) ?_)
 go_wp2_with (at_builtin;refine wpList_copy_rows _ rfl _ _ 198 198 rfl _ _ rfl rfl (hcp2 _ _) ?_)
 go_ret;exact HF.out
theorem slInsertSP_grow (w:World)(base g cap n i vb:Nat)(cur:Array Value)(te:TypeId)(cx:Array Value)(hg:Blk w g 204 cur)(hcs:cur.size=cap*6)(h1c:∀u∈cur.toList.take (n*6),u.oneCell'=true)(hvb:Blk w vb te cx)(hcx:cx.size=6)(h1x:∀u∈cx.toList,u.oneCell'=true)(hi:i<n)(hnc:n≤cap)(hroom:cap<n+1)(hn:n+1≤1000000)(hbase:base≤w.heap.size):
  Calls Tryz.prog 177 #[.slice (some ⟨g,0,none⟩) n cap,.int .i64 i,.slice (some ⟨vb,0,none⟩) 1 1] w
   (InsPostSP base n (cur.toList.take (i*6)++cx.toList++(cur.toList.take (n*6)).drop (i*6)) (some g) w):=by
 obtain rfl:cap=n:=by omega
 obtain⟨i0,hi0,hz0,hzs,hzb⟩:=info_parts infoESP;have hc1:cur.toList.length=cap*6:=by rw[Array.length_toList];exact hcs
 have htk:cur.toList.take (cap*6)=cur.toList:=zO (by omega);rw[htk] at h1c⊢;have hold:(Builtin.firstCells i0.size i (.slice (some ⟨g,0,none⟩) i cap)).run Tryz.prog w.drew= .ok (cur.toList.take (i*6)).toArray w.drew:=by
  rw[hzs];exact run_firstCells_some w.drew 6 i ⟨g,0,none⟩ i cap (cur.toList.take (i*6)) (by rw[zL];omega) (fun j v hj=>by
   refine hg.drew.at 0 j v ?_;rw[List.getElem?_take] at hj;split at hj
   ·rw[List.drop_zero];exact hj
   ·cases hj)
 obtain⟨G,hG⟩:∃G,grownCap w (cap+1) cap 204=G:=⟨_,rfl⟩;have hGn:cap+1≤G:=by rw[←hG];exact grownCap_ge w _ _ _
 have hG63:G≤maxLen:=by rw[←hG];exact grownCap_le_maxLen w (cap+1) cap 204 (by unfold maxLen;omega)
 obtain⟨R,hR⟩:∃R:Array Value,(cur.toList.take (i*6)).toArray++Builtin.zeroCells (Value.cells (.agg #[.string ⟨#[]⟩,.int .i64 0,.int .i64 0,.int .u32 0,.int .i64 0,.int .u32 0])) (cap+1-i)++Builtin.zeroCells (Value.cells (.agg #[.string ⟨#[]⟩,.int .i64 0,.int .i64 0,.int .u32 0,.int .i64 0,.int .u32 0])) (G-(cap+1))=R:=⟨_,rfl⟩;have hRl:R.size=G*6:=by
  rw[←hR];simp only[Array.size_append,List.size_toArray,zL,size_zeroCells,hc1];simp [Value.cells]
  omega
 have hRL:R.toList.length=G*6:=by rw[Array.length_toList,hRl]
 have hRt:R.toList.take (i*6)=cur.toList.take (i*6):=by
  rw[←hR,Array.toList_append,Array.toList_append,List.toList_toArray,zV,List.take_append_of_le_length (by rw[zL];omega),List.take_take,Nat.min_self]
 obtain⟨W0,hW0⟩:∃W0,w.drew.alloc (.cells R 204)=W0:=⟨_,rfl⟩;have hrz:∀ty,(Builtin.append_ #[198,3] ty #[.slice (some ⟨g,0,none⟩) i cap,.int .i64 ((cap:Int)+1-(i:Int))]).run Tryz.prog w= .ok (.slice (some ⟨w.heap.size,0,none⟩) (cap+1) G) W0:=fun ty=>by
  have hik:i+(cap+1-i)=cap+1:=by omega
  have h:=Lib.run_append_grow_zeros w 198 3 ty 204 i0 _ .i64 .i64 Tryz.underlying198 Tryz.underlying3 hi0 hz0 (some ⟨g,0,none⟩) i cap (cur.toList.take (i*6)) hold (cap+1-i) (by omega) (by omega) (by omega) (by omega) (by rw[hzb];omega) (by rw[hzb,hik];exact growslice_fits (by omega) (by omega));rw[hik] at h;rw[show(cap:Int)+1-(i:Int)=((cap+1-i:Nat):Int) by omega,h,hG,hR,hW0]
 have hb0:Below w.heap.size w W0:=by rw[←hW0];exact((zR _ w).drew).alloc (zN _) _
 have hg0:Blk W0 w.heap.size 204 R:=by rw[←hW0];exact Blk.new w.drew _ _
 have hgl:=hg.lt;have hvl:=hvb.lt;have hga:Blk W0 g 204 cur:=hg.below hb0 hgl;have hva:Blk W0 vb te cx:=hvb.below hb0 hvl;have hdl:(cur.toList.drop (i*6)).length=(cap-i)*6:=by rw[List.length_drop];omega
 obtain⟨p1,p2,p3⟩:=ins_cells2 R.toList cx.toList (cur.toList.drop (i*6)) (i*6) 6 (by rw[hdl,Array.length_toList,hRl];omega) (by simpa using hcx);generalize hr1:R.toList.take (i*6)++cx.toList++R.toList.drop (i*6+cx.toList.length)=r1 at*;obtain⟨W1,hW1⟩:∃W1,W0.setRow w.heap.size r1.toArray=W1:=⟨_,rfl⟩;have hcp1:∀ty dc,(Builtin.copy_ #[198,198] ty #[.slice (some ⟨w.heap.size,i*6,none⟩) (cap+1-i) dc,.slice (some ⟨vb,0,none⟩) 1 1]).run Tryz.prog W0= .ok (goInt (1:Nat)) W1:=fun ty dc=>by
  rw[←hW1,←hr1];exact run_copy_rows (P:=Tryz.prog) W0 198 198 ty 204 6 w.heap.size (i*6) (cap+1-i) dc ⟨vb,0,none⟩ 1 1 R 204 cx.toList 1 Tryz.underlying198 (by kernel_rfl) hg0 (by simp only[Nat.min_def];split<;>omega) (by simpa using hcx) (World.news_of_block hva) (by rw[hRl,Array.length_toList,hcx];omega) h1x
 have hg1:Blk W1 w.heap.size 204 r1.toArray:=by rw[←hW1];exact hg0.setRow _
 have hb1:Below w.heap.size w W1:=by rw[←hW1];exact hb0.grown (grown_setRow _ _ _) hb0.size (fun k hk=>by cases hk;exact zN _)
 have hga1:Blk W1 g 204 cur:=hg.below hb1 hgl;obtain⟨W2,hW2⟩:∃W2,W1.drew.setRow w.heap.size (r1.take ((i+1)*6)++cur.toList.drop (i*6)++r1.drop ((i+1)*6+(cur.toList.drop (i*6)).length)).toArray=W2:=⟨_,rfl⟩;have hcp2:∀ty dc sc,(Builtin.copy_ #[198,198] ty #[.slice (some ⟨w.heap.size,(i+1)*6,none⟩) (cap-i) dc,.slice (some ⟨g,i*6,none⟩) (cap-i) sc]).run Tryz.prog W1.drew= .ok (goInt (cap-i:Nat)) W2:=fun ty dc sc=>by
  rw[←hW2];have:=run_copy_rows (P:=Tryz.prog) W1.drew 198 198 ty 204 6 w.heap.size ((i+1)*6) (cap-i) dc ⟨g,i*6,none⟩ (cap-i) sc r1.toArray 204 (cur.toList.drop (i*6)) (cap-i) Tryz.underlying198 (by kernel_rfl) hg1.drew (by simp only[Nat.min_def];split<;>omega) hdl (hga1.drew.at _) (by rw[List.size_toArray,p3,hRL];omega) (fun v hv=>h1c v (List.mem_of_mem_drop hv))
  simpa using this
 have hg2:Blk W2 w.heap.size 204 (r1.take ((i+1)*6)++cur.toList.drop (i*6)++r1.drop ((i+1)*6+(cur.toList.drop (i*6)).length)).toArray:=by rw[←hW2];exact hg1.drew.setRow _
 have hb2:Below w.heap.size w W2:=by rw[←hW2];exact(below_drewN hb1 1).grown (grown_setRow _ _ _) hb1.size (fun k hk=>by cases hk;exact zN _)
 rw[show i*6+6=(i+1)*6 by omega] at p1 p2;rw[hRt] at p1;have hfin:InsPostSP base cap (cur.toList.take (i*6)++cx.toList++cur.toList.drop (i*6)) (some g) w (.returned (.slice (some ⟨w.heap.size,0,none⟩) (cap+1) G)) W2:=
  ⟨w.heap.size,G,rfl,own_mk hbase hg2 hGn hG63 (by rw[List.size_toArray,p2,Array.length_toList,hRl]) (by rw[List.toList_toArray,←p1];congr 1;rw[hdl];omega),⟨hb2.os,hb2.tape,hb2.output,hb2.size,fun k hk _=>hb2.block k hk⟩,.inr (zN _)⟩
 have HF:=zH hfin;clear hfin;clear hb2 hg2 hb1 hg1 hga1 hb0 hg0 hga hva hW0 hW1 hW2 p1 p2 p3 hdl hr1 hRt hRl hR hG hold hi0 hz0 hzs hzb h1c h1x htk hc1 hg hvb hcs;unfold maxLen at hG63;have hz1:¬((i:Int)=(cap:Int)):=by omega
 have hw1:IntKind.i64.wrap ((i:Int)+1)=(i:Int)+1:=by rw[IntKind.wrap_i64];omega
 obtain⟨hb1,hin,htn,hb2,hb3,hb4,hb5,hG1,hG2⟩:(0:Int)≤(i:Int)+1∧i≤cap∧((i:Int)+1).toNat=i+1∧(¬(cap=i+1)∨cap=i+1)∧(i:Int)≤(cap:Int)+1∧¬(cap=i)∧(cap:Int)<cap+1∧¬(G=i)∧¬(G=i+1):=by omega
 clear hb2;go_enter Tryz.func177,Tryz.ntmps177
 go_wp2_with (first
  | (at_builtin;refine Lib.wpList_append_run _ rfl _ _ _ _ rfl _ _ rfl rfl _ _ (hrz _) ?_)
  | (at_builtin;refine wpList_copy_rows _ rfl _ _ 198 198 rfl _ _ rfl rfl (hcp1 _ _) ?_))
 go_region_law (refine step_copy_rows rfl _ _ 198 198 rfl _ _ (by simp [Act.eval,Act.put]) (by simp [Act.eval,Act.put]) (hcp2 _ _ _) ?_)
 go_wp2_with fail
 go_ret;exact HF.out
theorem slInsertSP_any (w:World)(base:Nat)(v:Value)(n i vb:Nat)(xs:List Value)(te:TypeId)(cx:Array Value)(hown:w.ownsRow base 204 6 v n xs)(h1c:∀u∈xs,u.oneCell'=true)(hvb:Blk w vb te cx)(hne:v.ownBlock≠some vb)(hcx:cx.size=6)(h1x:∀u∈cx.toList,u.oneCell'=true)(hi:i≤n)(hn:n+1≤1000000)(hbase:base≤w.heap.size):
  Calls Tryz.prog 177 #[v,.int .i64 i,.slice (some ⟨vb,0,none⟩) 1 1] w (InsPostSP base n (xs.take (i*6)++cx.toList++xs.drop (i*6)) v.ownBlock w):=by
 by_cases hin:i=n
 ·subst hin;have hl:=hown.1;rw[zO (by omega),List.drop_of_length_le (by omega),List.append_nil];exact slInsertSP_end w base v i vb xs te cx hown hvb hcx h1x hn hbase
 ·obtain⟨g,cap,cur,rfl,hbg,hg,h1,h2,h3,h4⟩:=own_form hown (by omega);subst h4;have ht:∀k,k≤n→(cur.toList.take (n*6)).take (k*6)=cur.toList.take (k*6):=fun k hk=>by rw[List.take_take];congr 1;omega
  rw[ht i (by omega)];have hneg:vb≠g:=fun e=>hne (by rw[e];rfl)
  by_cases hroom:n+1≤cap
  ·exact slInsertSP_room w base g cap n i vb cur te cx hbg hg h3 h1c hvb hneg hcx h1x (by omega) hroom h2
  ·exact slInsertSP_grow w base g cap n i vb cur te cx hg h3 h1c hvb hcx h1x (by omega) h1 (by omega) hn hbase
section
variable {w w':World} {bm:Nat} {xs:List (ByteArray×Pr)}
theorem SMapSP.ord (h:SMapSP w bm xs):w.cell? ⟨bm,0,none⟩=some ordFSP:=by obtain⟨v,hb,_⟩:=h.row;exact hb.cell 0
theorem own_grown_typSP {w w':World}{base:Nat}{e:TypeId}{size n:Nat}{v:Value}{l:List Value}(h:w.ownsRow base e size v n l){g:Nat}{t:TypeId}{cs:Array Value}(hg:w.grownBy w' (some g))(hB:Blk w g t cs)(hne:e≠t):w'.ownsRow base e size v n l:=
 h.kept hg (by
  rcases h.2 with ⟨rfl,_⟩ | ⟨g',cap,cur,rfl,_,hg',_⟩
  ·exact .inl rfl
  ·right
   intro he;(have:g'=g:=by simpa [Value.ownBlock] using he);subst this;exact Blk.other (hg':Blk w g' e cur) hB hne rfl)
theorem SMapSP.below (h:SMapSP w bm xs)(hb:Below w.heap.size w w'):SMapSP w' bm xs:=by
 obtain⟨v,hB,ho⟩:=h.row;exact⟨⟨v,hB.below hb hB.lt,own_kept ho hb⟩,h.up,h.ok⟩
theorem flat1SP (xs:List (ByteArray×Pr)):∀u∈xs.flatMap eCSP,u.oneCell'=true:=fun u hu=>by
 rw[List.mem_flatMap] at hu;obtain⟨x,_,hx⟩:=hu;exact eCSP_one x u hx
end
theorem srtNewSP_any (w:World):
  Calls Tryz.prog 144 #[ordFSP] w fun e w'=>∃bm,e= .returned (.pointer (some ⟨bm,0,none⟩))∧SMapSP w' bm []∧w.heap.size≤bm∧Below w.heap.size w w':=by
 have hB:=Blk.new w 233 #[ordFSP,.slice none 0 0];have hb1:=(zR w.heap.size w).alloc (zN _) (.cells #[ordFSP,.slice none 0 0] 233);have HF:=zH (⟨⟨_,hB,World.ownsRow_nil _ 0 204 6⟩,List.Pairwise.nil,fun e he=>by cases he⟩:SMapSP _ w.heap.size []);have HB:=zH hb1;clear hb1 hB;have hnf:∀W,(binOp .eql 108 ordFSP Value.nilFunc).run Tryz.prog W= .ok (.bool false) W:=fun W=>by kernel_rfl
 go_enter Tryz.func144,Tryz.ntmps144
 go_wp2_with fail
 go_ret;exact⟨_,rfl,HF.out,zN _,HB.out⟩
def FindPostSP (k:ByteArray) (xs:List (ByteArray×Pr)) (w:World) (e:Ending) (w':World):Prop:=
 e= .returned (.tuple #[.int .i64 (lbN ordS k xs),.bool (inN ordS k xs)])∧Below w.heap.size w w'
theorem srtFindSP_any (w:World)(bm:Nat)(xs:List (ByteArray×Pr))(k:ByteArray)(h:SMapSP w bm xs)(hn:xs.length≤1000000)(hk:okS k):
  Calls Tryz.prog 175 #[.pointer (some ⟨bm,0,none⟩),Value.string k] w (FindPostSP k xs w):=by
 obtain⟨v,hb,ho⟩:=h.row;have hord:=h.ord;have hB:=Blk.new w 161 #[.pointer (some ⟨bm,0,none⟩)];have hb1:=(zR w.heap.size w).alloc (zN _) (.cells #[.pointer (some ⟨bm,0,none⟩)] 161);have hg1:(w.alloc (.cells #[.pointer (some ⟨bm,0,none⟩)] 161)).cell? ⟨w.heap.size,0,none⟩=some (.pointer (some ⟨bm,0,none⟩)):=hB.cell 0;have hbl:=hb.lt;have hm0:=(hb1.cell (p:=⟨bm,0,none⟩) hbl).trans hord;have hm1:(w.alloc (.cells #[.pointer (some ⟨bm,0,none⟩)] 161)).cell? ⟨bm,1,none⟩=some v:=(hb1.cell (p:=⟨bm,1,none⟩) hbl).trans (hb.cell 1);have hsz:=hB.lt;obtain⟨A,c,rfl,hc1,hc2,hsl⟩:=SlV.of_own (own_kept ho hb1) eCSP_len (by decide);have HS:=zH (slSearchSP_any eCSP eCSP_len (fun e=>ordS e.1 k) (w.alloc (.cells #[.pointer (some ⟨bm,0,none⟩)] 161)) A xs.length c w.heap.size xs (Value.string k) rfl hn hsl
  (fun a b ha hb' hab hlt=>by
   rcases Nat.lt_or_ge a b with h1 | h1
   ·exact ordS_ord.trans _ _ _ (List.pairwise_iff_getElem.1 h.up a b ha hb' h1) hlt
   ·(obtain rfl:a=b:=by omega);exact hlt)
  (fun W x hx hbW=>find1SP_any W w.heap.size bm x k (h.ok x hx) hk ((hbW.cell (p:=⟨w.heap.size,0,none⟩) hsz).trans hg1) ((hbW.cell (p:=⟨bm,0,none⟩) (zQ hbl hb1.size)).trans hm0)))
 have hv1:w.cell? ⟨bm,1,none⟩=some (.slice A xs.length c):=hb.cell 1;have HF:=zH (fun e w' (hp:SrchPostSP (fun e:ByteArray×Pr=>ordS e.1 k) xs (w.alloc (.cells #[.pointer (some ⟨bm,0,none⟩)] 161)) e w')=>(by
  obtain⟨i,hi,h1,h2,rfl,hbw⟩:=hp;have hl:=lbN_eq ordS_ord k xs i hi h1 h2;subst hl;refine⟨?_,hb1.trans (hbw.mono hb1.size)⟩;rw[inN_eq ordS_ord]:FindPostSP k xs w e w'))
 clear hb1 hB hb ho hord h hsl hm0 hm1 hg1 hsz;generalize xs.length=n at*;go_enter Tryz.func175,Tryz.ntmps175
 go_wp2_with fail
 refine HS.out.mono ?_;rintro e w2 hp;obtain⟨rfl,hb2⟩:=HF.out _ _ hp;clear hp HF HS;go_wp2_with fail
 go_ret2
 exact⟨rfl,hb2⟩
theorem srtPutSP_any (w:World)(bm:Nat)(xs:List (ByteArray×Pr))(k:ByteArray)(v:Pr)(h:SMapSP w bm xs)(hn:xs.length+1≤1000000)(hk:okS k):
  Calls Tryz.prog 145 #[.pointer (some ⟨bm,0,none⟩),Value.string k,(fun v=>Value.agg v.c) v] w fun e w'=>e= .returned (.bool (!inN ordS k xs))∧SMapSP w' bm (putN ordS k v xs)∧w.grownBy w' (some bm):=by
 have hb0:=(zR w.heap.size w).alloc (zN _) (.cells v.c 61);have hB0:=Blk.new w 61 v.c;have HM:=zH (h.below hb0);have HS:=zH (srtFindSP_any _ bm xs k HM.out (by omega) hk);have HB0:=zH (zA hb0 hB0);clear hb0 hB0;have hle:=lbN_le (c:=ordS) k xs;cases hin:inN ordS k xs with
 | false=>
  have hd:=put_miss k v xs hin;have hln:=put_len (c:=ordS) k v xs;rw[hin,if_neg (by simp)] at hln;unfold FindPostSP at HS;rw[hin] at HS;obtain⟨i,hi⟩:∃i,lbN ordS k xs=i:=⟨_,rfl⟩;rw[hi] at HS hle hd;have HD:=zH (zA hd hln);clear hd hln hin hi h;simp only[Pr.c] at HS HB0 HM;go_enter Tryz.func145,Tryz.ntmps145
  go_wp2_with fail
  refine HS.out.mono ?_;rintro e w1 ⟨rfl,hb1⟩;have hB1:=HB0.out.2.below hb1 HB0.out.2.lt;obtain⟨u,hb,ho⟩:=(HM.out.below hb1).row;obtain⟨A,c,rfl,_,_,_⟩:=SlV.of_own ho eCSP_len (by decide);have hv1:w1.cell? ⟨bm,1,none⟩=some (.slice A xs.length c):=hb.cell 1;have HC:=zH (slCloneSP_any eCSP eCSP_len eCSP_one w1 _ xs (SlV.of_own ho eCSP_len (by decide)) (by omega));have HB:=zH hb;clear hb ho;have hb1S:=hb1.size;have HB1:=zH hb1;clear hb1;go_wp2_with fail
  refine HC.out.mono ?_;rintro e w2 ⟨v2,rfl,ho2,hb2⟩;have hB2:=hB1.below hb2 hB1.lt;obtain⟨x0,x1,x2,x3,x4⟩:=zc5 hB2;simp at x0 x1 x2 x3 x4
  have HB2:=zH (zA hB1 hB2);clear hB1 hB2;obtain⟨A2,c2,hv2,_,_,_⟩:=SlV_of_any ho2;have hba:Below w2.heap.size w2 (w2.alloc (.cells (eCSP (k,v)).toArray 204)):=(zR _ _).alloc (zN _) _;have hlt2:=hb2.size;have hown1:=own_kept ho2 hba;have hbk:=Blk.new w2 204 (eCSP (k,v)).toArray;have HI:=zH (slInsertSP_any (w2.alloc (.cells (eCSP (k,v)).toArray 204)) w1.heap.size v2 xs.length i w2.heap.size (xs.flatMap eCSP) 204 (eCSP (k,v)).toArray hown1 (flat1SP xs) hbk (own_ne ho2 _ (zN _)) rfl (by simpa using eCSP_one (k,v)) hle hn (by simp;omega));have HFin:=zH (fun(v3:Value) (w3:World) (ho3:w3.ownsRow w1.heap.size 204 6 v3 (xs.length+1) ((xs.flatMap eCSP).take (i*6)++(eCSP (k,v))++(xs.flatMap eCSP).drop (i*6))) (hbx:Blk w3 bm 233 #[ordFSP,.slice A xs.length c])=>(by
   have hd:=HD.out.1;(have hxs:(xs.flatMap eCSP).take (i*6)++(eCSP (k,v))++(xs.flatMap eCSP).drop (i*6)=(putN ordS k v xs).flatMap eCSP:=by rw[hd,List.flatMap_append,List.flatMap_cons,flat_take eCSP_len,flat_drop eCSP_len,zV]);rw[hxs,←HD.out.2] at ho3;exact⟨⟨v3,hbx.put 1 v3,own_wide (own_grown_typSP ho3 (grown_put (grown_refl w3 (some bm)) 1 v3) hbx (by decide)) (Nat.zero_le _)⟩,put_up ordS_ord k v xs HM.out.up,fun e he=>by
    rcases put_mem k v xs e he with rfl | he
    ·exact hk
    ·exact HM.out.ok e he⟩:SMapSP (w3.setCell ⟨bm,1,none⟩ v3) bm (putN ordS k v xs)))
  have HG:=zH (fun(v3:Value) (w3:World) (hg3:(w2.alloc (.cells (eCSP (k,v)).toArray 204)).grownBy w3 v2.ownBlock)=>(by
   have h1:=grown_below (row:=some bm) (HB0.out.1.trans (HB1.out.mono HB0.out.1.size));have hb2a:=hb2.trans (hba.mono hb2.size);have h2:=grown_trans h1 ⟨hb2a.os,hb2a.tape,hb2a.output,hb2a.size,fun k hk _=>hb2a.block k hk⟩;have h3:=grown_sub h2 hg3 (fun k hk=>by have:=(ho2.lt k hk).1;have:=HB0.out.1.size;omega);exact⟨grown_put h3 1 v3,(HB.out.below hb2a HB.out.lt).grown hg3 (fun e=>by have:=(ho2.lt bm e.symm).1;have:=HB.out.lt;omega)⟩:w.grownBy (w3.setCell ⟨bm,1,none⟩ v3) (some bm)∧Blk w3 bm 233 #[ordFSP,.slice A xs.length c]))
  clear HC ho2 hb2 hba hown1 hbk;subst hv2;unfold InsPostSP at HI;generalize hrw:Value.ownBlock _=rw2 at*;clear hrw;simp only[eCSP,List.toList_toArray] at HI HFin HG;go_wp2_with fail
  refine HI.out.mono ?_;rintro e w3 ⟨g3,cap3,rfl,ho3,hg3,hr3⟩;obtain⟨hgf,hbx⟩:=HG.out (.slice (some ⟨g3,0,none⟩) (xs.length+1) cap3) w3 hg3;have hF:=HFin.out _ w3 ho3 hbx;have hc1:w3.cell? ⟨bm,1,none⟩=some (.slice A xs.length c):=hbx.cell 1;have hf1:=hbx.frozen 1;have HZ:=zH (zA hF hgf);clear hF hgf hbx ho3 hg3 hr3;go_wp2_with fail
  go_ret;exact⟨rfl,HZ.out.1,HZ.out.2⟩
 | true=>
  have hlt:=inN_lt ordS_ord hin;have hd:=put_hit k v xs hin;have hkk:ordS (xs[lbN ordS k xs]).1 k=0:=by
   have:=inN_at ordS_ord (k:=k) hlt;rw[hin] at this;exact of_decide_eq_true this.symm
  have hkx:∀(j:Nat) (hj:j<xs.length),j=lbN ordS k xs→(xs[j]).1=k:=by
   intro j hj e;subst e;exact ordS_ord.zero _ _ hkk
  unfold FindPostSP at HS;rw[hin] at HS;obtain⟨i,hi⟩:∃i,lbN ordS k xs=i:=⟨_,rfl⟩;rw[hi] at HS hlt hd;have hkx2:=hkx i hlt hi.symm;have HD:=zH (zA hd hkx2);clear hkx2 hd hin hi h hle hkk hkx;simp only[Pr.c] at HS HB0 HM;go_enter Tryz.func145,Tryz.ntmps145
  go_wp2_with fail
  refine HS.out.mono ?_;rintro e w1 ⟨rfl,hb1⟩;have hB1:=HB0.out.2.below hb1 HB0.out.2.lt;obtain⟨u,hb,ho⟩:=(HM.out.below hb1).row;obtain⟨A,c,rfl,_,_,_⟩:=SlV.of_own ho eCSP_len (by decide);have hv1:w1.cell? ⟨bm,1,none⟩=some (.slice A xs.length c):=hb.cell 1;have HC:=zH (slCloneSP_any eCSP eCSP_len eCSP_one w1 _ xs (SlV.of_own ho eCSP_len (by decide)) (by omega));have HB:=zH hb;clear hb ho;have hb1S:=hb1.size;have HB1:=zH hb1;clear hb1;go_wp2_with fail
  refine HC.out.mono ?_;rintro e w2 ⟨v2,rfl,ho2,hb2⟩;have hB2:=hB1.below hb2 hB1.lt;obtain⟨x0,x1,x2,x3,x4⟩:=zc5 hB2;simp at x0 x1 x2 x3 x4
  have HB2:=zH (zA hB1 hB2);clear hB1 hB2;obtain⟨g,cap,cur,rfl,hbg,hg,hnc,hcm,hcs,htk⟩:=own_form ho2 (by omega);have hgl:=hg.lt;have hst:=own_setCells [.int .i64 v.kind,.int .i64 v.mode,.int .u32 v.time,.int .i64 v.size,.int .u32 v.sum] (i*6+1) w2 _ ho2 (by simp;omega);have hgr:=grown_setCells (a:=w2) (g:=g) [.int .i64 v.kind,.int .i64 v.mode,.int .u32 v.time,.int .i64 v.size,.int .u32 v.sum] (i*6+1) w2 (grown_refl _ _);have hfl:=flat_put eCSP_len xs i hlt (k,v) 1 [.int .i64 v.kind,.int .i64 v.mode,.int .u32 v.time,.int .i64 v.size,.int .u32 v.sum] (by simp) (by simp [eCSP,HD.out.2]);rw[hfl,←HD.out.1] at hst;have hl:(putN ordS k v xs).length=xs.length:=by rw[HD.out.1,List.length_set]
  rw[←hl] at hst;have hbx:Blk (w2.setCells g (i*6+1) [.int .i64 v.kind,.int .i64 v.mode,.int .u32 v.time,.int .i64 v.size,.int .u32 v.sum]) bm 233 #[ordFSP,.slice A xs.length c]:=(HB.out.below hb2 HB.out.lt).grown hgr (fun e=>by have:=HB.out.lt;cases e;omega);have hF:SMapSP ((w2.setCells g (i*6+1) [.int .i64 v.kind,.int .i64 v.mode,.int .u32 v.time,.int .i64 v.size,.int .u32 v.sum]).setCell ⟨bm,1,none⟩ (.slice (some ⟨g,0,none⟩) (putN ordS k v xs).length cap)) bm (putN ordS k v xs):=
   ⟨⟨_,hbx.put 1 _,own_wide (own_grown_typSP hst (grown_put (grown_refl _ (some bm)) 1 _) hbx (by decide)) (Nat.zero_le _)⟩,put_up ordS_ord k v xs HM.out.up,fun e he=>by
    rcases put_mem k v xs e he with rfl | he
    ·exact hk
    ·exact HM.out.ok e he⟩
  have hGf:w.grownBy ((w2.setCells g (i*6+1) [.int .i64 v.kind,.int .i64 v.mode,.int .u32 v.time,.int .i64 v.size,.int .u32 v.sum]).setCell ⟨bm,1,none⟩ (.slice (some ⟨g,0,none⟩) (putN ordS k v xs).length cap)) (some bm):=by
   have h1:=grown_below (row:=some bm) (HB0.out.1.trans (HB1.out.mono HB0.out.1.size));have h2:=grown_trans h1 ⟨hb2.os,hb2.tape,hb2.output,hb2.size,fun k hk _=>hb2.block k hk⟩;exact grown_put (grown_sub h2 hgr (fun k hk=>by cases hk;have:=HB0.out.1.size;omega)) 1 _
  rw[hl] at hF hGf;have hx0:∀j,j<cap*6→(w2.cell? ⟨g,j,none⟩).isSome=true:=fun j hj=>by
   rw[hg.cell,Array.getElem?_eq_getElem (by omega)];rfl
  obtain⟨old0,hold0⟩:=Option.isSome_iff_exists.1 (hx0 (i*6+1) (by omega));have hfz0:=hg.frozen (i*6+1);obtain⟨old1,hold1⟩:=Option.isSome_iff_exists.1 (hx0 (i*6+1+1) (by omega));have hfz1:=hg.frozen (i*6+1+1);obtain⟨old2,hold2⟩:=Option.isSome_iff_exists.1 (hx0 (i*6+1+1+1) (by omega));have hfz2:=hg.frozen (i*6+1+1+1);obtain⟨old3,hold3⟩:=Option.isSome_iff_exists.1 (hx0 (i*6+1+1+1+1) (by omega));have hfz3:=hg.frozen (i*6+1+1+1+1);obtain⟨old4,hold4⟩:=Option.isSome_iff_exists.1 (hx0 (i*6+1+1+1+1+1) (by omega));have hfz4:=hg.frozen (i*6+1+1+1+1+1);have hbc0:=HB.out.below hb2 HB.out.lt;have hne1:bm≠g:=fun e=>by have:=HB.out.lt;omega
  have hbc4:=((((hbc0.far (p:=⟨g,i*6+1,none⟩) hne1 (.int .i64 v.kind)).far (p:=⟨g,i*6+1+1,none⟩) hne1 (.int .i64 v.mode)).far (p:=⟨g,i*6+1+1+1,none⟩) hne1 (.int .u32 v.time)).far (p:=⟨g,i*6+1+1+1+1,none⟩) hne1 (.int .i64 v.size)).far (p:=⟨g,i*6+1+1+1+1+1,none⟩) hne1 (.int .u32 v.sum);have hc3:=hbc4.cell 1;have hf3:=hbc4.frozen 1;simp at hc3
  have HZ:=zH (zA hF hGf);clear hF hGf hbx hst hgr hfl hl hx0 hg htk ho2 hb2 hnc hcs hcm hbc0 hbc4;have hi2:(i:Int)<xs.length:=by omega
  go_wp2_with fail
  go_ret;exact⟨rfl,HZ.out.1,HZ.out.2⟩
end Go.Proofs.YtnpehjgnplaabaaGreatDoor
namespace Go.Proofs.YtnpehjgnplaabaaGreatDoor
open Go Go.RowKit Go.Shelf
open Sw
attribute [local go_sem] Oper.semAt_some
attribute [local go_sem] Oper.semAt_some
theorem SMapSP.ownF {W W':World}{row:Option Nat}{bm:Nat}{X:List MkE}(h:SMapSP W bm X)(hg:W.grownBy W' row)(hr:∀r,row=some r→∃o:Obj,W.heap[r]? =some o∧o.isCells=false):SMapSP W' bm X:=by
 obtain⟨v,hb,ho⟩:=h.row;exact⟨⟨v,blk_ownF hb hg hr,own_ownF ho hg hr⟩,h.up,h.ok⟩
theorem smapSP_blk {w:World}{bm:Nat}{X:List MkE}(h:SMapSP w bm X):∃cs,Blk w bm 233 cs:=by
 obtain⟨v,hb,_⟩:=h.row;exact⟨_,hb⟩
def MkI (T bm:Nat) (X:List MkE) (W:World):Prop:=Blk W T 161 #[.pointer (some ⟨bm,0,none⟩)]∧SMapSP W bm X
theorem MkI.below {T bm:Nat}{X:List MkE}{A B:World}(h:MkI T bm X A)(hb:Below A.heap.size A B):MkI T bm X B:=⟨h.1.below hb h.1.lt,h.2.below hb⟩
theorem MkI.ownF {T bm:Nat}{X:List MkE}{A B:World}{row:Option Nat}(h:MkI T bm X A)(hg:A.grownBy B row)(hr:∀r,row=some r→∃o:Obj,A.heap[r]? =some o∧o.isCells=false):MkI T bm X B:=⟨blk_ownF h.1 hg hr,h.2.ownF hg hr⟩
theorem MkI.put {T bm:Nat}{X Y:List MkE}{A B:World}(h:MkI T bm X A)(hm:SMapSP B bm Y)(hg:A.grownBy B (some bm)):MkI T bm Y B:=by
 obtain⟨cs,hB⟩:=smapSP_blk h.2;exact⟨h.1.grown hg (fun e=>by
                  (have e':T=bm:=by simpa using e);subst e';exact Blk.other h.1 hB (by decide) rfl),hm⟩
def foldMk (pre:List NE):List MkE:=pre.foldl (fun X e=>putN ordS e.1 (printN e.2) X) []
theorem foldMk_one (pre:List NE)(x:NE):foldMk (pre++[x])=putN ordS x.1 (printN x.2) (foldMk pre):=by unfold foldMk;rw[List.foldl_append];rfl
theorem put_endM {X:List MkE}{p:ByteArray}(h:∀e∈X,ordS e.1 p<0)(v:Pr)(hu:Up ordS X):putN ordS p v X=X++[(p,v)]:=by
 rw[put_filter ordS_ord p v X hu,List.filter_eq_self.2 (fun e he=>by simpa using h e he),List.filter_eq_nil_iff.2 (fun e he=>by have:=h e he;simp;omega)]
theorem foldMk_eq {xs:List NE}(hu:Up ordS xs):∀(pre:List NE),pre<+:xs→foldMk pre=marksT pre:=by
 intro pre hp;obtain⟨r,rfl⟩:=hp;have key:∀(n:Nat),n≤pre.length→foldMk (pre.take n)=marksT (pre.take n):=by
  intro n;induction n with
  | zero=>intro _;rfl
  | succ n ih=>
   intro hn;rw[zG (by omega),foldMk_one,ih (by omega)];have hup:Up ordS (pre.take (n+1)):=(hu.sublist (List.sublist_append_left pre r)).sublist (List.take_sublist _ _);rw[zG (by omega)] at hup;have hpw:=List.pairwise_append.1 hup;rw[put_endM (fun e he=>by
    obtain⟨d,hd,rfl⟩:=List.mem_map.1 he;exact hpw.2.2 d hd _ (List.mem_cons_self ..)) _ (marksT_up hpw.1)]
   unfold marksT;rw[List.map_append];rfl
 have:=key pre.length (zN _)
 rwa [List.take_length] at this
def MtI (T bm:Nat) (gb:Nat) (v:Value) (xs:List NE) (pre:List NE) (W:World):Prop:=
 (MkI T bm (foldMk pre) W∧gb<W.heap.size)∧Blk W gb 137 #[v]∧Lies W 146 5 eCSN v xs
theorem MtI.own (T bm:Nat)(gb:Nat)(v:Value)(xs:List NE):Own (MtI T bm gb v xs):=fun _ A C row hs hg hr=>⟨⟨hs.1.1.ownF hg hr,zQ hs.1.2 hg.size⟩,blk_ownF hs.2.1 hg hr,hs.2.2.ownF hg hr⟩
theorem MtI.below {T bm gb:Nat}{v:Value}{xs pre:List NE}{A B:World}(hs:MtI T bm gb v xs pre A)(hb:Below A.heap.size A B):MtI T bm gb v xs pre B:=⟨⟨hs.1.1.below hb,zQ hs.1.2 hb.size⟩,hs.2.1.below hb hs.2.1.lt,hs.2.2.below hb⟩
theorem marks_any (w:World)(bt bmt:Nat)(xs:List NE)(hT:TreeAt w bt bmt xs)(hxl:xs.length≤1000)(hxp:∀e∈xs,e.1.size≤90000)(hxd:∀e∈xs,e.2.data.size≤maxLen):
  Calls Tryz.prog 102 #[.pointer (some ⟨bt,0,none⟩)] w fun e w'=>∃bm,e= .returned (.pointer (some ⟨bm,0,none⟩))∧SMapSP w' bm (marksT xs)∧w.heap.size≤bm∧Below w.heap.size w w':=by
 refine callsIn_wide.1 (?_:CallsIn Fence.wide 9 _ _ _ _ _);refine callsIn_of_wp_marks Tryz.func102 rfl trivial ?_ rfl;simp only[Tryz.ntmps102,List.size_toArray,zI,List.length_nil,Nat.reduceAdd,Nat.reduceSub,Array.replicate_succ,Array.replicate_zero,List.push_toArray,List.append_toArray,List.nil_append,List.cons_append];have HN:=zH (srtNewSP_any w);have H0:=zH hT;have HX:=zH (zA hxp (zA hxd hT.map.up));clear hT hxp hxd;gi_wp2
 refine⟨trivial,(callsIn_wide.2 HN.out).mono ?_⟩;rintro e w1 ⟨bm,rfl,hm,hbm,hb1⟩;have hba:Below w1.heap.size w1 (w1.alloc (.cells #[.pointer (some ⟨bm,0,none⟩)] 161)):=(zR _ w1).alloc (zN _) _;have hb2:=hb1.trans (hba.mono hb1.size);have H1:=zH (zA (show MkI w1.heap.size bm [] _ from⟨Blk.new w1 _ _,hm.below hba⟩) (zA hb2 (H0.out.below hb2)));have HM:=zH hbm;obtain⟨W1,hW1⟩:∃W1,w1.alloc (.cells #[.pointer (some ⟨bm,0,none⟩)] 161)=W1:=⟨_,rfl⟩;obtain⟨T,hTe⟩:∃T,w1.heap.size=T:=⟨_,rfl⟩;rw[hW1,hTe] at H1;have HW1:=zH (zA hW1 hTe);clear hba hb2 hb1 hbm hm hW1 hTe HN H0;gi_wp2
 rw[HW1.out.1,HW1.out.2];clear HW1;refine⟨trivial,(callsIn_wide.2 (treeAll_any W1 bt bmt xs H1.out.2.2)).mono ?_⟩;rintro e w6 ⟨gb,v,rfl,hgb,hL,hge,hvb,hb6⟩;have hP6:=H1.out.1.below hb6;have hB6:=H1.out.2.1.trans (hb6.mono H1.out.2.1.size);have hgl:=hgb.lt;obtain⟨cs0,hcs0⟩:=smapSP_blk hP6.2;have hbmgb:bm≠gb:=fun e=>by subst e;exact Blk.other hcs0 hgb (by decide) rfl
 have hbmv:0<xs.length→∀g,v.ownBlock=some g→bm≠g:=fun h0 g hg e=>by
  subst e;obtain⟨A,c,rfl,_,_,h3⟩:=hL;obtain⟨g',off,cur,rfl,hb,_⟩:=h3 h0;cases hg
  exact Blk.other hcs0 hb (by decide) rfl
 have HNE:=zH (zA hbmgb hbmv);have hz6:=hB6.size;clear hbmgb hbmv hcs0 hb6 hge H1;gi_wp2
 refine wpIn_rangeFunc_tellW (Mine:=fun _=>False) (fun _ h=>h.elim) rfl (by omega) (gf:=154) (lb:= #[.pointer (some ⟨gb,0,none⟩)]) rfl trivial (enters_of Tryz.func154 (by kernel_rfl) rfl)
  (toldSN_tells 8 (by omega) gb v xs w6 hgb hL (by omega)) KeepIt.trans (keepIt_b hgl hvb) (zR _ _) (fun _=>rfl)
  (fun pre W=>MtI T bm gb v xs pre W∧Below w.heap.size w W)
  (fun c pre W=>False)
  (OwnM.of_none (OwnFrom.and (Own.from (MtI.own T bm gb v xs) _) (ownFrom_below (zN _) (by omega))))
  (fun c=>OwnM.of_none (fun _ _ _ _ hs _ _=>hs.elim))
  ⟨⟨⟨hP6,hgl⟩,hgb,hL⟩,hB6⟩
  ?a1 (fun x W=>W.alloc (.cells x.2.c 57))
  (fun x n₀ pre W=>MtI T bm gb v xs pre W∧Below w.heap.size w W∧Blk W n₀ 57 x.2.c) (fun x n₀=>OwnM.of_none (OwnFrom.and (Own.from (MtI.own T bm gb v xs) _) (OwnFrom.and (ownFrom_below (zN _) (by omega)) (Own.from (fun _ A B row hs hg hr=>blk_ownF hs hg hr) _)))) ?made ?assign ?body ?done ?stop
 case a1=>exact fun x n₀=>{tmps:= #[.pointer (some ⟨bt,0,none⟩),undef,.pointer none,.pointer (some ⟨T,0,none⟩),.string x.1,.pointer (some ⟨n₀,0,none⟩),.pointer (some ⟨bm,0,none⟩),.pointer (some ⟨bt,0,none⟩),.func (.func 154) #[] #[.pointer (some ⟨gb,0,none⟩)],.string x.1,.agg x.2.c,undef,undef,undef,undef,undef,undef],defers:=[]}
 case assign=>
  rintro l ⟨q,kd,md,tm,dt⟩ n₀ W rfl K hK;simp only[Nd.c] at hK⊢;gi_wp2
  exact hK
 case made=>
  rintro pre x W ⟨hI,hB⟩ hT;have hba:=(zR W.heap.size W).alloc (zN _) (.cells x.2.c 57);refine⟨⟨hI.below hba,hB.alloc hB.size _,Blk.new _ _ _⟩,keeps_belowF hba,.below hba hI.2.1.lt (fun g hg=>?_)⟩;obtain⟨r,hr⟩:=hT;obtain⟨A,c,rfl,_,_,hx⟩:=hI.2.2;obtain⟨g2,off,cur,rfl,hB,_⟩:=hx (by rw[←hr];simp;omega);cases hg
  exact hB.lt
 case body=>
  rintro l pre x n₀ W ⟨hI,hB,hXn⟩ hTl;have hx0:0<xs.length:=by obtain⟨r,hr⟩:=hTl;rw[←hr];simp;omega
  have hpl:pre.length+1≤1000:=by obtain⟨r,hr⟩:=hTl;have:=congrArg List.length hr;simp at this;omega
  have hxm:x∈xs:=by obtain⟨r,hr⟩:=hTl;rw[←hr];simp
  have hq:=HX.out.1 x hxm;have hd:=HX.out.2.1 x hxm;have hfl:(foldMk pre).length≤1000:=by
   rw[foldMk_eq HX.out.2.2 pre (by obtain⟨r,hr⟩:=hTl;exact⟨x::r,by rw[←hr];simp⟩)];unfold marksT;rw[zS];omega
  have HF1:=zH (foldMk_one pre x);obtain⟨q,⟨kd,md,tm,dt⟩⟩:=x;simp only at hq hd hXn HF1;have x0:=hXn.cell 0;have x1:=hXn.cell 1;have x2:=hXn.cell 2;have x3:=hXn.cell 3;simp [Nd.c] at x0 x1 x2 x3
  have c0:=hI.1.1.1.cell 0;simp at c0
  obtain⟨pr,hpr⟩:∃pr,printN ⟨kd,md,tm,dt⟩=pr:=⟨_,rfl⟩;rw[hpr] at HF1;have HPR:=zH (fun W'=>hpr▸print_any W' ⟨kd,md,tm,dt⟩ hd);simp only[Nd.c] at HPR;have HPU:=zH (fun W' (h:SMapSP W' bm (foldMk pre))=>srtPutSP_any W' bm (foldMk pre) q pr h (by omega) hq);have HI:=zH (zA hI hB);have hdr:Below W.heap.size W W.drew:=(zR _ W).drew;clear hI hB hXn hTl hpr hd;gi_wp2
  gi_region_with (first
   | (refine⟨trivial,(callsIn_wide.2 (HPR.out _)).mono ?_⟩;rintro e w7 ⟨rfl,hb7⟩;have hI7:=HI.out.1.below (hdr.trans hb7);have hb7':=HI.out.2.trans ((hdr.trans hb7).mono HI.out.2.size);have c7:=hI7.1.1.1.cell 0;simp at c7)
   | (refine⟨trivial,(callsIn_wide.2 (HPU.out w7 hI7.1.1.2)).mono ?_⟩;rintro e w8 ⟨rfl,hm8,hg8⟩))
  all_goals
   have hbb:=hdr.trans hb7;obtain⟨cs,hBm⟩:=smapSP_blk hI7.1.1.2;have hlv:∀g,v.ownBlock=some g→g<W.heap.size:=fun g hg=>by
    obtain⟨A,c,rfl,_,_,h3⟩:=HI.out.1.2.2;obtain⟨g',off,cur,rfl,hbq,_⟩:=h3 hx0;(cases hg);exact hbq.lt
   have hko:=(keeps_belowF hbb).trans (keeps_grownF hg8 hBm);have hgK:KeepIt gb v W w8:=(KeepIt.below hbb HI.out.1.2.1.lt hlv).trans ⟨hg8.size,hg8.block gb hI7.1.2 (fun e=>HNE.out.1 (by simpa using e.symm)),fun g hg=>hg8.block g (zQ (hlv g hg) hbb.size) (fun e=>HNE.out.2 hx0 g hg (by simpa using e.symm))⟩;have HF:=zH (zA hko (zA hgK (zA (hI7.1.1.put hm8 hg8) (hb7'.grown hg8 hb7'.size (fun k hk=>by cases hk;exact HM.out)))));clear hm8 hg8 hko hgK hBm hbb hb7 hb7' c7 hI7 x0 x1 x2 x3 c0;(gi_wp2);refine⟨HF.out.1,HF.out.2.1,⟨⟨?_,zQ HI.out.1.1.2 HF.out.1.size⟩,?_,?_⟩,HF.out.2.2.2⟩
   ·rw[HF1.out];exact HF.out.2.2.1
   ·have:=HF.out.2.1.box;have h2:=HI.out.1.2.1;unfold Blk at h2⊢;rw[this,h2]
   ·exact HI.out.1.2.2.kept (fun g cur h _=>HF.out.2.1.row g h)
 case done=>
  rintro D zs W hD hzs ⟨⟨⟨hP,hglW⟩,hgW,hLW⟩,hB⟩ hK;have hz:zs=xs:=hzs;subst hz;rw[foldMk_eq HX.out.2.2 zs (List.prefix_refl _)] at hP;have q5:=hP.1.cell 0;simp at q5
  have hD':w.heap.size≤D:=by omega
  have HR3:=zH (zA hP (zA hB hK));clear hP hB hgW hLW;gi_wp2
  refine⟨by simp,.inl ⟨_,_,rfl,run_takeDeferred hK,?_⟩⟩;refine⟨_,results_tmp rfl _ _ _,⟨bm,rfl,?_,HM.out,?_⟩⟩
  ·exact HR3.out.1.2.ownF (grownBy_putObj' W D (.deferred none)) (fun r e=>show∃o:Obj,W.heap[r]? =some o∧o.isCells=false from(by cases (e:some D=some r);exact⟨_,hK,rfl⟩))
  ·exact HR3.out.2.1.trans (belowK_b (w:=w) (zN _) W D _ (.deferred none) hD' hK rfl rfl)
 case stop=>
  rintro D c pre W hD hSp h;exact h.elim
attribute [local go_sem] Oper.semAt_some
def OwnMk (w:World) (base:Nat) (u:Value) (l:List MkE):Prop:=w.ownsRow base 63 6 u l.length (l.flatMap eCM)
theorem OwnMk.below {w w':World}{base:Nat}{u:Value}{l:List MkE}(h:OwnMk w base u l)(hb:Below w.heap.size w w'):OwnMk w' base u l:=own_kept h hb
theorem OwnMk.slv {w:World}{base:Nat}{u:Value}{l:List MkE}(h:OwnMk w base u l):SlV w 6 eCM u l:=SlV.of_own h eCM_len (by decide)
end Go.Proofs.YtnpehjgnplaabaaGreatDoor
namespace Sw
section
variable {κ ν:Type} {c:κ→κ→Int}
def sideL (c:κ→κ→Int):List (κ×ν)→List (κ×ν)→Int
 | _,[]=> -1
 | [],_::_=>1
 | a::_,b::_=>c a.1 b.1
def joinF (c:κ→κ→Int):Nat→List (κ×ν)→List (κ×ν)→List (κ×Option ν×Option ν)
 | 0,_,_=>[]
 | _+1,[],[]=>[]
 | n+1,a::x,[]=>(a.1,some a.2,none)::joinF c n x []
 | n+1,[],b::y=>(b.1,none,some b.2)::joinF c n [] y
 | n+1,a::x,b::y=>if c a.1 b.1<0 then(a.1,some a.2,none)::joinF c n x (b::y) else if 0<c a.1 b.1 then(b.1,none,some b.2)::joinF c n (a::x) y else(b.1,some a.2,some b.2)::joinF c n x y
def joinL (c:κ→κ→Int) (x y:List (κ×ν)):List (κ×Option ν×Option ν):=joinF c (x.length+y.length) x y
theorem joinF_more:∀(n m:Nat) (x y:List (κ×ν)),x.length+y.length≤n→x.length+y.length≤m→joinF c n x y=joinF c m x y
 | 0,m,[],[],_,_=>by cases m<;>rfl
 | n+1,0,[],[],_,_=>rfl
 | n+1,m+1,[],[],_,_=>rfl
 | n+1,m+1,a::x,[],h1,h2=>by
  unfold joinF;simp only[zI,List.length_nil] at h1 h2;rw[joinF_more n m x [] (by simp only[List.length_nil];omega) (by simp only[List.length_nil];omega)]
 | n+1,m+1,[],b::y,h1,h2=>by
  unfold joinF;simp only[zI,List.length_nil] at h1 h2;rw[joinF_more n m [] y (by simp only[List.length_nil];omega) (by simp only[List.length_nil];omega)]
 | n+1,m+1,a::x,b::y,h1,h2=>by
  unfold joinF;simp only[zI] at h1 h2;rw[joinF_more n m x (b::y) (by simp only[zI];omega) (by simp only[zI];omega),joinF_more n m (a::x) y (by simp only[zI];omega) (by simp only[zI];omega),joinF_more n m x y (by omega) (by omega)]
 | 0,_,a::x,y,h1,_=>by simp only[zI] at h1;omega
 | 0,_,[],b::y,h1,_=>by simp only[zI] at h1;omega
 | _+1,0,a::x,y,_,h2=>by simp only[zI] at h2;omega
 | _+1,0,[],b::y,_,h2=>by simp only[zI] at h2;omega
theorem joinL_a (a:κ×ν)(x:List (κ×ν)):joinL c (a::x) []=(a.1,some a.2,none)::joinL c x []:=by
 unfold joinL;rw[show(a::x).length+([]:List (κ×ν)).length=(x.length+([]:List (κ×ν)).length)+1 from by simp only[zI];omega];rfl
theorem joinL_b (b:κ×ν)(y:List (κ×ν)):joinL c [] (b::y)=(b.1,none,some b.2)::joinL c [] y:=by
 unfold joinL;rw[show([]:List (κ×ν)).length+(b::y).length=(([]:List (κ×ν)).length+y.length)+1 from by simp only[zI];omega];rfl
theorem joinL_ab (a b:κ×ν)(x y:List (κ×ν)):joinL c (a::x) (b::y)=if c a.1 b.1<0 then(a.1,some a.2,none)::joinL c x (b::y) else if 0<c a.1 b.1 then(b.1,none,some b.2)::joinL c (a::x) y else(b.1,some a.2,some b.2)::joinL c x y:=by
 unfold joinL;rw[show(a::x).length+(b::y).length=(x.length+y.length+1)+1 from by simp only[zI];omega]
 conv=>lhs;unfold joinF
 rw[joinF_more (x.length+y.length+1) (x.length+(b::y).length) x (b::y) (by simp only[zI];omega) (zN _),joinF_more (x.length+y.length+1) ((a::x).length+y.length) (a::x) y (by simp only[zI];omega) (zN _),joinF_more (x.length+y.length+1) (x.length+y.length) x y (by omega) (zN _)]
theorem join_cases (x y:List (κ×ν))(h:0<x.length+y.length):
  (sideL c x y<0∧∃a x',x=a::x'∧joinL c x y=(a.1,some a.2,none)::joinL c x' y)∨
  (0<sideL c x y∧∃b y',y=b::y'∧joinL c x y=(b.1,none,some b.2)::joinL c x y')∨
  (sideL c x y=0∧∃a x' b y',x=a::x'∧y=b::y'∧joinL c x y=(b.1,some a.2,some b.2)::joinL c x' y'):=by
 cases x with
 | nil=>
  cases y with
  | nil=>simp at h
  | cons b y=>exact .inr (.inl ⟨(by decide:(0:Int)<1),b,y,rfl,joinL_b b y⟩)
 | cons a x=>
  cases y with
  | nil=>exact .inl ⟨(by decide:(-1:Int)<0),a,x,rfl,joinL_a a x⟩
  | cons b y=>
   rcases Int.lt_trichotomy (c a.1 b.1) 0 with h1 | h1 | h1
   ·exact .inl ⟨h1,a,x,rfl,by rw[joinL_ab,if_pos h1]⟩
   ·exact .inr (.inr ⟨h1,a,x,b,y,rfl,rfl,by rw[joinL_ab,if_neg (by omega),if_neg (by omega)]⟩)
   ·exact .inr (.inl ⟨h1,b,y,rfl,by rw[joinL_ab,if_neg (by omega),if_pos h1]⟩)
theorem joinL_nil:joinL c ([]:List (κ×ν)) []=[]:=rfl
theorem joinF_len:∀(n:Nat) (x y:List (κ×ν)),(joinF c n x y).length≤n
 | 0,_,_=>zN _
 | n+1,[],[]=>Nat.zero_le _
 | n+1,a::x,[]=>by unfold joinF;have:=joinF_len n x [];simp only[zI];omega
 | n+1,[],b::y=>by unfold joinF;have:=joinF_len n [] y;simp only[zI];omega
 | n+1,a::x,b::y=>by
  unfold joinF;have h1:=joinF_len n x (b::y);have h2:=joinF_len n (a::x) y;have h3:=joinF_len n x y;split
  ·simp only[zI];omega
  ·split<;>simp only[zI]<;>omega
theorem joinL_len (x y:List (κ×ν)):(joinL c x y).length≤x.length+y.length:=joinF_len _ x y
end
open Go Go.RowKit
structure KeepP (K:Nat→Prop) (A B:World):Prop where
 size:A.heap.size≤B.heap.size
 same:∀g,K g→B.heap[g]? =A.heap[g]?
theorem KeepP.refl (K:Nat→Prop)(A:World):KeepP K A A:=⟨zN _,fun _ _=>rfl⟩
theorem KeepP.trans {K:Nat→Prop}{A B C:World}(h:KeepP K A B)(k:KeepP K B C):KeepP K A C:=⟨zT h.size k.size,fun g hg=>(k.same g hg).trans (h.same g hg)⟩
theorem KeepP.below {K:Nat→Prop}{A B:World}{n:Nat}(h:Below n A B)(hK:∀g,K g→g<n):KeepP K A B:=⟨h.size,fun g hg=>h.block g (hK g hg)⟩
theorem keepP_b {K:Nat→Prop}{w:World}(hK:∀g,K g→g<w.heap.size)(W:World)(l:Nat)(o o':Obj)(hl:w.heap.size≤l)(h:W.heap[l]? =some o)(hc:o.isCells=false)(hw:o.isWalk=false):KeepP K W (W.putObj l o'):=
 .below (belowK_b (zN _) W l o o' hl h hc hw) hK
theorem Blk.keptP {K:Nat→Prop}{A B:World}{g:Nat}{t:TypeId}{cs:Array Value}(h:Blk A g t cs)(hk:KeepP K A B)(hg:K g):Blk B g t cs:=(hk.same g hg).trans h
theorem Lies.keptP {K:Nat→Prop}{A B:World}{te:TypeId}{size:Nat}{α:Type}{E:α→List Value}{v:Value}{l:List α}(h:Lies A te size E v l)(hk:KeepP K A B)(hg:∀g,v.ownBlock=some g→K g):Lies B te size E v l:=h.kept fun g _ hv _=>hk.same g (hg g hv)
def slLenJ:Value→Nat
 | .slice _ n _=>n
 | _=>0
end Sw
namespace Go.Proofs.YtnpehjgnplaabaaGreatDoor
open Go Go.RowKit Go.Shelf
open Sw
attribute [local go_sem] Oper.semAt_some
def pCSP (p:Option Pr×Option Pr):Array Value:=([.int .i64 (p.1.getD ⟨0,0,0,0,0⟩).kind,.int .i64 (p.1.getD ⟨0,0,0,0,0⟩).mode,.int .u32 (p.1.getD ⟨0,0,0,0,0⟩).time,.int .i64 (p.1.getD ⟨0,0,0,0,0⟩).size,.int .u32 (p.1.getD ⟨0,0,0,0,0⟩).sum,.int .i64 (p.2.getD ⟨0,0,0,0,0⟩).kind,.int .i64 (p.2.getD ⟨0,0,0,0,0⟩).mode,.int .u32 (p.2.getD ⟨0,0,0,0,0⟩).time,.int .i64 (p.2.getD ⟨0,0,0,0,0⟩).size,.int .u32 (p.2.getD ⟨0,0,0,0,0⟩).sum,.bool p.1.isSome,.bool p.2.isSome]).toArray
theorem srtRowsSP_any (w:World)(bm:Nat)(xs:List (ByteArray×Pr))(h:SMapSP w bm xs):
  Calls Tryz.prog 141 #[.pointer (some ⟨bm,0,none⟩)] w fun e w'=>∃v,e= .returned (.tuple #[v,ordFSP])∧w.ownsRow 0 204 6 v xs.length (xs.flatMap eCSP)∧∃n,w'=w.drewN n:=by
 obtain⟨v,hb,ho⟩:=h.row;have hp:=ho;obtain⟨A,c,rfl,_,_,_⟩:=SlV_of_any hp;have c0:=hb.cell 0;have c1:w.cell? ⟨bm,1,none⟩=some (.slice A xs.length c):=hb.cell 1;have HO:=zH ho;clear ho hp hb h;generalize xs.length=n at*;go_enter Tryz.func141,Tryz.ntmps141
 go_wp2_with fail
 go_quiet (fail)
 go_wp2_with fail
 go_ret2
 exact⟨_,rfl,HO.out,_,rfl⟩
theorem srtSideSP_any (w:World)(A1 A2:Option Addr)(n1 n2 c1 c2:Nat)(x y:List (ByteArray×Pr))(hx:x.length=n1)(hy:y.length=n2)(h1:SlOf w 6 eCSP A1 x)(h2:SlOf w 6 eCSP A2 y)(k1:∀e∈x,okS e.1)(k2:∀e∈y,okS e.1):
  Calls Tryz.prog 143 #[.slice A1 n1 c1,.slice A2 n2 c2,ordFSP] w fun e w'=>e= .returned (.int .i64 (sideL ordS x y))∧Below w.heap.size w w':=by
 cases y with
 | nil=>
  obtain rfl:n2=0:=by simpa using hy.symm
  go_enter Tryz.func143,Tryz.ntmps143
  go_wp2_with fail
  go_ret;exact⟨by unfold sideL;rfl,zR _ _⟩
 | cons b y=>
  have e2:((n2:Int)==0)=false:=by rw[zB];simp at hy;omega
  have p2:(0:Int)<n2:=by simp at hy;omega
  have r2:0<n2:=by omega
  cases x with
  | nil=>
   (obtain rfl:n1=0:=by simpa using hx.symm);clear hy;(go_enter Tryz.func143,Tryz.ntmps143);(go_wp2_with fail);go_ret;exact⟨by unfold sideL;rfl,zR _ _⟩
  | cons a x=>
   (have e1:((n1:Int)==0)=false:=by rw[zB];simp at hx;omega);(have p1:(0:Int)<n1:=by simp at hx;omega);(have r1:0<n1:=by omega);obtain⟨g1,o1,rfl,_,hc1⟩:=h1 (by simp);obtain⟨g2,o2,rfl,_,hc2⟩:=h2 (by simp);have q1:=hc1 0 (by simp) 0 (by decide);have q2:=hc2 0 (by simp) 0 (by decide);simp only[eCSP,qC,List.getElem_cons_zero,Nat.zero_mul,Nat.add_zero] at q1 q2;have HO:=zH (fun W=>orderS_any W a.1 b.1 (k1 a (List.mem_cons_self ..)) (k2 b (List.mem_cons_self ..)));have HS:=zH (show sideL ordS (a::x) (b::y)=ordS a.1 b.1 from rfl);clear hc1 hc2 h1 h2 k1 k2 hx hy;(go_enter Tryz.func143,Tryz.ntmps143);(go_wp2_with fail);(go_still_tail 9,(by kernel_rfl));(go_wp2_with fail);refine(HO.out _).mono ?_;rintro e w2 ⟨rfl,hb2⟩;(go_wp2_with fail);go_ret;exact⟨by rw[HS.out];rfl,(zR _ _).drew.trans hb2⟩
attribute [local go_sem] Oper.semAt_some
def JoinK (b1 b2 b3:Nat) (v1 v2:Value) (g:Nat):Prop:=g=b1∨g=b2∨g=b3∨v1.ownBlock=some g∨v2.ownBlock=some g
def JoinAtSP (J:List (ByteArray×Option Pr×Option Pr)→World→Prop) (b1 b2 b3:Nat) (v1 v2:Value) (xs ys:List (ByteArray×Pr)) (W:World) (xv yv:Value) (wr:World):Prop:=
 ∃pre x y,pre++joinL ordS x y=joinL ordS xs ys∧Lies wr 204 6 eCSP xv x∧Lies wr 204 6 eCSP yv y∧(∀g,xv.ownBlock=some g→v1.ownBlock=some g)∧(∀g,yv.ownBlock=some g→v2.ownBlock=some g)∧
  (∀e∈x,e∈xs)∧(∀e∈y,e∈ys)∧x.length≤xs.length∧y.length≤ys.length∧J pre wr∧KeepP (JoinK b1 b2 b3 v1 v2) W wr
theorem JoinAtSP.drewN {J:List (ByteArray×Option Pr×Option Pr)→World→Prop}{b1 b2 b3:Nat}{v1 v2:Value}{xs ys:List (ByteArray×Pr)}{W wr:World}{xv yv:Value}(h:JoinAtSP J b1 b2 b3 v1 v2 xs ys W xv yv wr){B:Nat}(hJ:AbM (fun _=>False) B J)(m:Nat):JoinAtSP J b1 b2 b3 v1 v2 xs ys W xv yv (wr.drewN m):=by
 obtain⟨pre,x,y,h1,hx,hy,hxb,hyb,hxm,hym,hxl,hyl,hJs,hK⟩:=h;have hb:=below_drewN (zR wr.heap.size wr) m;exact⟨pre,x,y,h1,hx.below hb,hy.below hb,hxb,hyb,hxm,hym,hxl,hyl,hJ _ _ _ none hJs (grown_below hb) (fun r h=>by cases h),⟨zT hK.size hb.size,fun g hg=>hK.same g hg⟩⟩
theorem joinSP_tells (n:Nat)(hn:1≤n)(b1 b2 b3:Nat)(v1 v2:Value)(xs ys:List (ByteArray×Pr))(w:World)(hb1:Blk w b1 198 #[v1])(hb2:Blk w b2 198 #[v2])(hb3:Blk w b3 108 #[ordFSP])
  (hL1:Lies w 204 6 eCSP v1 xs) (hL2:Lies w 204 6 eCSP v2 ys) (hv1:∀g,v1.ownBlock=some g→g<w.heap.size) (hv2:∀g,v2.ownBlock=some g→g<w.heap.size) (hl1:xs.length≤1000000) (hl2:ys.length≤1000000) (k1:∀e∈xs,okS e.1) (k2:∀e∈ys,okS e.1):
  SeqTells (fun _=>False) Fence.wide n Tryz.prog 142 #[.pointer (some ⟨b1,0,none⟩),.pointer (some ⟨b2,0,none⟩),.pointer (some ⟨b3,0,none⟩)] (fun x:ByteArray×Option Pr×Option Pr=> #[Value.string x.1,.agg (pCSP x.2)]) (KeepP (JoinK b1 b2 b3 v1 v2)) (fun zs=>zs=joinL ordS xs ys) (fun pre=>pre<+:joinL ordS xs ys) (fun pre=>pre<+:joinL ordS xs ys) w:=fun l J Jx W hW hJ hJx hY hJ0=>by
 have B1:=hb1.below hW hb1.lt;have B2:=hb2.below hW hb2.lt;have B3:=hb3.below hW hb3.lt;have hK:∀g,JoinK b1 b2 b3 v1 v2 g→g<W.heap.size:=fun g hg=>by
  have:=hW.size;rcases hg with rfl | rfl | rfl | h | h
  ·exact B1.lt
  ·exact B2.lt
  ·exact B3.lt
  ·have:=hv1 g h;omega
  ·have:=hv2 g h;omega
 have c1:=B1.cell 0;have c2:=B2.cell 0;simp at c1 c2
 have HST:=zH (show JoinAtSP J b1 b2 b3 v1 v2 xs ys W v1 v2 W from⟨[],xs,ys,rfl,hL1.below hW,hL2.below hW,fun _ h=>h,fun _ h=>h,fun _ h=>h,fun _ h=>h,zN _,zN _,hJ0,KeepP.refl _ _⟩);have HB:=zH (zA B1 (zA B2 (zA B3 hK)));have HJ:=zH hJ;clear hJ;have HY:=zH hY;clear hY;have HK:=zH (zA k1 k2);clear k1 k2;have e1:=hL1;have e2:=hL2;obtain⟨A1,d1,rfl,hd1,hm1,_⟩:=e1;obtain⟨A2,d2,rfl,hd2,hm2,_⟩:=e2;clear hJx B1 B2 B3 hK hb1 hb2 hb3 hL1 hL2 hv1 hv2 hJ0;have HLN:=zH (zA hl1 hl2);clear hl1 hl2;refine callsIn_of_wp Tryz.func142 rfl trivial ?_ rfl;simp only[Tryz.ntmps142,List.size_toArray,zI,List.length_nil,Nat.reduceAdd,Nat.reduceSub,Array.replicate_succ,Array.replicate_zero,List.push_toArray,List.append_toArray,List.nil_append,List.cons_append];gi_wp2
 refine wpIn_wide.2 ?_;go_quiet (fail)
 go_wp2_with fail
 obtain⟨W1,hW1⟩:∃W1,W1=W.drewN nq:=⟨_,rfl⟩;have HSQ:=zH (show JoinAtSP J b1 b2 b3 (.slice A1 xs.length d1) (.slice A2 ys.length d2) xs ys W (.slice A1 xs.length d1) (.slice A2 ys.length d2) (W.drewN nq) from HST.out.drewN HJ.out nq);gi_wp2
 gi_loopw [5,6] (fun xv yv wr=>JoinAtSP J b1 b2 b3 (.slice A1 xs.length d1) (.slice A2 ys.length d2) xs ys W xv yv wr) (fun xv yv _=>slLenJ xv+slLenJ yv)
 case atStart=>exact HSQ.out
 case round=>
  obtain⟨pre,x,y,hJ,hx,hy,hxb,hyb,hxm,hym,hxl,hyl,hJs,hK⟩:=hrel;have HR:=zH (zA hJ (zA hxb (zA hyb (zA hxm (zA hym (zA hJs hK))))));have HLX:=zH hx;have HLY:=zH hy;have hxs:=hx.slv eCSP_len;have hys:=hy.slv eCSP_len;obtain⟨Ax,dx,rfl,hdx,hmx,hsx⟩:=hxs;obtain⟨Ay,dy,rfl,hdy,hmy,hsy⟩:=hys;have B1:=HB.out.1.keptP hK (.inl rfl);have B2:=HB.out.2.1.keptP hK (.inr (.inl rfl));have B3:=HB.out.2.2.1.keptP hK (.inr (.inr (.inl rfl)));have c3:=B3.cell 0;simp at c3
  clear hJ hxb hyb hxm hym hJs hK hx hy B1 B2;by_cases h0:0<x.length+y.length
  ·obtain⟨T,hT⟩:∃T,wr.heap.size=T:=⟨_,rfl⟩;have hba:=(zR wr.heap.size wr).alloc (zN _) (.cells (pCSP (none,none)) 164);have HSD:=zH (srtSideSP_any (wr.alloc (.cells (pCSP (none,none)) 164)) Ax Ay x.length y.length dx dy x y rfl rfl (hsx.below hba (zN _)) (hsy.below hba (zN _)) (fun e he=>HK.out.1 e (HR.out.2.2.2.1 e he)) (fun e he=>HK.out.2 e (HR.out.2.2.2.2.1 e he)));have c3':=(hba.cell (p:=⟨b3,0,none⟩) B3.lt).trans c3;have hPB:=Blk.new wr 164 (pCSP (none,none));have HBA:=zH (zA hba hPB);clear hba hPB B3;rcases join_cases (c:=ordS) x y h0 with ⟨hs,a,x',rfl,hj⟩ | ⟨hs,b,y',rfl,hj⟩ | ⟨hs,a,x',b,y',rfl,rfl,hj⟩
   ·have HJX:=zH hj;clear hj;obtain⟨s,hs'⟩:∃s,sideL ordS (a::x') y=s:=⟨_,rfl⟩;rw[hs'] at hs HSD;(have p1:(0:Int)<((a::x').length:Nat):=by simp only[zI];omega);(have p2:0<(a::x').length:=by simp only[zI];omega);obtain⟨g1,o1,rfl,hg1,hcx⟩:=hsx (by simp);have q0:=hcx 0 (by simp) 0 (by decide);have q1:=hcx 0 (by simp) 1 (by decide);have q1_2:=hcx 0 (by simp) 2 (by decide);have q1_3:=hcx 0 (by simp) 3 (by decide);have q1_4:=hcx 0 (by simp) 4 (by decide);have q1_5:=hcx 0 (by simp) 5 (by decide);simp only[eCSP,qC,qB,List.getElem_cons_zero,Nat.zero_mul,Nat.add_zero,Nat.zero_add] at q0 q1 q1_2 q1_3 q1_4 q1_5;(obtain⟨n1,n2⟩:(1:Int)≤((a::x').length:Nat)∧1≤(a::x').length:=by omega);obtain⟨T1,hsl,hT1a,hT1b⟩:=slice_from (P:=Tryz.prog) 198 204 6 Tryz.underlying198 (by kernel_rfl) Tryz.sizeOf204 g1 o1 (a::x').length dx 1 1 rfl n2;unfold pCSP at HBA HSD c3';(dsimp only[Option.getD,Option.isSome] at HBA HSD c3');obtain⟨nx,hnx⟩:∃nx,(a::x').length=nx:=⟨_,rfl⟩;obtain⟨ny,hny⟩:∃ny,y.length=ny:=⟨_,rfl⟩;rw[hnx] at HSD p1 p2 n1 n2 hdx;rw[hny] at HSD hdy;simp only[hnx] at hsl;rw[hnx,hny];have HNX:=zH (zA hnx (zA hny (zA hT1a hT1b)));clear hnx hny hT1a hT1b hcx hsx hsy h0;unfold maxLen at hmx hmy;have HMX:=zH (zA hmx hmy);clear hmx hmy;(gi_wp2);refine⟨trivial,(callsIn_wide.2 HSD.out).mono ?_⟩;rintro e w2 ⟨rfl,hb2⟩;have hbb2:=HBA.out.1.trans (hb2.mono HBA.out.1.size);have hP2:=HBA.out.2.below hb2 HBA.out.2.lt;have e0:=(hbb2.cell (p:=⟨g1,o1,none⟩) hg1).trans q0;have e1:=(hbb2.cell (p:=⟨g1,o1+1,none⟩) hg1).trans q1;have e1_2:=(hbb2.cell (p:=⟨g1,o1+2,none⟩) hg1).trans q1_2;have e1_3:=(hbb2.cell (p:=⟨g1,o1+3,none⟩) hg1).trans q1_3;have e1_4:=(hbb2.cell (p:=⟨g1,o1+4,none⟩) hg1).trans q1_4;have e1_5:=(hbb2.cell (p:=⟨g1,o1+5,none⟩) hg1).trans q1_5;rw[hT] at hP2;have x0:=hP2.cell 0;have x1:=hP2.cell 1;have x2:=hP2.cell 2;have x3:=hP2.cell 3;have x4:=hP2.cell 4;have x5:=hP2.cell 5;have x6:=hP2.cell 6;have x7:=hP2.cell 7;have x8:=hP2.cell 8;have x9:=hP2.cell 9;have x10:=hP2.cell 10;have x11:=hP2.cell 11;have f0:=hP2.frozen 0;have f1:=hP2.frozen 1;have f2:=hP2.frozen 2;have f3:=hP2.frozen 3;have f4:=hP2.frozen 4;have f5:=hP2.frozen 5;have f6:=hP2.frozen 6;have f7:=hP2.frozen 7;have f8:=hP2.frozen 8;have f9:=hP2.frozen 9;have f10:=hP2.frozen 10;have f11:=hP2.frozen 11;(simp at x0 x1 x2 x3 x4 x5 x6 x7 x8 x9 x10 x11);(have hgT:g1≠T:=by omega);have HW2:=zH (zA hbb2 hP2);(obtain⟨s1,s2⟩:s≤0∧¬0≤s:=by omega);clear hb2 hbb2 hP2 q0 q1 q1_2 q1_3 q1_4 q1_5 HSD c3 c3' HSQ HST;(gi_wp2);refine wpIn_wide.2 ?_;(go_region);have hP3:Blk ((((((w2.setCell ⟨T,0,none⟩ (.int .i64 a.2.kind)).setCell ⟨T,1,none⟩ (.int .i64 a.2.mode)).setCell ⟨T,2,none⟩ (.int .u32 a.2.time)).setCell ⟨T,3,none⟩ (.int .i64 a.2.size)).setCell ⟨T,4,none⟩ (.int .u32 a.2.sum)).setCell ⟨T,10,none⟩ (.bool true)).drew T 164 (pCSP (some a.2,none)):=((((((HW2.out.2.put 0 (.int .i64 a.2.kind)).put 1 (.int .i64 a.2.mode)).put 2 (.int .u32 a.2.time)).put 3 (.int .i64 a.2.size)).put 4 (.int .u32 a.2.sum)).put 10 (.bool true)).drew;have hb3:Below wr.heap.size wr ((((((w2.setCell ⟨T,0,none⟩ (.int .i64 a.2.kind)).setCell ⟨T,1,none⟩ (.int .i64 a.2.mode)).setCell ⟨T,2,none⟩ (.int .u32 a.2.time)).setCell ⟨T,3,none⟩ (.int .i64 a.2.size)).setCell ⟨T,4,none⟩ (.int .u32 a.2.sum)).setCell ⟨T,10,none⟩ (.bool true)).drew:=((((((HW2.out.1.setCell (p:=⟨T,0,none⟩) (by dsimp only;omega) _).setCell (p:=⟨T,1,none⟩) (by dsimp only;omega) _).setCell (p:=⟨T,2,none⟩) (by dsimp only;omega) _).setCell (p:=⟨T,3,none⟩) (by dsimp only;omega) _).setCell (p:=⟨T,4,none⟩) (by dsimp only;omega) _).setCell (p:=⟨T,10,none⟩) (by dsimp only;omega) _).drew;generalize ((((((w2.setCell ⟨T,0,none⟩ (.int .i64 a.2.kind)).setCell ⟨T,1,none⟩ (.int .i64 a.2.mode)).setCell ⟨T,2,none⟩ (.int .u32 a.2.time)).setCell ⟨T,3,none⟩ (.int .i64 a.2.size)).setCell ⟨T,4,none⟩ (.int .u32 a.2.sum)).setCell ⟨T,10,none⟩ (.bool true)).drew=w3 at*;clear x0 x1 x2 x3 x4 x5 x6 x7 x8 x9 x10 x11 f0 f1 f2 f3 f4 f5 f6 f7 f8 f9 f10 f11;have x0:=hP3.cell 0;have x1:=hP3.cell 1;have x2:=hP3.cell 2;have x3:=hP3.cell 3;have x4:=hP3.cell 4;have x5:=hP3.cell 5;have x6:=hP3.cell 6;have x7:=hP3.cell 7;have x8:=hP3.cell 8;have x9:=hP3.cell 9;have x10:=hP3.cell 10;have x11:=hP3.cell 11;(simp [pCSP] at x0 x1 x2 x3 x4 x5 x6 x7 x8 x9 x10 x11);(have hpf:(pre++[(a.1,some a.2,none)])++joinL ordS x' y=joinL ordS xs ys:=by rw[←HR.out.1,HJX.out,zV];rfl);have hy:=HY.out pre (a.1,some a.2,none) w3 (HJ.out _ _ _ none HR.out.2.2.2.2.2.1 (grown_below hb3) (fun r h=>by cases h)) ⟨_,hpf⟩;have HZ:=zH (zA hpf hb3);clear hpf hb3 hP3;obtain⟨fn,tmps,assign,body,hyy,hRY⟩:=hy;(try dsimp only at hyy);simp only[pCSP,Option.getD,Option.isSome] at hyy hRY;(gi_wp2);refine hRY.mono ?_;rintro e W3 (⟨rfl,hJ3,hk3⟩ | ⟨rfl,hJx3⟩)
    ·(have hKw:∀g,JoinK b1 b2 b3 (.slice A1 xs.length d1) (.slice A2 ys.length d2) g→g<wr.heap.size:=fun g hg=>zQ (HB.out.2.2.2 g hg) HR.out.2.2.2.2.2.2.size);have hk23:=(KeepP.below HZ.out.2 hKw).trans hk3;have hLx:=HLX.out.drop eCSP_len 1 (by simp) T1 (fun h=>by rw[HNX.out.2.2.1 h,Nat.one_mul]);rw[List.drop_one,List.tail_cons,HNX.out.1] at hLx;have hZ2:JoinAtSP J b1 b2 b3 (.slice A1 xs.length d1) (.slice A2 ys.length d2) xs ys W (.slice (some T1) (nx-1) (dx-1)) (.slice Ay ny dy) W3:=by
      refine⟨pre++[(a.1,some a.2,none)],x',y,HZ.out.1,hLx.keptP hk23 (fun g hg=> .inr (.inr (.inr (.inl (HR.out.2.1 g (by rw[←hg];simp [Value.ownBlock,HNX.out.2.2.2])))))),?_,fun g hg=>HR.out.2.1 g (by rw[←hg];simp [Value.ownBlock,HNX.out.2.2.2]),?_,fun e he=>HR.out.2.2.2.1 e (List.mem_cons_of_mem _ he),HR.out.2.2.2.2.1,?_,hyl,hJ3,HR.out.2.2.2.2.2.2.trans hk23⟩
      ·have:=HLY.out.keptP hk23 (fun g hg=> .inr (.inr (.inr (.inr (HR.out.2.2.1 g hg)))));rw[HNX.out.2.1] at this;exact this
      ·have:=HR.out.2.2.1;rw[HNX.out.2.1] at this;exact this
      ·simp only[zI] at hxl;omega
     have HZ2:=zH hZ2;clear hZ2 hJ3 hk3 hk23 hLx hKw;(gi_wp2);go_roundw
     case rel=>exact HZ2.out
     case measure=>simp [slLenJ];omega
    ·(gi_wp2);refine bodyPost_ret (results_none rfl _ _ _) rfl ?_;exact⟨⟨_,rfl⟩,.inr ⟨_,⟨_,HZ.out.1⟩,hJx3⟩⟩
   ·have HJX:=zH hj;clear hj;obtain⟨s,hs'⟩:∃s,sideL ordS x (b::y')=s:=⟨_,rfl⟩;rw[hs'] at hs HSD;(have p1:(0:Int)<((b::y').length:Nat):=by simp only[zI];omega);(have p2:0<(b::y').length:=by simp only[zI];omega);obtain⟨g1,o1,rfl,hg1,hcx⟩:=hsy (by simp);have q0:=hcx 0 (by simp) 0 (by decide);have q1:=hcx 0 (by simp) 1 (by decide);have q1_2:=hcx 0 (by simp) 2 (by decide);have q1_3:=hcx 0 (by simp) 3 (by decide);have q1_4:=hcx 0 (by simp) 4 (by decide);have q1_5:=hcx 0 (by simp) 5 (by decide);simp only[eCSP,qC,qB,List.getElem_cons_zero,Nat.zero_mul,Nat.add_zero,Nat.zero_add] at q0 q1 q1_2 q1_3 q1_4 q1_5;(obtain⟨n1,n2⟩:(1:Int)≤((b::y').length:Nat)∧1≤(b::y').length:=by omega);obtain⟨T1,hsl,hT1a,hT1b⟩:=slice_from (P:=Tryz.prog) 198 204 6 Tryz.underlying198 (by kernel_rfl) Tryz.sizeOf204 g1 o1 (b::y').length dy 1 1 rfl n2;unfold pCSP at HBA HSD c3';(dsimp only[Option.getD,Option.isSome] at HBA HSD c3');obtain⟨nx,hnx⟩:∃nx,x.length=nx:=⟨_,rfl⟩;obtain⟨ny,hny⟩:∃ny,(b::y').length=ny:=⟨_,rfl⟩;rw[hnx] at HSD hdx;rw[hny] at HSD p1 p2 n1 n2 hdy;simp only[hny] at hsl;rw[hnx,hny];have HNX:=zH (zA hny (zA hnx (zA hT1a hT1b)));clear hnx hny hT1a hT1b hcx hsx hsy h0;unfold maxLen at hmx hmy;have HMX:=zH (zA hmx hmy);clear hmx hmy;rcases Nat.eq_zero_or_pos nx with hx0 | hx0
    ·subst hx0;(gi_wp2);refine⟨trivial,(callsIn_wide.2 HSD.out).mono ?_⟩;rintro e w2 ⟨rfl,hb2⟩;have hbb2:=HBA.out.1.trans (hb2.mono HBA.out.1.size);have hP2:=HBA.out.2.below hb2 HBA.out.2.lt;have e0:=(hbb2.cell (p:=⟨g1,o1,none⟩) hg1).trans q0;have e1:=(hbb2.cell (p:=⟨g1,o1+1,none⟩) hg1).trans q1;have e1_2:=(hbb2.cell (p:=⟨g1,o1+2,none⟩) hg1).trans q1_2;have e1_3:=(hbb2.cell (p:=⟨g1,o1+3,none⟩) hg1).trans q1_3;have e1_4:=(hbb2.cell (p:=⟨g1,o1+4,none⟩) hg1).trans q1_4;have e1_5:=(hbb2.cell (p:=⟨g1,o1+5,none⟩) hg1).trans q1_5;rw[hT] at hP2;have x0:=hP2.cell 0;have x1:=hP2.cell 1;have x2:=hP2.cell 2;have x3:=hP2.cell 3;have x4:=hP2.cell 4;have x5:=hP2.cell 5;have x6:=hP2.cell 6;have x7:=hP2.cell 7;have x8:=hP2.cell 8;have x9:=hP2.cell 9;have x10:=hP2.cell 10;have x11:=hP2.cell 11;have f0:=hP2.frozen 0;have f1:=hP2.frozen 1;have f2:=hP2.frozen 2;have f3:=hP2.frozen 3;have f4:=hP2.frozen 4;have f5:=hP2.frozen 5;have f6:=hP2.frozen 6;have f7:=hP2.frozen 7;have f8:=hP2.frozen 8;have f9:=hP2.frozen 9;have f10:=hP2.frozen 10;have f11:=hP2.frozen 11;(simp at x0 x1 x2 x3 x4 x5 x6 x7 x8 x9 x10 x11);(have hgT:g1≠T:=by omega);have HW2:=zH (zA hbb2 hP2);(obtain⟨s1,s2⟩:¬s≤0∧0≤s:=by omega);clear hb2 hbb2 hP2 q0 q1 q1_2 q1_3 q1_4 q1_5 HSD c3 c3' HSQ HST;(gi_wp2);refine wpIn_wide.2 ?_;(go_region);have hP3:Blk ((((((w2.setCell ⟨T,5,none⟩ (.int .i64 b.2.kind)).setCell ⟨T,6,none⟩ (.int .i64 b.2.mode)).setCell ⟨T,7,none⟩ (.int .u32 b.2.time)).setCell ⟨T,8,none⟩ (.int .i64 b.2.size)).setCell ⟨T,9,none⟩ (.int .u32 b.2.sum)).setCell ⟨T,11,none⟩ (.bool true)).drew T 164 (pCSP (none,some b.2)):=((((((HW2.out.2.put 5 (.int .i64 b.2.kind)).put 6 (.int .i64 b.2.mode)).put 7 (.int .u32 b.2.time)).put 8 (.int .i64 b.2.size)).put 9 (.int .u32 b.2.sum)).put 11 (.bool true)).drew;have hb3:Below wr.heap.size wr ((((((w2.setCell ⟨T,5,none⟩ (.int .i64 b.2.kind)).setCell ⟨T,6,none⟩ (.int .i64 b.2.mode)).setCell ⟨T,7,none⟩ (.int .u32 b.2.time)).setCell ⟨T,8,none⟩ (.int .i64 b.2.size)).setCell ⟨T,9,none⟩ (.int .u32 b.2.sum)).setCell ⟨T,11,none⟩ (.bool true)).drew:=((((((HW2.out.1.setCell (p:=⟨T,5,none⟩) (by dsimp only;omega) _).setCell (p:=⟨T,6,none⟩) (by dsimp only;omega) _).setCell (p:=⟨T,7,none⟩) (by dsimp only;omega) _).setCell (p:=⟨T,8,none⟩) (by dsimp only;omega) _).setCell (p:=⟨T,9,none⟩) (by dsimp only;omega) _).setCell (p:=⟨T,11,none⟩) (by dsimp only;omega) _).drew;generalize ((((((w2.setCell ⟨T,5,none⟩ (.int .i64 b.2.kind)).setCell ⟨T,6,none⟩ (.int .i64 b.2.mode)).setCell ⟨T,7,none⟩ (.int .u32 b.2.time)).setCell ⟨T,8,none⟩ (.int .i64 b.2.size)).setCell ⟨T,9,none⟩ (.int .u32 b.2.sum)).setCell ⟨T,11,none⟩ (.bool true)).drew=w3 at*;clear x0 x1 x2 x3 x4 x5 x6 x7 x8 x9 x10 x11 f0 f1 f2 f3 f4 f5 f6 f7 f8 f9 f10 f11;have x0:=hP3.cell 0;have x1:=hP3.cell 1;have x2:=hP3.cell 2;have x3:=hP3.cell 3;have x4:=hP3.cell 4;have x5:=hP3.cell 5;have x6:=hP3.cell 6;have x7:=hP3.cell 7;have x8:=hP3.cell 8;have x9:=hP3.cell 9;have x10:=hP3.cell 10;have x11:=hP3.cell 11;(simp [pCSP] at x0 x1 x2 x3 x4 x5 x6 x7 x8 x9 x10 x11);(have hpf:(pre++[(b.1,none,some b.2)])++joinL ordS x y'=joinL ordS xs ys:=by rw[←HR.out.1,HJX.out,zV];rfl);have hy:=HY.out pre (b.1,none,some b.2) w3 (HJ.out _ _ _ none HR.out.2.2.2.2.2.1 (grown_below hb3) (fun r h=>by cases h)) ⟨_,hpf⟩;have HZ:=zH (zA hpf hb3);clear hpf hb3 hP3;obtain⟨fn,tmps,assign,body,hyy,hRY⟩:=hy;(try dsimp only at hyy);simp only[pCSP,Option.getD,Option.isSome] at hyy hRY;(gi_wp2);refine hRY.mono ?_;rintro e W3 (⟨rfl,hJ3,hk3⟩ | ⟨rfl,hJx3⟩)
     ·(have hKw:∀g,JoinK b1 b2 b3 (.slice A1 xs.length d1) (.slice A2 ys.length d2) g→g<wr.heap.size:=fun g hg=>zQ (HB.out.2.2.2 g hg) HR.out.2.2.2.2.2.2.size);have hk23:=(KeepP.below HZ.out.2 hKw).trans hk3;have hLx:=HLY.out.drop eCSP_len 1 (by simp) T1 (fun h=>by rw[HNX.out.2.2.1 h,Nat.one_mul]);rw[List.drop_one,List.tail_cons,HNX.out.1] at hLx;have hZ2:JoinAtSP J b1 b2 b3 (.slice A1 xs.length d1) (.slice A2 ys.length d2) xs ys W (.slice Ax 0 dx) (.slice (some T1) (ny-1) (dy-1)) W3:=by
       refine⟨pre++[(b.1,none,some b.2)],x,y',HZ.out.1,?_,hLx.keptP hk23 (fun g hg=> .inr (.inr (.inr (.inr (HR.out.2.2.1 g (by rw[←hg];simp [Value.ownBlock,HNX.out.2.2.2])))))),?_,fun g hg=>HR.out.2.2.1 g (by rw[←hg];simp [Value.ownBlock,HNX.out.2.2.2]),HR.out.2.2.2.1,fun e he=>HR.out.2.2.2.2.1 e (List.mem_cons_of_mem _ he),hxl,?_,hJ3,HR.out.2.2.2.2.2.2.trans hk23⟩
       ·have:=HLX.out.keptP hk23 (fun g hg=> .inr (.inr (.inr (.inl (HR.out.2.1 g hg)))));rw[HNX.out.2.1] at this;exact this
       ·have:=HR.out.2.1;rw[HNX.out.2.1] at this;exact this
       ·simp only[zI] at hyl;omega
      have HZ2:=zH hZ2;clear hZ2 hJ3 hk3 hk23 hLx hKw;(gi_wp2);go_roundw
      case rel=>exact HZ2.out
      case measure=>simp [slLenJ];omega
     ·(gi_wp2);refine bodyPost_ret (results_none rfl _ _ _) rfl ?_;exact⟨⟨_,rfl⟩,.inr ⟨_,⟨_,HZ.out.1⟩,hJx3⟩⟩
    ·(have hx1:(0:Int)<nx:=by omega);(gi_wp2);refine⟨trivial,(callsIn_wide.2 HSD.out).mono ?_⟩;rintro e w2 ⟨rfl,hb2⟩;have hbb2:=HBA.out.1.trans (hb2.mono HBA.out.1.size);have hP2:=HBA.out.2.below hb2 HBA.out.2.lt;have e0:=(hbb2.cell (p:=⟨g1,o1,none⟩) hg1).trans q0;have e1:=(hbb2.cell (p:=⟨g1,o1+1,none⟩) hg1).trans q1;have e1_2:=(hbb2.cell (p:=⟨g1,o1+2,none⟩) hg1).trans q1_2;have e1_3:=(hbb2.cell (p:=⟨g1,o1+3,none⟩) hg1).trans q1_3;have e1_4:=(hbb2.cell (p:=⟨g1,o1+4,none⟩) hg1).trans q1_4;have e1_5:=(hbb2.cell (p:=⟨g1,o1+5,none⟩) hg1).trans q1_5;rw[hT] at hP2;have x0:=hP2.cell 0;have x1:=hP2.cell 1;have x2:=hP2.cell 2;have x3:=hP2.cell 3;have x4:=hP2.cell 4;have x5:=hP2.cell 5;have x6:=hP2.cell 6;have x7:=hP2.cell 7;have x8:=hP2.cell 8;have x9:=hP2.cell 9;have x10:=hP2.cell 10;have x11:=hP2.cell 11;have f0:=hP2.frozen 0;have f1:=hP2.frozen 1;have f2:=hP2.frozen 2;have f3:=hP2.frozen 3;have f4:=hP2.frozen 4;have f5:=hP2.frozen 5;have f6:=hP2.frozen 6;have f7:=hP2.frozen 7;have f8:=hP2.frozen 8;have f9:=hP2.frozen 9;have f10:=hP2.frozen 10;have f11:=hP2.frozen 11;(simp at x0 x1 x2 x3 x4 x5 x6 x7 x8 x9 x10 x11);(have hgT:g1≠T:=by omega);have HW2:=zH (zA hbb2 hP2);(obtain⟨s1,s2⟩:¬s≤0∧0≤s:=by omega);clear hb2 hbb2 hP2 q0 q1 q1_2 q1_3 q1_4 q1_5 HSD c3 c3' HSQ HST;(gi_wp2);refine wpIn_wide.2 ?_;(go_region);have hP3:Blk ((((((w2.setCell ⟨T,5,none⟩ (.int .i64 b.2.kind)).setCell ⟨T,6,none⟩ (.int .i64 b.2.mode)).setCell ⟨T,7,none⟩ (.int .u32 b.2.time)).setCell ⟨T,8,none⟩ (.int .i64 b.2.size)).setCell ⟨T,9,none⟩ (.int .u32 b.2.sum)).setCell ⟨T,11,none⟩ (.bool true)).drew T 164 (pCSP (none,some b.2)):=((((((HW2.out.2.put 5 (.int .i64 b.2.kind)).put 6 (.int .i64 b.2.mode)).put 7 (.int .u32 b.2.time)).put 8 (.int .i64 b.2.size)).put 9 (.int .u32 b.2.sum)).put 11 (.bool true)).drew;have hb3:Below wr.heap.size wr ((((((w2.setCell ⟨T,5,none⟩ (.int .i64 b.2.kind)).setCell ⟨T,6,none⟩ (.int .i64 b.2.mode)).setCell ⟨T,7,none⟩ (.int .u32 b.2.time)).setCell ⟨T,8,none⟩ (.int .i64 b.2.size)).setCell ⟨T,9,none⟩ (.int .u32 b.2.sum)).setCell ⟨T,11,none⟩ (.bool true)).drew:=((((((HW2.out.1.setCell (p:=⟨T,5,none⟩) (by dsimp only;omega) _).setCell (p:=⟨T,6,none⟩) (by dsimp only;omega) _).setCell (p:=⟨T,7,none⟩) (by dsimp only;omega) _).setCell (p:=⟨T,8,none⟩) (by dsimp only;omega) _).setCell (p:=⟨T,9,none⟩) (by dsimp only;omega) _).setCell (p:=⟨T,11,none⟩) (by dsimp only;omega) _).drew;generalize ((((((w2.setCell ⟨T,5,none⟩ (.int .i64 b.2.kind)).setCell ⟨T,6,none⟩ (.int .i64 b.2.mode)).setCell ⟨T,7,none⟩ (.int .u32 b.2.time)).setCell ⟨T,8,none⟩ (.int .i64 b.2.size)).setCell ⟨T,9,none⟩ (.int .u32 b.2.sum)).setCell ⟨T,11,none⟩ (.bool true)).drew=w3 at*;clear x0 x1 x2 x3 x4 x5 x6 x7 x8 x9 x10 x11 f0 f1 f2 f3 f4 f5 f6 f7 f8 f9 f10 f11;have x0:=hP3.cell 0;have x1:=hP3.cell 1;have x2:=hP3.cell 2;have x3:=hP3.cell 3;have x4:=hP3.cell 4;have x5:=hP3.cell 5;have x6:=hP3.cell 6;have x7:=hP3.cell 7;have x8:=hP3.cell 8;have x9:=hP3.cell 9;have x10:=hP3.cell 10;have x11:=hP3.cell 11;(simp [pCSP] at x0 x1 x2 x3 x4 x5 x6 x7 x8 x9 x10 x11);(have hpf:(pre++[(b.1,none,some b.2)])++joinL ordS x y'=joinL ordS xs ys:=by rw[←HR.out.1,HJX.out,zV];rfl);have hy:=HY.out pre (b.1,none,some b.2) w3 (HJ.out _ _ _ none HR.out.2.2.2.2.2.1 (grown_below hb3) (fun r h=>by cases h)) ⟨_,hpf⟩;have HZ:=zH (zA hpf hb3);clear hpf hb3 hP3;obtain⟨fn,tmps,assign,body,hyy,hRY⟩:=hy;(try dsimp only at hyy);simp only[pCSP,Option.getD,Option.isSome] at hyy hRY;(gi_wp2);refine hRY.mono ?_;rintro e W3 (⟨rfl,hJ3,hk3⟩ | ⟨rfl,hJx3⟩)
     ·(have hKw:∀g,JoinK b1 b2 b3 (.slice A1 xs.length d1) (.slice A2 ys.length d2) g→g<wr.heap.size:=fun g hg=>zQ (HB.out.2.2.2 g hg) HR.out.2.2.2.2.2.2.size);have hk23:=(KeepP.below HZ.out.2 hKw).trans hk3;have hLx:=HLY.out.drop eCSP_len 1 (by simp) T1 (fun h=>by rw[HNX.out.2.2.1 h,Nat.one_mul]);rw[List.drop_one,List.tail_cons,HNX.out.1] at hLx;have hZ2:JoinAtSP J b1 b2 b3 (.slice A1 xs.length d1) (.slice A2 ys.length d2) xs ys W (.slice Ax nx dx) (.slice (some T1) (ny-1) (dy-1)) W3:=by
       refine⟨pre++[(b.1,none,some b.2)],x,y',HZ.out.1,?_,hLx.keptP hk23 (fun g hg=> .inr (.inr (.inr (.inr (HR.out.2.2.1 g (by rw[←hg];simp [Value.ownBlock,HNX.out.2.2.2])))))),?_,fun g hg=>HR.out.2.2.1 g (by rw[←hg];simp [Value.ownBlock,HNX.out.2.2.2]),HR.out.2.2.2.1,fun e he=>HR.out.2.2.2.2.1 e (List.mem_cons_of_mem _ he),hxl,?_,hJ3,HR.out.2.2.2.2.2.2.trans hk23⟩
       ·have:=HLX.out.keptP hk23 (fun g hg=> .inr (.inr (.inr (.inl (HR.out.2.1 g hg)))));rw[HNX.out.2.1] at this;exact this
       ·have:=HR.out.2.1;rw[HNX.out.2.1] at this;exact this
       ·simp only[zI] at hyl;omega
      have HZ2:=zH hZ2;clear hZ2 hJ3 hk3 hk23 hLx hKw;(gi_wp2);go_roundw
      case rel=>exact HZ2.out
      case measure=>simp [slLenJ];omega
     ·(gi_wp2);refine bodyPost_ret (results_none rfl _ _ _) rfl ?_;exact⟨⟨_,rfl⟩,.inr ⟨_,⟨_,HZ.out.1⟩,hJx3⟩⟩
   ·have HJX:=zH hj;clear hj;obtain⟨s,hs'⟩:∃s,sideL ordS (a::x') (b::y')=s:=⟨_,rfl⟩;rw[hs'] at hs HSD;(have p1:(0:Int)<((a::x').length:Nat):=by simp only[zI];omega);(have p2:0<(a::x').length:=by simp only[zI];omega);(have p3:(0:Int)<((b::y').length:Nat):=by simp only[zI];omega);(have p4:0<(b::y').length:=by simp only[zI];omega);obtain⟨g1,o1,rfl,hg1,hcx⟩:=hsx (by simp);obtain⟨g2,o2,rfl,hg2,hcy⟩:=hsy (by simp);have q0:=hcx 0 (by simp) 0 (by decide);have q1:=hcx 0 (by simp) 1 (by decide);have q1_2:=hcx 0 (by simp) 2 (by decide);have q1_3:=hcx 0 (by simp) 3 (by decide);have q1_4:=hcx 0 (by simp) 4 (by decide);have q1_5:=hcx 0 (by simp) 5 (by decide);have q2:=hcy 0 (by simp) 0 (by decide);have q3:=hcy 0 (by simp) 1 (by decide);have q3_2:=hcy 0 (by simp) 2 (by decide);have q3_3:=hcy 0 (by simp) 3 (by decide);have q3_4:=hcy 0 (by simp) 4 (by decide);have q3_5:=hcy 0 (by simp) 5 (by decide);simp only[eCSP,qC,qB,List.getElem_cons_zero,Nat.zero_mul,Nat.add_zero,Nat.zero_add] at q0 q1 q1_2 q1_3 q1_4 q1_5 q2 q3 q3_2 q3_3 q3_4 q3_5;(obtain⟨n1,n2,n3,n4⟩:(1:Int)≤((a::x').length:Nat)∧1≤(a::x').length∧(1:Int)≤((b::y').length:Nat)∧1≤(b::y').length:=by omega);obtain⟨T1,hsl,hT1a,hT1b⟩:=slice_from (P:=Tryz.prog) 198 204 6 Tryz.underlying198 (by kernel_rfl) Tryz.sizeOf204 g1 o1 (a::x').length dx 1 1 rfl n2;obtain⟨T2,hsl2,hT2a,hT2b⟩:=slice_from (P:=Tryz.prog) 198 204 6 Tryz.underlying198 (by kernel_rfl) Tryz.sizeOf204 g2 o2 (b::y').length dy 1 1 rfl n4;unfold pCSP at HBA HSD c3';(dsimp only[Option.getD,Option.isSome] at HBA HSD c3');obtain⟨nx,hnx⟩:∃nx,(a::x').length=nx:=⟨_,rfl⟩;obtain⟨ny,hny⟩:∃ny,(b::y').length=ny:=⟨_,rfl⟩;rw[hnx] at HSD p1 p2 n1 n2 hdx;rw[hny] at HSD p3 p4 n3 n4 hdy;simp only[hnx] at hsl;simp only[hny] at hsl2;rw[hnx,hny];have HNX:=zH (zA hnx (zA hny (zA hT1a hT1b)));have HNY:=zH (zA hT2a hT2b);clear hnx hny hT1a hT1b hT2a hT2b hcx hcy hsx hsy h0;unfold maxLen at hmx hmy;have HMX:=zH (zA hmx hmy);clear hmx hmy;(gi_wp2);refine⟨trivial,(callsIn_wide.2 HSD.out).mono ?_⟩;rintro e w2 ⟨rfl,hb2⟩;have hbb2:=HBA.out.1.trans (hb2.mono HBA.out.1.size);have hP2:=HBA.out.2.below hb2 HBA.out.2.lt;have e0:=(hbb2.cell (p:=⟨g1,o1,none⟩) hg1).trans q0;have e1:=(hbb2.cell (p:=⟨g1,o1+1,none⟩) hg1).trans q1;have e1_2:=(hbb2.cell (p:=⟨g1,o1+2,none⟩) hg1).trans q1_2;have e1_3:=(hbb2.cell (p:=⟨g1,o1+3,none⟩) hg1).trans q1_3;have e1_4:=(hbb2.cell (p:=⟨g1,o1+4,none⟩) hg1).trans q1_4;have e1_5:=(hbb2.cell (p:=⟨g1,o1+5,none⟩) hg1).trans q1_5;rw[hT] at hP2;have x0:=hP2.cell 0;have x1:=hP2.cell 1;have x2:=hP2.cell 2;have x3:=hP2.cell 3;have x4:=hP2.cell 4;have x5:=hP2.cell 5;have x6:=hP2.cell 6;have x7:=hP2.cell 7;have x8:=hP2.cell 8;have x9:=hP2.cell 9;have x10:=hP2.cell 10;have x11:=hP2.cell 11;have f0:=hP2.frozen 0;have f1:=hP2.frozen 1;have f2:=hP2.frozen 2;have f3:=hP2.frozen 3;have f4:=hP2.frozen 4;have f5:=hP2.frozen 5;have f6:=hP2.frozen 6;have f7:=hP2.frozen 7;have f8:=hP2.frozen 8;have f9:=hP2.frozen 9;have f10:=hP2.frozen 10;have f11:=hP2.frozen 11;(simp at x0 x1 x2 x3 x4 x5 x6 x7 x8 x9 x10 x11);(have hgT:g1≠T:=by omega);have HW2:=zH (zA hbb2 hP2);(obtain⟨s1,s2⟩:s≤0∧0≤s:=by omega);clear hb2 hbb2 hP2 q0 q1 q1_2 q1_3 q1_4 q1_5 HSD c3 c3' HSQ HST;(gi_wp2);refine wpIn_wide.2 ?_;(go_region);have hP3:Blk ((((((w2.setCell ⟨T,0,none⟩ (.int .i64 a.2.kind)).setCell ⟨T,1,none⟩ (.int .i64 a.2.mode)).setCell ⟨T,2,none⟩ (.int .u32 a.2.time)).setCell ⟨T,3,none⟩ (.int .i64 a.2.size)).setCell ⟨T,4,none⟩ (.int .u32 a.2.sum)).setCell ⟨T,10,none⟩ (.bool true)).drew T 164 (pCSP (some a.2,none)):=((((((HW2.out.2.put 0 (.int .i64 a.2.kind)).put 1 (.int .i64 a.2.mode)).put 2 (.int .u32 a.2.time)).put 3 (.int .i64 a.2.size)).put 4 (.int .u32 a.2.sum)).put 10 (.bool true)).drew;have hb3:Below wr.heap.size wr ((((((w2.setCell ⟨T,0,none⟩ (.int .i64 a.2.kind)).setCell ⟨T,1,none⟩ (.int .i64 a.2.mode)).setCell ⟨T,2,none⟩ (.int .u32 a.2.time)).setCell ⟨T,3,none⟩ (.int .i64 a.2.size)).setCell ⟨T,4,none⟩ (.int .u32 a.2.sum)).setCell ⟨T,10,none⟩ (.bool true)).drew:=((((((HW2.out.1.setCell (p:=⟨T,0,none⟩) (by dsimp only;omega) _).setCell (p:=⟨T,1,none⟩) (by dsimp only;omega) _).setCell (p:=⟨T,2,none⟩) (by dsimp only;omega) _).setCell (p:=⟨T,3,none⟩) (by dsimp only;omega) _).setCell (p:=⟨T,4,none⟩) (by dsimp only;omega) _).setCell (p:=⟨T,10,none⟩) (by dsimp only;omega) _).drew;generalize ((((((w2.setCell ⟨T,0,none⟩ (.int .i64 a.2.kind)).setCell ⟨T,1,none⟩ (.int .i64 a.2.mode)).setCell ⟨T,2,none⟩ (.int .u32 a.2.time)).setCell ⟨T,3,none⟩ (.int .i64 a.2.size)).setCell ⟨T,4,none⟩ (.int .u32 a.2.sum)).setCell ⟨T,10,none⟩ (.bool true)).drew=w3 at*;clear x0 x1 x2 x3 x4 x5 x6 x7 x8 x9 x10 x11 f0 f1 f2 f3 f4 f5 f6 f7 f8 f9 f10 f11 e0 e1 e1_2 e1_3 e1_4 e1_5;have x0:=hP3.cell 0;have x1:=hP3.cell 1;have x2:=hP3.cell 2;have x3:=hP3.cell 3;have x4:=hP3.cell 4;have x5:=hP3.cell 5;have x6:=hP3.cell 6;have x7:=hP3.cell 7;have x8:=hP3.cell 8;have x9:=hP3.cell 9;have x10:=hP3.cell 10;have x11:=hP3.cell 11;have f0:=hP3.frozen 0;have f1:=hP3.frozen 1;have f2:=hP3.frozen 2;have f3:=hP3.frozen 3;have f4:=hP3.frozen 4;have f5:=hP3.frozen 5;have f6:=hP3.frozen 6;have f7:=hP3.frozen 7;have f8:=hP3.frozen 8;have f9:=hP3.frozen 9;have f10:=hP3.frozen 10;have f11:=hP3.frozen 11;(simp [pCSP] at x0 x1 x2 x3 x4 x5 x6 x7 x8 x9 x10 x11);have e0:=(hb3.cell (p:=⟨g2,o2,none⟩) hg2).trans q2;have e1:=(hb3.cell (p:=⟨g2,o2+1,none⟩) hg2).trans q3;have e1_2:=(hb3.cell (p:=⟨g2,o2+2,none⟩) hg2).trans q3_2;have e1_3:=(hb3.cell (p:=⟨g2,o2+3,none⟩) hg2).trans q3_3;have e1_4:=(hb3.cell (p:=⟨g2,o2+4,none⟩) hg2).trans q3_4;have e1_5:=(hb3.cell (p:=⟨g2,o2+5,none⟩) hg2).trans q3_5;(have hgT2:g2≠T:=by omega);have HW3:=zH (zA hb3 hP3);clear hb3 hP3 q2 q3 q3_2 q3_3 q3_4 q3_5;(gi_wp2);refine wpIn_wide.2 ?_;(go_region);have hP4:Blk ((((((w3.setCell ⟨T,5,none⟩ (.int .i64 b.2.kind)).setCell ⟨T,6,none⟩ (.int .i64 b.2.mode)).setCell ⟨T,7,none⟩ (.int .u32 b.2.time)).setCell ⟨T,8,none⟩ (.int .i64 b.2.size)).setCell ⟨T,9,none⟩ (.int .u32 b.2.sum)).setCell ⟨T,11,none⟩ (.bool true)).drew T 164 (pCSP (some a.2,some b.2)):=((((((HW3.out.2.put 5 (.int .i64 b.2.kind)).put 6 (.int .i64 b.2.mode)).put 7 (.int .u32 b.2.time)).put 8 (.int .i64 b.2.size)).put 9 (.int .u32 b.2.sum)).put 11 (.bool true)).drew;have hb4:Below wr.heap.size wr ((((((w3.setCell ⟨T,5,none⟩ (.int .i64 b.2.kind)).setCell ⟨T,6,none⟩ (.int .i64 b.2.mode)).setCell ⟨T,7,none⟩ (.int .u32 b.2.time)).setCell ⟨T,8,none⟩ (.int .i64 b.2.size)).setCell ⟨T,9,none⟩ (.int .u32 b.2.sum)).setCell ⟨T,11,none⟩ (.bool true)).drew:=((((((HW3.out.1.setCell (p:=⟨T,5,none⟩) (by dsimp only;omega) _).setCell (p:=⟨T,6,none⟩) (by dsimp only;omega) _).setCell (p:=⟨T,7,none⟩) (by dsimp only;omega) _).setCell (p:=⟨T,8,none⟩) (by dsimp only;omega) _).setCell (p:=⟨T,9,none⟩) (by dsimp only;omega) _).setCell (p:=⟨T,11,none⟩) (by dsimp only;omega) _).drew;generalize ((((((w3.setCell ⟨T,5,none⟩ (.int .i64 b.2.kind)).setCell ⟨T,6,none⟩ (.int .i64 b.2.mode)).setCell ⟨T,7,none⟩ (.int .u32 b.2.time)).setCell ⟨T,8,none⟩ (.int .i64 b.2.size)).setCell ⟨T,9,none⟩ (.int .u32 b.2.sum)).setCell ⟨T,11,none⟩ (.bool true)).drew=w4 at*;clear x0 x1 x2 x3 x4 x5 x6 x7 x8 x9 x10 x11 f0 f1 f2 f3 f4 f5 f6 f7 f8 f9 f10 f11 e0 e1 e1_2 e1_3 e1_4 e1_5;have x0:=hP4.cell 0;have x1:=hP4.cell 1;have x2:=hP4.cell 2;have x3:=hP4.cell 3;have x4:=hP4.cell 4;have x5:=hP4.cell 5;have x6:=hP4.cell 6;have x7:=hP4.cell 7;have x8:=hP4.cell 8;have x9:=hP4.cell 9;have x10:=hP4.cell 10;have x11:=hP4.cell 11;(simp [pCSP] at x0 x1 x2 x3 x4 x5 x6 x7 x8 x9 x10 x11);(have hpf:(pre++[(b.1,some a.2,some b.2)])++joinL ordS x' y'=joinL ordS xs ys:=by rw[←HR.out.1,HJX.out,zV];rfl);have hy:=HY.out pre (b.1,some a.2,some b.2) w4 (HJ.out _ _ _ none HR.out.2.2.2.2.2.1 (grown_below hb4) (fun r h=>by cases h)) ⟨_,hpf⟩;have HZ:=zH (zA hpf hb4);clear hpf hb4 hP4;obtain⟨fn,tmps,assign,body,hyy,hRY⟩:=hy;(try dsimp only at hyy);simp only[pCSP,Option.getD,Option.isSome] at hyy hRY;(gi_wp2);refine hRY.mono ?_;rintro e W3 (⟨rfl,hJ3,hk3⟩ | ⟨rfl,hJx3⟩)
    ·(have hKw:∀g,JoinK b1 b2 b3 (.slice A1 xs.length d1) (.slice A2 ys.length d2) g→g<wr.heap.size:=fun g hg=>zQ (HB.out.2.2.2 g hg) HR.out.2.2.2.2.2.2.size);have hk23:=(KeepP.below HZ.out.2 hKw).trans hk3;have hLx:=HLX.out.drop eCSP_len 1 (by simp) T1 (fun h=>by rw[HNX.out.2.2.1 h,Nat.one_mul]);rw[List.drop_one,List.tail_cons,HNX.out.1] at hLx;have hLy:=HLY.out.drop eCSP_len 1 (by simp) T2 (fun h=>by rw[HNY.out.1 h,Nat.one_mul]);rw[List.drop_one,List.tail_cons,HNX.out.2.1] at hLy;have hZ2:JoinAtSP J b1 b2 b3 (.slice A1 xs.length d1) (.slice A2 ys.length d2) xs ys W (.slice (some T1) (nx-1) (dx-1)) (.slice (some T2) (ny-1) (dy-1)) W3:=by
      refine⟨pre++[(b.1,some a.2,some b.2)],x',y',HZ.out.1,hLx.keptP hk23 (fun g hg=> .inr (.inr (.inr (.inl (HR.out.2.1 g (by rw[←hg];simp [Value.ownBlock,HNX.out.2.2.2])))))),hLy.keptP hk23 (fun g hg=> .inr (.inr (.inr (.inr (HR.out.2.2.1 g (by rw[←hg];simp [Value.ownBlock,HNY.out.2])))))),fun g hg=>HR.out.2.1 g (by rw[←hg];simp [Value.ownBlock,HNX.out.2.2.2]),fun g hg=>HR.out.2.2.1 g (by rw[←hg];simp [Value.ownBlock,HNY.out.2]),fun e he=>HR.out.2.2.2.1 e (List.mem_cons_of_mem _ he),fun e he=>HR.out.2.2.2.2.1 e (List.mem_cons_of_mem _ he),?_,?_,hJ3,HR.out.2.2.2.2.2.2.trans hk23⟩
      ·simp only[zI] at hxl;omega
      ·simp only[zI] at hyl;omega
     have HZ2:=zH hZ2;clear hZ2 hJ3 hk3 hk23 hLx hLy hKw;(gi_wp2);go_roundw
     case rel=>exact HZ2.out
     case measure=>simp [slLenJ];omega
    ·(gi_wp2);refine bodyPost_ret (results_none rfl _ _ _) rfl ?_;exact⟨⟨_,rfl⟩,.inr ⟨_,⟨_,HZ.out.1⟩,hJx3⟩⟩
  ·obtain rfl:x=[]:=List.length_eq_zero_iff.1 (by omega);obtain rfl:y=[]:=List.length_eq_zero_iff.1 (by omega);have hfin:pre=joinL ordS xs ys:=by have:=HR.out.1;rwa [joinL_nil,List.append_nil] at this
   have HF:=zH hfin;clear hfin;simp only[List.length_nil];(gi_wp2);(go_end0);exact⟨⟨_,rfl⟩,.inl ⟨_,rfl,by rw[←HF.out];exact HR.out.2.2.2.2.2.1⟩⟩
end Go.Proofs.YtnpehjgnplaabaaGreatDoor
namespace Go.Proofs.YtnpehjgnplaabaaGreatDoor
open Go Go.RowKit
open Sw
def RowIn (W:World) (te:TypeId) (v:Value):Prop:=∀g,v.ownBlock=some g→∃cs,Blk W g te cs
theorem RowIn.of_own {w:World}{base:Nat}{e:TypeId}{size n:Nat}{v:Value}{xs:List Value}(h:w.ownsRow base e size v n xs):RowIn w e v:=by
 intro g hg;rcases h.2 with ⟨rfl,_⟩ | ⟨g',cap,cur,rfl,_,hh,_⟩
 ·cases hg
 ·cases hg
  exact⟨_,hh⟩
theorem RowIn.below {W W':World}{te:TypeId}{v:Value}(h:RowIn W te v)(hb:Below W.heap.size W W'):RowIn W' te v:=fun g hg=>by
 obtain⟨cs,hc⟩:=h g hg;exact⟨cs,hc.below hb hc.lt⟩
theorem RowIn.lt {W:World}{te:TypeId}{v:Value}(h:RowIn W te v):∀g,v.ownBlock=some g→g<W.heap.size:=fun g hg=>by
 obtain⟨cs,hc⟩:=h g hg;exact hc.lt
end Go.Proofs.YtnpehjgnplaabaaGreatDoor
namespace Go.Proofs.YtnpehjgnplaabaaGreatDoor
open Go Go.RowKit Go.Shelf
open Sw
def JoinOwnSP (xs ys:List (ByteArray×Pr)) (w:World) (e:Ending) (w':World):Prop:=
 ∃b1 b2 b3 v1 v2,e= .returned (.func (.func 142) #[] #[.pointer (some ⟨b1,0,none⟩),.pointer (some ⟨b2,0,none⟩),.pointer (some ⟨b3,0,none⟩)])∧
  Blk w' b1 198 #[v1]∧Blk w' b2 198 #[v2]∧Blk w' b3 108 #[ordFSP]∧Lies w' 204 6 eCSP v1 xs∧Lies w' 204 6 eCSP v2 ys∧
  RowIn w' 204 v1∧RowIn w' 204 v2∧Below w.heap.size w w'
theorem joinOwnSP_any (w:World)(ba bb:Nat)(xs ys:List (ByteArray×Pr))(h1:SMapSP w ba xs)(h2:SMapSP w bb ys):
  Calls Tryz.prog 101 #[.pointer (some ⟨ba,0,none⟩),.pointer (some ⟨bb,0,none⟩)] w (JoinOwnSP xs ys w):=by
 have hnf:∀W,(binOp .eql 108 ordFSP Value.nilFunc).run Tryz.prog W= .ok (.bool false) W:=fun W=>by kernel_rfl
 have HR1:=zH (srtRowsSP_any w ba xs h1);go_enter Tryz.func101,Tryz.ntmps101
 go_wp2_with fail
 refine HR1.out.mono ?_;rintro e w1 ⟨v1,rfl,ho1,m1,hw1⟩;have hb1:Below w.heap.size w w1:=by rw[hw1];exact below_drewN (zR _ _) m1
 have hL1:=(Lies.of_own ho1 eCSP_len (by decide)).below hb1;have hlt1:=(RowIn.of_own ho1).below hb1;obtain⟨A1,c1,rfl,_,_,_⟩:=SlV_of_any ho1;clear hw1 m1 ho1;have hb2:Below w.heap.size w ((w1.alloc (.cells #[.slice A1 xs.length c1] 198)).alloc (.cells #[ordFSP] 108)):=(hb1.alloc hb1.size _).alloc (zT hb1.size (by simp)) _;have hbb:Below w1.heap.size w1 ((w1.alloc (.cells #[.slice A1 xs.length c1] 198)).alloc (.cells #[ordFSP] 108)):=((zR _ _).alloc (zN _) _).alloc (by simp) _;have hB1:=blk_fst w1 #[.slice A1 xs.length c1] 198 (.cells #[ordFSP] 108);have hB3:=blk_snd w1 (.cells #[.slice A1 xs.length c1] 198) #[ordFSP] 108;have HR2:=zH (srtRowsSP_any _ bb ys (h2.below hb2));have H1:=zH (zA hB1 (zA hB3 (zA (hL1.below hbb) (zA (hlt1.below hbb) hb2))));clear hB1 hB3 hL1 hlt1 hb2 hbb hb1 HR1 h1 h2;go_wp2_with fail
 refine HR2.out.mono ?_;rintro e w2 ⟨v2,rfl,ho2,m2,hw2⟩;obtain⟨w3,hw3⟩:∃w3,(w1.alloc (.cells #[.slice A1 xs.length c1] 198)).alloc (.cells #[ordFSP] 108)=w3:=⟨_,rfl⟩;rw[hw3] at H1 ho2 hw2;obtain⟨T,hT⟩:∃T,w1.heap.size=T:=⟨_,rfl⟩;rw[hT] at H1;have hz3:w3.heap.size=T+1+1:=by rw[←hw3];simp [hT]
 have hb2:Below w3.heap.size w3 w2:=by rw[hw2];exact below_drewN (zR _ _) m2
 have hL2:=(Lies.of_own ho2 eCSP_len (by decide)).below hb2;have hlt2:=(RowIn.of_own ho2).below hb2;obtain⟨A2,c2,rfl,_,_,_⟩:=SlV_of_any ho2;have hB1:=H1.out.1.below hb2 H1.out.1.lt;have hB3:=H1.out.2.1.below hb2 H1.out.2.1.lt;have hL1:=H1.out.2.2.1.below hb2;have hlt1:=H1.out.2.2.2.1.below hb2;have hbw:=H1.out.2.2.2.2.trans (hb2.mono H1.out.2.2.2.2.size);clear hw2 m2 ho2 hw3;have hba:=(zR w2.heap.size w2).alloc (zN _) (.cells #[.slice A2 ys.length c2] 198);have hpst:JoinOwnSP xs ys w (.returned (.func (.func 142) #[] #[.pointer (some ⟨T,0,none⟩),.pointer (some ⟨w2.heap.size,0,none⟩),.pointer (some ⟨T+1,0,none⟩)])) (w2.alloc (.cells #[.slice A2 ys.length c2] 198)):=
  ⟨T,w2.heap.size,T+1,.slice A1 xs.length c1,.slice A2 ys.length c2,rfl,hB1.below hba hB1.lt,Blk.new _ _ _,hB3.below hba hB3.lt,hL1.below hba,hL2.below hba,hlt1.below hba,hlt2.below hba,hbw.trans (hba.mono hbw.size)⟩
 have c3:=(hB3.below hba hB3.lt).cell 0;simp at c3
 have HF:=zH hpst;clear hpst hB1 hB3 hL1 hL2 hlt1 hlt2 hbw hba hb2 HR2 H1;go_wp2_with fail
 go_ret;exact HF.out
end Go.Proofs.YtnpehjgnplaabaaGreatDoor
namespace Sw
end Sw
namespace Go.Proofs.YtnpehjgnplaabaaGreatDoor
open Go Go.RowKit
open Sw
end Go.Proofs.YtnpehjgnplaabaaGreatDoor
namespace Sw
open Go
open Go.Proofs.YtnpehjgnplaabaaGreatDoor (partsS)
section
variable {κ ν:Type} {c:κ→κ→Int}
theorem get_of_mem (hO:Ord3 c){k:κ}{v:ν}:∀{l:List (κ×ν)},Up c l→(k,v)∈l→getN c k l=some v∧inN c k l=true
 | [],_,h=>by cases h
 | e::l,hu,h=>by
  rcases List.mem_cons.1 h with rfl | h
  ·have h0:c ((k,v):κ×ν).1 k=0:=hO.self k;unfold getN inN;rw[if_neg (by omega),if_pos h0,if_neg (by omega),zE h0];exact⟨rfl,rfl⟩
  ·have h1:=hu.head _ h;unfold getN inN;rw[if_pos h1,if_pos h1];exact get_of_mem hO hu.tail h
theorem get_of_not (hO:Ord3 c){k:κ}:∀{l:List (κ×ν)},(∀e∈l,e.1≠k)→getN c k l=none∧inN c k l=false
 | [],_=>⟨rfl,rfl⟩
 | e::l,h=>by
  have h1:=h e (List.mem_cons_self ..);have h2:¬c e.1 k=0:=fun e'=>h1 (hO.zero _ _ e')
  unfold getN inN;by_cases h3:c e.1 k<0
  ·rw[if_pos h3,if_pos h3];exact get_of_not hO (fun e he=>h e (List.mem_cons_of_mem _ he))
  ·rw[if_neg h3,if_neg h2,if_neg h3,zD h2];exact⟨rfl,rfl⟩
end
end Sw
namespace Sw
open Go
theorem getN_skipP {a:MkE}{x:List MkE}{p:ByteArray}(hu:Up ordS (a::x))(hp:¬a.1=p):getN ordS p (a::x)=getN ordS p x:=by
 have hux:Up ordS x:=hu.tail;rcases Classical.em (∃e∈x,e.1=p) with ⟨⟨q,v⟩,he,rfl⟩ | hn
 ·rw[(get_of_mem ordS_ord hux he).1,(get_of_mem ordS_ord hu (List.mem_cons_of_mem _ he)).1]
 ·rw[(get_of_not ordS_ord (fun e he h=>hn ⟨e,he,h⟩)).1,(get_of_not ordS_ord (fun e he h=>by
   rcases List.mem_cons.1 he with rfl | he
   ·exact hp h
   ·exact hn ⟨e,he,h⟩)).1]
theorem up_ltP {a:MkE}{x:List MkE}(hu:Up ordS (a::x)){e:MkE}(he:e∈x):ordS a.1 e.1<0:=(List.pairwise_cons.1 hu).1 e he
theorem lt_neP {p q:ByteArray}(h:ordS p q<0):¬p=q:=fun e=>by subst e;rw[ordS_refl] at h;omega
theorem lt_trans3P {p q s:ByteArray}(h1:ordS p q<0)(h2:ordS q s<0):ordS p s<0:=ordS_ord.trans _ _ _ h1 h2
theorem up_allP {b:MkE}{y:List MkE}(hu:Up ordS (b::y)){p:ByteArray}(h:ordS p b.1<0):∀e∈b::y,ordS p e.1<0:=fun e he=>by
 rcases List.mem_cons.1 he with rfl | he
 ·exact h
 ·exact lt_trans3P h (up_ltP hu he)
abbrev JnEP:=ByteArray×Option Pr×Option Pr
def JnOkP (x y:List MkE) (J:List JnEP):Prop:=(∀t∈J,t.2.1=getN ordS t.1 x∧t.2.2=getN ordS t.1 y)∧Rise (J.map Prod.fst)∧∀p,p∈J.map Prod.fst↔p∈x.map Prod.fst∨p∈y.map Prod.fst
theorem mem_keysP {x:List MkE}{p:ByteArray}:p∈x.map Prod.fst↔∃e∈x,e.1=p:=List.mem_map
theorem join_okP:∀(N:Nat) (x y:List MkE),x.length+y.length≤N→Up ordS x→Up ordS y→JnOkP x y (joinL ordS x y)
 | N,x,y,hN,hx,hy=>by
  by_cases h0:0<x.length+y.length
  ·cases N with
   | zero=>omega
   | succ N=>
    rcases join_cases (c:=ordS) x y h0 with ⟨hs,a,x',rfl,e⟩ | ⟨hs,b,y',rfl,e⟩ | ⟨hs,a,x',b,y',rfl,rfl,e⟩
    ·have hlt:∀e∈y,ordS a.1 e.1<0:=by
      cases y with
      | nil=>intro e he;cases he
      | cons b y=>exact up_allP hy hs
     obtain⟨i1,i2,i3⟩:=join_okP N x' y (by simp only[zI] at hN;omega) hx.tail hy;have hkey:∀p∈(joinL ordS x' y).map Prod.fst,ordS a.1 p<0:=fun p hp=>by
      rcases (i3 p).1 hp with h | h
      ·obtain⟨e,he,rfl⟩:=mem_keysP.1 h;exact up_ltP hx he
      ·obtain⟨e,he,rfl⟩:=mem_keysP.1 h;exact hlt e he
     rw[e];refine⟨fun t ht=>?_,?_,fun p=>?_⟩
     ·rcases List.mem_cons.1 ht with rfl | ht
      ·exact⟨(get_of_mem ordS_ord hx (List.mem_cons_self ..)).1.symm,(get_of_not ordS_ord (fun e he h=>lt_neP (hlt e he) h.symm)).1.symm⟩
      ·have h1:=i1 t ht;have h2:=hkey t.1 (List.mem_map.2 ⟨t,ht,rfl⟩);exact⟨h1.1.trans (getN_skipP hx (lt_neP h2)).symm,h1.2⟩
     ·exact List.pairwise_cons.2 ⟨hkey,i2⟩
     ·rw[List.map_cons,List.map_cons,List.mem_cons,List.mem_cons,i3 p,or_assoc]
    ·have hlt:∀e∈x,ordS b.1 e.1<0:=by
      cases x with
      | nil=>intro e he;cases he
      | cons a x=>
       (have:ordS b.1 a.1<0:=by have h1:0<ordS a.1 b.1:=hs;have:=ordS_neg a.1 b.1;omega);exact up_allP hx this
     obtain⟨i1,i2,i3⟩:=join_okP N x y' (by simp only[zI] at hN;omega) hx hy.tail;have hkey:∀p∈(joinL ordS x y').map Prod.fst,ordS b.1 p<0:=fun p hp=>by
      rcases (i3 p).1 hp with h | h
      ·obtain⟨e,he,rfl⟩:=mem_keysP.1 h;exact hlt e he
      ·obtain⟨e,he,rfl⟩:=mem_keysP.1 h;exact up_ltP hy he
     rw[e];refine⟨fun t ht=>?_,?_,fun p=>?_⟩
     ·rcases List.mem_cons.1 ht with rfl | ht
      ·exact⟨(get_of_not ordS_ord (fun e he h=>lt_neP (hlt e he) h.symm)).1.symm,(get_of_mem ordS_ord hy (List.mem_cons_self ..)).1.symm⟩
      ·have h1:=i1 t ht;have h2:=hkey t.1 (List.mem_map.2 ⟨t,ht,rfl⟩);exact⟨h1.1,h1.2.trans (getN_skipP hy (lt_neP h2)).symm⟩
     ·exact List.pairwise_cons.2 ⟨hkey,i2⟩
     ·rw[List.map_cons,List.map_cons,List.mem_cons,List.mem_cons,i3 p];exact or_left_comm
    ·have hab:a.1=b.1:=ordS_zero hs;obtain⟨i1,i2,i3⟩:=join_okP N x' y' (by simp only[zI] at hN;omega) hx.tail hy.tail;have hkey:∀p∈(joinL ordS x' y').map Prod.fst,ordS b.1 p<0:=fun p hp=>by
      rcases (i3 p).1 hp with h | h
      ·obtain⟨e,he,rfl⟩:=mem_keysP.1 h;rw[←hab];exact up_ltP hx he
      ·obtain⟨e,he,rfl⟩:=mem_keysP.1 h;exact up_ltP hy he
     rw[e];refine⟨fun t ht=>?_,?_,fun p=>?_⟩
     ·rcases List.mem_cons.1 ht with rfl | ht
      ·refine⟨?_,(get_of_mem ordS_ord hy (List.mem_cons_self ..)).1.symm⟩;(show some a.2=getN ordS b.1 (a::x'));rw[←hab];exact(get_of_mem ordS_ord hx (List.mem_cons_self ..)).1.symm
      ·have h1:=i1 t ht;have h2:=hkey t.1 (List.mem_map.2 ⟨t,ht,rfl⟩);exact⟨h1.1.trans (getN_skipP hx (by rw[hab];exact lt_neP h2)).symm,h1.2.trans (getN_skipP hy (lt_neP h2)).symm⟩
     ·exact List.pairwise_cons.2 ⟨hkey,i2⟩
     ·rw[List.map_cons,List.map_cons,List.map_cons,List.mem_cons,List.mem_cons,List.mem_cons,i3 p,hab];constructor
      ·rintro (h | h | h)
       ·exact .inl (.inl h)
       ·exact .inl (.inr h)
       ·exact .inr (.inr h)
      ·rintro ((h | h) | (h | h))
       ·exact .inl h
       ·exact .inr (.inl h)
       ·exact .inl h
       ·exact .inr (.inr h)
  ·obtain rfl:x=[]:=List.length_eq_zero_iff.1 (by omega);obtain rfl:y=[]:=List.length_eq_zero_iff.1 (by omega);rw[joinL_nil];exact⟨fun t ht=>(by cases ht),List.Pairwise.nil,fun p=>by simp⟩
theorem join_pathsP {xs ys:List MkE}(hx:Up ordS xs)(hy:Up ordS ys):joinL ordS xs ys=(pathsS (xs.map Prod.fst++ys.map Prod.fst)).map fun p=>(p,getN ordS p xs,getN ordS p ys):=by
 obtain⟨h1,h2,h3⟩:=join_okP _ xs ys (zN _) hx hy;have hk:(joinL ordS xs ys).map Prod.fst=pathsS (xs.map Prod.fst++ys.map Prod.fst):=rise_ext h2 (pathsS_rise _) (fun q=>by rw[h3 q,pathsS_mem,List.mem_append]);rw[←hk,List.map_map]
 conv=>lhs;rw[←List.map_id (joinL ordS xs ys)]
 refine List.map_congr_left fun t ht=>?_
 obtain⟨p,a,b⟩:=t;have:=h1 _ ht;simp only at this;simp only[id,Function.comp,←this.1,←this.2]
end Sw
