/- Several texts of ours, joined. -/
import Derived.Test.YtnpehjgnplaabaaGreatDoorJoin1
import Derived.Test.YtnpehjgnplaabaaGreatDoorJoin3
import Derived.Test.YtnpehjgnplaabaaGreatDoorJoin4
set_option linter.unusedVariables false
set_option linter.unusedSimpArgs false
set_option maxRecDepth 100000
set_option maxHeartbeats 64000000
namespace Sw
def poly:Nat:=3988292384
def stp (x:Nat):Nat:=if x % 2=1 then(x/2)^^^poly else x/2
def stpN:Nat→Nat→Nat
 | 0,x=>x
 | k+1,x=>stp (stpN k x)
@[irreducible] def byteS (s b:Nat):Nat:=stpN 8 (s^^^b)
theorem byteS_def (s b:Nat):byteS s b=stpN 8 (s^^^b):=by unfold byteS;rfl
def feedS:Nat→List UInt8→Nat
 | s,[]=>s
 | s,b::l=>feedS (byteS s b.toNat) l
def ofS (l:List UInt8):Nat:=4294967295-feedS 4294967295 l
theorem poly_lt:poly<2^32:=by decide
theorem stp_lt (x:Nat)(h:x<2^32):stp x<2^32:=by
 unfold stp;split
 ·exact Nat.xor_lt_two_pow (by omega) poly_lt
 ·omega
theorem stpN_lt (k x:Nat)(h:x<2^32):stpN k x<2^32:=by
 induction k with
 | zero=>exact h
 | succ k ih=>exact stp_lt _ ih
theorem byteS_lt (s b:Nat)(hs:s<2^32)(hb:b<2^32):byteS s b<2^32:=by rw[byteS_def];exact stpN_lt _ _ (Nat.xor_lt_two_pow hs hb)
theorem feedS_lt (l:List UInt8):∀(s:Nat),s<2^32→feedS s l<2^32:=by
 induction l with
 | nil=>intro s h;exact h
 | cons b l ih=>
  intro s h;have h1:=byteS_lt s b.toNat h (Nat.lt_trans b.toNat_lt (by decide));have h2:=ih _ h1;rw[feedS];exact h2
theorem feedS_append (s:Nat)(l m:List UInt8):feedS s (l++m)=feedS (feedS s l) m:=by
 induction l generalizing s with
 | nil=>rfl
 | cons b l ih=>rw[List.cons_append,feedS,ih,feedS]
theorem feedS_cons (s:Nat)(b:UInt8)(m:List UInt8):feedS s (b::m)=feedS (byteS s b.toNat) m:=by rw[feedS]
theorem xor_mod2 (a b:Nat):(a^^^b) % 2=(a % 2)^^^(b % 2):=by
 have h:=Nat.xor_mod_two_pow (a:=a) (b:=b) (n:=1);rw[Nat.pow_one] at h;exact h
theorem xor_div2 (a b:Nat):(a^^^b)/2=(a/2)^^^(b/2):=by
 have:=Nat.shiftRight_xor_distrib (i:=1) (a:=a) (b:=b)
 simpa [Nat.shiftRight_eq_div_pow] using this
theorem stp_xor (a b:Nat):stp (a^^^b)=stp a^^^stp b:=by
 unfold stp;rw[xor_mod2,xor_div2];obtain⟨ha,hb⟩:(a % 2=0∨a % 2=1)∧(b % 2=0∨b % 2=1):=by omega
 rcases ha with ha | ha<;>rcases hb with hb | hb<;>rw[ha,hb]<;>simp
 ·rw[Nat.xor_assoc]
 ·rw[Nat.xor_assoc,Nat.xor_assoc,Nat.xor_comm poly (b/2)]
 ·rw[Nat.xor_assoc,←Nat.xor_assoc poly,Nat.xor_comm poly (b/2),Nat.xor_assoc,Nat.xor_self,Nat.xor_zero]
theorem stpN_xor (k a b:Nat):stpN k (a^^^b)=stpN k a^^^stpN k b:=by
 induction k with
 | zero=>rfl
 | succ k ih=>rw[stpN,stpN,stpN,ih,stp_xor]
theorem stpN_shift (k h:Nat):stpN k (2^k*h)=h:=by
 induction k generalizing h with
 | zero=>simp [stpN]
 | succ k ih=>
  have e:2^(k+1)*h=2^k*(2*h):=by rw[Nat.pow_succ,Nat.mul_assoc]
  rw[stpN,e,ih (2*h)];unfold stp;rw[if_neg (by omega)];omega
theorem xor_hi_lo (x:Nat):(2^8*(x/256))^^^(x % 256)=x:=by
 have h:=Nat.two_pow_add_eq_or_of_lt (i:=8) (b:=x % 256) (by omega) (x/256);have h2:2^8*(x/256)^^^x % 256=2^8*(x/256)+x % 256:=by
  have e:=Nat.two_pow_add_eq_or_of_lt (i:=8) (b:=x % 256) (by omega) (x/256);rw[e];apply Nat.eq_of_testBit_eq;intro i;rw[Nat.testBit_xor,Nat.testBit_or,Nat.testBit_two_pow_mul];by_cases hi:8≤i
  ·have:(x % 256).testBit i=false:=Nat.testBit_lt_two_pow (zQ (Nat.mod_lt x (by omega)) (by
    calc 256=2^8:=rfl
     _≤2^i:=Nat.pow_le_pow_right (by omega) hi))
   simp [this]
  ·simp [hi]
 omega
theorem table_step (s b:Nat)(hb:b<256):stpN 8 ((s^^^b) % 256)^^^(s/256)=byteS s b:=by
 have e:=xor_hi_lo (s^^^b);have hd:(s^^^b)/256=s/256:=by
  have h:=Nat.shiftRight_xor_distrib (i:=8) (a:=s) (b:=b);simp [Nat.shiftRight_eq_div_pow] at h
  have h0:b/256=0:=by omega
  rw[h,h0,Nat.xor_zero]
 rw[byteS_def,←e,stpN_xor,stpN_shift,hd,Nat.xor_comm];congr 1
 have h2:((2^8*(s/256)^^^(s^^^b) % 256)) % 256=(s^^^b) % 256:=by rw[←hd,e]
 rw[h2]
def refBit (s bit:Nat):Nat:=if(s+bit) % 2=1 then(s/2)^^^poly else s/2
def refN:Nat→Nat→Nat→Nat
 | 0,s,_=>s
 | k+1,s,b=>refBit (refN k s b) (b/2^k % 2)
theorem stpN_ref (s b k:Nat):stpN k (s^^^b)=refN k s b^^^(b/2^k):=by
 induction k with
 | zero=>simp [stpN,refN]
 | succ k ih=>
  rw[stpN,ih,refN];generalize refN k s b=x;have e:b/2^(k+1)=b/2^k/2:=by rw[Nat.pow_succ,Nat.div_div_eq_div_mul]
  rw[e];generalize b/2^k=y;unfold stp refBit;rw[xor_mod2,xor_div2];obtain⟨hx,hy⟩:(x % 2=0∨x % 2=1)∧(y % 2=0∨y % 2=1):=by omega
  rcases hx with hx | hx<;>rcases hy with hy | hy<;>rw[hx,hy]<;>simp [Nat.add_mod,hx]
  ·rw[Nat.xor_assoc,Nat.xor_assoc,Nat.xor_comm poly]
  ·rw[Nat.xor_assoc,Nat.xor_assoc,Nat.xor_comm poly]
theorem refN_8 (s b:Nat)(hb:b<256):refN 8 s b=byteS s b:=by
 have h:=stpN_ref s b 8;have h0:b/2^8=0:=by omega
 rw[h0,Nat.xor_zero] at h;rw[byteS_def];exact h.symm
theorem refN_lt (k s b:Nat)(hs:s<2^32):refN k s b<2^32:=by
 induction k with
 | zero=>exact hs
 | succ k ih=>
  rw[refN];unfold refBit;split
  ·exact Nat.xor_lt_two_pow (by omega) poly_lt
  ·omega
theorem not_xor (x:Nat)(h:x<2^32):4294967295-x=x^^^4294967295:=by
 have e:2^32-(x+1)=x^^^(2^32-1):=by
  apply Nat.eq_of_testBit_eq;intro i;rw[Nat.testBit_two_pow_sub_succ h,Nat.testBit_xor,Nat.testBit_two_pow_sub_one];by_cases hi:i<32
  ·simp [hi]
  ·have:x.testBit i=false:=Nat.testBit_lt_two_pow (zQ h (Nat.pow_le_pow_right (by omega) (by omega)));simp [hi,this]
 have e2:2^32-1=4294967295:=rfl;rw[e2] at e;omega
end Sw
namespace Go.Proofs.YtnpehjgnplaabaaGreatDoor
open Go.RowKit
open Sw
def IsTab (cs:Array Value):Prop:=cs.size=256∧∀i,i<256→cs[i]? =some (.int .u32 (stpN 8 i:Nat))
theorem info_tab:∃v:Array Value,(Tryz.prog.info? 237).map (fun i=>(i.zero,i.size))=some (some (.agg v),256)∧v.size=256:=⟨Array.replicate 256 (.int .u32 0),by kernel_rfl,by kernel_rfl⟩
theorem stp_walk_odd (x:Nat)(hx:x<4294967296)(h:x % 2=1):bits .xor .u32 ((x:Int)/2) 3988292384=(stp x:Nat):=by
 have e:((x:Int)/2)=((x/2:Nat):Int):=by omega
 rw[e];have:=u32_xor_nat (x/2) 3988292384 (by omega) (by omega);rw[stp,if_pos h,poly];exact this
theorem stp_walk_even (x:Nat)(h:¬x % 2=1):(x:Int)/2=(stp x:Nat):=by
 rw[stp,if_neg h];omega
theorem and_walk (x:Nat)(hx:x<4294967296):bits .and .u32 (x:Int) 1=((x % 2:Nat):Int):=by
 have:=u32_and_nat x 1 hx (by omega);rw[Nat.and_one_is_mod] at this;exact this
theorem made_any (w:World):Calls Tryz.prog 178 #[] w fun e w'=>∃cs,e= .returned (.agg cs)∧IsTab cs∧Below w.heap.size w w':=by
 obtain⟨v,hv,hvs⟩:=info_tab;obtain⟨hz,hzi⟩:=zero_of_info hv;have HV:=zH hvs;clear hvs;have HZI:=zH hzi;clear hzi hv;go_enter Tryz.func178,Tryz.ntmps178
 go_wp2
 clear hz;go_loopw [1,2,3] (fun _ _ t wr=>∃k:Nat,k≤256∧t= .int .i64 k∧(∃cs:Array Value,Blk wr w.heap.size 237 cs∧cs.size=256∧∀i,i<k→cs[i]? =some (.int .u32 (stpN 8 i:Nat)))∧Below w.heap.size w wr) (fun _ _ t _=>256-(intOf t).toNat)
 case atStart=>exact⟨0,Nat.zero_le _,rfl,⟨_,Blk.new _ _ _,HV.out,fun i hi=>by omega⟩,(zR _ _).alloc (zN _) _⟩
 case round=>
  obtain⟨k,hk,rfl,⟨cs,hcs,hsz,hat⟩,hb⟩:=hrel;by_cases hlt:k<256
  ·have hf:=Blk.frozen hcs k;have hc:wr.cell? ⟨w.heap.size,k,none⟩=some (cs[k]'(by omega)):=by rw[Blk.cell hcs k];exact Array.getElem?_eq_getElem (by omega)
   generalize cs[k]'(by omega)=old at hc;have HAT:=zH hat;clear hat;have HSZ:=zH hsz;clear hsz;(go_wp2);go_loop [2,8] (fun x t=>∃j:Nat,j≤8∧t= .int .i64 j∧x= .int .u32 (stpN j k:Nat)) (fun _ t=>8-(intOf t).toNat)
   case atStart=>exact⟨0,Nat.zero_le _,rfl,rfl⟩
   case round=>
    obtain⟨j,hj,rfl,rfl⟩:=hrel;by_cases hjl:j<8
    ·have hx:=stpN_lt j k (by omega);have ha:=and_walk (stpN j k) hx;by_cases ho:stpN j k % 2=1
     ·have hst:=stp_walk_odd (stpN j k) hx ho;rw[ho] at ha;have HST:=zH hst;clear hst ho hx;(go_wp2);exact⟨⟨j+1,by omega,by go_num,by rw[HST.out,stpN]⟩,by simp [intOf];omega⟩
     ·have hst:=stp_walk_even (stpN j k) ho;(have ho':stpN j k % 2=0:=by omega);rw[ho'] at ha;have HST:=zH hst;clear hst ho hx ho';(go_wp2);exact⟨⟨j+1,by omega,by go_num,by rw[HST.out,stpN]⟩,by simp [intOf];omega⟩
    ·(obtain rfl:j=8:=by omega);(go_wp2);go_roundw
     case rel=>
      refine⟨k+1,by omega,by go_num,⟨_,Blk.put hcs k _,by simpa using HSZ.out,fun i hi=>?_⟩,hb.setCell (zN _) _⟩;rw[Array.getElem?_setIfInBounds];by_cases hik:k=i
      ·subst hik;rw[if_pos rfl,if_pos (by have:=HSZ.out;omega)]
      ·rw[if_neg hik];exact HAT.out i (by omega)
     case measure=>simp [intOf];omega
  ·obtain rfl:k=256:=by omega
   (have hi:(Tryz.prog.info? 237).map (·.size)=some cs.size:=by rw[hsz];exact HZI.out);have HI:=zH hi;clear hi;have HAT:=zH hat;clear hat;have HSZ:=zH hsz;clear hsz;have hone:cs.all (·.oneCell')=true:=by
    rw[Array.all_eq_true];intro i hi;have h:=HAT.out i (by have:=HSZ.out;omega);rw[Array.getElem?_eq_getElem hi] at h;injection h with h;rw[h];rfl
   have HO:=zH hone;clear hone;(go_wp2_with (first | (refine wpList_load_row rfl 237 _ rfl w.heap.size rfl 237 cs (0,0) _ hcs Tryz.underlying237 rfl HI.out ?_) | (refine wpList_store_row rfl 237 _ _ rfl w.heap.size cs rfl rfl 237 cs hcs HI.out rfl HO.out ?_)));refine bodyPost_ret (results_cell_row rfl _ _ w.heap.size 237 cs (0,0) _ rfl (setRow_heap wr w.heap.size cs cs _ _ hcs) Tryz.underlying237 rfl HI.out) rfl ⟨cs,rfl,⟨HSZ.out,HAT.out⟩,hb.trans ?_⟩;exact⟨rfl,rfl,rfl,by simp,fun i hi=>setRow_other wr w.heap.size i cs (by omega)⟩
theorem step_index (s b:Nat)(hb:b<256):bits .xor .u8 ((s:Int) % 256) (b:Int)=(((s^^^b) % 256:Nat):Int):=by
 have h:=u8_xor_nat (s % 256) b (by omega) hb;have e:((s:Int) % 256)=((s % 256:Nat):Int):=by omega
 rw[e,h];have hx:=Nat.xor_mod_two_pow (a:=s) (b:=b) (n:=8);have hb2:b % 256=b:=by omega
 have h8:(2:Nat)^8=256:=rfl;rw[h8,hb2] at hx;rw[hx]
theorem step_value (s b:Nat)(hs:s<4294967296)(hb:b<256):bits .xor .u32 ((stpN 8 ((s^^^b) % 256):Nat):Int) ((s:Int)/256)=((byteS s b:Nat):Int):=by
 have e:((s:Int)/256)=((s/256:Nat):Int):=by omega
 have hl:=stpN_lt 8 ((s^^^b) % 256) (by have:=Nat.mod_lt (s^^^b) (show 0<256 by omega);omega);rw[e,u32_xor_nat _ _ hl (by omega),table_step s b hb]
theorem sumStep_any (w:World)(g:Nat)(cs:Array Value)(s b:Nat)(hs:s<4294967296)(hb:b<256)(h:Blk w g 237 cs)(ht:IsTab cs):
  Calls Tryz.prog 209 #[.pointer (some ⟨g,0,none⟩),.int .u32 s,.int .u8 b] w fun e w'=>e= .returned (.int .u32 (byteS s b:Nat))∧w=w':=by
 have hc:w.cell? ⟨g,(s^^^b) % 256,none⟩=some (.int .u32 (stpN 8 ((s^^^b) % 256):Nat)):=by
  rw[Blk.cell h];exact ht.2 _ (Nat.mod_lt _ (by omega))
 have e1:=step_index s b hb;have e2:=step_value s b hs hb;have hlt:(s^^^b) % 256<256:=Nat.mod_lt _ (by omega);generalize (s^^^b) % 256=x at hc e1 e2 hlt;generalize stpN 8 x=y at hc e2;generalize byteS s b=z at e2⊢;have E2:=zH e2;clear e2;go_enter Tryz.func209,Tryz.ntmps209
 go_wp2
 go_ret;rw[←E2.out];exact⟨rfl,rfl⟩
theorem begin_any (w:World):Calls Tryz.prog 181 #[] w fun e w'=>e= .returned (.int .u32 4294967295)∧w=w':=by
 go_enter Tryz.func181,Tryz.ntmps181
 go_wp2
 go_ret;exact⟨rfl,rfl⟩
theorem end_value (s:Nat)(hs:s<4294967296):bits .xor .u32 IntKind.u32.max (s:Int)=((4294967295-s:Nat):Int):=by
 have e:IntKind.u32.max=((4294967295:Nat):Int):=by decide
 rw[e,u32_xor_nat 4294967295 s (by omega) hs,not_xor s hs,Nat.xor_comm]
theorem end_any (w:World)(s:Nat)(hs:s<4294967296):Calls Tryz.prog 179 #[.int .u32 s] w fun e w'=>e= .returned (.int .u32 (4294967295-s:Nat))∧w=w':=by
 have hsg:IntKind.u32.signed=false:=rfl;have E:=zH (end_value s hs);go_enter Tryz.func179,Tryz.ntmps179
 go_wp2
 go_ret;rw[←E.out];exact⟨rfl,rfl⟩
theorem bit_odd (s:Nat)(hs:s<4294967296):bits .xor .u32 ((s:Int)/2) 3988292384=(((s/2)^^^poly:Nat):Int):=by
 have e:((s:Int)/2)=((s/2:Nat):Int):=by omega
 rw[e];exact u32_xor_nat (s/2) 3988292384 (by omega) (by omega)
theorem refBit_any (w:World)(s bit:Nat)(hs:s<4294967296)(hb:bit<2):
  Calls Tryz.prog 185 #[.int .u32 s,.int .u32 bit] w fun e w'=>e= .returned (.int .u32 (refBit s bit:Nat))∧w=w':=by
 by_cases ho:(s+bit) % 2=1
 ·have hr:refBit s bit=(s/2)^^^poly:=by rw[refBit,if_pos ho]
  have ht:(((s:Int)+bit) % 2==1)=true:=by simp;omega
  have HR:=zH hr;clear hr ho;have EB:=zH (bit_odd s hs);go_enter Tryz.func185,Tryz.ntmps185
  go_wp2
  go_ret;rw[HR.out,←EB.out];exact⟨rfl,rfl⟩
 ·have hr:((refBit s bit:Nat):Int)=(s:Int)/2:=by rw[refBit,if_neg ho];omega
  have ht:(((s:Int)+bit) % 2==1)=false:=by simp;omega
  have HR:=zH hr;clear hr ho;go_enter Tryz.func185,Tryz.ntmps185
  go_wp2
  go_ret;rw[HR.out];exact⟨rfl,rfl⟩
theorem refByte_any (w:World)(s b:Nat)(hs:s<4294967296)(hb:b<256):
  Calls Tryz.prog 153 #[.int .u32 s,.int .u8 b] w fun e w'=>e= .returned (.int .u32 (byteS s b:Nat))∧w=w':=by
 go_enter Tryz.func153,Tryz.ntmps153
 go_wp2_with fail
 go_loop [0,5,6] (fun x n t=>∃i:Nat,i≤8∧t= .int .i64 i∧n= .int .u32 (b/2^i:Nat)∧x= .int .u32 (refN i s b:Nat)) (fun _ _ t=>8-(intOf t).toNat)
 case atStart=>exact⟨0,Nat.zero_le _,rfl,by simp,rfl⟩
 case round=>
  obtain⟨i,hi,rfl,rfl,rfl⟩:=hrel;by_cases hlt:i<8
  ·have hx:=refN_lt i s b hs;have hn:b/2^i≤b:=Nat.div_le_self _ _;have hn1:b/2^(i+1)=b/2^i/2:=by rw[Nat.pow_succ,Nat.div_div_eq_div_mul]
   have hr1:refN (i+1) s b=refBit (refN i s b) (b/2^i % 2):=rfl;have HN:=zH hn1;clear hn1;have HR:=zH hr1;clear hr1;generalize b/2^i=n at*;generalize refN i s b=x at*;(have e2:((n:Int).tmod 2)=((n % 2:Nat):Int):=by rw[Int.tmod_eq_emod_of_nonneg (by omega)];omega);(obtain⟨e3,e4⟩:((n:Int) % 2)=((n % 2:Nat):Int)∧((n:Int)/2)=((n/2:Nat):Int):=by omega);have E2:=zH e2;clear e2;have E3:=zH e3;clear e3;have E4:=zH e4;clear e4;(go_wp2_with fail);rw[E3.out];refine(refBit_any _ x (n % 2) hx (by omega)).mono ?_;rintro e w' ⟨rfl,rfl⟩;(go_wp2_with fail);exact⟨⟨i+1,by omega,by go_num,by rw[HN.out,E4.out],by rw[HR.out]⟩,by simp [intOf];omega⟩
  ·obtain rfl:i=8:=by omega
   have hr:=refN_8 s b hb;have HR:=zH hr;clear hr;(go_wp2_with fail);go_ret;rw[←HR.out];exact⟨rfl,rfl⟩
theorem feedS_take (s:Nat)(t:ByteArray)(k:Nat)(h:k<t.size):feedS s (t.data.toList.take (k+1))=byteS (feedS s (t.data.toList.take k)) t[k].toNat:=by
 rw[zG (by simpa using h),feedS_append,feedS_cons];show byteS _ t.data[k].toNat=byteS _ t.data[k].toNat
 rfl
theorem refFeed_any (w:World)(s:Nat)(t:ByteArray)(hs:s<4294967296)(ht:t.size≤maxLen):
  Calls Tryz.prog 113 #[.int .u32 s,.string t] w fun e w'=>e= .returned (.int .u32 (feedS s t.data.toList:Nat))∧w=w':=by
 unfold maxLen at ht;go_enter Tryz.func113,Tryz.ntmps113
 go_wp2_with fail
 go_loop [0,5] (fun x i=>∃k:Nat,k≤t.size∧i= .int .i64 k∧x= .int .u32 (feedS s (t.data.toList.take k):Nat)) (fun _ i=>t.size-(intOf i).toNat)
 case atStart=>exact⟨0,Nat.zero_le _,rfl,rfl⟩
 case round=>
  obtain⟨k,hk,rfl,rfl⟩:=hrel;by_cases hlt:k<t.size
  ·have hx:=feedS_lt (t.data.toList.take k) s hs;have HX:=zH (feedS_take s t k hlt);have hbt:=t[k].toNat_lt;generalize feedS s (t.data.toList.take k)=x at*;go_wp2_with (go_at_call 153;refine(refByte_any _ x t[k].toNat hx (by omega)).mono ?_;rintro e w' ⟨rfl,rfl⟩)
   exact⟨⟨k+1,by omega,by go_num,by rw[HX.out]⟩,by simp [intOf];omega⟩
  ·obtain rfl:k=t.size:=by omega
   have hr:t.data.toList.take t.size=t.data.toList:=zO (by simp);have HR:=zH hr;clear hr;(go_wp2_with fail);go_ret;rw[HR.out];exact⟨rfl,rfl⟩
theorem refOf_any (w:World)(t:ByteArray)(ht:t.size≤maxLen):
  Calls Tryz.prog 73 #[.string t] w fun e w'=>e= .returned (.int .u32 (ofS t.data.toList:Nat))∧w=w':=by
 have hx:=feedS_lt t.data.toList 4294967295 (by omega);have ho:((ofS t.data.toList:Nat):Int)=4294967295-(feedS 4294967295 t.data.toList:Nat):=by unfold ofS;omega
 have HO:=zH ho;clear ho;go_enter Tryz.func73,Tryz.ntmps73
 go_wp2_with (go_at_call 113;refine(refFeed_any _ 4294967295 t (by omega) ht).mono ?_;rintro e w' ⟨rfl,rfl⟩)
 go_ret;rw[HO.out];exact⟨rfl,rfl⟩
def feedL:Nat→List ByteArray→Nat
 | s,[]=>s
 | s,t::l=>feedL (feedS s t.data.toList) l
theorem feedL_lt (l:List ByteArray):∀(s:Nat),s<2^32→feedL s l<2^32:=by
 induction l with
 | nil=>intro s h;rw[feedL];exact h
 | cons t l ih=>intro s h;rw[feedL];exact ih _ (feedS_lt _ s h)
theorem feedL_take (s:Nat)(l:List ByteArray)(k:Nat)(h:k<l.length):feedL s (l.take (k+1))=feedS (feedL s (l.take k)) l[k].data.toList:=by
 induction l generalizing s k with
 | nil=>simp at h
 | cons t l ih=>
  cases k with
  | zero=>simp [feedL]
  | succ k=>
   rw[List.take_succ_cons,List.take_succ_cons,feedL,feedL];exact ih _ k (by simpa using h)
def strE (t:ByteArray):List Value:=[.string t]
theorem feed_any (w:World)(g:Nat)(cs:Array Value)(s:Nat)(A:Option Addr)(n c:Nat)(l:List ByteArray)(hs:s<4294967296)(h:Blk w g 237 cs)(ht:IsTab cs)(hl:l.length=n)(hnm:n≤maxLen)(hsl:SlOf w 1 strE A l)(hm:∀t∈l,t.size≤maxLen):
  Calls Tryz.prog 180 #[.pointer (some ⟨g,0,none⟩),.int .u32 s,.slice A n c] w fun e w'=>e= .returned (.int .u32 (feedL s l:Nat))∧w=w':=by
 unfold maxLen at hnm;have HS:=zH hsl;clear hsl;have HM:=zH hm;clear hm;have HT:=zH ht;clear ht;have HL:=zH hl;clear hl;go_enter Tryz.func180,Tryz.ntmps180
 go_wp2_with fail
 go_loop [1,8,9,12] (fun x _ _ i=>∃k:Nat,k≤n∧i= .int .i64 k∧x= .int .u32 (feedL s (l.take k):Nat)) (fun _ _ _ i=>n-(intOf i).toNat)
 case atStart=>exact⟨0,Nat.zero_le _,rfl,rfl⟩
 case round=>
  obtain⟨k,hk,rfl,rfl⟩:=hrel;by_cases hlt:k<n
  ·have hkl:k<l.length:=by have:=HL.out;omega
   obtain⟨b,off,rfl,hb,hc⟩:=HS.out (by omega);have hc0:=hc k hkl 0 (by omega);(simp [strE] at hc0);clear hc;have ht:=HM.out l[k] (zP _);have HX:=zH (feedL_take s l k hkl);have hx:=feedL_lt (l.take k) s hs;generalize feedL s (l.take k)=x at*;generalize l[k]=t at*;unfold maxLen at ht;(go_wp2_with fail);go_loop [1,9,18] (fun y _ i=>∃j:Nat,j≤t.size∧i= .int .i64 j∧y= .int .u32 (feedS x (t.data.toList.take j):Nat)) (fun _ _ i=>t.size-(intOf i).toNat)
   case atStart=>exact⟨0,Nat.zero_le _,rfl,rfl⟩
   case round=>
    obtain⟨j,hj,rfl,rfl⟩:=hrel;by_cases hjt:j<t.size
    ·have hy:=feedS_lt (t.data.toList.take j) x hx;have HY:=zH (feedS_take x t j hjt);have hbt:=t[j].toNat_lt;generalize feedS x (t.data.toList.take j)=y at*;(go_wp2_with (go_at_call 209;refine(sumStep_any _ g cs y t[j].toNat hy (by omega) h HT.out).mono ?_;rintro e w' ⟨rfl,rfl⟩));exact⟨⟨j+1,by omega,by go_num,by rw[HY.out]⟩,by simp [intOf];omega⟩
    ·(obtain rfl:j=t.size:=by omega);have hr:t.data.toList.take t.size=t.data.toList:=zO (by simp);have HR:=zH hr;clear hr;(go_wp2_with fail);exact⟨⟨k+1,by omega,by go_num,by rw[HX.out,HR.out]⟩,by simp [intOf];omega⟩
  ·obtain rfl:k=n:=by omega
   have hr:l.take k=l:=zO (by rw[HL.out];exact zN _);have HR:=zH hr;clear hr;(go_wp2_with fail);go_ret;rw[HR.out];exact⟨rfl,rfl⟩
theorem IsTab.one {cs:Array Value}(h:IsTab cs):cs.all (·.oneCell')=true:=by
 rw[Array.all_eq_true];intro i hi;have h1:=h.2 i (by have:=h.1;omega);rw[Array.getElem?_eq_getElem hi] at h1;injection h1 with h1;rw[h1];rfl
theorem sumOf_any (w:World)(t:ByteArray)(ht:t.size≤maxLen):
  Calls Tryz.prog 147 #[.string t] w fun e w'=>e= .returned (.int .u32 (ofS t.data.toList:Nat))∧Below w.heap.size w w':=by
 obtain⟨v,hv,hvs⟩:=info_tab;obtain⟨hz,hzi⟩:=zero_of_info hv;have HV:=zH hvs;clear hvs;have HZI:=zH hzi;clear hzi hv;have HT:=zH ht;clear ht;have hx:=feedS_lt t.data.toList 4294967295 (by omega);go_enter Tryz.func147,Tryz.ntmps147
 go_wp2_with (first | (go_at_call 178;refine(made_any _).mono ?_;rintro e w1 ⟨cs,rfl,htab,hb1⟩;have HTAB:=zH htab;clear htab) | (refine wpList_store_row rfl 237 _ _ rfl w1.heap.size cs rfl rfl 237 v (Blk.new _ _ _) (by rw[HTAB.out.1];exact HZI.out) (by rw[HV.out,HTAB.out.1]) HTAB.out.one ?_;rw[World.setRow_alloc_new]) | (go_at_call 181;refine(begin_any _).mono ?_;rintro e w' ⟨rfl,rfl⟩))
 have hB:=Blk.new (w1.alloc (Obj.cells cs 237)) 9 #[Value.string t];have hA:=Blk.alloc (Blk.new w1 237 cs) (Obj.cells #[Value.string t] 9);rw[show(w1.alloc (Obj.cells cs 237)).heap.size=w1.heap.size+1 by simp] at hB;refine(feed_any _ w1.heap.size cs 4294967295 (some ⟨w1.heap.size+1,0,none⟩) 1 1 [t] (by omega) hA HTAB.out rfl (by unfold maxLen;omega) (SlOf.of_blk1 (e:=Value.string) hB rfl) (by simpa using HT.out)).mono ?_;rintro e w' ⟨rfl,rfl⟩;have he:feedL 4294967295 [t]=feedS 4294967295 t.data.toList:=by simp [feedL]
 rw[he];clear he;go_wp2_with (go_at_call 179;refine(end_any _ _ hx).mono ?_;rintro e w' ⟨rfl,rfl⟩)
 go_ret;exact⟨rfl,(hb1.alloc hb1.size _).alloc (by simpa using Nat.le_succ_of_le hb1.size) _⟩
end Go.Proofs.YtnpehjgnplaabaaGreatDoor
namespace Sw
open Go
def printN (n:Nd):Pr:=⟨n.kind,n.mode,n.time,n.data.size,if n.kind=1 then(ofS n.data.data.toList:Nat) else 0⟩
end Sw
namespace Go.Proofs.YtnpehjgnplaabaaGreatDoor
open Go.RowKit
open Sw
theorem sumRef_any (w:World)(t:ByteArray)(ht:t.size≤maxLen):
  Calls Tryz.prog 73 #[.string t] w fun e w'=>e= .returned (.int .u32 (ofS t.data.toList:Nat))∧Below w.heap.size w w':=
 (refOf_any w t ht).mono fun e w' ⟨he,hw⟩=>⟨he,hw▸zR _ _⟩
theorem print_any (w:World)(n:Nd)(hm:n.data.size≤maxLen):
  Calls Tryz.prog 104 #[.agg n.c] w fun e w'=>e= .returned (.agg (printN n).c)∧Below w.heap.size w w':=by
 have HS:=zH (fun W=>sumOf_any W n.data hm);obtain⟨kind,mode,time,data⟩:=n;unfold printN Pr.c Nd.c;simp only at HS hm⊢;unfold maxLen at hm;by_cases hk:kind=1
 ·rw[if_pos hk];subst hk;generalize ofS data.data.toList=sm at*;go_enter Tryz.func104,Tryz.ntmps104
  go_wp2_with fail
  refine(HS.out _).mono ?_;rintro e w1 ⟨rfl,hb1⟩;have hP:=(blk_trd w (.cells #[.int .i64 1,.int .i64 mode,.int .u32 time,.string data] 57) (.cells #[.int .i64 0,.int .i64 0,.int .u32 0,.int .i64 0,.int .u32 0] 61) #[.int .i64 1,.int .i64 mode,.int .u32 time,.int .i64 data.size,.int .u32 0] 61).below hb1 (by simp);have hR:=(blk_mid w (.cells #[.int .i64 1,.int .i64 mode,.int .u32 time,.string data] 57) #[.int .i64 0,.int .i64 0,.int .u32 0,.int .i64 0,.int .u32 0] 61 (.cells #[.int .i64 1,.int .i64 mode,.int .u32 time,.int .i64 data.size,.int .u32 0] 61)).below hb1 (by simp);have hbw:Below w.heap.size w w1:=((((zR _ _).alloc (zN _) _).alloc (by simp) _).alloc (by simp;omega) _).trans (hb1.mono (by simp;omega));have p0:=hP.cell 0;have p1:=hP.cell 1;have p2:=hP.cell 2;have p3:=hP.cell 3;have p4:=hP.cell 4;have pf:=hP.frozen 4;have r0:=hR.cell 0;have r1:=hR.cell 1;have r2:=hR.cell 2;have r3:=hR.cell 3;have r4:=hR.cell 4;have f0:=hR.frozen 0;have f1:=hR.frozen 1;have f2:=hR.frozen 2;have f3:=hR.frozen 3;have f4:=hR.frozen 4;simp at p0 p1 p2 p3 p4 r0 r1 r2 r3 r4
  have HP:=zH hP;clear hP;have HR:=zH hR;clear hR;go_wp2_with fail
  refine bodyPost_ret (results_cell_row rfl _ _ (w.heap.size+1) 61 #[.int .i64 1,.int .i64 mode,.int .u32 time,.int .i64 data.size,.int .u32 sm] (0,0) _ rfl ((((((HR.out.far (p:=⟨w.heap.size+1+1,4,none⟩) (by simp) _).put 0 (.int .i64 1)).put 1 (.int .i64 mode)).put 2 (.int .u32 time)).put 3 (.int .i64 data.size)).put 4 (.int .u32 sm)) Tryz.underlying61 rfl (by kernel_rfl)) rfl ⟨rfl,?_⟩;exact(((((hbw.setCell (by simp;omega) _).setCell (by simp) _).setCell (by simp) _).setCell (by simp) _).setCell (by simp) _).setCell (by simp) _
 ·rw[if_neg hk];have hkb:(kind==1)=false:=by rw[zB];exact hk
  go_enter Tryz.func104,Tryz.ntmps104
  go_wp2_with fail
  exact bodyPost_ret (results_cell_row rfl _ _ (w.heap.size+1) 61 #[.int .i64 kind,.int .i64 mode,.int .u32 time,.int .i64 data.size,.int .u32 0] (0,0) _ rfl (blk_mid w _ _ _ _) Tryz.underlying61 rfl (by kernel_rfl)) rfl ⟨rfl,(((zR _ _).alloc (zN _) _).alloc (by simp) _).alloc (by simp;omega) _⟩
theorem refPrint_any (w:World)(n:Nd)(hm:n.data.size≤maxLen):
  Calls Tryz.prog 39 #[.agg n.c] w fun e w'=>e= .returned (.agg (printN n).c)∧Below w.heap.size w w':=by
 have HS:=zH (fun W=>sumRef_any W n.data hm);obtain⟨kind,mode,time,data⟩:=n;unfold printN Pr.c Nd.c;simp only at HS hm⊢;unfold maxLen at hm;by_cases hk:kind=1
 ·rw[if_pos hk];subst hk;generalize ofS data.data.toList=sm at*;go_enter Tryz.func39,Tryz.ntmps39
  go_wp2_with fail
  refine(HS.out _).mono ?_;rintro e w1 ⟨rfl,hb1⟩;have hP:=(blk_trd w (.cells #[.int .i64 1,.int .i64 mode,.int .u32 time,.string data] 57) (.cells #[.int .i64 0,.int .i64 0,.int .u32 0,.int .i64 0,.int .u32 0] 61) #[.int .i64 1,.int .i64 mode,.int .u32 time,.int .i64 data.size,.int .u32 0] 61).below hb1 (by simp);have hR:=(blk_mid w (.cells #[.int .i64 1,.int .i64 mode,.int .u32 time,.string data] 57) #[.int .i64 0,.int .i64 0,.int .u32 0,.int .i64 0,.int .u32 0] 61 (.cells #[.int .i64 1,.int .i64 mode,.int .u32 time,.int .i64 data.size,.int .u32 0] 61)).below hb1 (by simp);have hbw:Below w.heap.size w w1:=((((zR _ _).alloc (zN _) _).alloc (by simp) _).alloc (by simp;omega) _).trans (hb1.mono (by simp;omega));have p0:=hP.cell 0;have p1:=hP.cell 1;have p2:=hP.cell 2;have p3:=hP.cell 3;have p4:=hP.cell 4;have pf:=hP.frozen 4;have r0:=hR.cell 0;have r1:=hR.cell 1;have r2:=hR.cell 2;have r3:=hR.cell 3;have r4:=hR.cell 4;have f0:=hR.frozen 0;have f1:=hR.frozen 1;have f2:=hR.frozen 2;have f3:=hR.frozen 3;have f4:=hR.frozen 4;simp at p0 p1 p2 p3 p4 r0 r1 r2 r3 r4
  have HP:=zH hP;clear hP;have HR:=zH hR;clear hR;go_wp2_with fail
  refine bodyPost_ret (results_cell_row rfl _ _ (w.heap.size+1) 61 #[.int .i64 1,.int .i64 mode,.int .u32 time,.int .i64 data.size,.int .u32 sm] (0,0) _ rfl ((((((HR.out.far (p:=⟨w.heap.size+1+1,4,none⟩) (by simp) _).put 0 (.int .i64 1)).put 1 (.int .i64 mode)).put 2 (.int .u32 time)).put 3 (.int .i64 data.size)).put 4 (.int .u32 sm)) Tryz.underlying61 rfl (by kernel_rfl)) rfl ⟨rfl,?_⟩;exact(((((hbw.setCell (by simp;omega) _).setCell (by simp) _).setCell (by simp) _).setCell (by simp) _).setCell (by simp) _).setCell (by simp) _
 ·rw[if_neg hk];have hkb:(kind==1)=false:=by rw[zB];exact hk
  go_enter Tryz.func39,Tryz.ntmps39
  go_wp2_with fail
  exact bodyPost_ret (results_cell_row rfl _ _ (w.heap.size+1) 61 #[.int .i64 kind,.int .i64 mode,.int .u32 time,.int .i64 data.size,.int .u32 0] (0,0) _ rfl (blk_mid w _ _ _ _) Tryz.underlying61 rfl (by kernel_rfl)) rfl ⟨rfl,(((zR _ _).alloc (zN _) _).alloc (by simp) _).alloc (by simp;omega) _⟩
end Go.Proofs.YtnpehjgnplaabaaGreatDoor
namespace Go.Proofs.YtnpehjgnplaabaaGreatDoor
open Go Go.ChangeShapes Go.WideShapes Go.ChangeAt Go.RowKit
open Sw
theorem dec_int {H:Type}{enc:TypeId×Value→H}{w:World}(fuel:Nat)(c:Value)(x:DataW H×List MemPlace)(h:DataW.trod enc Tryz.prog w 0 (fun _=>true) true fuel 3 [c]=some x):
  ∃k:Int,c= .int .i64 k∧(-9223372036854775808≤k∧k≤9223372036854775807):=by
 obtain⟨k,ek,_,wk⟩:=DataW.trod_int Tryz.underlying3 h;obtain⟨k0,k1⟩:=bounds_i64 wk;exact⟨k,by simpa using ek,by omega,by omega⟩
theorem dec_u32 {H:Type}{enc:TypeId×Value→H}{w:World}(fuel:Nat)(c:Value)(x:DataW H×List MemPlace)(h:DataW.trod enc Tryz.prog w 0 (fun _=>true) true fuel 51 [c]=some x):
  ∃k:Int,c= .int .u32 k∧(0≤k∧k<4294967296):=by
 obtain⟨k,ek,_,wk⟩:=DataW.trod_int Tryz.underlying51 h;obtain⟨k0,k1⟩:=bounds_u32 wk;exact⟨k,by simpa using ek,by omega,by omega⟩
def _root_.Sw.Pr.In (p:Pr):Prop:=(-9223372036854775808≤p.kind∧p.kind≤9223372036854775807)∧(-9223372036854775808≤p.mode∧p.mode≤9223372036854775807)∧(0≤p.time∧p.time<4294967296)∧(-9223372036854775808≤p.size∧p.size≤9223372036854775807)∧(0≤p.sum∧p.sum<4294967296)
theorem dec_print {H:Type}{enc:TypeId×Value→H}{w:World}(fuel:Nat)(cs:List Value)(x:DataW H×List MemPlace)(h:DataW.trod enc Tryz.prog w 0 (fun _=>true) true fuel 61 cs=some x):
  ∃p:Pr,cs=p.c.toList∧p.In:=by
 obtain⟨hl,hff⟩:=dec_fields Tryz.underlying61 (by kernel_rfl) (by kernel_rfl) h
 match cs,hl with
 | [c0,c1,c2,c3,c4],_=>
  obtain⟨v0,n0,y0,e0,h0⟩:=hff 0 _ rfl;obtain⟨v1,n1,y1,e1,h1⟩:=hff 1 _ rfl;obtain⟨v2,n2,y2,e2,h2⟩:=hff 2 _ rfl;obtain⟨v3,n3,y3,e3,h3⟩:=hff 3 _ rfl;obtain⟨v4,n4,y4,e4,h4⟩:=hff 4 _ rfl;simp at e0 e1 e2 e3 e4
  subst e0 e1 e2 e3 e4;obtain⟨k0,ek0,b0⟩:=dec_int _ _ _ h0;obtain⟨k1,ek1,b1⟩:=dec_int _ _ _ h1;obtain⟨k2,ek2,b2⟩:=dec_u32 _ _ _ h2;obtain⟨k3,ek3,b3⟩:=dec_int _ _ _ h3;obtain⟨k4,ek4,b4⟩:=dec_u32 _ _ _ h4;subst ek0 ek1 ek2 ek3 ek4;exact⟨⟨k0,k1,k2,k3,k4⟩,rfl,b0,b1,b2,b3,b4⟩
end Go.Proofs.YtnpehjgnplaabaaGreatDoor
namespace Sw
def swL {β:Type} (l:List β) (a b i:Nat):List β:=l.mapIdx fun m x=>if a≤m∧m<a+i then(l[b+(m-a)]?).getD x else if b≤m∧m<b+i then(l[a+(m-b)]?).getD x else x
section
variable {β:Type}
theorem swL_len (l:List β)(a b i:Nat):(swL l a b i).length=l.length:=by simp [swL]
theorem swL_get (l:List β)(a b i m:Nat)(hab:a+i≤b)(hb:b+i≤l.length)(h:m<l.length):(swL l a b i)[m]'(by rw[swL_len];exact h)=if h1:a≤m∧m<a+i then l[b+(m-a)]'(by omega) else if h2:b≤m∧m<b+i then l[a+(m-b)]'(by omega) else l[m]:=by
 simp only[swL,List.getElem_mapIdx];split
 ·rw[zM (by omega)];rfl
 ·split
  ·rw[zM (by omega)];rfl
  ·rfl
theorem swL_zero (l:List β)(a b:Nat):swL l a b 0=l:=by
 apply List.ext_getElem
 ·exact swL_len l a b 0
 ·intro m h1 h2;simp only[swL,List.getElem_mapIdx];rw[if_neg (by omega),if_neg (by omega)]
theorem swL_step (l:List β)(a b i:Nat)(hab:a+i<b)(hb:b+i<l.length):
  swL l a b (i+1)=((swL l a b i).set (a+i) ((swL l a b i)[b+i]'(by rw[swL_len];exact hb))).set (b+i) ((swL l a b i)[a+i]'(by rw[swL_len];omega)):=by
 apply List.ext_getElem
 ·simp [swL_len]
 ·intro m h1 h2;have h3:m<l.length:=by rw[swL_len] at h1;exact h1
  rw[swL_get l a b (i+1) m (by omega) (by omega) h3,List.getElem_set,List.getElem_set];simp only[swL_get l a b i (b+i) (by omega) (by omega) hb,swL_get l a b i (a+i) (by omega) (by omega) (by omega),swL_get l a b i m (by omega) (by omega) h3];by_cases e1:b+i=m
  ·subst e1;rw[dif_neg (by omega),dif_pos (by omega),if_pos rfl,dif_neg (by omega),dif_neg (by omega)];congr 1;omega
  ·rw[if_neg e1];by_cases e2:a+i=m
   ·subst e2;rw[dif_pos (by omega),if_pos rfl,dif_neg (by omega),dif_neg (by omega)];congr 1;omega
   ·rw[if_neg e2];by_cases e3:a≤m∧m<a+i
    ·rw[dif_pos (by omega),dif_pos e3]
    ·rw[dif_neg (by omega),dif_neg e3];by_cases e4:b≤m∧m<b+i
     ·rw[dif_pos (by omega),dif_pos e4]
     ·rw[dif_neg (by omega),dif_neg e4]
theorem swL_end (P X M Y Q:List β)(h:X.length=Y.length):swL (P++X++M++Y++Q) P.length (P.length+X.length+M.length) X.length=P++Y++M++X++Q:=by
 apply List.ext_getElem
 ·simp only[swL_len,zF];omega
 ·intro m h1 h2;have h3:m<(P++X++M++Y++Q).length:=by rw[swL_len] at h1;exact h1
  rw[swL_get _ _ _ _ m (by omega) (by simp only[zF];omega) h3];simp only[zF] at h3;split
  ·rename_i e
   simp only[List.getElem_append,zF];(repeat' split);all_goals first | omega | (congr 1;omega)
  ·split
   ·rename_i e1 e
    simp only[List.getElem_append,zF];(repeat' split);all_goals first | omega | (congr 1;omega)
   ·rename_i e1 e2
    simp only[List.getElem_append,zF];(repeat' split);all_goals first | omega | (congr 1;omega) | rfl
end
end Sw
namespace Go.Proofs.YtnpehjgnplaabaaGreatDoor
open Go Go.RowKit
open Sw
def eCMK (e:{s:ByteArray//s.size≤90000}×Pr):List Value:=[.string e.1.1,.int .i64 e.2.kind,.int .i64 e.2.mode,.int .u32 e.2.time,.int .i64 e.2.size,.int .u32 e.2.sum]
theorem eCMK_len (e:{s:ByteArray//s.size≤90000}×Pr):(eCMK e).length=6:=rfl
theorem swapRangeMK_any (w:World)(base:Nat)(v cv:Value)(n a b k:Nat)(l:List ({s:ByteArray//s.size≤90000}×Pr))(hl:l.length=n)(hn:n≤1000000)(hab:a+k≤b)(hbk:b+k≤n)(hown:w.ownsRow base 63 6 v n (l.flatMap eCMK)):
  Calls Tryz.prog 230 #[v,.int .i64 a,.int .i64 b,.int .i64 k,cv] w fun e w'=>e= .returned (.tuple #[])∧w'.ownsRow base 63 6 v n ((swL l a b k).flatMap eCMK)∧w.grownBy w' v.ownBlock:=by
 have HO:=zH hown;have HL:=zH hl;clear hl;obtain⟨A,c,rfl,hc1,hc2,_⟩:=SlV_of_any hown;clear hown;go_enter Tryz.func230,Tryz.ntmps230
 go_wp2_with fail
 go_loopw [10] (fun iv wr=>∃i:Nat,iv= .int .i64 i∧i≤k∧wr.ownsRow base 63 6 (.slice A n c) n ((swL l a b i).flatMap eCMK)∧w.grownBy wr (Value.slice A n c).ownBlock) (fun iv _=>k-(intOf iv).toNat)
 case atStart=>exact⟨0,rfl,Nat.zero_le _,by rw[swL_zero];exact HO.out,grown_refl _ _⟩
 case round=>
  obtain⟨i0,rfl,hik,ho,hg⟩:=hrel;have hrl:=swL_len l a b i0;have HR:=zH (zA ho hg);clear ho hg;by_cases hlt:i0<k
  ·have hi1:(i0:Int)<k:=by omega
   obtain⟨i,hi⟩:∃i:Nat,(a:Int)+i0=i:=⟨a+i0,by omega⟩;obtain⟨j,hj⟩:∃j:Nat,(b:Int)+i0=j:=⟨b+i0,by omega⟩;(obtain⟨hiE,hjE,hin,hjn⟩:i=a+i0∧j=b+i0∧i<n∧j<n:=by omega);obtain⟨g,cap,cur,hA,hbg,hB,hnc,hcm,hcs,htk⟩:=own_form HR.out.1 (by omega);(obtain⟨rfl,rfl⟩:A=some ⟨g,0,none⟩∧c=cap:=by injection hA with e1 e2 e3;exact⟨e1,e3⟩);have hcell:=fun(m:Nat) (hm:m<n) (q:Nat) (hq:q<6)=>(by
    (have hm':m<(swL l a b i0).length:=by rw[hrl,HL.out];exact hm);have h1:=flat_get eCMK_len (swL l a b i0) m hm' q hq;(have h2:m*6+q<n*6:=by have:(m+1)*6≤n*6:=Nat.mul_le_mul_right _ hm;omega);rw[hB.cell,←Array.getElem?_toList,←h1,←htk,List.getElem?_take,if_pos h2]:wr.cell? ⟨g,m*6+q,none⟩=(eCMK ((swL l a b i0)[m]'(by rw[hrl,HL.out];exact hm)))[q]?)
   (have hjl:j<(swL l a b i0).length:=by rw[hrl,HL.out];exact hjn);(have hil:i<(swL l a b i0).length:=by rw[hrl,HL.out];exact hin);have hstep:swL l a b (i0+1)=((swL l a b i0).set i (swL l a b i0)[j]).set j (swL l a b i0)[i]:=by
    have:=swL_step l a b i0 (by omega) (by have:=HL.out;omega);simp only[←hiE,←hjE] at this;exact this
   obtain⟨x,hx⟩:∃x,(swL l a b i0)[i]=x:=⟨_,rfl⟩;obtain⟨y,hy⟩:∃y,(swL l a b i0)[j]=y:=⟨_,rfl⟩;have hci:=hcell i hin;have hcj:=hcell j hjn;simp only[hx] at hci;simp only[hy] at hcj;rw[hx,hy] at hstep;have a0:wr.cell? ⟨g,i*6,none⟩=_:=hci 0 (by omega);have a1:wr.cell? ⟨g,i*6+1,none⟩=_:=hci 1 (by omega);have a2:wr.cell? ⟨g,i*6+2,none⟩=_:=hci 2 (by omega);have a3:wr.cell? ⟨g,i*6+3,none⟩=_:=hci 3 (by omega);have a4:wr.cell? ⟨g,i*6+4,none⟩=_:=hci 4 (by omega);have a5:wr.cell? ⟨g,i*6+5,none⟩=_:=hci 5 (by omega);simp only[eCMK,qB,qC] at a0 a1 a2 a3 a4 a5;have b0:wr.cell? ⟨g,j*6,none⟩=_:=hcj 0 (by omega);have b1:wr.cell? ⟨g,j*6+1,none⟩=_:=hcj 1 (by omega);have b2:wr.cell? ⟨g,j*6+2,none⟩=_:=hcj 2 (by omega);have b3:wr.cell? ⟨g,j*6+3,none⟩=_:=hcj 3 (by omega);have b4:wr.cell? ⟨g,j*6+4,none⟩=_:=hcj 4 (by omega);have b5:wr.cell? ⟨g,j*6+5,none⟩=_:=hcj 5 (by omega);simp only[eCMK,qB,qC] at b0 b1 b2 b3 b4 b5;have fa0:=hB.frozen (i*6);have fa1:=hB.frozen (i*6+1);have fa2:=hB.frozen (i*6+2);have fa3:=hB.frozen (i*6+3);have fa4:=hB.frozen (i*6+4);have fa5:=hB.frozen (i*6+5);have fb0:=hB.frozen (j*6);have fb1:=hB.frozen (j*6+1);have fb2:=hB.frozen (j*6+2);have fb3:=hB.frozen (j*6+3);have fb4:=hB.frozen (j*6+4);have fb5:=hB.frozen (j*6+5);have HST:=zH (by
    have h1:=own_setCells (eCMK y) (i*6) wr _ HR.out.1 (by rw[eCMK_len];omega);have f1:=flat_put eCMK_len (swL l a b i0) i hil y 0 (eCMK y) (by rw[eCMK_len];omega) (by simp [eCMK_len]);simp only[Nat.add_zero] at f1;rw[f1] at h1;have h2:=own_setCells (eCMK x) (j*6) _ _ h1 (by rw[eCMK_len];omega);have f2:=flat_put eCMK_len ((swL l a b i0).set i y) j (by rw[List.length_set];exact hjl) x 0 (eCMK x) (by rw[eCMK_len];omega) (by simp [eCMK_len]);simp only[Nat.add_zero] at f2;rw[f2,←hstep] at h2;exact zA h2 (grown_setCells (eCMK x) (j*6) _ (grown_setCells (eCMK y) (i*6) wr HR.out.2)))
   clear hcell hci hcj hstep hx hy hB htk hcs hiE hjE;(obtain⟨q1,q2,q3⟩:(j:Int)<n∧(i:Int)<n∧i≠j:=by omega);have w1:IntKind.i64.wrap ((i0:Int)+1)=i0+1:=IntWalk.i64_in _ (by omega);(go_wp2_with fail);(go_region);all_goals
    (go_wp2_with fail);go_roundw
    case rel=>exact⟨i0+1,by go_num,by omega,own_drew HST.out.1,grown_drew HST.out.2⟩
    case measure=>simp [intOf];omega
  ·obtain rfl:i0=k:=by omega
   (go_wp2_with fail);(go_end0);exact⟨rfl,HR.out.1,HR.out.2⟩
end Go.Proofs.YtnpehjgnplaabaaGreatDoor
namespace Sw
open Go Go.RowKit
section
variable {P:Program}
theorem run_app_nilc (w:World)(base:Nat)(t ty e:TypeId)(i:TypeInfo)(size:Nat)(ht:P.underlying t=some (.slice e))(hi:P.info? e=some i)(v:Value)(n:Nat)(xs:List Value)(hown:w.ownsRow base e size v n xs)(c:Nat):
  (Builtin.append_ #[t,t] ty #[v,.slice none 0 c]).run P w= .ok v w:=by
 obtain⟨A,k,rfl,hnk,_,_⟩:=SlV_of_any hown;cases A<;>simp [Builtin.append_,run_underlying ht,Builtin.lenOf,Builtin.firstCells,Go.sizeOf,typeInfo,hi,hnk,Go.loadCells,Go.storeCells]
theorem wpList_app_slv {w:World}{ops:Array Oper}{rest:List Oper}{o:Oper}{a:Act}{Q:Exit→Act→World→Prop}(hgd:o.guard=none)(s x:Operand)(t:TypeId)
  (ho:o.op= .call {callee:= .builtin .append,args:= #[s,x],argTypes:= #[t,t]})
  (base:Nat) (e:TypeId) (z:Value) (size bytes:Nat) (ht:P.underlying t=some (.slice e)) (hi:(P.info? e).map (fun i=>(i.zero,i.size,i.bytes))=some (some z,size,bytes)) (hzs:z.cells.size=size) (hsz:0<size)
  (v:Value) (n:Nat) (xs:List Value) (hs:a.eval s=v) (hown:w.ownsRow base e size v n xs)
  {α:Type} (E:α→List Value) (hE:∀y,(E y).length=size) (hE1:∀y,∀u∈E y,u.oneCell'=true) (u:Value) (l:List α) (hx:a.eval x=u) (hu:SlV w size E u l)
  (hn:n+l.length≤1000000) (hby:bytes≤1000000) (hbase:base≤w.heap.size)
  (h:∀v' w',w'.ownsRow base e size v' (n+l.length) (xs++l.flatMap E)→w.grownBy w' v.ownBlock→wpList P ops Q rest (a.put o.dst v') w'):wpList P ops Q (o::rest) a w:=by
 obtain⟨i,hi0,hz,hs2,hb⟩:=info_parts hi;obtain⟨A,c,rfl,hc1,hc2,hsl⟩:=hu;cases A with
 | none=>
  have h0:l=[]:=by
   cases l with
   | nil=>rfl
   | cons y l=>obtain⟨b,off,h,_⟩:=hsl (by simp);cases h
  subst h0;have hrun:=run_app_nilc w base t o.type e i size ht hi0 v n xs hown c;refine wpList_plain hgd fun K hK=>?_
  unfold Oper.wp;simp only[List.length_nil] at hx;simp [execOp,ho,resolve,invoke,builtin,hs,hx,hrun,Result.andThen]
  exact hK _ _ (h v w (by simpa using hown) (grown_refl _ _))
 | some ad=>
  have hlen:(l.flatMap E).length=l.length*size:=flat_len hE l;refine wpList_append_own (w:=w) hgd s x t ho base e i z size bytes ht hi0 hz hs2 hb hzs hsz v n xs hs hown ad l.length c (l.flatMap E) hx hlen ?_ ?_ (by unfold maxLen;omega) ?_ hbase (fun v' w' h1 h2 _=>h v' w' h1 h2)
  ·intro j q hj;have hjl:=(List.getElem?_eq_some_iff.1 hj).1;rw[hlen] at hjl;have hpos:0<l.length:=by
    rcases Nat.eq_zero_or_pos l.length with h0 | h0
    ·rw[h0] at hjl;omega
    ·exact h0
   obtain⟨b,off,hA,_,hcs⟩:=hsl hpos;rw[Option.some.inj hA,add_mk];have hq:j/size<l.length:=Nat.div_lt_of_lt_mul (by rw[Nat.mul_comm];exact hjl);have hr:j % size<size:=Nat.mod_lt _ hsz;(have hd:j/size*size+j % size=j:=by rw[Nat.mul_comm];exact Nat.div_add_mod j size);have h1:=flat_get hE l (j/size) hq (j % size) hr;rw[hd,hj] at h1;have h2:=hcs (j/size) hq (j % size) hr;rw[Nat.add_assoc,hd] at h2;rw[h2,←h1]
  ·intro q hq;rw[List.mem_flatMap] at hq;obtain⟨y,_,hy⟩:=hq;exact hE1 y q hy
  ·calc (n+l.length)*bytes≤1000000*1000000:=Nat.mul_le_mul hn hby
    _≤140737488355328:=by decide
end
end Sw
namespace Go.Proofs.YtnpehjgnplaabaaGreatDoor
open Go Go.RowKit
open Sw
def eCM (m:ByteArray×Pr):List Value:=[.string m.1,.int .i64 m.2.kind,.int .i64 m.2.mode,.int .u32 m.2.time,.int .i64 m.2.size,.int .u32 m.2.sum]
theorem eCM_len (m:ByteArray×Pr):(eCM m).length=6:=rfl
theorem eCM_one (m:ByteArray×Pr):∀u∈eCM m,u.oneCell'=true:=fun u hu=>by
 simp only[eCM,List.mem_cons,List.not_mem_nil,or_false] at hu;rcases hu with rfl | rfl | rfl | rfl | rfl | rfl<;>rfl
theorem infoMk:(Tryz.prog.info? 63).map (fun i=>(i.zero,i.size,i.bytes))=some (some (.agg #[.string ⟨#[]⟩,.int .i64 0,.int .i64 0,.int .u32 0,.int .i64 0,.int .u32 0]),6,56):=by kernel_rfl
theorem growM_any (w:World)(n:Nat)(hn:n≤1000000):
  Calls Tryz.prog 146 #[.slice none 0 0,.int .i64 n] w fun e w'=>∃u,e= .returned u∧w'.ownsRow w.heap.size 63 6 u 0 []∧Below w.heap.size w w':=by
 have hw0:IntKind.i64.wrap ((n:Int)-0)=n:=by rw[IntWalk.i64_in _ (by omega)];omega
 by_cases h0:n=0
 ·subst h0;go_enter Tryz.func146,Tryz.ntmps146
  go_wp2_with fail
  go_ret;exact⟨_,rfl,World.ownsRow_nil _ _ _ _,zR _ _⟩
 ·have hp:(0:Int)<n:=by omega
  obtain⟨i,hi,hz,hs2,hb⟩:=info_parts infoMk;obtain⟨G,hG⟩:∃G,grownCap w n 0 63=G:=⟨_,rfl⟩;have hGn:n≤G:=by rw[←hG];exact grownCap_ge w _ _ _
  have hG63:G≤maxLen:=by rw[←hG];exact grownCap_le_maxLen w n 0 63 (by unfold maxLen;omega)
  obtain⟨R,hR⟩:∃R:Array Value,Builtin.zeroCells (Value.cells (.agg #[.string ⟨#[]⟩,.int .i64 0,.int .i64 0,.int .u32 0,.int .i64 0,.int .u32 0])) n++Builtin.zeroCells (Value.cells (.agg #[.string ⟨#[]⟩,.int .i64 0,.int .i64 0,.int .u32 0,.int .i64 0,.int .u32 0])) (G-n)=R:=⟨_,rfl⟩;have hRl:R.size=G*6:=by
   rw[←hR];simp only[Array.size_append,size_zeroCells];(simp [Value.cells]);omega
  obtain⟨W0,hW0⟩:∃W0,w.drew.alloc (.cells R 63)=W0:=⟨_,rfl⟩;have hrz:∀ty,(Builtin.append_ #[22,3] ty #[.slice none 0 0,.int .i64 (n:Int)]).run Tryz.prog w= .ok (.slice (some ⟨w.heap.size,0,none⟩) n G) W0:=fun ty=>by
   have h:=Lib.run_append_nil_zeros w 22 3 ty 63 i _ .i64 .i64 Tryz.underlying22 Tryz.underlying3 hi hz n (by omega) (by omega) (by omega) (by rw[hb];omega);rw[h,hG,hR,hW0]
  have HF:=zH (show W0.ownsRow w.heap.size 63 6 (.slice (some ⟨w.heap.size,0,none⟩) 0 G) 0 []∧Below w.heap.size w W0 from by
   rw[←hW0];exact⟨own_mk (zN _) (Blk.new w.drew _ _) (Nat.zero_le _) hG63 (by rw[hRl]) (by simp),((zR _ w).drew).alloc (zN _) _⟩)
  have hG0:(0:Int)≤G:=by omega
  clear hRl hR hW0 hG hi hz hs2 hb hG63;go_enter Tryz.func146,Tryz.ntmps146
  go_wp2_with (at_builtin;refine Lib.wpList_append_run _ rfl _ _ _ _ rfl _ _ rfl rfl _ _ (hrz _) ?_)
  go_ret;exact⟨_,rfl,HF.out.1,HF.out.2⟩
theorem concatM_any (w:World)(g:Nat)(tg:TypeId)(u1 u2:Value)(l1 l2:List (ByteArray×Pr))(hg:Blk w g tg #[u1,u2])(h1:SlV w 6 eCM u1 l1)(h2:SlV w 6 eCM u2 l2)(hl1:l1.length≤100000)(hl2:l2.length≤100000):
  Calls Tryz.prog 103 #[.slice (some ⟨g,0,none⟩) 2 2] w fun e w'=>∃u,e= .returned u∧w'.ownsRow w.heap.size 63 6 u (l1++l2).length ((l1++l2).flatMap eCM)∧Below w.heap.size w w':=by
 have c0:=hg.cell 0;have c1:=hg.cell 1;simp at c0 c1
 have HG:=zH (growM_any w (l1.length+l2.length) (by omega));have H0:=zH (zA hg (zA h1 h2));obtain⟨A1,k1,rfl,_,_,_⟩:=h1;obtain⟨A2,k2,rfl,_,_,_⟩:=h2;obtain⟨n1,hn1⟩:∃n1,l1.length=n1:=⟨_,rfl⟩;obtain⟨n2,hn2⟩:∃n2,l2.length=n2:=⟨_,rfl⟩;have HL:=zH (zA hn1 hn2);rw[hn1] at HG H0 c0 hl1;rw[hn2] at HG H0 c1 hl2;have w1:IntKind.i64.wrap ((n1:Int))=n1:=IntWalk.i64_in _ (by omega);have w2:IntKind.i64.wrap ((n1:Int)+(n2:Int))=((n1+n2:Nat):Int):=by rw[IntWalk.i64_in _ (by omega)];omega
 obtain⟨p1,p2⟩:¬(n1:Int)<0∧¬((n1+n2:Nat):Int)<0:=by omega
 clear hg hn1 hn2;go_enter Tryz.func103,Tryz.ntmps103
 go_wp2_with fail
 go_loopw [3,11] (fun s iv wr=>wr=w∧((iv= .int .i64 0∧s= .int .i64 0)∨(iv= .int .i64 1∧s= .int .i64 n1)∨(iv= .int .i64 2∧s= .int .i64 ((n1+n2:Nat):Int)))) (fun _ iv _=>2-(intOf iv).toNat)
 case atStart=>exact⟨rfl,.inl ⟨rfl,rfl⟩⟩
 case round=>
  obtain⟨hw,h3⟩:=hrel;rw[hw];clear hw;rcases h3 with ⟨rfl,rfl⟩ | ⟨rfl,rfl⟩ | ⟨rfl,rfl⟩
  ·go_wp2_with fail
   go_roundw
   case rel=>exact⟨trivial,.inr (.inl ⟨by go_num,rfl⟩)⟩
   case measure=>simp [intOf]
  ·go_wp2_with fail
   go_roundw
   case rel=>exact⟨trivial,.inr (.inr ⟨by go_num,rfl⟩)⟩
   case measure=>simp [intOf]
  ·go_wp2_with fail
   refine HG.out.mono ?_;rintro e w3 ⟨u,rfl,ho3,hb3⟩;obtain⟨A3,k3,rfl,_,_,_⟩:=SlV_of_any ho3;have H3:=zH (zA ho3 hb3);clear ho3 hb3 HG;clear wr;(go_wp2_with fail);go_loopw [6,27] (fun o iv wr=>Below w.heap.size w wr∧((iv= .int .i64 0∧wr.ownsRow w.heap.size 63 6 o 0 [])∨(iv= .int .i64 1∧wr.ownsRow w.heap.size 63 6 o (0+l1.length) ([]++l1.flatMap eCM))∨(iv= .int .i64 2∧wr.ownsRow w.heap.size 63 6 o (0+l1.length+l2.length) ([]++l1.flatMap eCM++l2.flatMap eCM)))) (fun _ iv _=>2-(intOf iv).toNat)
   case atStart=>exact⟨H3.out.2,.inl ⟨rfl,H3.out.1⟩⟩
   case round=>
   obtain⟨hb,(⟨rfl,ho⟩ | ⟨rfl,ho⟩ | ⟨rfl,ho⟩)⟩:=hrel;all_goals have hbs:=hb.size
   ·have e0:=(H0.out.1.below hb H0.out.1.lt).cell 0;(simp at e0);have hs:=H0.out.2.1.below hb (zN _);obtain⟨A4,k4,rfl,_,_,_⟩:=SlV_of_any ho;have H4:=zH (zA ho (zA hb hs));clear ho hs hb;(go_wp2_with (at_builtin;refine wpList_app_slv rfl _ _ 22 rfl w.heap.size 63 _ _ _ Tryz.underlying22 infoMk rfl (by decide) _ 0 _ rfl H4.out.1 eCM eCM_len eCM_one _ l1 rfl H4.out.2.2 (by have:=HL.out;omega) (by decide) hbs ?_;intro v5 w5 ho5 hg5));obtain⟨A5,k5,rfl,_,_,_⟩:=SlV_of_any ho5;have H5:=zH (zA ho5 (H4.out.2.1.grown hg5 hbs (fun q hq=>(H4.out.1.lt q hq).1)));clear ho5 hg5;(go_wp2_with fail);go_roundw
    case rel=>exact⟨H5.out.2,.inr (.inl ⟨by go_num,H5.out.1⟩)⟩
    case measure=>simp [intOf]
   ·have e0:=(H0.out.1.below hb H0.out.1.lt).cell 1;(simp at e0);have hs:=H0.out.2.2.below hb (zN _);obtain⟨A4,k4,rfl,_,_,_⟩:=SlV_of_any ho;have H4:=zH (zA ho (zA hb hs));clear ho hs hb;(go_wp2_with (at_builtin;refine wpList_app_slv rfl _ _ 22 rfl w.heap.size 63 _ _ _ Tryz.underlying22 infoMk rfl (by decide) _ (0+l1.length) _ rfl H4.out.1 eCM eCM_len eCM_one _ l2 rfl H4.out.2.2 (by have:=HL.out;omega) (by decide) hbs ?_;intro v5 w5 ho5 hg5));obtain⟨A5,k5,rfl,_,_,_⟩:=SlV_of_any ho5;have H5:=zH (zA ho5 (H4.out.2.1.grown hg5 hbs (fun q hq=>(H4.out.1.lt q hq).1)));clear ho5 hg5;(go_wp2_with fail);go_roundw
    case rel=>exact⟨H5.out.2,.inr (.inr ⟨by go_num,H5.out.1⟩)⟩
    case measure=>simp [intOf]
   ·obtain⟨A4,k4,rfl,_,_,_⟩:=SlV_of_any ho;rw[HL.out.1,HL.out.2];have H4:=zH (zA ho hb);clear ho hb;rw[HL.out.1,HL.out.2] at H4;(go_wp2_with fail);go_ret;have h9:wr.ownsRow w.heap.size 63 6 (.slice A4 (0+n1+n2) k4) (l1++l2).length ((l1++l2).flatMap eCM):=by
     rw[zF,List.flatMap_append,HL.out.1,HL.out.2];have:=H4.out.1;rw[List.nil_append] at this;rw[Nat.zero_add] at this⊢;exact this
    exact⟨_,rfl,h9,H4.out.2⟩
end Go.Proofs.YtnpehjgnplaabaaGreatDoor
namespace Go.Proofs.YtnpehjgnplaabaaGreatDoor
open Go Go.ChangeShapes Go.WideShapes Go.ChangeAt Go.RowKit
open Sw
def MkIn (m:ByteArray×Pr):Prop:=m.1.size≤maxLen∧m.2.In
theorem dec_mark {H:Type}{enc:TypeId×Value→H}{w:World}(fuel:Nat)(cs:List Value)(x:DataW H×List MemPlace)(h:DataW.trod enc Tryz.prog w 0 (fun _=>true) true fuel 63 cs=some x):
  ∃e:ByteArray×Pr,cs=eCM e∧MkIn e:=by
 obtain⟨y0,y1,n,_,hl,h0,h1⟩:=trod_struct2 Tryz.underlying63 h;have hl6:cs.length=6:=hl.trans (by kernel_rfl)
 match cs,hl6 with
 | [c0,c1,c2,c3,c4,c5],_=>
  rw[show Tryz.prog.cellsOf 9=1 by kernel_rfl] at h0;rw[show Tryz.prog.cellsOf 61=5 by kernel_rfl] at h1;simp only[List.drop_zero,List.drop_succ_cons,List.take_succ_cons,List.take_zero] at h0 h1;obtain⟨s,hs,_,hsz⟩:=DataW.trod_string Tryz.underlying9 h0;simp at hs
  subst hs;obtain⟨m,hm,hin⟩:=dec_print _ _ _ h1;simp [Pr.c] at hm
  obtain⟨rfl,rfl,rfl,rfl,rfl⟩:=hm;exact⟨(s,m),rfl,hsz,hin⟩
theorem open_base {H:Type}{enc:TypeId×Value→H}{w:World}{r:Reach}{b0:Nat}{v:Value}{d:DataW H}{p:List MemPlace}(hv:Value.okWide Tryz.prog w r b0 24 v)(h:DataW.Trod enc Tryz.prog w 0 (fun _=>true) true 24 v d p):
  ∃(u1 u2:Value) (l1 l2:List (ByteArray×Pr)),v= .agg #[u1,u2]∧SlV w 6 eCM u1 l1∧SlV w 6 eCM u2 l2∧(∀m∈l1,MkIn m)∧∀m∈l2,MkIn m:=by
 obtain⟨cs,rfl,hsz⟩:=okWide_struct Tryz.underlying24 hv;obtain⟨fuel,hf⟩:=h;obtain⟨y0,y1,n,_,hl,h0,h1⟩:=trod_struct2 Tryz.underlying24 hf;have hl2:cs.toList.length=2:=hl.trans (by kernel_rfl);obtain⟨c0,c1,hcs⟩:∃c0 c1,cs.toList=[c0,c1]:=by
  match hq:cs.toList,hl2 with
  | [c0,c1],_=>exact⟨c0,c1,rfl⟩
 rw[show(Value.agg cs).cells.toList=[c0,c1] from hcs] at h0 h1;rw[show Tryz.prog.cellsOf 22=1 by kernel_rfl] at h0 h1;simp only[List.drop_zero,List.drop_succ_cons,List.take_succ_cons,List.take_zero] at h0 h1;obtain⟨A1,m1,k1,l1,e1,q1,q2,q3,q4,q5⟩:=slice_of_trodB (size:=6) eCM MkIn Tryz.underlying22 (by kernel_rfl) (by decide) dec_mark h0;obtain⟨A2,m2,k2,l2,e2,p1,p2,p3,p4,p5⟩:=slice_of_trodB (size:=6) eCM MkIn Tryz.underlying22 (by kernel_rfl) (by decide) dec_mark h1;simp at e1 e2
 subst e1 e2 q3 p3;exact⟨_,_,l1,l2,by congr 1;exact Array.ext' hcs,⟨A1,k1,rfl,q1,q2,q4⟩,⟨A2,k2,rfl,p1,p2,p4⟩,q5,p5⟩
theorem open_items2 {H:Type}{enc:TypeId×Value→H}{w:World}{r:Reach}{b0:Nat}{v:Value}{d:DataW H}{p:List MemPlace}(hv:Value.okWide Tryz.prog w r b0 26 v)(h:DataW.Trod enc Tryz.prog w 0 (fun _=>true) true 26 v d p):
  ∃(v1 v2:Value) (xs ys:List NE),v= .agg #[v1,v2]∧SlV w 5 eCSN v1 xs∧SlV w 5 eCSN v2 ys∧(∀x∈xs,NEIn x)∧∀x∈ys,NEIn x:=by
 obtain⟨l,rfl,hl,hV⟩:=open_array_dec (n:=2) (e:=25) (fun a:Value×List NE=>a.1) (fun a=>SlV w 5 eCSN a.1 a.2∧∀x∈a.2,NEIn x) Tryz.underlying26 (by kernel_rfl) (by kernel_rfl) (fun fuel c x hx=>by
  obtain⟨A1,m1,k1,l1,e1,q1,q2,q3,q4,q5⟩:=slice_of_trodB (size:=5) eCSN NEIn Tryz.underlying25 (by kernel_rfl) (by decide) dec_item hx;simp at e1
  subst e1 q3;exact⟨(_,l1),rfl,⟨A1,k1,rfl,q1,q2,q4⟩,q5⟩) hv h
 match l,hl with
 | [a,b],_=>exact⟨a.1,b.1,a.2,b.2,rfl,(hV a (by simp)).1,(hV b (by simp)).1,(hV a (by simp)).2,(hV b (by simp)).2⟩
end Go.Proofs.YtnpehjgnplaabaaGreatDoor
namespace Go.Proofs.YtnpehjgnplaabaaGreatDoor
open Go Go.RowKit
open Sw
theorem treeAll_any (w:World)(bt bm:Nat)(xs:List NE)(h:TreeAt w bt bm xs):
  Calls Tryz.prog 41 #[.pointer (some ⟨bt,0,none⟩)] w (SeqOfSN xs w):=by
 have HL:=zH (srtAllSN_any w bm xs h.map);have c0:=h.box.cell 0;simp at c0
 clear h;go_enter Tryz.func41,Tryz.ntmps41
 go_wp2_with fail
 refine HL.out.mono ?_;rintro e w1 ⟨gb,v,rfl,h1,h2,h3,h4,h5⟩;have HF:=zH (⟨gb,v,rfl,h1,h2,h3,h4,h5⟩:SeqOfSN xs w (.returned (.func (.func 154) #[] #[.pointer (some ⟨gb,0,none⟩)])) w1);clear h1 h2 h3 h4 h5 HL;go_wp2_with fail
 go_ret;exact HF.out
end Go.Proofs.YtnpehjgnplaabaaGreatDoor
namespace Go.Proofs.YtnpehjgnplaabaaGreatDoor
open Go Go.RowKit Go.Shelf
open Sw
attribute [local go_sem] Oper.semAt_some
end Go.Proofs.YtnpehjgnplaabaaGreatDoor
namespace Go.Proofs.YtnpehjgnplaabaaGreatDoor
open Go Go.RowKit
open Sw
theorem OwnIt.app {w':World}{base g cap n:Nat}{l:List NE}{x:NE}(h:w'.ownsRow base 59 5 (.slice (some ⟨g,0,none⟩) (n+1) cap) (n+1) (l.flatMap eCSN++[.string x.1,.int .i64 x.2.kind,.int .i64 x.2.mode,.int .u32 x.2.time,.string x.2.data]))(hn:l.length=n):OwnIt w' base (.slice (some ⟨g,0,none⟩) (n+1) cap) (l++[x]):=by
 unfold OwnIt;rw[zF,List.length_singleton,hn,List.flatMap_append]
 simpa [eCSN] using h
end Go.Proofs.YtnpehjgnplaabaaGreatDoor
namespace Go.Proofs.YtnpehjgnplaabaaGreatDoor
open Go Go.RowKit Go.Shelf
open Sw
attribute [local go_sem] Oper.semAt_some
def ItI (T gb:Nat) (v:Value) (xs:List NE) (pre:List NE) (W:World):Prop:=gb<W.heap.size∧(∃o,Blk W T 25 #[o]∧OwnIt W T o pre)∧Blk W gb 137 #[v]∧Lies W 146 5 eCSN v xs
theorem ItI.own (T gb:Nat)(v:Value)(xs:List NE):Own (ItI T gb v xs):=fun _ A B row hs hg hr=>⟨zQ hs.1 hg.size,by obtain⟨o,h1,h2⟩:=hs.2.1;exact⟨o,blk_ownF h1 hg hr,own_ownF h2 hg hr⟩,blk_ownF hs.2.2.1 hg hr,hs.2.2.2.ownF hg hr⟩
theorem ItI.below {T gb:Nat}{v:Value}{xs pre:List NE}{A B:World}(hs:ItI T gb v xs pre A)(hb:Below A.heap.size A B):ItI T gb v xs pre B:=⟨zQ hs.1 hb.size,by obtain⟨o,h1,h2⟩:=hs.2.1;exact⟨o,h1.below hb h1.lt,h2.below hb⟩,hs.2.2.1.below hb hs.2.2.1.lt,hs.2.2.2.below hb⟩
theorem treeItems_any (w:World)(bt bm:Nat)(xs:List NE)(h:TreeAt w bt bm xs)(hn:xs.length≤1000):
  Calls Tryz.prog 11 #[.pointer (some ⟨bt,0,none⟩)] w fun e w'=>∃r,e= .returned r∧OwnIt w' w.heap.size r xs∧Below w.heap.size w w':=by
 have b0:=Blk.new w 25 #[.slice none 0 0];have hB:Below w.heap.size w (w.alloc (.cells #[.slice none 0 0] 25)):=(zR _ w).alloc (zN _) _;have hT:=h.below hB;clear h;refine callsIn_wide.1 (?_:CallsIn Fence.wide 9 _ _ _ _ _);refine callsIn_of_wp_marks Tryz.func11 rfl trivial ?_ rfl;simp only[Tryz.ntmps11,List.size_toArray,zI,List.length_nil,Nat.reduceAdd,Nat.reduceSub,Array.replicate_succ,Array.replicate_zero,List.push_toArray,List.append_toArray,List.nil_append,List.cons_append];have H0:=zH (zA b0 (zA hB hT));clear b0 hB hT;gi_wp2
 obtain⟨w1,hw1⟩:∃w1,w.alloc (.cells #[.slice none 0 0] 25)=w1:=⟨_,rfl⟩;rw[hw1] at H0;rw[hw1];clear hw1;refine⟨trivial,(callsIn_wide.2 (treeAll_any w1 bt bm xs H0.out.2.2)).mono ?_⟩;rintro e w2 ⟨gb,v,rfl,hgb,hL,hge,hvb,hb2⟩;have B0:=H0.out.1.below hb2 H0.out.1.lt;have hTgb:w.heap.size≠gb:=by have:=H0.out.1.lt;omega
 have HNE:=zH hTgb;clear hTgb;have hBw:=H0.out.2.1.trans (hb2.mono H0.out.2.1.size);have hz2:w.heap.size<w2.heap.size:=B0.lt;clear hb2 hge;gi_wp2
 obtain⟨T,hTe⟩:∃T,T=w.heap.size:=⟨_,rfl⟩;rw[←hTe] at B0 hBw hz2 HNE⊢;have HTE:=zH hTe;clear hTe H0;have hgl:=hgb.lt;refine wpIn_rangeFunc_tellW (Mine:=fun _=>False) (fun _ h=>h.elim) rfl (by omega) (gf:=154) (lb:= #[.pointer (some ⟨gb,0,none⟩)]) rfl trivial (enters_of Tryz.func154 (by kernel_rfl) rfl)
  (toldSN_tells 8 (by omega) gb v xs w2 hgb hL (by omega)) KeepIt.trans (keepIt_b hgl hvb) (zR _ _) (fun _=>rfl)
  (fun pre W=>ItI T gb v xs pre W∧Below T w W)
  (fun c pre W=>False)
  (OwnM.of_none (OwnFrom.and (Own.from (ItI.own T gb v xs) _) (ownFrom_below (by have:=HTE.out;omega) (by omega))))
  (fun c=>OwnM.of_none (fun _ _ _ _ hs _ _=>hs.elim))
  ⟨⟨hgl,⟨_,B0,World.ownsRow_nil _ _ _ _⟩,hgb,hL⟩,hBw⟩
  (fun x n₀=>{tmps:= #[.pointer (some ⟨bt,0,none⟩),undef,.pointer (some ⟨T,0,none⟩),.string x.1,.pointer (some ⟨n₀,0,none⟩),.pointer (some ⟨bt,0,none⟩),.func (.func 154) #[] #[.pointer (some ⟨gb,0,none⟩)],.string x.1,.agg x.2.c,undef,undef,undef,undef,undef,undef,undef],defers:=[]}) (fun x W=>W.alloc (.cells x.2.c 57))
  (fun x n₀ pre W=>ItI T gb v xs pre W∧Below T w W∧Blk W n₀ 57 x.2.c) (fun x n₀=>OwnM.of_none (OwnFrom.and (Own.from (ItI.own T gb v xs) _) (OwnFrom.and (ownFrom_below (by have:=HTE.out;omega) (by omega)) (Own.from (fun _ A B row hs hg hr=>blk_ownF hs hg hr) _)))) ?made ?assign ?body ?done ?stop
 case assign=>
  rintro l ⟨q,kd,md,tm,dt⟩ n₀ W rfl K hK;simp only[Nd.c] at hK⊢;gi_wp2
  exact hK
 case made=>
  rintro pre x W ⟨hI,hB⟩ hT;have hba:=(zR W.heap.size W).alloc (zN _) (.cells x.2.c 57);obtain⟨o,c0,_⟩:=hI.2.1;refine⟨⟨hI.below hba,hB.alloc (Nat.le_of_lt c0.lt) _,Blk.new _ _ _⟩,?_,?_⟩
  ·exact keeps_belowF hba
  ·exact .below hba hI.2.2.1.lt (fun g hg=>by
    obtain⟨r,hr⟩:=hT;obtain⟨A,c,rfl,_,_,hx⟩:=hI.2.2.2;obtain⟨g2,off,cur,rfl,hB,_⟩:=hx (by rw[←hr];simp;omega);(cases hg);exact hB.lt)
 case body=>
  rintro l pre x n₀ W ⟨⟨hgl2,⟨o,b1,ho⟩,hg,hL⟩,hB,hX⟩ hT;have hx0:0<xs.length:=by obtain⟨r,hr⟩:=hT;rw[←hr];simp;omega
  have hpl:pre.length+1≤1000:=by obtain⟨r,hr⟩:=hT;have:=congrArg List.length hr;simp at this;omega
  have x0:=hX.cell 0;have x1:=hX.cell 1;have x2:=hX.cell 2;have x3:=hX.cell 3;simp [Nd.c] at x0 x1 x2 x3
  have m1:=b1.cell 0;have f1:=b1.frozen 0;simp at m1
  obtain⟨A3,c3,rfl,_,_,_⟩:=SlV_of_any ho;have hTW:=Nat.le_of_lt b1.lt;have HH:=zH (zA b1 (zA ho (zA hg (zA hL hB))));clear b1 ho hg hL hB hX hT;gi_wp2_with (gi_at_builtin;refine wpListIn_app rfl _ _ 25 rfl T 59 (.agg #[.string ⟨#[]⟩,.int .i64 0,.int .i64 0,.int .u32 0,.string ⟨#[]⟩]) 5 56 Tryz.underlying25 infoIt rfl (by decide) _ pre.length _ rfl (HH.out.2.1.alloc _) W.heap.size 1 #[.string x.1,.int .i64 x.2.kind,.int .i64 x.2.mode,.int .u32 x.2.time,.string x.2.data] 59 rfl (Blk.new _ _ _) rfl (by simp [Value.oneCell']) (by omega) (by decide) (by simp;omega) _ rfl ?_;intro g cap w5 hown1 hgrow1 hat hlt1;have hb5:=app_pre HH.out.1 HH.out.2.1 ((zR _ _).alloc (zN _) _) hgrow1 (by decide);have c5:=hb5.cell 0;have f5:=hb5.frozen 0;simp at c5)
  have hA:=app_body HH.out.1 HH.out.2.1 ((zR _ _).alloc (zN _) _) hgrow1 hown1 (by omega) (zN _) (by decide);have hK:=hA.keepIt HH.out.2.2.1 HH.out.2.2.2.1 hx0 (by decide) HNE.out.symm (by decide) (by decide);refine⟨hA.keeps,hK,⟨zQ hgl2 hA.below.size,⟨_,hA.box,?_⟩,hA.far _ _ _ HH.out.2.2.1 (by decide) HNE.out.symm,HH.out.2.2.2.1.kept (fun g cur h _=>hK.row g h)⟩,HH.out.2.2.2.2.trans hA.below⟩;exact OwnIt.app hA.own rfl
 case done=>
  rintro D zs W hD hzs ⟨⟨_,⟨o,b1,ho⟩,_,_⟩,hB⟩ hK;have hz:zs=xs:=hzs;subst hz;have m1:=b1.cell 0;have f1:=b1.frozen 0;simp at m1
  obtain⟨A3,c3,rfl,_,_,_⟩:=SlV_of_any ho;have hD':w.heap.size≤D:=by have:=HTE.out;omega
  have HC:=zH (zA b1 (zA ho (zA hB hK)));clear b1 ho hB hK hzs;gi_wp2
  have hK2:(W.setCell ⟨T,0,none⟩ (.slice A3 zs.length c3)).heap[D]? =some (Obj.deferred (some [])):=(KeepsOthers.setCell W ⟨T,0,none⟩ (.slice A3 zs.length c3)).same D _ HC.out.2.2.2 rfl;have hR2:Blk (W.setCell ⟨T,0,none⟩ (.slice A3 zs.length c3)) T 25 #[.slice A3 zs.length c3]:=HC.out.1.put 0 (.slice A3 zs.length c3);have hO2:OwnIt (W.setCell ⟨T,0,none⟩ (.slice A3 zs.length c3)) T (.slice A3 zs.length c3) zs:=HC.out.2.1.kept (grown_put (grown_refl W (some T)) 0 _) (.inr (own_ne_blk HC.out.2.1 HC.out.1 (by decide)));have hB2:=HC.out.2.2.1.setCell (p:=⟨T,0,none⟩) (zN _) (.slice A3 zs.length c3);have hw:=fun r (e:some D=some r)=>show∃o:Obj,(W.setCell ⟨T,0,none⟩ (.slice A3 zs.length c3)).heap[r]? =some o∧o.isCells=false from(by cases e;exact⟨_,hK2,rfl⟩)
  refine⟨by simp,.inl ⟨_,_,rfl,run_takeDeferred hK2,?_⟩⟩;refine⟨_,res_cell_sl rfl _ _ T 25 (.slice A3 zs.length c3) rfl (blk_ownF hR2 (grownBy_putObj' _ D (.deferred none)) hw) Tryz.underlying25,⟨_,rfl,?_,?_⟩⟩
  ·rw[←HTE.out];exact own_ownF hO2 (grownBy_putObj' _ D (.deferred none)) hw
  ·exact(hB2.mono (by have:=HTE.out;omega)).trans (belowK_b (w:=w) (zN _) _ D _ _ hD' hK2 rfl rfl)
 case stop=>
  rintro D c pre W hD hSp h;exact h.elim
end Go.Proofs.YtnpehjgnplaabaaGreatDoor
namespace Go.Proofs.YtnpehjgnplaabaaGreatDoor
open Go Go.RowKit
open Sw
def awayT (p:ByteArray) (x:NE):Bool:= !decide (x.1=p)&& !inS (upsS x.1) p
theorem treeUnder1_any (w:World)(g:Nat)(p:ByteArray)(x:NE)(hB:Blk w g 9 #[.string p])(hp:p.size≤90000)(hx:x.1.size≤90000):
  Calls Tryz.prog 100 #[.agg #[.string x.1,.int .i64 x.2.kind,.int .i64 x.2.mode,.int .u32 x.2.time,.string x.2.data],.pointer (some ⟨g,0,none⟩)] w fun e w'=>e= .returned (.bool (awayT p x))∧Below w.heap.size w w':=by
 have c0:=hB.cell 0;simp at c0
 have hg:=hB.lt;have hse:=str_eq x.1 p;have HU:=zH (under_any (w.alloc (.cells #[.string x.1,.int .i64 x.2.kind,.int .i64 x.2.mode,.int .u32 x.2.time,.string x.2.data] 59)) p x.1 (by omega));have HB1:=zH ((zR w.heap.size w).alloc (zN _) (.cells #[.string x.1,.int .i64 x.2.kind,.int .i64 x.2.mode,.int .u32 x.2.time,.string x.2.data] 59));clear hB;unfold awayT;by_cases hk:x.1=p
 ·rw[zE hk] at hse⊢;have hse2:(!(x.1.toList==p.toList))=false:=by rw[hse];rfl
  clear hk;go_enter Tryz.func100,Tryz.ntmps100
  go_wp2_with fail
  go_ret;exact⟨rfl,HB1.out⟩
 ·rw[zD hk] at hse⊢;have hse2:(!(x.1.toList==p.toList))=true:=by rw[hse];rfl
  clear hk;generalize inS (upsS x.1) p=R at*;go_enter Tryz.func100,Tryz.ntmps100
  go_wp2_with fail
  refine HU.out.mono ?_;rintro _ w2 ⟨rfl,hb2⟩;have HB2:=zH (HB1.out.trans (hb2.mono HB1.out.size));clear hb2;go_wp2_with fail
  go_ret;exact⟨by cases R<;>rfl,HB2.out⟩
def eCIT (e:ByteArray×Nd):List Value:=[.string e.1,.int .i64 e.2.kind,.int .i64 e.2.mode,.int .u32 e.2.time,.string e.2.data]
theorem eCIT_len (e:ByteArray×Nd):(eCIT e).length=5:=rfl
def IdxPostIT {α:Type} (p:α→Bool) (l:List α) (w:World) (e:Ending) (w':World):Prop:=
 ((∃i:Nat,∃h:i<l.length,(∀m (h:m<l.length),m<i→p l[m]=false)∧p l[i]=true∧e= .returned (.int .i64 i))∨((∀x∈l,p x=false)∧e= .returned (.int .i64 (-1))))∧Below w.heap.size w w'
theorem slIndexFuncIT_any (p:ByteArray×Nd→Bool)(r0:Option Nat)(C:World→Prop)(hC:∀W W',C W→W.grownBy W' r0→C W')(w:World)(A:Option Addr)(n c g:Nat)(l:List (ByteArray×Nd))(hl:l.length=n)(hn:n≤1000000)(hsl:SlOf w 5 eCIT A l)(h0:C w)
  (hcall:∀W x,x∈l→C W→Calls Tryz.prog 100 #[.agg (eCIT x).toArray,.pointer (some ⟨g,0,none⟩)] W fun e w'=>e= .returned (.bool (p x))∧Below W.heap.size W w'):
  Calls Tryz.prog 140 #[.slice A n c,.func (.func 100) #[] #[.pointer (some ⟨g,0,none⟩)]] w (IdxPostIT p l w):=by
 have HS:=zH hsl;clear hsl;have HL:=zH hl;clear hl;have HC:=zH hC;clear hC;have HCL:=zH hcall;clear hcall;have H0:=zH h0;clear h0;go_enter Tryz.func140,Tryz.ntmps140
 go_wp2_with fail
 go_loopw [8] (fun iv wr=>∃i:Nat,i≤n∧iv= .int .i64 i∧(∀m (h:m<l.length),m<i→p l[m]=false)∧Below w.heap.size w wr) (fun iv _=>n-(intOf iv).toNat)
 case atStart=>exact⟨0,Nat.zero_le _,rfl,fun m h h'=>absurd h' (Nat.not_lt_zero _),zR _ _⟩
 case round=>
  obtain⟨i,hin,rfl,hno,hbr⟩:=hrel;have HNO:=zH hno;clear hno;by_cases hlt:i<n
  ·have hiL:i<l.length:=by have:=HL.out;omega
   obtain⟨b,off,rfl,hbb,_⟩:=(HS.out.below hbr (zN _)) (by omega);have HR:=zH ((HS.out.below hbr (zN _)).range eCIT_len i hiL);have HF:=zH (HCL.out wr l[i] (zP hiL) (HC.out w wr H0.out (grown_below hbr)));have HYES:=zH (fun(hp:p l[i]=true) w' (hb:Below w.heap.size w w')=>(⟨.inl ⟨i,hiL,HNO.out,hp,rfl⟩,hb⟩:IdxPostIT p l w (.returned (.int .i64 i)) w'));have HNO2:=zH (fun(hp:p l[i]=false) m (hm:m<l.length) (hmi:m<i+1)=>(by
    by_cases e:m=i
    ·subst e;exact hp
    ·exact HNO.out m hm (by omega):p l[m]=false))
   have HX:=zH (eCIT_len l[i]);generalize p l[i]=pv at*;generalize eCIT l[i]=ev at*;(have q2:(i:Int)<n:=by omega);cases pv with
   | true=>
    have hyes:=HYES.out rfl;have HYES2:=zH hyes;clear hyes HYES HNO2;(go_wp2_with (refine wpList_load_mid rfl 59 (.tmp 14) rfl b (off+i*5) rfl ev _ HR.out Tryz.underlying59 rfl (by rw[HX.out];kernel_rfl) ?_));refine HF.out.mono ?_;rintro e w2 ⟨rfl,hb2⟩;have HP:=zH (HYES2.out w2 (hbr.trans (hb2.mono hbr.size)));clear HR HF HNO;(go_wp2_with fail);go_ret;exact HP.out
   | false=>
    have hno2:=HNO2.out rfl;have HNO3:=zH hno2;clear hno2 HYES HNO2;(go_wp2_with (refine wpList_load_mid rfl 59 (.tmp 14) rfl b (off+i*5) rfl ev _ HR.out Tryz.underlying59 rfl (by rw[HX.out];kernel_rfl) ?_));refine HF.out.mono ?_;rintro e w2 ⟨rfl,hb2⟩;have HP:=zH (zA HNO3.out (hbr.trans (hb2.mono hbr.size)));clear HR HF HNO;(go_wp2_with fail);go_roundw
    case rel=>exact⟨i+1,by omega,by go_num,HP.out.1,HP.out.2⟩
    case measure=>simp [intOf];omega
  ·obtain rfl:i=n:=by omega
   have hpst:IdxPostIT p l w (.returned (.int .i64 (-1))) wr:=⟨.inr ⟨fun x hx=>by
    obtain⟨m,hm,rfl⟩:=List.mem_iff_getElem.1 hx;exact HNO.out m hm (by have:=HL.out;omega),rfl⟩,hbr⟩
   have HP:=zH hpst;clear hpst;(go_wp2_with fail);go_ret;exact HP.out
def DelFPostIT (base:Nat) (l:List (ByteArray×Nd)) (row:Option Nat) (w:World) (e:Ending) (w':World):Prop:=
 ∃v,e= .returned v∧w'.ownsRow base 59 5 v l.length (l.flatMap eCIT)∧w.grownBy w' row∧v.ownBlock=row
theorem slDelFuncIT_any (p:ByteArray×Nd→Bool)(C:World→Prop)(w:World)(base:Nat)(v:Value)(l:List (ByteArray×Nd))(hown:w.ownsRow base 59 5 v l.length (l.flatMap eCIT))(hC:∀W W',C W→W.grownBy W' v.ownBlock→C W')(gp:Nat)(hn:l.length≤1000000)(h0:C w)
  (hcall:∀W x,x∈l→C W→Calls Tryz.prog 100 #[.agg (eCIT x).toArray,.pointer (some ⟨gp,0,none⟩)] W fun e w'=>e= .returned (.bool (p x))∧Below W.heap.size W w'):
  Calls Tryz.prog 99 #[v,.func (.func 100) #[] #[.pointer (some ⟨gp,0,none⟩)]] w (DelFPostIT base (l.filter fun x=> !p x) v.ownBlock w):=by
 have hslv:SlV w 5 eCIT v l:=SlV.of_own hown eCIT_len (by decide);obtain⟨A,c,rfl,hc1,hc2,hsl⟩:=hslv;have HIX:=zH (slIndexFuncIT_any p _ C hC w A l.length c gp l rfl hn hsl h0 hcall);have HO:=zH hown;clear hown;have HC:=zH hC;clear hC;have HCL:=zH hcall;clear hcall;have H0:=zH h0;clear h0;clear hsl;go_enter Tryz.func99,Tryz.ntmps99
 go_wp2_with fail
 refine HIX.out.mono ?_;rintro e w1 ⟨⟨i0,hi0,hno,hyes,rfl⟩ | ⟨hnone,rfl⟩,hb1⟩
 ·have hne:((i0:Int)== -1)=false:=by rw[zB];omega
  obtain⟨g,cap0,cur0,hA,hbg0,hB0,hnc0,hcm0,hcs0,htk0⟩:=own_form HO.out (by omega);obtain⟨rfl,rfl⟩:A=some ⟨g,0,none⟩∧c=cap0:=by injection hA with e1 e2 e3;exact⟨e1,e3⟩
  have HFI:=zH (show(l.take i0).filter (fun x=> !p x)=l.take i0∧(l.take (i0+1)).filter (fun x=> !p x)=l.take i0 from by
   have h1:(l.take i0).filter (fun x=> !p x)=l.take i0:=by
    rw[List.filter_eq_self];intro x hx;obtain⟨m,hm,rfl⟩:=List.mem_iff_getElem.1 hx;rw[zL] at hm;rw[List.getElem_take,hno m (by omega) (by omega)];rfl
   refine⟨h1,?_⟩;rw[zG hi0,List.filter_append,h1];simp [hyes])
  have HB1:=zH (zA hb1 (own_kept HO.out hb1));clear hb1 hno hyes hB0 htk0 hcs0;have hi30:(i0:Int)+1≤1000001:=by omega
  obtain⟨n,hnl⟩:∃n,l.length=n:=⟨_,rfl⟩;rw[hnl] at HO HB1 hi0 hn hc1 hnc0;unfold maxLen at hc2 hcm0;rw[hnl];have HNL:=zH hnl;clear hnl hA hcm0;go_wp2_with fail
  go_loopw [5,6] (fun iv jv wr=>∃i j:Nat,i<j∧j≤n∧iv= .int .i64 i∧jv= .int .i64 j∧∃cs:List (ByteArray×Nd),cs.length=n∧wr.ownsRow base 59 5 (.slice (some ⟨g,0,none⟩) n c) n (cs.flatMap eCIT)∧cs.take i=(l.take j).filter (fun x=> !p x)∧cs.drop j=l.drop j∧w.grownBy wr (some g)) (fun _ jv _=>n-(intOf jv).toNat)
  case atStart=>exact⟨i0,i0+1,by omega,by omega,rfl,by go_num,l,HNL.out,HB1.out.2,HFI.out.2.symm,rfl,grown_below HB1.out.1⟩
  case round=>
   obtain⟨i,j,hij,hjn,rfl,rfl,cs,hcl,ho,htk,hdr,hg⟩:=hrel;have HR:=zH (zA ho (zA htk (zA hdr (zA hg hcl))));clear ho htk hdr hg hcl;by_cases hlt:j<n
   ·obtain⟨gp',cap,cur,hA,hbg,hB,hnc,hcm,hcs,htk⟩:=own_form HR.out.1 (by omega);(obtain⟨rfl,rfl⟩:g=gp'∧c=cap:=by injection hA with e1 e2 e3;exact⟨congrArg Addr.block (Option.some.inj e1),e3⟩);(have hjl:j<cs.length:=by rw[HR.out.2.2.2.2];exact hlt);(have hjL:j<l.length:=by rw[HNL.out];exact hlt);have hxe:cs[j]=l[j]:=by
     (have h1:(cs.drop j)[0]? =(l.drop j)[0]? :=by rw[HR.out.2.2.1]);rw[List.getElem?_drop,List.getElem?_drop,Nat.add_zero,zM hjl,zM hjL] at h1;exact Option.some.inj h1
    have hcj:=fun(q:Nat) (hq:q<5)=>(by
     have h1:=flat_get eCIT_len cs j hjl q hq;(have h2:j*5+q<n*5:=by have:(j+1)*5≤n*5:=Nat.mul_le_mul_right _ hlt;omega);rw[hB.cell,←Array.getElem?_toList,←h1,←htk,List.getElem?_take,if_pos h2]:wr.cell? ⟨g,j*5+q,none⟩=(eCIT cs[j])[q]?)
    simp only[hxe] at hcj;have hmem:l[j]∈l:=zP hjL;obtain⟨x,hx⟩:∃x,l[j]=x:=⟨_,rfl⟩;rw[hx] at hmem;simp only[hx] at hcj;have HX:=zH hx;clear hx hxe;have hcw:C wr:=HC.out w wr H0.out HR.out.2.2.2.1;have hcw1:C (wr.alloc (.cells (eCIT x).toArray 59)):=HC.out _ _ hcw (grown_alloc (grown_refl wr _) _);have HF:=zH (HCL.out _ x hmem hcw1);have hbx:=Blk.new wr 59 (eCIT x).toArray;have hba:=(zR wr.heap.size wr).alloc (zN _) (.cells (eCIT x).toArray 59);have HBX:=zH (zA hbx hba);clear hbx hba hcw hcw1 hmem;have b0:wr.cell? ⟨g,j*5,none⟩=_:=hcj 0 (by omega);have b1:wr.cell? ⟨g,j*5+1,none⟩=_:=hcj 1 (by omega);have b2:wr.cell? ⟨g,j*5+2,none⟩=_:=hcj 2 (by omega);have b3:wr.cell? ⟨g,j*5+3,none⟩=_:=hcj 3 (by omega);have b4:wr.cell? ⟨g,j*5+4,none⟩=_:=hcj 4 (by omega);simp only[eCIT,qB,qC] at b0 b1 b2 b3 b4;(have hq3:(j:Int)<n:=by omega);have HB:=zH hB;have HTK:=zH htk;clear hB htk hcs hcj hA hcm;have HPX:=zH (fun(hp:p x=true)=>(by rw[zG hjL,HX.out,List.filter_append,HR.out.2.1];simp [hp]:cs.take i=(l.take (j+1)).filter (fun x=> !p x)));have HPY:=zH (fun(hp:p x=false)=>(by rw[zG hjL,HX.out,List.filter_append,←HR.out.2.1];simp [hp]:(l.take (j+1)).filter (fun x=> !p x)=cs.take i++[x]));obtain⟨pv,hpv⟩:∃pv,p x=pv:=⟨_,rfl⟩;rw[hpv] at HPX HPY HF;simp only[eCIT] at HF;cases pv with
    | true=>
     clear hpv;(go_wp2_with fail);refine HF.out.mono ?_;rintro e w2 ⟨rfl,hb2⟩;have hg2:w.grownBy w2 (some g):=grown_sub (grown_alloc HR.out.2.2.2.1 _) (grown_below (row:=none) hb2) (fun k hk=>by cases hk);have HZ:=zH (zA hg2 (own_kept (own_kept HR.out.1 HBX.out.2) hb2));clear hg2 hb2;(go_wp2_with fail);go_roundw
     case rel=>exact⟨i,j+1,by omega,by omega,rfl,by go_num,cs,HR.out.2.2.2.2,HZ.out.2,HPX.out (by trivial),by rw[←List.drop_drop,←List.drop_drop,HR.out.2.2.1],HZ.out.1⟩
     case measure=>simp [intOf];omega
    | false=>
     clear hpv;(go_wp2_with fail);refine HF.out.mono ?_;rintro e w2 ⟨rfl,hb2⟩;have hbx2:=(HBX.out.1).below hb2 HBX.out.1.lt;have hg2:w.grownBy w2 (some g):=grown_sub (grown_alloc HR.out.2.2.2.1 _) (grown_below (row:=none) hb2) (fun k hk=>by cases hk);have ho2:=own_kept (own_kept HR.out.1 HBX.out.2) hb2;have hB:=(HB.out.below HBX.out.2 HB.out.lt).below hb2 (zQ HB.out.lt HBX.out.2.size);have x0:w2.cell? ⟨wr.heap.size,0,none⟩=_:=hbx2.cell 0;have x1:w2.cell? ⟨wr.heap.size,1,none⟩=_:=hbx2.cell 1;have x2:w2.cell? ⟨wr.heap.size,2,none⟩=_:=hbx2.cell 2;have x3:w2.cell? ⟨wr.heap.size,3,none⟩=_:=hbx2.cell 3;have x4:w2.cell? ⟨wr.heap.size,4,none⟩=_:=hbx2.cell 4;(simp [eCIT] at x0 x1 x2 x3 x4);have fa0:=hB.frozen (i*5);have fa1:=hB.frozen (i*5+1);have fa2:=hB.frozen (i*5+2);have fa3:=hB.frozen (i*5+3);have fa4:=hB.frozen (i*5+4);(have hil:i<cs.length:=by rw[HR.out.2.2.2.2];omega);have hci:=fun(q:Nat) (hq:q<5)=>(by
      have h1:=flat_get eCIT_len cs i hil q hq;(have h2:i*5+q<n*5:=by have:(i+1)*5≤n*5:=Nat.mul_le_mul_right _ (by omega);omega);rw[hB.cell,←Array.getElem?_toList,←h1,←HTK.out,List.getElem?_take,if_pos h2]:w2.cell? ⟨g,i*5+q,none⟩=(eCIT cs[i])[q]?)
     obtain⟨y,hy⟩:∃y,cs[i]=y:=⟨_,rfl⟩;simp only[hy] at hci;have a0:w2.cell? ⟨g,i*5,none⟩=_:=hci 0 (by omega);have a1:w2.cell? ⟨g,i*5+1,none⟩=_:=hci 1 (by omega);have a2:w2.cell? ⟨g,i*5+2,none⟩=_:=hci 2 (by omega);have a3:w2.cell? ⟨g,i*5+3,none⟩=_:=hci 3 (by omega);have a4:w2.cell? ⟨g,i*5+4,none⟩=_:=hci 4 (by omega);simp only[eCIT,qB,qC] at a0 a1 a2 a3 a4;clear hci hy;have HST:=zH (by
      have h1:=own_setCells (eCIT x) (i*5) w2 _ ho2 (by rw[eCIT_len];omega);have f1:=flat_put eCIT_len cs i hil x 0 (eCIT x) (by rw[eCIT_len];omega) (by simp [eCIT_len]);simp only[Nat.add_zero] at f1;rw[f1] at h1;exact zA h1 (grown_setCells (eCIT x) (i*5) w2 hg2))
     (obtain⟨hq4,hq5⟩:(i:Int)<n∧i<n:=by omega);clear hB hg2 ho2 hb2 hbx2;(go_wp2_with fail);go_roundw
     case rel=>exact⟨i+1,j+1,by omega,by omega,by go_num,by go_num,cs.set i x,by rw[List.length_set];exact HR.out.2.2.2.2,HST.out.1,by rw[HPY.out (by trivial),zG (by rw[List.length_set];exact hil),List.getElem_set_self,List.take_set_of_le (zN _)],by rw[List.drop_set_of_lt (by omega),←List.drop_drop,←List.drop_drop,HR.out.2.2.1],HST.out.2⟩
     case measure=>simp [intOf];omega
   ·(obtain rfl:j=n:=by omega);obtain⟨gp',cap,cur,hA,hbg,hB,hnc,hcm,hcs,htk⟩:=own_form HR.out.1 (by omega);(obtain⟨rfl,rfl⟩:g=gp'∧c=cap:=by injection hA with e1 e2 e3;exact⟨congrArg Addr.block (Option.some.inj e1),e3⟩);obtain⟨r2,hcl,hr2s,hr2t⟩:=run_clear_rows (P:=Tryz.prog) wr 25 59 (.agg #[.string ⟨#[]⟩,.int .i64 0,.int .i64 0,.int .u32 0,.string ⟨#[]⟩]) 5 Tryz.underlying25 Tryz.zeroValue59 rfl (by decide) g (i*5) (j-i) (c-i) (by omega) cur 59 hB (by rw[hcs,Nat.sub_mul];have:i*5≤j*5:=Nat.mul_le_mul_right _ (by omega);have:j*5≤c*5:=Nat.mul_le_mul_right _ (by omega);omega);(have hfl:l.filter (fun x=> !p x)=cs.take i:=by rw[HR.out.2.1,zO (by rw[HNL.out];omega)]);(have hil:i≤cs.length:=by rw[HR.out.2.2.2.2];omega);have hx2:r2.toList.take (i*5)=(l.filter fun x=> !p x).flatMap eCIT:=by
     rw[hr2t,hfl,flat_take eCIT_len,←htk,List.take_take,Nat.min_eq_left (Nat.mul_le_mul_right _ (by omega))]
    (have hli:(l.filter fun x=> !p x).length=i:=by rw[hfl,zL];omega);have hfin:DelFPostIT base (l.filter fun x=> !p x) (some g) w (.returned (.slice (some ⟨g,0,none⟩) i c)) (wr.setRow g r2):=
     ⟨_,rfl,by rw[hli];exact own_mk hbg (hB.setRow _) (by omega) hc2 (by rw[hr2s,hcs]) hx2,grown_trans HR.out.2.2.2.1 (grown_setRow _ _ _),rfl⟩
    have HF:=zH hfin;clear hfin hx2 hli hfl htk hcs hB hA hr2t hr2s hil hcm;(obtain⟨h1,h2,h3,h4,h5⟩:(i:Int)≤j∧i≤j∧¬c=i∧(i:Int)≤c∧i≤c:=by omega);(go_wp2_with (at_builtin;refine wpList_clear_rows _ rfl _ 25 rfl _ rfl (hcl _) ?_));go_ret;exact HF.out
 ·have hfl:l.filter (fun x=> !p x)=l:=by
   rw[List.filter_eq_self];intro x hx;rw[hnone x hx];rfl
  have hpst:DelFPostIT base (l.filter fun x=> !p x) (Value.slice A l.length c).ownBlock w (.returned (.slice A l.length c)) w1:=⟨_,rfl,by rw[hfl];exact own_kept HO.out hb1,grown_below hb1,rfl⟩;have HF:=zH hpst;clear hpst;clear hfl hnone hb1;go_wp2_with fail
  go_ret;exact HF.out
def undT (p:ByteArray) (xs:List NE):List NE:=xs.filter fun x=> !awayT p x
theorem treeUnder_any (w:World)(bt bm:Nat)(xs:List NE)(p:ByteArray)(h:TreeAt w bt bm xs)(hn:xs.length≤1000)(hp:p.size≤90000):
  Calls Tryz.prog 62 #[.pointer (some ⟨bt,0,none⟩),.string p] w fun e w'=>∃r,e= .returned r∧OwnIt w' w.heap.size r (undT p xs)∧Below w.heap.size w w':=by
 have b0:=Blk.new w 9 #[.string p];have hB:Below w.heap.size w (w.alloc (.cells #[.string p] 9)):=(zR _ w).alloc (zN _) _;have hok:∀e∈xs,e.1.size≤90000:=fun e he=>h.map.ok e he
 have hT:=h.below hB;have HI:=zH (treeItems_any _ bt bm xs hT hn);have H0:=zH (zA b0 hB);clear b0 hB hT h;go_enter Tryz.func62,Tryz.ntmps62
 go_wp2_with fail
 refine HI.out.mono ?_;rintro e w2 ⟨r,rfl,ho,hb2⟩;have hB2:=H0.out.1.below hb2 H0.out.1.lt;have hbw:=H0.out.2.trans (hb2.mono H0.out.2.size);have hge:∀k,r.ownBlock=some k→w.heap.size+1≤k:=fun k hk=>by have:=(ho.lt k hk).1;simp at this;omega
 have ho':OwnIt w2 w.heap.size r xs:=own_wide ho (by simp);have HDF:=zH (slDelFuncIT_any (awayT p) (fun W=>Blk W w.heap.size 9 #[.string p]) w2 w.heap.size r xs ho' (fun W W' hC hg=>hC.grown hg (fun e=>by have:=hge _ e.symm;omega)) w.heap.size (by omega) hB2
  (fun W x hx hC=>treeUnder1_any W w.heap.size p x hC hp (hok x hx)))
 have HF:=zH (zA hbw hge);clear hb2 hB2 hbw hge ho ho' HI H0;go_wp2_with fail
 refine HDF.out.mono ?_;rintro e w3 ⟨v,rfl,hov,hg,_⟩;have HZ:=zH (zA hov (HF.out.1.grown hg HF.out.1.size (fun k hk=>by have:=HF.out.2 k hk;omega)));clear hov hg HF HDF;go_wp2_with fail
 go_ret;exact⟨v,rfl,HZ.out.1,HZ.out.2⟩
end Go.Proofs.YtnpehjgnplaabaaGreatDoor
namespace Sw
open Go
open Go.Proofs.YtnpehjgnplaabaaGreatDoor (partsS awayT undT)
structure TI (xs:List NE):Prop where
 up:Up ordS xs
 paths:Paths xs
 nod:∀e∈xs,¬e.2.kind=0∧nodeR e.2=0
 par:∀e∈xs,∀u∈upsS e.1,∃d∈xs,d.1=u∧d.2.kind=2
theorem TI.nil:TI []:=⟨List.Pairwise.nil,fun _ h=>absurd h (by simp),fun _ h=>absurd h (by simp),fun _ h=>absurd h (by simp)⟩
theorem up_key {xs:List NE}(hu:Up ordS xs){a b:NE}(ha:a∈xs)(hb:b∈xs)(h:a.1=b.1):a=b:=by
 induction xs with
 | nil=>cases ha
 | cons x xs ih=>
  have hself:∀y∈xs,¬y.1=x.1:=fun y hy e=>by
   have:=hu.head y hy;rw[e,ordS_refl] at this;omega
  rcases List.mem_cons.1 ha with rfl | ha
  ·rcases List.mem_cons.1 hb with rfl | hb
   ·rfl
   ·exact absurd h.symm (hself b hb)
  ·rcases List.mem_cons.1 hb with hbx | hb
   ·exact absurd (h.trans (by rw[hbx])) (hself _ ha)
   ·exact ih hu.tail ha hb
theorem getT_in {xs:List NE}(hu:Up ordS xs){e:NE}(h:e∈xs):getT xs e.1=e.2:=by
 unfold getT;rw[get_find ordS_ord e.1 xs hu];cases hf:xs.find? (fun x=>decide (ordS x.1 e.1=0)) with
 | none=>
  have:=List.find?_eq_none.1 hf e h;simp [ordS_refl] at this
 | some x=>
  have h0:ordS x.1 e.1=0:=by have:=List.find?_some hf;simpa using this
  rw[up_key hu (List.mem_of_find?_eq_some hf) h (ordS_zero h0)];rfl
theorem getT_out {xs:List NE}(hu:Up ordS xs){p:ByteArray}(h:∀e∈xs,¬e.1=p):getT xs p=ndZ:=by
 unfold getT;rw[get_find ordS_ord p xs hu,List.find?_eq_none.2 (fun e he=>by have:=h e he;simp [ordS_ord.iff,this])];rfl
theorem getT_kind {xs:List NE}(hu:Up ordS xs){p:ByteArray}(h:¬(getT xs p).kind=0):(p,getT xs p)∈xs:=by
 rcases Classical.em (∃e∈xs,e.1=p) with ⟨e,he,rfl⟩ | hn
 ·rw[getT_in hu he];exact he
 ·rw[getT_out hu (fun e he h=>hn ⟨e,he,h⟩)] at h;exact absurd rfl h
theorem put_iff {xs:List NE}(hu:Up ordS xs)(p:ByteArray)(n:Nd)(e:NE):e∈putN ordS p n xs↔e=(p,n)∨(e∈xs∧¬e.1=p):=by
 rw[put_filter ordS_ord p n xs hu];simp only[List.mem_append,List.mem_filter,List.mem_cons,decide_eq_true_eq];have h3:=ordS_three e.1 p;constructor
 ·rintro (⟨h,hk⟩ | rfl | ⟨h,hk⟩)
  ·exact .inr ⟨h,fun e'=>by rw[e',ordS_refl] at hk;omega⟩
  ·exact .inl rfl
  ·exact .inr ⟨h,fun e'=>by rw[e',ordS_refl] at hk;omega⟩
 ·rintro (rfl | ⟨h,hk⟩)
  ·exact .inr (.inl rfl)
  ·rcases h3 with h3 | h3 | h3
   ·exact .inl ⟨h,by omega⟩
   ·exact absurd (ordS_zero h3) hk
   ·exact .inr (.inr ⟨h,by omega⟩)
theorem ups_parent {p u:ByteArray}(h:u∈upsS p):¬parentS p=⟨#[]⟩∧parentS p∈upsS p∧(u=parentS p∨u∈upsS (parentS p)):=by
 rcases parent_last p with ⟨h0,_⟩ | ⟨hne,hl,hp⟩
 ·rw[h0] at h;cases h
 ·have hmem:parentS p∈upsS p:=by rw[←hl];exact List.getLast_mem hne
  refine⟨hp,hmem,?_⟩;obtain⟨k,hk1,hk2,hk3,hkr⟩:=ups_mem h;obtain⟨m,hm1,hm2,hm3,hmr⟩:=ups_mem hmem;have hlen:=upsS_len p;have hm:partsS (parentS p)=(partsS p).take ((partsS p).length-1):=by
   rw[←hl,List.getLast_eq_getElem];(have hlt:(upsS p).length-1<(upsS p).length:=by have:=List.length_pos_iff.2 hne;omega);have:=ups_step p ((upsS p).length-1) hlt;rw[upsS_at p _ hlt];have hr:rightL p.data.toList=true:=by
    cases hr:rightL p.data.toList with
    | true=>rfl
    | false=>rw[partsS_not hr] at hk2;simp at hk2
   rw[show(upsS p).length-1+1=(partsS p).length-1 by have:=List.length_pos_iff.2 hne;omega];rw[partsS_right hr] at hk2⊢;have ht:=right_take hr ((spS p).length-1) (by omega);rw[partsS_right (by rw[data_mkB];exact ht.1)];exact ht.2
  by_cases hkk:k=(partsS p).length-1
  ·left
   refine parts_inj (by rw[hk3,hm,hkk]) (by rw[hk3,zL];omega)
  ·right
   refine ups_of (k:=k) hk1 (by rw[hm,zL];omega) ?_;rw[hk3,hm,List.take_take,Nat.min_eq_left (by omega)]
theorem ups_trans {u v p:ByteArray}(h1:u∈upsS v)(h2:v∈upsS p):u∈upsS p:=by
 obtain⟨k,hk1,hk2,hk3,_⟩:=ups_mem h1;obtain⟨m,hm1,hm2,hm3,_⟩:=ups_mem h2;rw[hm3,zL] at hk2;exact ups_of (k:=k) hk1 (by omega) (by rw[hk3,hm3,List.take_take,Nat.min_eq_left (by omega)])
theorem ups_self {p:ByteArray}:¬p∈upsS p:=fun h=>by
 have:=ups_order h;rw[ordS_refl] at this;omega
theorem holds_not {xs:List NE}(hu:Up ordS xs)(hp:Paths xs){p:ByteArray}(h:holdsT xs p=false):∀e∈xs,¬p∈upsS e.1:=fun e he hq=>by
 rw[holds_any xs p hu hp,List.any_eq_false] at h;exact h e he ((inS_iff _ _).2 hq)
theorem holds_no {xs:List NE}(hu:Up ordS xs)(hp:Paths xs){p:ByteArray}(h:∀e∈xs,¬p∈upsS e.1):holdsT xs p=false:=by
 rw[holds_any xs p hu hp,List.any_eq_false];exact fun e he hq=>h e he ((inS_iff _ _).1 hq)
theorem may_zero {xs:List NE}{p:ByteArray}{n:Nd}(h:mayT xs p n=0):rightL p.data.toList=true∧¬n.kind=0∧nodeR n=0∧parentT xs p=0∧(n.kind=2∨holdsT xs p=false)∧((getT xs p).kind=0→xs.length<500):=by
 unfold mayT at h;cases hr:rightL p.data.toList with
 | false=>rw[if_pos hr] at h;cases h
 | true=>
  rw[if_neg (by rw[hr];simp)] at h;by_cases h0:n.kind=0
  ·rw[if_pos h0] at h;cases h
  ·rw[if_neg h0] at h;by_cases h1:nodeR n=0
   ·rw[if_neg (by simpa using h1)] at h;by_cases h2:parentT xs p=0
    ·rw[if_neg (by simpa using h2)] at h;by_cases h3:¬n.kind=2∧holdsT xs p=true
     ·rw[if_pos h3] at h;cases h
     ·rw[if_neg h3] at h;by_cases h4:(getT xs p).kind=0∧500≤xs.length
      ·rw[if_pos h4] at h;cases h
      ·refine⟨rfl,h0,h1,h2,?_,fun hk=>by have:=fun hl=>h4 ⟨hk,hl⟩;omega⟩;rcases Classical.em (n.kind=2) with hk | hk
       ·exact .inl hk
       ·(right);cases hh:holdsT xs p with
        | false=>rfl
        | true=>exact absurd ⟨hk,hh⟩ h3
    ·rw[if_pos h2] at h;exact absurd h h2
   ·rw[if_pos h1] at h;exact absurd h h1
theorem may_of {xs:List NE}{p:ByteArray}{n:Nd}(h1:rightL p.data.toList=true)(h2:¬n.kind=0)(h3:nodeR n=0)(h4:parentT xs p=0)(h5:n.kind=2∨holdsT xs p=false)(h6:(getT xs p).kind=0→xs.length<500):mayT xs p n=0:=by
 unfold mayT;rw[if_neg (by rw[h1];simp),if_neg h2,if_neg (by simpa using h3),if_neg (by simpa using h4),if_neg (by rcases h5 with h | h<;>simp [h]),if_neg (fun h=>by have:=h6 h.1;omega)]
theorem parentT_zero {xs:List NE}{p:ByteArray}(h:parentT xs p=0):parentS p=⟨#[]⟩∨(getT xs (parentS p)).kind=2:=by
 unfold parentT at h;by_cases h0:parentS p=⟨#[]⟩
 ·exact .inl h0
 ·rw[if_neg h0] at h;by_cases h1:(getT xs (parentS p)).kind=0
  ·rw[if_pos h1] at h;cases h
  ·rw[if_neg h1] at h;by_cases h2:(getT xs (parentS p)).kind=2
   ·exact .inr h2
   ·rw[if_neg h2] at h;cases h
theorem parentT_of {xs:List NE}{p:ByteArray}(h:parentS p=⟨#[]⟩∨(getT xs (parentS p)).kind=2):parentT xs p=0:=by
 unfold parentT;rcases h with h | h
 ·rw[if_pos h]
 ·by_cases h0:parentS p=⟨#[]⟩
  ·rw[if_pos h0]
  ·rw[if_neg h0,if_neg (by rw[h];decide),if_pos h]
theorem TI.putN {xs:List NE}(h:TI xs){p:ByteArray}{n:Nd}(hm:mayT xs p n=0):TI (putN ordS p n xs):=by
 obtain⟨m1,m2,m3,m4,m5,_⟩:=may_zero hm;refine⟨put_up ordS_ord p n xs h.up,h.paths.put m1 n,fun e he=>?_,fun e he u hu=>?_⟩
 ·rcases (put_iff h.up p n e).1 he with rfl | ⟨he,_⟩
  ·exact⟨m2,m3⟩
  ·exact h.nod e he
 ·rcases (put_iff h.up p n e).1 he with rfl | ⟨he,hep⟩
  ·obtain⟨hne,hmem,hor⟩:=ups_parent hu;have hk:(getT xs (parentS p)).kind=2:=(parentT_zero m4).resolve_left hne;have hd:=getT_kind h.up (p:=parentS p) (by rw[hk];decide);have hpp:¬parentS p=p:=fun e=>ups_self (p:=p) (by rw[e] at hmem;exact hmem)
   rcases hor with rfl | hor
   ·exact⟨_,(put_iff h.up p n _).2 (.inr ⟨hd,hpp⟩),rfl,hk⟩
   ·obtain⟨d,hd1,rfl,hd3⟩:=h.par _ hd u hor;exact⟨d,(put_iff h.up p n _).2 (.inr ⟨hd1,fun e=>ups_self (e▸hu:p∈upsS p)⟩),rfl,hd3⟩
  ·obtain⟨d,hd1,rfl,hd3⟩:=h.par e he u hu;by_cases hdp:d.1=p
   ·rcases m5 with hk | hh
    ·exact⟨(p,n),(put_iff h.up p n _).2 (.inl rfl),hdp.symm,hk⟩
    ·exact absurd (hdp▸hu) (holds_not h.up h.paths hh e he)
   ·exact⟨d,(put_iff h.up p n _).2 (.inr ⟨hd1,hdp⟩),rfl,hd3⟩
theorem TI.putT {xs:List NE}(h:TI xs)(p:ByteArray)(n:Nd):TI (putT xs p n):=by
 unfold Sw.putT;split
 ·rename_i hm;exact h.putN hm
 ·exact h
end Sw
namespace Sw
open Go
theorem Pr.ext_c (p q:Pr):p=q↔p.kind=q.kind∧p.mode=q.mode∧p.time=q.time∧p.size=q.size∧p.sum=q.sum:=by
 obtain⟨a,b,c,d,e⟩:=p;obtain⟨a',b',c',d',e'⟩:=q;simp
instance:DecidableEq Pr:=fun p q=>decidable_of_iff' _ (Pr.ext_c p q)
def stateN (was:Pr) (had:Bool) (n:Nd):Int:=
 if had=false then(if n.kind=0 then 0 else 1) else if was=printN n then 0 else if n.kind=0 then 3 else 2
end Sw
namespace Go.Proofs.YtnpehjgnplaabaaGreatDoor
open Go.RowKit
open Sw
def Boxes (w:World) (was:Pr) (n:Nd) (W:World):Prop:=Blk W w.heap.size 61 was.c∧Blk W (w.heap.size+1) 57 n.c∧Below w.heap.size w W
theorem Boxes.keep {w:World}{was:Pr}{n:Nd}(W W':World)(h:Boxes w was n W)(hb:Below W.heap.size W W'):Boxes w was n W':=⟨h.1.below hb h.1.lt,h.2.1.below hb h.2.1.lt,h.2.2.trans (hb.mono h.2.2.size)⟩
theorem state_any (w:World)(was:Pr)(had:Bool)(n:Nd)(hm:n.data.size≤maxLen):
  Calls Tryz.prog 136 #[.agg was.c,.bool had,.agg n.c] w fun e w'=>e= .returned (.int .i64 (stateN was had n))∧Below w.heap.size w w':=by
 have HP:=zH (fun W=>print_any W n hm);have hs:stateN was had n=if had=false then(if n.kind=0 then 0 else 1) else if was=printN n then 0 else if n.kind=0 then 3 else 2:=rfl
 have hpe:=Pr.ext_c was (printN n);generalize printN n=p at*;have hB0:Boxes w was n ((w.alloc (.cells was.c 61)).alloc (.cells n.c 57)):=⟨blk_fst _ _ _ _,blk_snd _ _ _ _,((zR _ _).alloc (zN _) _).alloc (by simp) _⟩;have HB0:=zH hB0;clear hB0;have q0:∀x:Held (Boxes w was n),(HeldW x).cell? ⟨w.heap.size,0,none⟩=some (.int .i64 was.kind):=fun x=>(HeldW_spec x).1.cell 0
 have q1:∀x:Held (Boxes w was n),(HeldW x).cell? ⟨w.heap.size,1,none⟩=some (.int .i64 was.mode):=fun x=>(HeldW_spec x).1.cell 1
 have q2:∀x:Held (Boxes w was n),(HeldW x).cell? ⟨w.heap.size,2,none⟩=some (.int .u32 was.time):=fun x=>(HeldW_spec x).1.cell 2
 have q3:∀x:Held (Boxes w was n),(HeldW x).cell? ⟨w.heap.size,3,none⟩=some (.int .i64 was.size):=fun x=>(HeldW_spec x).1.cell 3
 have q4:∀x:Held (Boxes w was n),(HeldW x).cell? ⟨w.heap.size,4,none⟩=some (.int .u32 was.sum):=fun x=>(HeldW_spec x).1.cell 4
 have n0:∀x:Held (Boxes w was n),(HeldW x).cell? ⟨w.heap.size+1,0,none⟩=some (.int .i64 n.kind):=fun x=>(HeldW_spec x).2.1.cell 0
 have n1:∀x:Held (Boxes w was n),(HeldW x).cell? ⟨w.heap.size+1,1,none⟩=some (.int .i64 n.mode):=fun x=>(HeldW_spec x).2.1.cell 1
 have n2:∀x:Held (Boxes w was n),(HeldW x).cell? ⟨w.heap.size+1,2,none⟩=some (.int .u32 n.time):=fun x=>(HeldW_spec x).2.1.cell 2
 have n3:∀x:Held (Boxes w was n),(HeldW x).cell? ⟨w.heap.size+1,3,none⟩=some (.string n.data):=fun x=>(HeldW_spec x).2.1.cell 3
 haveI:Nonempty (Held (Boxes w was n)):=held_some HB0.out
 have HPE:=zH hpe;clear hpe;have HST:=zH hs;clear hs;cases had with
 | false=>
  by_cases hk:n.kind=0
  ·have hfin:stateN was false n=0:=by rw[HST.out,if_pos rfl,if_pos hk]
   rw[hfin];(have hkb:(n.kind !=0)=false:=by rw[bne_eq_false_iff_eq];exact hk);clear hfin hk;unfold Pr.c Nd.c at*;(go_enter Tryz.func136,Tryz.ntmps136);(go_wp2_with fail);(go_quiet (fail));(go_wp2_with fail);go_ret;exact⟨rfl,below_drewN HB0.out.2.2 _⟩
  ·have hfin:stateN was false n=1:=by rw[HST.out,if_pos rfl,if_neg hk]
   rw[hfin];(have hkb:(n.kind !=0)=true:=by rw[bne_iff_ne];exact hk);clear hfin hk;unfold Pr.c Nd.c at*;(go_enter Tryz.func136,Tryz.ntmps136);(go_wp2_with fail);(go_quiet (fail));(go_wp2_with fail);go_ret;exact⟨rfl,below_drewN HB0.out.2.2 _⟩
 | true=>
  by_cases hp:was=p
  ·have hfin:stateN was true n=0:=by rw[HST.out,if_neg (by simp),if_pos hp]
   rw[hfin];subst hp;clear hfin HST HPE;unfold Pr.c Nd.c at*;(go_enter Tryz.func136,Tryz.ntmps136);(go_wp2_with fail);refine wp_region_class (Boxes w was n) (by kernel_rfl) (by kernel_rfl) (by have h:=HB0.out;exact⟨h.1,h.2.1,h.2.2.drew⟩) ?_;(repeat (go_big_quiet_step (with_reducible exact held_below Boxes.keep (HP.out _))));refine wpQuiet_nil ?_;rintro _ ⟨nn,rfl⟩;(go_wp2_with fail);go_ret;exact⟨rfl,(HeldW_spec nn).2.2⟩
  ·have hd:=HPE.out;have hor:was.kind≠p.kind∨(was.kind=p.kind∧was.mode≠p.mode)∨(was.kind=p.kind∧was.mode=p.mode∧was.time≠p.time)∨(was.kind=p.kind∧was.mode=p.mode∧was.time=p.time∧was.size≠p.size)∨(was.kind=p.kind∧was.mode=p.mode∧was.time=p.time∧was.size=p.size∧was.sum≠p.sum):=by
    rw[hd] at hp;omega
   clear hd;obtain⟨k2,m2,t2,z2,u2⟩:=p;simp only at hor;unfold Pr.c Nd.c at*;by_cases hk:n.kind=0
   ·(have hfin:stateN was true n=3:=by rw[HST.out,if_neg (by simp),if_neg hp,if_pos hk]);rw[hfin];(have hkb:(n.kind !=0)=false:=by rw[bne_eq_false_iff_eq];exact hk);clear hfin hk HST HPE hp;(rcases hor with h | ⟨rfl,h⟩ | ⟨rfl,rfl,h⟩ | ⟨rfl,rfl,rfl,h⟩ | ⟨rfl,rfl,rfl,rfl,h⟩);all_goals
     have hb:=beq_eq_false_iff_ne.2 h;clear h;(go_enter Tryz.func136,Tryz.ntmps136);(go_wp2_with fail);refine wp_region_class (Boxes w was n) (by kernel_rfl) (by kernel_rfl) (by have h:=HB0.out;exact⟨h.1,h.2.1,h.2.2.drew⟩) ?_;(repeat (go_big_quiet_step (with_reducible exact held_below Boxes.keep (HP.out _))));refine wpQuiet_nil ?_;rintro _ ⟨nn,rfl⟩;(go_wp2_with fail);go_ret;exact⟨rfl,(HeldW_spec nn).2.2⟩
   ·(have hfin:stateN was true n=2:=by rw[HST.out,if_neg (by simp),if_neg hp,if_neg hk]);rw[hfin];(have hkb:(n.kind !=0)=true:=by rw[bne_iff_ne];exact hk);clear hfin hk HST HPE hp;(rcases hor with h | ⟨rfl,h⟩ | ⟨rfl,rfl,h⟩ | ⟨rfl,rfl,rfl,h⟩ | ⟨rfl,rfl,rfl,rfl,h⟩);all_goals
     have hb:=beq_eq_false_iff_ne.2 h;clear h;(go_enter Tryz.func136,Tryz.ntmps136);(go_wp2_with fail);refine wp_region_class (Boxes w was n) (by kernel_rfl) (by kernel_rfl) (by have h:=HB0.out;exact⟨h.1,h.2.1,h.2.2.drew⟩) ?_;(repeat (go_big_quiet_step (with_reducible exact held_below Boxes.keep (HP.out _))));refine wpQuiet_nil ?_;rintro _ ⟨nn,rfl⟩;(go_wp2_with fail);go_ret;exact⟨rfl,(HeldW_spec nn).2.2⟩
theorem refState_any (w:World)(was:Pr)(had:Bool)(n:Nd)(hm:n.data.size≤maxLen):
  Calls Tryz.prog 110 #[.agg was.c,.bool had,.agg n.c] w fun e w'=>e= .returned (.int .i64 (stateN was had n))∧Below w.heap.size w w':=by
 have HP:=zH (fun W=>refPrint_any W n hm);have hs:stateN was had n=if had=false then(if n.kind=0 then 0 else 1) else if was=printN n then 0 else if n.kind=0 then 3 else 2:=rfl
 have hpe:=Pr.ext_c was (printN n);generalize printN n=p at*;have hB0:Boxes w was n ((w.alloc (.cells was.c 61)).alloc (.cells n.c 57)):=⟨blk_fst _ _ _ _,blk_snd _ _ _ _,((zR _ _).alloc (zN _) _).alloc (by simp) _⟩;have HB0:=zH hB0;clear hB0;have q0:∀x:Held (Boxes w was n),(HeldW x).cell? ⟨w.heap.size,0,none⟩=some (.int .i64 was.kind):=fun x=>(HeldW_spec x).1.cell 0
 have q1:∀x:Held (Boxes w was n),(HeldW x).cell? ⟨w.heap.size,1,none⟩=some (.int .i64 was.mode):=fun x=>(HeldW_spec x).1.cell 1
 have q2:∀x:Held (Boxes w was n),(HeldW x).cell? ⟨w.heap.size,2,none⟩=some (.int .u32 was.time):=fun x=>(HeldW_spec x).1.cell 2
 have q3:∀x:Held (Boxes w was n),(HeldW x).cell? ⟨w.heap.size,3,none⟩=some (.int .i64 was.size):=fun x=>(HeldW_spec x).1.cell 3
 have q4:∀x:Held (Boxes w was n),(HeldW x).cell? ⟨w.heap.size,4,none⟩=some (.int .u32 was.sum):=fun x=>(HeldW_spec x).1.cell 4
 have n0:∀x:Held (Boxes w was n),(HeldW x).cell? ⟨w.heap.size+1,0,none⟩=some (.int .i64 n.kind):=fun x=>(HeldW_spec x).2.1.cell 0
 have n1:∀x:Held (Boxes w was n),(HeldW x).cell? ⟨w.heap.size+1,1,none⟩=some (.int .i64 n.mode):=fun x=>(HeldW_spec x).2.1.cell 1
 have n2:∀x:Held (Boxes w was n),(HeldW x).cell? ⟨w.heap.size+1,2,none⟩=some (.int .u32 n.time):=fun x=>(HeldW_spec x).2.1.cell 2
 have n3:∀x:Held (Boxes w was n),(HeldW x).cell? ⟨w.heap.size+1,3,none⟩=some (.string n.data):=fun x=>(HeldW_spec x).2.1.cell 3
 haveI:Nonempty (Held (Boxes w was n)):=held_some HB0.out
 have HPE:=zH hpe;clear hpe;have HST:=zH hs;clear hs;cases had with
 | false=>
  by_cases hk:n.kind=0
  ·have hfin:stateN was false n=0:=by rw[HST.out,if_pos rfl,if_pos hk]
   rw[hfin];(have hkb:(n.kind==0)=true:=by rw[beq_iff_eq];exact hk);clear hfin hk;unfold Pr.c Nd.c at*;(go_enter Tryz.func110,Tryz.ntmps110);(go_wp2_with fail);go_ret;exact⟨rfl,HB0.out.2.2⟩
  ·have hfin:stateN was false n=1:=by rw[HST.out,if_pos rfl,if_neg hk]
   rw[hfin];(have hkb:(n.kind==0)=false:=by rw[zB];exact hk);clear hfin hk;unfold Pr.c Nd.c at*;(go_enter Tryz.func110,Tryz.ntmps110);(go_wp2_with fail);go_ret;exact⟨rfl,HB0.out.2.2⟩
 | true=>
  by_cases hp:was=p
  ·have hfin:stateN was true n=0:=by rw[HST.out,if_neg (by simp),if_pos hp]
   rw[hfin];subst hp;clear hfin HST HPE;unfold Pr.c Nd.c at*;(go_enter Tryz.func110,Tryz.ntmps110);(go_wp2_with fail);refine wp_region_class (Boxes w was n) (by kernel_rfl) (by kernel_rfl) (by have h:=HB0.out;exact⟨h.1,h.2.1,h.2.2.drew⟩) ?_;(repeat (go_big_quiet_step (with_reducible exact held_below Boxes.keep (HP.out _))));refine wpQuiet_nil ?_;rintro _ ⟨nn,rfl⟩;(go_wp2_with fail);go_ret;exact⟨rfl,(HeldW_spec nn).2.2⟩
  ·have hd:=HPE.out;have hor:was.kind≠p.kind∨(was.kind=p.kind∧was.mode≠p.mode)∨(was.kind=p.kind∧was.mode=p.mode∧was.time≠p.time)∨(was.kind=p.kind∧was.mode=p.mode∧was.time=p.time∧was.size≠p.size)∨(was.kind=p.kind∧was.mode=p.mode∧was.time=p.time∧was.size=p.size∧was.sum≠p.sum):=by
    rw[hd] at hp;omega
   clear hd;obtain⟨k2,m2,t2,z2,u2⟩:=p;simp only at hor;unfold Pr.c Nd.c at*;by_cases hk:n.kind=0
   ·(have hfin:stateN was true n=3:=by rw[HST.out,if_neg (by simp),if_neg hp,if_pos hk]);rw[hfin];(have hkb:(n.kind==0)=true:=by rw[beq_iff_eq];exact hk);clear hfin hk HST HPE hp;(rcases hor with h | ⟨rfl,h⟩ | ⟨rfl,rfl,h⟩ | ⟨rfl,rfl,rfl,h⟩ | ⟨rfl,rfl,rfl,rfl,h⟩);all_goals
     have hb:=beq_eq_false_iff_ne.2 h;clear h;(go_enter Tryz.func110,Tryz.ntmps110);(go_wp2_with fail);refine wp_region_class (Boxes w was n) (by kernel_rfl) (by kernel_rfl) (by have h:=HB0.out;exact⟨h.1,h.2.1,h.2.2.drew⟩) ?_;(repeat (go_big_quiet_step (with_reducible exact held_below Boxes.keep (HP.out _))));refine wpQuiet_nil ?_;rintro _ ⟨nn,rfl⟩;(go_wp2_with fail);go_ret;exact⟨rfl,(HeldW_spec nn).2.2⟩
   ·(have hfin:stateN was true n=2:=by rw[HST.out,if_neg (by simp),if_neg hp,if_neg hk]);rw[hfin];(have hkb:(n.kind==0)=false:=by rw[zB];exact hk);clear hfin hk HST HPE hp;(rcases hor with h | ⟨rfl,h⟩ | ⟨rfl,rfl,h⟩ | ⟨rfl,rfl,rfl,h⟩ | ⟨rfl,rfl,rfl,rfl,h⟩);all_goals
     have hb:=beq_eq_false_iff_ne.2 h;clear h;(go_enter Tryz.func110,Tryz.ntmps110);(go_wp2_with fail);refine wp_region_class (Boxes w was n) (by kernel_rfl) (by kernel_rfl) (by have h:=HB0.out;exact⟨h.1,h.2.1,h.2.2.drew⟩) ?_;(repeat (go_big_quiet_step (with_reducible exact held_below Boxes.keep (HP.out _))));refine wpQuiet_nil ?_;rintro _ ⟨nn,rfl⟩;(go_wp2_with fail);go_ret;exact⟨rfl,(HeldW_spec nn).2.2⟩
end Go.Proofs.YtnpehjgnplaabaaGreatDoor
