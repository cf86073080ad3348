/- Lemmas: what the functions do. -/
import Derived.Test.YtdccfkffabngjaaGreatGpD
import Derived.Test.YtdccfkffabngjaaGreatNiceH
import Derived.Test.YtdccfkffabngjaaGreatVcRow
import Derived.Test.YtdccfkffabngjaaGreatOpen
set_option linter.unusedSimpArgs false
set_option linter.unusedVariables false
namespace Go.Proofs.YtdccfkffabngjaaGreat
open Go.Vc
section
variable {K:VP}{h:Heap}
structure Sn where
 name:List UInt8
 l1:Int
 len:Int
 size:Int
deriving DecidableEq
def Sn.cells(x:Sn):List Value:=[str x.name,.int .i64 x.l1,.int .i64 x.len,.int .i64 x.size]
def SnOk(x:Sn)(b:Int):Prop:=NameOk x.name/\(0<=x.size/\x.size<=67108864/\x.size%512=0/\0<=x.len/\x.len<=1048576)/\(x.len=0/\x.l1=0\/0<x.len/\PlaceOk x.l1 b)
instance (p b:Int):Decidable (PlaceOk p b):=by unfold PlaceOk;infer_instance
instance (x:Sn) (b:Int):Decidable (SnOk x b):=by unfold SnOk;infer_instance
def Sn.bytes(x:Sn):List UInt8:=UInt8.ofNat (x.name.length%256)::(x.name++leB 8 x.l1.toNat++leB 4 x.len.toNat++leB 8 x.size.toNat)
end
set_option maxRecDepth 20000
section
variable {K:VP}{h:Heap}
structure Hd where
 bits:Int
 flags:Nat
 size:Int
 l1:Int
 l1len:Int
 order:Int
 counts:Int
 clen:Int
 snaps:Int
 sat:Int
 slen:Int
 maps:Int
 mat:Int
 mlen:Int
 back:List UInt8
deriving DecidableEq
def Hd.cells(x:Hd):List Value:=[.int .i64 x.bits,.int .u64 x.flags,.int .i64 x.size,.int .i64 x.l1,.int .i64 x.l1len,.int .i64 x.order,.int .i64 x.counts,.int .i64 x.clen,.int .i64 x.snaps,.int .i64 x.sat,.int .i64 x.slen,.int .i64 x.maps,.int .i64 x.mat,.int .i64 x.mlen,str x.back]
def Hd.val(x:Hd):Value:=.agg x.cells.toArray
def HdAt(h:Heap)(b:Nat)(x:Hd):Prop :=
 hcell h ⟨b,0,none⟩=some (.int .i64 x.bits)/\hcell h ⟨b,1,none⟩=some (.int .u64 x.flags)/\hcell h ⟨b,2,none⟩=some (.int .i64 x.size)/\hcell h ⟨b,3,none⟩=some (.int .i64 x.l1)/\hcell h ⟨b,4,none⟩=some (.int .i64 x.l1len) /\
 hcell h ⟨b,5,none⟩=some (.int .i64 x.order)/\hcell h ⟨b,6,none⟩=some (.int .i64 x.counts)/\hcell h ⟨b,7,none⟩=some (.int .i64 x.clen)/\hcell h ⟨b,8,none⟩=some (.int .i64 x.snaps)/\hcell h ⟨b,9,none⟩=some (.int .i64 x.sat) /\
 hcell h ⟨b,10,none⟩=some (.int .i64 x.slen)/\hcell h ⟨b,11,none⟩=some (.int .i64 x.maps)/\hcell h ⟨b,12,none⟩=some (.int .i64 x.mat)/\hcell h ⟨b,13,none⟩=some (.int .i64 x.mlen)/\hcell h ⟨b,14,none⟩=some (str x.back)
theorem HdAt.ext{h':Heap}{b:Nat}{x:Hd}(a:HdAt h b x)(e:Ext h h'):HdAt h' b x:=by
 obtain⟨a0,a1,a2,a3,a4,a5,a6,a7,a8,a9,a10,a11,a12,a13,a14⟩:=a
 exact⟨hcell_ext e a0,hcell_ext e a1,hcell_ext e a2,hcell_ext e a3,hcell_ext e a4,hcell_ext e a5,hcell_ext e a6,hcell_ext e a7,hcell_ext e a8,hcell_ext e a9,hcell_ext e a10,hcell_ext e a11,hcell_ext e a12,hcell_ext e a13,hcell_ext e a14⟩
theorem HdAt.new(x:Hd):HdAt (h.push (.cells x.cells.toArray 84)) h.size x:=by
 unfold HdAt Hd.cells
 simp
theorem boxH{x:Hd}:Hp Tryz.prog false (Instr.box 84 x.val) K h ⟨⟩↔K (.pointer (some ⟨h.size,0,none⟩)) (h.push (.cells x.cells.toArray 84)):=by
 unfold Hd.val Hd.cells
 simp(disch:=omega)
theorem loadH{q:Bool}{b:Nat}{x:Hd}(a:HdAt h b x):Hp Tryz.prog q (Instr.loadAt 84 (.pointer (some ⟨b,0,none⟩))) K h ⟨⟩↔K x.val h:=by
 obtain⟨a0,a1,a2,a3,a4,a5,a6,a7,a8,a9,a10,a11,a12,a13,a14⟩:=a
 unfold Hd.val Hd.cells
 simp[a0,a1,a2,a3,a4,a5,a6,a7,a8,a9,a10,a11,a12,a13,a14]
def upQ(a b:Int):Int:=(a+b-1)/b
theorem div_c{a b:Int}(ha:0<=a)(ha2:a<=4611686018427387904)(hb:1<=b)(hb2:b<=65536)(H:K (.int .i64 (upQ a b)) h):CallsH Tryz.prog 171 #[.int .i64 a,.int .i64 b] h K ⟨⟩:=by
 refine n171_calls ?_
 unfold n171;try delta vF vG vC vD vJ vV vk vt
 simp(disch:=omega)
 exact H
theorem upQ_le{a b:Int}(ha:0<=a)(hb:1<=b):0<=upQ a b/\upQ a b<=a:=by
 unfold upQ
 refine⟨Int.ediv_nonneg omg omg,?_⟩
 rcases Int.lt_or_le 0 a with h|h
 ·have h1:(a+b-1)<=a*b:=by
   have:(a-1)*(b-1)>=0:=Int.mul_nonneg omg omg
   rw[Int.sub_mul,Int.mul_sub,Int.mul_one,Int.one_mul]at this
   omega
  exact (Int.ediv_le_iff_le_mul omg).2 omg
 ·obtain rfl:a=0:=by omega
  rw[Int.ediv_eq_zero_of_lt omg omg]
  omega
theorem upQ_eq{a b:Int}(ha:0<=a)(hb:1<=b):upQ a b=if a%b=0 then a/b else a/b+1:=by
 unfold upQ
 have h1:=Int.emod_add_mul_ediv a b
 have h2:=Int.emod_nonneg a (show b≠0 by omega)
 have h3:=Int.emod_lt_of_pos a (show 0<b by omega)
 generalize a/b=d at *
 generalize a%b=r at *
 have e:a+b-1=(r+b-1)+b*d:=by omega
 rw[e,Int.add_mul_ediv_left _ _ omg]
 by_cases hr:r=0
 ·rw[if_pos hr,Int.ediv_eq_zero_of_lt omg omg];omega
 ·rw[if_neg hr]
  have:(r+b-1)/b=1:=by
   rw[Int.ediv_eq_iff_of_pos omg];omega
  omega
theorem Up_c{a b:Int}(ha:0<=a)(ha2:a<=4611686018427387904)(hb:1<=b)(hb2:b<=65536)(H:K (.int .i64 (upQ a b)) h):CallsH Tryz.prog 72 #[.int .i64 a,.int .i64 b] h K ⟨⟩:=by
 rw[upQ_eq ha hb]at H
 have h1:=Int.ediv_nonneg ha (show 0<=b by omega)
 have h2:a/b<=a:=Int.ediv_le_self b ha
 refine n72_calls ?_
 unfold n72;try delta vF vG vC vD vJ vV vk vt
 by_cases hm:a%b=0
 ·rw[if_pos hm]at H
  simp(disch:=omega)[hm]
  exact H
 ·rw[if_neg hm]at H
  simp(disch:=omega)[hm]
  exact H
def Hd.guest(x:Hd):Int:=upQ x.size (2^x.bits.toNat)
def Hd.tables(x:Hd):Int:=upQ x.guest (2^x.bits.toNat/8)
theorem tables_c{x:Hd}(h0:9<=x.bits)(h1:x.bits<=16)(s0:0<=x.size)(s1:x.size<=67108864)(H:∀h',Ext h h'->K (.int .i64 x.tables) h'):CallsH Tryz.prog 149 #[x.val] h K ⟨⟩:=by
 have hc:=clus h0 h1
 refine n149_calls ?_
 unfold n149;try delta vF vG vC vD vJ vV vk vt
 rw[boxH]
 have hA:=HdAt.new (h:=h) x
 have e1:Ext h (h.push (.cells x.cells.toArray 84)):=extS
 generalize h.push (.cells x.cells.toArray 84)=g at *
 have hw:IntKind.i64.wrap (2^x.bits.toNat)=2^x.bits.toNat:=wrap_i64 omg omg
 simp(disch:=omega)[hA.1,hA.2.2.1,Hp_shl,IntKind.bits,hw]
 have hg:=upQ_le (b:=2^x.bits.toNat) s0 omg
 refine div_c s0 omg omg omg ?_
 simp(disch:=omega)
 refine div_c hg.1 omg omg omg ?_
 exact H _ e1
theorem RGuest_c{x:Hd}(h0:9<=x.bits)(h1:x.bits<=16)(s0:0<=x.size)(s1:x.size<=67108864)(H:∀h',Ext h h'->K (.int .i64 x.guest) h'):CallsH Tryz.prog 119 #[x.val] h K ⟨⟩:=by
 have hc:=clus h0 h1
 refine n119_calls ?_
 unfold n119;try delta vF vG vC vD vJ vV vk vt
 rw[boxH]
 have hA:=HdAt.new (h:=h) x
 have e1:Ext h (h.push (.cells x.cells.toArray 84)):=extS
 generalize h.push (.cells x.cells.toArray 84)=g at *
 simp(disch:=omega)[hA.1,hA.2.2.1]
 refine Cluster_c omg omg ?_
 simp(disch:=omega)[hA.1,hA.2.2.1]
 refine Up_c s0 omg omg omg ?_
 exact H _ e1
theorem RTables_c{x:Hd}(h0:9<=x.bits)(h1:x.bits<=16)(s0:0<=x.size)(s1:x.size<=67108864)(H:∀h',Ext h h'->K (.int .i64 x.tables) h'):CallsH Tryz.prog 71 #[x.val] h K ⟨⟩:=by
 have hc:=clus h0 h1
 refine n71_calls ?_
 unfold n71;try delta vF vG vC vD vJ vV vk vt
 rw[boxH]
 have hA:=HdAt.new (h:=h) x
 have e1:Ext h (h.push (.cells x.cells.toArray 84)):=extS
 generalize h.push (.cells x.cells.toArray 84)=g at *
 simp(disch:=omega)[hA.1,hA.2.2.1,loadH hA]
 have hg:=upQ_le (b:=2^x.bits.toNat) s0 omg
 refine RGuest_c h0 h1 s0 s1 fun h2 e2=>?_
 have hA2:=hA.ext e2
 simp(disch:=omega)[hA2.1,hA2.2.2.1]
 refine Cluster_c omg omg ?_
 simp(disch:=omega)
 refine Up_c hg.1 (by unfold Hd.guest;omega) omg omg ?_
 exact H _ (e1.trans e2)
def ListOk(n p l b:Int):Prop:=n=0/\p=0/\l=0\/0<n/\n<=64/\PlaceOk p b/\1<=l/\l<=65536
instance (n p l b:Int):Decidable (ListOk n p l b):=by unfold ListOk;infer_instance
theorem placeH_c{p b:Int}{B:Nat}(h0:9<=b)(h1:b<=16)(hB:hcell h ⟨B,0,none⟩=some (.int .i64 (2^b.toNat)))(H:K (.bool (decide (PlaceOk p b))) h):CallsH Tryz.prog 147 #[.int .i64 p,.pointer (some ⟨B,0,none⟩)] h K ⟨⟩:=by
 have hc:=clus h0 h1
 unfold PlaceOk at H
 refine n147_calls ?_
 unfold n147;try delta vF vG vC vD vJ vV vk vt
 by_cases hp:0<p
 ·by_cases hp2:p<=268435456
  ·by_cases hm:p%2^b.toNat=0
   ·simp(disch:=omega)[hB,hm]
    simpa[hp,hp2,hm]using H
   ·simp(disch:=omega)[hB,hm]
    simpa[hp,hp2,hm]using H
  ·simp(disch:=omega)[hp2]
   simpa[hp2]using H
 ·simp(disch:=omega)[hp]
  simpa[hp]using H
theorem listH_c{n p l b:Int}{B C:Nat}(h0:9<=b)(h1:b<=16)(hB:hcell h ⟨B,0,none⟩=some (.int .i64 (2^b.toNat)))(hC:hcell h ⟨C,0,none⟩=some (.func (.func 147) #[] #[.pointer (some ⟨B,0,none⟩)]))(H:K (.bool (decide (ListOk n p l b))) h) :
 CallsH Tryz.prog 148 #[.int .i64 n,.int .i64 64,.int .i64 p,.int .i64 l,.pointer (some ⟨C,0,none⟩)] h K ⟨⟩:=by
 unfold ListOk at H
 refine n148_calls ?_
 unfold n148;try delta vF vG vC vD vJ vV vk vt
 by_cases hn:n=0
 ·by_cases hp:p=0
  ·by_cases hl:l=0
   ·simp(disch:=omega)[hn,hp,hl]
    simpa[hn,hp,hl]using H
   ·simp(disch:=omega)[hn,hp,hl]
    simpa[hn,hp,hl]using H
  ·simp(disch:=omega)[hn,hp]
   simpa[hn,hp]using H
 ·by_cases hn1:0<n
  ·by_cases hn2:n<=64
   ·simp(disch:=omega)[hC]
    refine InvokeH_func kR ?_
    refine placeH_c h0 h1 hB ?_
    by_cases hp:PlaceOk p b
    ·by_cases hl:1<=l
     ·by_cases hl2:l<=65536
      ·simp(disch:=omega)[hp]
       simpa[hn,hn1,hn2,hp,hl,hl2]using H
      ·simp(disch:=omega)[hp,hl2]
       simpa[hn,hn1,hn2,hp,hl,hl2]using H
     ·simp(disch:=omega)[hp,hl]
      simpa[hn,hn1,hn2,hp,hl]using H
    ·simp(disch:=omega)[hp]
     simpa[hn,hn1,hn2,hp]using H
   ·simp(disch:=omega)[hn,hn2]
    simpa[hn,hn1,hn2]using H
  ·simp(disch:=omega)[hn,hn1]
   simpa[hn,hn1]using H
theorem RList_c{n p l b:Int}(h0:9<=b)(h1:b<=16)(H:K (.bool (decide (ListOk n p l b))) h):CallsH Tryz.prog 121 #[.int .i64 n,.int .i64 p,.int .i64 l,.int .i64 b] h K ⟨⟩:=by
 unfold ListOk at H
 refine n121_calls ?_
 unfold n121;try delta vF vG vC vD vJ vV vk vt
 by_cases hn:n=0
 ·by_cases hp:p=0
  ·by_cases hl:l=0
   ·simp(disch:=omega)[hn,hp,hl]
    simpa[hn,hp,hl]using H
   ·simp(disch:=omega)[hn,hp,hl]
    simpa[hn,hp,hl]using H
  ·simp(disch:=omega)[hn,hp]
   simpa[hn,hp]using H
 ·by_cases hn1:0<n
  ·by_cases hn2:n<=64
   ·simp(disch:=omega)
    refine Place_c h0 h1 (fun hp=>?_) (fun hp=>?_)
    ·have hp:PlaceOk p b:=hp
     by_cases hl:1<=l
     ·by_cases hl2:l<=65536
      ·simp(disch:=omega)
       simpa[hn,hn1,hn2,hp,hl,hl2]using H
      ·simp(disch:=omega)[hl2]
       simpa[hn,hn1,hn2,hp,hl,hl2]using H
     ·simp(disch:=omega)[hl]
      simpa[hn,hn1,hn2,hp,hl]using H
    ·have hp:¬PlaceOk p b:=hp
     simp(disch:=omega)
     simpa[hn,hn1,hn2,hp]using H
   ·simp(disch:=omega)[hn,hn2]
    simpa[hn,hn1,hn2]using H
  ·simp(disch:=omega)[hn,hn1]
   simpa[hn,hn1]using H
end
end Go.Proofs.YtdccfkffabngjaaGreat
namespace Go.Vc
variable {P:Go.Program}{q:Bool}{K:VP}{h:Heap}
def gv(b w:Bool)(v:Value):Value:=if b=w then v else undef
theorem gAnd{b c:Bool}:Hp P q (pickS (.bool b) (gv b true (.bool c)) (.bool false)) K h ⟨⟩↔K (.bool (b&&c)) h:=by
 cases b<;>simp[gv]
theorem eql_t{t:TypeId}{x y:Operand}{k:IntKind}{a b:Int}(e:a=b):Hp P q (binS .eql t x y (.int k a) (.int k b)) K h ⟨⟩↔K (.bool true) h:=by rw[Hp_eql,decide_eq_true e]
theorem eql_f{t:TypeId}{x y:Operand}{k:IntKind}{a b:Int}(e:¬a=b):Hp P q (binS .eql t x y (.int k a) (.int k b)) K h ⟨⟩↔K (.bool false) h:=by rw[Hp_eql,decide_eq_false e]
theorem leq_t{t:TypeId}{x y:Operand}{k:IntKind}{a b:Int}(e:a<=b):Hp P q (binS .leq t x y (.int k a) (.int k b)) K h ⟨⟩↔K (.bool true) h:=by rw[Hp_leq,decide_eq_true e]
theorem leq_f{t:TypeId}{x y:Operand}{k:IntKind}{a b:Int}(e:¬a<=b):Hp P q (binS .leq t x y (.int k a) (.int k b)) K h ⟨⟩↔K (.bool false) h:=by rw[Hp_leq,decide_eq_false e]
theorem gtr_t{t:TypeId}{x y:Operand}{k:IntKind}{a b:Int}(e:b<a):Hp P q (binS .gtr t x y (.int k a) (.int k b)) K h ⟨⟩↔K (.bool true) h:=by rw[Hp_gtr,decide_eq_true e]
theorem gtr_f{t:TypeId}{x y:Operand}{k:IntKind}{a b:Int}(e:¬b<a):Hp P q (binS .gtr t x y (.int k a) (.int k b)) K h ⟨⟩↔K (.bool false) h:=by rw[Hp_gtr,decide_eq_false e]
theorem geq_t{t:TypeId}{x y:Operand}{k:IntKind}{a b:Int}(e:b<=a):Hp P q (binS .geq t x y (.int k a) (.int k b)) K h ⟨⟩↔K (.bool true) h:=by rw[Hp_geq,decide_eq_true e]
theorem geq_f{t:TypeId}{x y:Operand}{k:IntKind}{a b:Int}(e:¬b<=a):Hp P q (binS .geq t x y (.int k a) (.int k b)) K h ⟨⟩↔K (.bool false) h:=by rw[Hp_geq,decide_eq_false e]
theorem gLeq{b w:Bool}{J:VP}{t:TypeId}{x y:Operand}{k:IntKind}{n m:Int}{q:Bool} :
 Join1 (fun k' h=>guardP (.bool b) w (Hp P q (binS .leq t x y (gv b w (.int k n)) (.int k m)) k' h ⟨⟩) (k' undef h) ⟨⟩ ⟨⟩) J h ⟨⟩ ⟨⟩↔J (gv b w (.bool (decide (n<=m)))) h:=by
 cases b<;>cases w<;>simp[gv,Hp_leq,-Hp_leq_s]
theorem gGeq{b w:Bool}{J:VP}{t:TypeId}{x y:Operand}{k:IntKind}{n m:Int}{q:Bool} :
 Join1 (fun k' h=>guardP (.bool b) w (Hp P q (binS .geq t x y (gv b w (.int k n)) (.int k m)) k' h ⟨⟩) (k' undef h) ⟨⟩ ⟨⟩) J h ⟨⟩ ⟨⟩↔J (gv b w (.bool (decide (m<=n)))) h:=by
 cases b<;>cases w<;>simp[gv,Hp_geq,-Hp_geq_s]
end Go.Vc
set_option maxRecDepth 20000
namespace Go.Proofs.YtdccfkffabngjaaGreat
open Go.Vc
section
variable {K:VP}{h:Heap}
def MayA(x:Hd):Prop:=9<=x.bits/\x.bits<=16/\x.flags<=1/\0<=x.size/\x.size<=67108864/\x.size%512=0
def MayB(x:Hd):Prop :=
 (0<=x.l1len/\x.l1len<=1048576/\x.tables<=x.l1len)/\(x.l1len=0/\x.l1=0\/0<x.l1len/\PlaceOk x.l1 x.bits)/\(0<=x.order/\x.order<=6) /\
 (PlaceOk x.counts x.bits/\1<=x.clen/\x.clen<=65536)/\ListOk x.snaps x.sat x.slen x.bits/\ListOk x.maps x.mat x.mlen x.bits/\(x.back.length<=64/\(0:UInt8)∉x.back)
def MayH(x:Hd):Prop:=MayA x/\MayB x
instance (x:Hd):Decidable (MayA x):=by unfold MayA;infer_instance
instance (x:Hd):Decidable (MayB x):=by unfold MayB;infer_instance
instance (x:Hd):Decidable (MayH x):=by unfold MayH;infer_instance
theorem loop7{h2:Heap}{bs:List Bool}(hl:bs.length=7){kk:VP}(H:kk (.bool (bs.all id)) (h2.push (.cells (bs.map Value.bool).toArray 4))) :
 JoinN 1 (fun (k_50:VP) h_92 =>
  LoopC 2 (fun (X:Value->VP)=>fun ok6 t127 h_93 =>
   Hp Tryz.prog false (binS .lss 3 (.tmp 127) (.tmp 126) t127 (.int .i64 7)) (fun t128 h_94 =>
    CondP t128 (
     Hp Tryz.prog false (Instr.indexAt 225 (.slice (some ⟨h2.size,0,none⟩) 7 7) t127) (fun t129 h_95 =>
      Hp Tryz.prog false (Instr.loadAt 4 t129) (fun t130 h_96 =>
       Hp Tryz.prog false (Op.unary .not t130) (fun t132 h_97 =>
        CondP t132 (
         k_50 (.bool false) h_97) (
         Hp Tryz.prog false (binS .add 3 (.tmp 127) (.const (.int .i64 1)) t127 (.int .i64 1)) (fun t133 h_98 =>
          X ok6 t133 h_98) h_97 ⟨⟩) ⟨⟩ ⟨⟩) h_96 ⟨⟩) h_95 ⟨⟩) h_94 ⟨⟩) (
     k_50 ok6 h_94) ⟨⟩ ⟨⟩) h_93 ⟨⟩) [(.bool true),(.int .i64 0)] h_92 ⟨⟩)
  (fun ok6_1 h_99=>kk ok6_1 h_99) (h2.push (.cells (bs.map Value.bool).toArray 4)) ⟨⟩ ⟨⟩:=by
 refine JoinN.mk ?_
 have hc:∀i (hi:i<7),hcell (h2.push (.cells (bs.map Value.bool).toArray 4)) (elt ⟨h2.size,0,none⟩ i)=some (.bool bs[i]):=fun i hi=>by
  rw[elt_mk]
  simp[hl,hi]
 generalize h2.push (.cells (bs.map Value.bool).toArray 4)=g at *
 refine loopA2 (fun _:Nat=>.bool true) (fun i=>.int .i64 i) (fun i h'=>h'=g/\i<=7/\∀j (hj:j<bs.length),j<i->bs[j]=true) (fun i=>7-i) 0 ⟨rfl,rfl⟩ ⟨rfl,by omega,fun j _ hj=>by omega⟩ ?_
 rintro i h' ⟨rfl,hi,hall⟩
 by_cases hin:i=7
 ·have:bs.all id=true:=by
   rw[List.all_eq_true]
   intro b hb
   obtain⟨j,hj,rfl⟩:=List.mem_iff_getElem.1 hb
   exact hall j hj omg
  rw[this]at H
  simp(disch:=omega)[hin]
  exact H
 ·have h1:=hc i omg
  cases hb:bs[i]with
  | false =>
   have:bs.all id=false:=by
    rw[List.all_eq_false]
    exact⟨bs[i],List.getElem_mem _,by simp[hb]⟩
   rw[this]at H
   simp(disch:=omega)[h1,hb]
   exact H
  | true =>
   simp(disch:=omega)[h1,hb]
   refine⟨i+1,by simp,⟨by omega,fun j hj hji=>?_⟩,by omega⟩
   by_cases e:j=i
   ·subst e;exact hb
   ·exact hall j hj omg
set_option maxHeartbeats 4000000 in
theorem Check_c{x:Hd}(ht:∀h',Ext h h'->MayH x->K (.int .i64 0) h')(hf:∀h',Ext h h'->¬MayH x->K (.int .i64 2) h'):CallsH Tryz.prog 128 #[x.val] h K ⟨⟩:=by
 refine n128_calls ?_
 unfold n128;try delta vF vG vC vD vJ vV vk vt
 rw[boxH]
 have hA:=HdAt.new (h:=h) x
 have e1:Ext h (h.push (.cells x.cells.toArray 84)):=extS
 have zg:(h.push (.cells x.cells.toArray 84)).size=h.size+1:=by simp
 generalize h.push (.cells x.cells.toArray 84)=g at *
 by_cases hMA:MayA x
 ·obtain⟨h0,h1,f1,s0,s1,s2⟩:=hMA
  have hMA:MayA x:=⟨h0,h1,f1,s0,s1,s2⟩
  have hc:=clus h0 h1
  have hw:IntKind.i64.wrap (2^x.bits.toNat)=2^x.bits.toNat:=wrap_i64 omg omg
  simp(disch:=omega)[hA.1,hA.2.1,hA.2.2.1,Hp_shl,IntKind.bits,hw]
  refine (Tryz.st169 (by rfl)).2 ?_
  simp(disch:=omega)
  refine (⟨_,rfl⟩:∃g2,g2=hset (Array.push (hset (Array.push g (Obj.cells #[Value.int IntKind.i64 0] 2)) { block:=g.size,off:=0 } (Value.int IntKind.i64 (2^x.bits.toNat))) (Obj.cells #[Value.nilFunc] 169)) { block:=g.size+1,off:=0 } (Value.func (Fn.func 147) #[] #[Value.pointer (some { block:=g.size,off:=0 })])).elim fun g2 eg=>?_
  simp only[<-eg]
  have e2:Ext g g2:=by rw[eg];exact extS
  have hA2:=hA.ext e2
  have hc3:hcell g2 ⟨g.size,0,none⟩=some (.int .i64 (2^x.bits.toNat)):=by rw[eg];simp
  have hp4:hcell g2 ⟨g.size+1,0,none⟩=some (Value.func (Fn.func 147) #[] #[Value.pointer (some { block:=g.size,off:=0 })]):=by rw[eg];simp
  have E2:=e1.trans e2
  clear eg
  clear hA
  refine JoinN_in1 (fun w g'=>w = .bool (decide (MayB x))/\Ext h g') (fun kk hkk=>?_) (fun w g' hx=>?_)
  ·have fo:∀{b:Bool} {J:VP} {g:Heap} {B:Nat},Join1 (fun k h=>guardP (.bool b) true (Hp Tryz.prog true (Instr.fieldAt 84 (.pointer (some ⟨B,0,none⟩)) 5) k h ⟨⟩) (k undef h) ⟨⟩ ⟨⟩) J g ⟨⟩ ⟨⟩↔J (gv b true (.pointer (some ⟨B,5,none⟩))) g:=by
    intro b J g B;cases b<;>simp[gv]
   have fc:∀{b:Bool} {J:VP} {g:Heap} {B:Nat},Join1 (fun k h=>guardP (.bool b) true (Hp Tryz.prog true (Instr.fieldAt 84 (.pointer (some ⟨B,0,none⟩)) 7) k h ⟨⟩) (k undef h) ⟨⟩ ⟨⟩) J g ⟨⟩ ⟨⟩↔J (gv b true (.pointer (some ⟨B,7,none⟩))) g:=by
    intro b J g B;cases b<;>simp[gv]
   obtain⟨a0,a1,a2,a3,a4,a5,a6,a7,a8,a9,a10,a11,a12,a13,a14⟩:=id hA2
   by_cases bl:x.back.length<=64
   ·by_cases l0:0<=x.l1len
    ·by_cases l2:x.l1len<=1048576
     ·by_cases lz:x.l1len=0
      ·by_cases l1z:x.l1=0
       ·skip
        simp(disch:=omega)[-Hp_eql_s,-Hp_lss_s,-Hp_leq_s,-Hp_gtr_s,-Hp_geq_s,-Split_yes,-Split_no,eql_t,eql_f,leq_t,leq_f,geq_t,geq_f,gtr_t,gtr_f,Hp_eql,Hp_lss,Hp_leq,Hp_gtr,Hp_geq,gLeq,gGeq,gAnd,fo,fc,a0,a2,a3,a4,a5,a6,a7,a8,a9,a10,a11,a12,a13,a14,hc3,hp4,loadH hA2]
        refine tables_c h0 h1 s0 s1 fun h2 e3=>?_
        have hA3:=hA2.ext e3
        obtain⟨b0,b1,b2,b3,b4,b5,b6,b7,b8,b9,b10,b11,b12,b13,b14⟩:=id hA3
        have hb3:=hcell_ext e3 hc3
        have hq4:=hcell_ext e3 hp4
        have lo:∀{b:Bool} {J:VP},Join1 (fun k h'=>guardP (.bool b) true (Hp Tryz.prog true (Instr.loadAt 3 (gv b true (.pointer (some ⟨h.size,5,none⟩)))) k h' ⟨⟩) (k undef h') ⟨⟩ ⟨⟩) J h2 ⟨⟩ ⟨⟩↔J (gv b true (.int .i64 x.order)) h2:=by
         intro b J;cases b<;>simp[gv,b5]
        have lc:∀{b:Bool} {J:VP},Join1 (fun k h'=>guardP (.bool b) true (Hp Tryz.prog true (Instr.loadAt 3 (gv b true (.pointer (some ⟨h.size,7,none⟩)))) k h' ⟨⟩) (k undef h') ⟨⟩ ⟨⟩) J h2 ⟨⟩ ⟨⟩↔J (gv b true (.int .i64 x.clen)) h2:=by
         intro b J;cases b<;>simp[gv,b7]
        simp(disch:=omega)[-Hp_eql_s,-Hp_lss_s,-Hp_leq_s,-Hp_gtr_s,-Hp_geq_s,-Split_yes,-Split_no,eql_t,eql_f,leq_t,leq_f,geq_t,geq_f,gtr_t,gtr_f,Hp_eql,Hp_lss,Hp_leq,Hp_gtr,Hp_geq,gLeq,gGeq,gAnd,fo,fc,lo,lc,b0,b2,b3,b4,b5,b6,b7,b8,b9,b10,b11,b12,b13,b14,hb3,hq4]
        refine InvokeH_func kR ?_
        refine placeH_c h0 h1 hb3 ?_
        simp(disch:=omega)[-Hp_eql_s,-Hp_lss_s,-Hp_leq_s,-Hp_gtr_s,-Hp_geq_s,-Split_yes,-Split_no,eql_t,eql_f,leq_t,leq_f,geq_t,geq_f,gtr_t,gtr_f,Hp_eql,Hp_lss,Hp_leq,Hp_gtr,Hp_geq,gLeq,gGeq,gAnd,fo,fc,lo,lc,b0,b2,b3,b4,b5,b6,b7,b8,b9,b10,b11,b12,b13,b14,hb3,hq4]
        refine InvokeH_func kR ?_
        refine listH_c h0 h1 hb3 hq4 ?_
        simp(disch:=omega)[-Hp_eql_s,-Hp_lss_s,-Hp_leq_s,-Hp_gtr_s,-Hp_geq_s,-Split_yes,-Split_no,eql_t,eql_f,leq_t,leq_f,geq_t,geq_f,gtr_t,gtr_f,Hp_eql,Hp_lss,Hp_leq,Hp_gtr,Hp_geq,gLeq,gGeq,gAnd,fo,fc,lo,lc,b0,b2,b3,b4,b5,b6,b7,b8,b9,b10,b11,b12,b13,b14,hb3,hq4]
        refine InvokeH_func kR ?_
        refine listH_c h0 h1 hb3 hq4 ?_
        simp(disch:=omega)[-Hp_eql_s,-Hp_lss_s,-Hp_leq_s,-Hp_gtr_s,-Hp_geq_s,-Split_yes,-Split_no,eql_t,eql_f,leq_t,leq_f,geq_t,geq_f,gtr_t,gtr_f,Hp_eql,Hp_lss,Hp_leq,Hp_gtr,Hp_geq,gLeq,gGeq,gAnd,fo,fc,lo,lc,b0,b2,b3,b4,b5,b6,b7,b8,b9,b10,b11,b12,b13,b14,hb3,hq4]
        refine Contains0_c ?_
        simp(disch:=omega)[-Hp_eql_s,-Hp_lss_s,-Hp_leq_s,-Hp_gtr_s,-Hp_geq_s,-Split_yes,-Split_no,eql_t,eql_f,leq_t,leq_f,geq_t,geq_f,gtr_t,gtr_f,Hp_eql,Hp_lss,Hp_leq,Hp_gtr,Hp_geq,gLeq,gGeq,gAnd,fo,fc,lo,lc,b0,b2,b3,b4,b5,b6,b7,b8,b9,b10,b11,b12,b13,b14,hb3,hq4]
        refine loop7 (h2:=h2) (bs:=[_,_,_,_,_,_,_]) rfl (hkk _ _ ⟨?_,E2.trans (Ext.trans (e3) extS)⟩)
        congr 1
        unfold MayB
        simp[l0,l2,lz,l1z,bl,Bool.and_assoc]
       ·skip
        simp(disch:=omega)[-Hp_eql_s,-Hp_lss_s,-Hp_leq_s,-Hp_gtr_s,-Hp_geq_s,-Split_yes,-Split_no,eql_t,eql_f,leq_t,leq_f,geq_t,geq_f,gtr_t,gtr_f,Hp_eql,Hp_lss,Hp_leq,Hp_gtr,Hp_geq,gLeq,gGeq,gAnd,fo,fc,a0,a2,a3,a4,a5,a6,a7,a8,a9,a10,a11,a12,a13,a14,hc3,hp4,loadH hA2]
        refine tables_c h0 h1 s0 s1 fun h2 e3=>?_
        have hA3:=hA2.ext e3
        obtain⟨b0,b1,b2,b3,b4,b5,b6,b7,b8,b9,b10,b11,b12,b13,b14⟩:=id hA3
        have hb3:=hcell_ext e3 hc3
        have hq4:=hcell_ext e3 hp4
        have lo:∀{b:Bool} {J:VP},Join1 (fun k h'=>guardP (.bool b) true (Hp Tryz.prog true (Instr.loadAt 3 (gv b true (.pointer (some ⟨h.size,5,none⟩)))) k h' ⟨⟩) (k undef h') ⟨⟩ ⟨⟩) J h2 ⟨⟩ ⟨⟩↔J (gv b true (.int .i64 x.order)) h2:=by
         intro b J;cases b<;>simp[gv,b5]
        have lc:∀{b:Bool} {J:VP},Join1 (fun k h'=>guardP (.bool b) true (Hp Tryz.prog true (Instr.loadAt 3 (gv b true (.pointer (some ⟨h.size,7,none⟩)))) k h' ⟨⟩) (k undef h') ⟨⟩ ⟨⟩) J h2 ⟨⟩ ⟨⟩↔J (gv b true (.int .i64 x.clen)) h2:=by
         intro b J;cases b<;>simp[gv,b7]
        simp(disch:=omega)[-Hp_eql_s,-Hp_lss_s,-Hp_leq_s,-Hp_gtr_s,-Hp_geq_s,-Split_yes,-Split_no,eql_t,eql_f,leq_t,leq_f,geq_t,geq_f,gtr_t,gtr_f,Hp_eql,Hp_lss,Hp_leq,Hp_gtr,Hp_geq,gLeq,gGeq,gAnd,fo,fc,lo,lc,b0,b2,b3,b4,b5,b6,b7,b8,b9,b10,b11,b12,b13,b14,hb3,hq4]
        refine InvokeH_func kR ?_
        refine placeH_c h0 h1 hb3 ?_
        simp(disch:=omega)[-Hp_eql_s,-Hp_lss_s,-Hp_leq_s,-Hp_gtr_s,-Hp_geq_s,-Split_yes,-Split_no,eql_t,eql_f,leq_t,leq_f,geq_t,geq_f,gtr_t,gtr_f,Hp_eql,Hp_lss,Hp_leq,Hp_gtr,Hp_geq,gLeq,gGeq,gAnd,fo,fc,lo,lc,b0,b2,b3,b4,b5,b6,b7,b8,b9,b10,b11,b12,b13,b14,hb3,hq4]
        refine InvokeH_func kR ?_
        refine listH_c h0 h1 hb3 hq4 ?_
        simp(disch:=omega)[-Hp_eql_s,-Hp_lss_s,-Hp_leq_s,-Hp_gtr_s,-Hp_geq_s,-Split_yes,-Split_no,eql_t,eql_f,leq_t,leq_f,geq_t,geq_f,gtr_t,gtr_f,Hp_eql,Hp_lss,Hp_leq,Hp_gtr,Hp_geq,gLeq,gGeq,gAnd,fo,fc,lo,lc,b0,b2,b3,b4,b5,b6,b7,b8,b9,b10,b11,b12,b13,b14,hb3,hq4]
        refine InvokeH_func kR ?_
        refine listH_c h0 h1 hb3 hq4 ?_
        simp(disch:=omega)[-Hp_eql_s,-Hp_lss_s,-Hp_leq_s,-Hp_gtr_s,-Hp_geq_s,-Split_yes,-Split_no,eql_t,eql_f,leq_t,leq_f,geq_t,geq_f,gtr_t,gtr_f,Hp_eql,Hp_lss,Hp_leq,Hp_gtr,Hp_geq,gLeq,gGeq,gAnd,fo,fc,lo,lc,b0,b2,b3,b4,b5,b6,b7,b8,b9,b10,b11,b12,b13,b14,hb3,hq4]
        refine Contains0_c ?_
        simp(disch:=omega)[-Hp_eql_s,-Hp_lss_s,-Hp_leq_s,-Hp_gtr_s,-Hp_geq_s,-Split_yes,-Split_no,eql_t,eql_f,leq_t,leq_f,geq_t,geq_f,gtr_t,gtr_f,Hp_eql,Hp_lss,Hp_leq,Hp_gtr,Hp_geq,gLeq,gGeq,gAnd,fo,fc,lo,lc,b0,b2,b3,b4,b5,b6,b7,b8,b9,b10,b11,b12,b13,b14,hb3,hq4]
        refine loop7 (h2:=h2) (bs:=[_,_,_,_,_,_,_]) rfl (hkk _ _ ⟨?_,E2.trans (Ext.trans (e3) extS)⟩)
        congr 1
        unfold MayB
        simp[l0,l2,lz,l1z,bl,Bool.and_assoc]
      ·have lp:0<x.l1len:=by omega
       simp(disch:=omega)[-Hp_eql_s,-Hp_lss_s,-Hp_leq_s,-Hp_gtr_s,-Hp_geq_s,-Split_yes,-Split_no,eql_t,eql_f,leq_t,leq_f,geq_t,geq_f,gtr_t,gtr_f,Hp_eql,Hp_lss,Hp_leq,Hp_gtr,Hp_geq,gLeq,gGeq,gAnd,fo,fc,a0,a2,a3,a4,a5,a6,a7,a8,a9,a10,a11,a12,a13,a14,hc3,hp4,loadH hA2]
       refine tables_c h0 h1 s0 s1 fun h2 e3=>?_
       have hA3:=hA2.ext e3
       obtain⟨b0,b1,b2,b3,b4,b5,b6,b7,b8,b9,b10,b11,b12,b13,b14⟩:=id hA3
       have hb3:=hcell_ext e3 hc3
       have hq4:=hcell_ext e3 hp4
       have lo:∀{b:Bool} {J:VP},Join1 (fun k h'=>guardP (.bool b) true (Hp Tryz.prog true (Instr.loadAt 3 (gv b true (.pointer (some ⟨h.size,5,none⟩)))) k h' ⟨⟩) (k undef h') ⟨⟩ ⟨⟩) J h2 ⟨⟩ ⟨⟩↔J (gv b true (.int .i64 x.order)) h2:=by
        intro b J;cases b<;>simp[gv,b5]
       have lc:∀{b:Bool} {J:VP},Join1 (fun k h'=>guardP (.bool b) true (Hp Tryz.prog true (Instr.loadAt 3 (gv b true (.pointer (some ⟨h.size,7,none⟩)))) k h' ⟨⟩) (k undef h') ⟨⟩ ⟨⟩) J h2 ⟨⟩ ⟨⟩↔J (gv b true (.int .i64 x.clen)) h2:=by
        intro b J;cases b<;>simp[gv,b7]
       simp(disch:=omega)[-Hp_eql_s,-Hp_lss_s,-Hp_leq_s,-Hp_gtr_s,-Hp_geq_s,-Split_yes,-Split_no,eql_t,eql_f,leq_t,leq_f,geq_t,geq_f,gtr_t,gtr_f,Hp_eql,Hp_lss,Hp_leq,Hp_gtr,Hp_geq,gLeq,gGeq,gAnd,fo,fc,lo,lc,b0,b2,b3,b4,b5,b6,b7,b8,b9,b10,b11,b12,b13,b14,hb3,hq4]
       refine InvokeH_func kR ?_
       refine placeH_c h0 h1 hb3 ?_
       simp(disch:=omega)[-Hp_eql_s,-Hp_lss_s,-Hp_leq_s,-Hp_gtr_s,-Hp_geq_s,-Split_yes,-Split_no,eql_t,eql_f,leq_t,leq_f,geq_t,geq_f,gtr_t,gtr_f,Hp_eql,Hp_lss,Hp_leq,Hp_gtr,Hp_geq,gLeq,gGeq,gAnd,fo,fc,lo,lc,b0,b2,b3,b4,b5,b6,b7,b8,b9,b10,b11,b12,b13,b14,hb3,hq4]
       refine InvokeH_func kR ?_
       refine placeH_c h0 h1 hb3 ?_
       simp(disch:=omega)[-Hp_eql_s,-Hp_lss_s,-Hp_leq_s,-Hp_gtr_s,-Hp_geq_s,-Split_yes,-Split_no,eql_t,eql_f,leq_t,leq_f,geq_t,geq_f,gtr_t,gtr_f,Hp_eql,Hp_lss,Hp_leq,Hp_gtr,Hp_geq,gLeq,gGeq,gAnd,fo,fc,lo,lc,b0,b2,b3,b4,b5,b6,b7,b8,b9,b10,b11,b12,b13,b14,hb3,hq4]
       refine InvokeH_func kR ?_
       refine listH_c h0 h1 hb3 hq4 ?_
       simp(disch:=omega)[-Hp_eql_s,-Hp_lss_s,-Hp_leq_s,-Hp_gtr_s,-Hp_geq_s,-Split_yes,-Split_no,eql_t,eql_f,leq_t,leq_f,geq_t,geq_f,gtr_t,gtr_f,Hp_eql,Hp_lss,Hp_leq,Hp_gtr,Hp_geq,gLeq,gGeq,gAnd,fo,fc,lo,lc,b0,b2,b3,b4,b5,b6,b7,b8,b9,b10,b11,b12,b13,b14,hb3,hq4]
       refine InvokeH_func kR ?_
       refine listH_c h0 h1 hb3 hq4 ?_
       simp(disch:=omega)[-Hp_eql_s,-Hp_lss_s,-Hp_leq_s,-Hp_gtr_s,-Hp_geq_s,-Split_yes,-Split_no,eql_t,eql_f,leq_t,leq_f,geq_t,geq_f,gtr_t,gtr_f,Hp_eql,Hp_lss,Hp_leq,Hp_gtr,Hp_geq,gLeq,gGeq,gAnd,fo,fc,lo,lc,b0,b2,b3,b4,b5,b6,b7,b8,b9,b10,b11,b12,b13,b14,hb3,hq4]
       refine Contains0_c ?_
       simp(disch:=omega)[-Hp_eql_s,-Hp_lss_s,-Hp_leq_s,-Hp_gtr_s,-Hp_geq_s,-Split_yes,-Split_no,eql_t,eql_f,leq_t,leq_f,geq_t,geq_f,gtr_t,gtr_f,Hp_eql,Hp_lss,Hp_leq,Hp_gtr,Hp_geq,gLeq,gGeq,gAnd,fo,fc,lo,lc,b0,b2,b3,b4,b5,b6,b7,b8,b9,b10,b11,b12,b13,b14,hb3,hq4]
       refine loop7 (h2:=h2) (bs:=[_,_,_,_,_,_,_]) rfl (hkk _ _ ⟨?_,E2.trans (Ext.trans (e3) extS)⟩)
       congr 1
       unfold MayB
       simp[l0,l2,lz,lp,bl,Bool.and_assoc]
     ·have lp:0<x.l1len:=by omega
      have lz:¬x.l1len=0:=by omega
      have hA3:=hA2.ext (Ext.refl g2)
      obtain⟨b0,b1,b2,b3,b4,b5,b6,b7,b8,b9,b10,b11,b12,b13,b14⟩:=id hA3
      have hb3:=hcell_ext (Ext.refl g2) hc3
      have hq4:=hcell_ext (Ext.refl g2) hp4
      have lo:∀{b:Bool} {J:VP},Join1 (fun k h'=>guardP (.bool b) true (Hp Tryz.prog true (Instr.loadAt 3 (gv b true (.pointer (some ⟨h.size,5,none⟩)))) k h' ⟨⟩) (k undef h') ⟨⟩ ⟨⟩) J g2 ⟨⟩ ⟨⟩↔J (gv b true (.int .i64 x.order)) g2:=by
       intro b J;cases b<;>simp[gv,b5]
      have lc:∀{b:Bool} {J:VP},Join1 (fun k h'=>guardP (.bool b) true (Hp Tryz.prog true (Instr.loadAt 3 (gv b true (.pointer (some ⟨h.size,7,none⟩)))) k h' ⟨⟩) (k undef h') ⟨⟩ ⟨⟩) J g2 ⟨⟩ ⟨⟩↔J (gv b true (.int .i64 x.clen)) g2:=by
       intro b J;cases b<;>simp[gv,b7]
      simp(disch:=omega)[-Hp_eql_s,-Hp_lss_s,-Hp_leq_s,-Hp_gtr_s,-Hp_geq_s,-Split_yes,-Split_no,eql_t,eql_f,leq_t,leq_f,geq_t,geq_f,gtr_t,gtr_f,Hp_eql,Hp_lss,Hp_leq,Hp_gtr,Hp_geq,gLeq,gGeq,gAnd,fo,fc,lo,lc,b0,b2,b3,b4,b5,b6,b7,b8,b9,b10,b11,b12,b13,b14,hb3,hq4]
      refine InvokeH_func kR ?_
      refine placeH_c h0 h1 hb3 ?_
      simp(disch:=omega)[-Hp_eql_s,-Hp_lss_s,-Hp_leq_s,-Hp_gtr_s,-Hp_geq_s,-Split_yes,-Split_no,eql_t,eql_f,leq_t,leq_f,geq_t,geq_f,gtr_t,gtr_f,Hp_eql,Hp_lss,Hp_leq,Hp_gtr,Hp_geq,gLeq,gGeq,gAnd,fo,fc,lo,lc,b0,b2,b3,b4,b5,b6,b7,b8,b9,b10,b11,b12,b13,b14,hb3,hq4]
      refine InvokeH_func kR ?_
      refine placeH_c h0 h1 hb3 ?_
      simp(disch:=omega)[-Hp_eql_s,-Hp_lss_s,-Hp_leq_s,-Hp_gtr_s,-Hp_geq_s,-Split_yes,-Split_no,eql_t,eql_f,leq_t,leq_f,geq_t,geq_f,gtr_t,gtr_f,Hp_eql,Hp_lss,Hp_leq,Hp_gtr,Hp_geq,gLeq,gGeq,gAnd,fo,fc,lo,lc,b0,b2,b3,b4,b5,b6,b7,b8,b9,b10,b11,b12,b13,b14,hb3,hq4]
      refine InvokeH_func kR ?_
      refine listH_c h0 h1 hb3 hq4 ?_
      simp(disch:=omega)[-Hp_eql_s,-Hp_lss_s,-Hp_leq_s,-Hp_gtr_s,-Hp_geq_s,-Split_yes,-Split_no,eql_t,eql_f,leq_t,leq_f,geq_t,geq_f,gtr_t,gtr_f,Hp_eql,Hp_lss,Hp_leq,Hp_gtr,Hp_geq,gLeq,gGeq,gAnd,fo,fc,lo,lc,b0,b2,b3,b4,b5,b6,b7,b8,b9,b10,b11,b12,b13,b14,hb3,hq4]
      refine InvokeH_func kR ?_
      refine listH_c h0 h1 hb3 hq4 ?_
      simp(disch:=omega)[-Hp_eql_s,-Hp_lss_s,-Hp_leq_s,-Hp_gtr_s,-Hp_geq_s,-Split_yes,-Split_no,eql_t,eql_f,leq_t,leq_f,geq_t,geq_f,gtr_t,gtr_f,Hp_eql,Hp_lss,Hp_leq,Hp_gtr,Hp_geq,gLeq,gGeq,gAnd,fo,fc,lo,lc,b0,b2,b3,b4,b5,b6,b7,b8,b9,b10,b11,b12,b13,b14,hb3,hq4]
      refine Contains0_c ?_
      simp(disch:=omega)[-Hp_eql_s,-Hp_lss_s,-Hp_leq_s,-Hp_gtr_s,-Hp_geq_s,-Split_yes,-Split_no,eql_t,eql_f,leq_t,leq_f,geq_t,geq_f,gtr_t,gtr_f,Hp_eql,Hp_lss,Hp_leq,Hp_gtr,Hp_geq,gLeq,gGeq,gAnd,fo,fc,lo,lc,b0,b2,b3,b4,b5,b6,b7,b8,b9,b10,b11,b12,b13,b14,hb3,hq4]
      refine loop7 (h2:=g2) (bs:=[_,_,_,_,_,_,_]) rfl (hkk _ _ ⟨?_,E2.trans (Ext.trans (Ext.refl g2) extS)⟩)
      congr 1
      unfold MayB
      simp[l0,l2,lz,lp,bl,Bool.and_assoc]
    ·have lp:¬0<x.l1len:=by omega
     have lz:¬x.l1len=0:=by omega
     have hA3:=hA2.ext (Ext.refl g2)
     obtain⟨b0,b1,b2,b3,b4,b5,b6,b7,b8,b9,b10,b11,b12,b13,b14⟩:=id hA3
     have hb3:=hcell_ext (Ext.refl g2) hc3
     have hq4:=hcell_ext (Ext.refl g2) hp4
     have lo:∀{b:Bool} {J:VP},Join1 (fun k h'=>guardP (.bool b) true (Hp Tryz.prog true (Instr.loadAt 3 (gv b true (.pointer (some ⟨h.size,5,none⟩)))) k h' ⟨⟩) (k undef h') ⟨⟩ ⟨⟩) J g2 ⟨⟩ ⟨⟩↔J (gv b true (.int .i64 x.order)) g2:=by
      intro b J;cases b<;>simp[gv,b5]
     have lc:∀{b:Bool} {J:VP},Join1 (fun k h'=>guardP (.bool b) true (Hp Tryz.prog true (Instr.loadAt 3 (gv b true (.pointer (some ⟨h.size,7,none⟩)))) k h' ⟨⟩) (k undef h') ⟨⟩ ⟨⟩) J g2 ⟨⟩ ⟨⟩↔J (gv b true (.int .i64 x.clen)) g2:=by
      intro b J;cases b<;>simp[gv,b7]
     simp(disch:=omega)[-Hp_eql_s,-Hp_lss_s,-Hp_leq_s,-Hp_gtr_s,-Hp_geq_s,-Split_yes,-Split_no,eql_t,eql_f,leq_t,leq_f,geq_t,geq_f,gtr_t,gtr_f,Hp_eql,Hp_lss,Hp_leq,Hp_gtr,Hp_geq,gLeq,gGeq,gAnd,fo,fc,lo,lc,b0,b2,b3,b4,b5,b6,b7,b8,b9,b10,b11,b12,b13,b14,hb3,hq4]
     refine InvokeH_func kR ?_
     refine placeH_c h0 h1 hb3 ?_
     simp(disch:=omega)[-Hp_eql_s,-Hp_lss_s,-Hp_leq_s,-Hp_gtr_s,-Hp_geq_s,-Split_yes,-Split_no,eql_t,eql_f,leq_t,leq_f,geq_t,geq_f,gtr_t,gtr_f,Hp_eql,Hp_lss,Hp_leq,Hp_gtr,Hp_geq,gLeq,gGeq,gAnd,fo,fc,lo,lc,b0,b2,b3,b4,b5,b6,b7,b8,b9,b10,b11,b12,b13,b14,hb3,hq4]
     refine InvokeH_func kR ?_
     refine listH_c h0 h1 hb3 hq4 ?_
     simp(disch:=omega)[-Hp_eql_s,-Hp_lss_s,-Hp_leq_s,-Hp_gtr_s,-Hp_geq_s,-Split_yes,-Split_no,eql_t,eql_f,leq_t,leq_f,geq_t,geq_f,gtr_t,gtr_f,Hp_eql,Hp_lss,Hp_leq,Hp_gtr,Hp_geq,gLeq,gGeq,gAnd,fo,fc,lo,lc,b0,b2,b3,b4,b5,b6,b7,b8,b9,b10,b11,b12,b13,b14,hb3,hq4]
     refine InvokeH_func kR ?_
     refine listH_c h0 h1 hb3 hq4 ?_
     simp(disch:=omega)[-Hp_eql_s,-Hp_lss_s,-Hp_leq_s,-Hp_gtr_s,-Hp_geq_s,-Split_yes,-Split_no,eql_t,eql_f,leq_t,leq_f,geq_t,geq_f,gtr_t,gtr_f,Hp_eql,Hp_lss,Hp_leq,Hp_gtr,Hp_geq,gLeq,gGeq,gAnd,fo,fc,lo,lc,b0,b2,b3,b4,b5,b6,b7,b8,b9,b10,b11,b12,b13,b14,hb3,hq4]
     refine Contains0_c ?_
     simp(disch:=omega)[-Hp_eql_s,-Hp_lss_s,-Hp_leq_s,-Hp_gtr_s,-Hp_geq_s,-Split_yes,-Split_no,eql_t,eql_f,leq_t,leq_f,geq_t,geq_f,gtr_t,gtr_f,Hp_eql,Hp_lss,Hp_leq,Hp_gtr,Hp_geq,gLeq,gGeq,gAnd,fo,fc,lo,lc,b0,b2,b3,b4,b5,b6,b7,b8,b9,b10,b11,b12,b13,b14,hb3,hq4]
     refine loop7 (h2:=g2) (bs:=[_,_,_,_,_,_,_]) rfl (hkk _ _ ⟨?_,E2.trans (Ext.trans (Ext.refl g2) extS)⟩)
     congr 1
     unfold MayB
     simp[l0,lz,lp,bl,Bool.and_assoc]
   ·by_cases l0:0<=x.l1len
    ·by_cases l2:x.l1len<=1048576
     ·by_cases lz:x.l1len=0
      ·by_cases l1z:x.l1=0
       ·skip
        simp(disch:=omega)[-Hp_eql_s,-Hp_lss_s,-Hp_leq_s,-Hp_gtr_s,-Hp_geq_s,-Split_yes,-Split_no,eql_t,eql_f,leq_t,leq_f,geq_t,geq_f,gtr_t,gtr_f,Hp_eql,Hp_lss,Hp_leq,Hp_gtr,Hp_geq,gLeq,gGeq,gAnd,fo,fc,a0,a2,a3,a4,a5,a6,a7,a8,a9,a10,a11,a12,a13,a14,hc3,hp4,loadH hA2]
        refine tables_c h0 h1 s0 s1 fun h2 e3=>?_
        have hA3:=hA2.ext e3
        obtain⟨b0,b1,b2,b3,b4,b5,b6,b7,b8,b9,b10,b11,b12,b13,b14⟩:=id hA3
        have hb3:=hcell_ext e3 hc3
        have hq4:=hcell_ext e3 hp4
        have lo:∀{b:Bool} {J:VP},Join1 (fun k h'=>guardP (.bool b) true (Hp Tryz.prog true (Instr.loadAt 3 (gv b true (.pointer (some ⟨h.size,5,none⟩)))) k h' ⟨⟩) (k undef h') ⟨⟩ ⟨⟩) J h2 ⟨⟩ ⟨⟩↔J (gv b true (.int .i64 x.order)) h2:=by
         intro b J;cases b<;>simp[gv,b5]
        have lc:∀{b:Bool} {J:VP},Join1 (fun k h'=>guardP (.bool b) true (Hp Tryz.prog true (Instr.loadAt 3 (gv b true (.pointer (some ⟨h.size,7,none⟩)))) k h' ⟨⟩) (k undef h') ⟨⟩ ⟨⟩) J h2 ⟨⟩ ⟨⟩↔J (gv b true (.int .i64 x.clen)) h2:=by
         intro b J;cases b<;>simp[gv,b7]
        simp(disch:=omega)[-Hp_eql_s,-Hp_lss_s,-Hp_leq_s,-Hp_gtr_s,-Hp_geq_s,-Split_yes,-Split_no,eql_t,eql_f,leq_t,leq_f,geq_t,geq_f,gtr_t,gtr_f,Hp_eql,Hp_lss,Hp_leq,Hp_gtr,Hp_geq,gLeq,gGeq,gAnd,fo,fc,lo,lc,b0,b2,b3,b4,b5,b6,b7,b8,b9,b10,b11,b12,b13,b14,hb3,hq4]
        refine InvokeH_func kR ?_
        refine placeH_c h0 h1 hb3 ?_
        simp(disch:=omega)[-Hp_eql_s,-Hp_lss_s,-Hp_leq_s,-Hp_gtr_s,-Hp_geq_s,-Split_yes,-Split_no,eql_t,eql_f,leq_t,leq_f,geq_t,geq_f,gtr_t,gtr_f,Hp_eql,Hp_lss,Hp_leq,Hp_gtr,Hp_geq,gLeq,gGeq,gAnd,fo,fc,lo,lc,b0,b2,b3,b4,b5,b6,b7,b8,b9,b10,b11,b12,b13,b14,hb3,hq4]
        refine InvokeH_func kR ?_
        refine listH_c h0 h1 hb3 hq4 ?_
        simp(disch:=omega)[-Hp_eql_s,-Hp_lss_s,-Hp_leq_s,-Hp_gtr_s,-Hp_geq_s,-Split_yes,-Split_no,eql_t,eql_f,leq_t,leq_f,geq_t,geq_f,gtr_t,gtr_f,Hp_eql,Hp_lss,Hp_leq,Hp_gtr,Hp_geq,gLeq,gGeq,gAnd,fo,fc,lo,lc,b0,b2,b3,b4,b5,b6,b7,b8,b9,b10,b11,b12,b13,b14,hb3,hq4]
        refine InvokeH_func kR ?_
        refine listH_c h0 h1 hb3 hq4 ?_
        simp(disch:=omega)[-Hp_eql_s,-Hp_lss_s,-Hp_leq_s,-Hp_gtr_s,-Hp_geq_s,-Split_yes,-Split_no,eql_t,eql_f,leq_t,leq_f,geq_t,geq_f,gtr_t,gtr_f,Hp_eql,Hp_lss,Hp_leq,Hp_gtr,Hp_geq,gLeq,gGeq,gAnd,fo,fc,lo,lc,b0,b2,b3,b4,b5,b6,b7,b8,b9,b10,b11,b12,b13,b14,hb3,hq4]
        refine loop7 (h2:=h2) (bs:=[_,_,_,_,_,_,_]) rfl (hkk _ _ ⟨?_,E2.trans (Ext.trans (e3) extS)⟩)
        congr 1
        unfold MayB
        simp[l0,l2,lz,l1z,bl,Bool.and_assoc]
       ·skip
        simp(disch:=omega)[-Hp_eql_s,-Hp_lss_s,-Hp_leq_s,-Hp_gtr_s,-Hp_geq_s,-Split_yes,-Split_no,eql_t,eql_f,leq_t,leq_f,geq_t,geq_f,gtr_t,gtr_f,Hp_eql,Hp_lss,Hp_leq,Hp_gtr,Hp_geq,gLeq,gGeq,gAnd,fo,fc,a0,a2,a3,a4,a5,a6,a7,a8,a9,a10,a11,a12,a13,a14,hc3,hp4,loadH hA2]
        refine tables_c h0 h1 s0 s1 fun h2 e3=>?_
        have hA3:=hA2.ext e3
        obtain⟨b0,b1,b2,b3,b4,b5,b6,b7,b8,b9,b10,b11,b12,b13,b14⟩:=id hA3
        have hb3:=hcell_ext e3 hc3
        have hq4:=hcell_ext e3 hp4
        have lo:∀{b:Bool} {J:VP},Join1 (fun k h'=>guardP (.bool b) true (Hp Tryz.prog true (Instr.loadAt 3 (gv b true (.pointer (some ⟨h.size,5,none⟩)))) k h' ⟨⟩) (k undef h') ⟨⟩ ⟨⟩) J h2 ⟨⟩ ⟨⟩↔J (gv b true (.int .i64 x.order)) h2:=by
         intro b J;cases b<;>simp[gv,b5]
        have lc:∀{b:Bool} {J:VP},Join1 (fun k h'=>guardP (.bool b) true (Hp Tryz.prog true (Instr.loadAt 3 (gv b true (.pointer (some ⟨h.size,7,none⟩)))) k h' ⟨⟩) (k undef h') ⟨⟩ ⟨⟩) J h2 ⟨⟩ ⟨⟩↔J (gv b true (.int .i64 x.clen)) h2:=by
         intro b J;cases b<;>simp[gv,b7]
        simp(disch:=omega)[-Hp_eql_s,-Hp_lss_s,-Hp_leq_s,-Hp_gtr_s,-Hp_geq_s,-Split_yes,-Split_no,eql_t,eql_f,leq_t,leq_f,geq_t,geq_f,gtr_t,gtr_f,Hp_eql,Hp_lss,Hp_leq,Hp_gtr,Hp_geq,gLeq,gGeq,gAnd,fo,fc,lo,lc,b0,b2,b3,b4,b5,b6,b7,b8,b9,b10,b11,b12,b13,b14,hb3,hq4]
        refine InvokeH_func kR ?_
        refine placeH_c h0 h1 hb3 ?_
        simp(disch:=omega)[-Hp_eql_s,-Hp_lss_s,-Hp_leq_s,-Hp_gtr_s,-Hp_geq_s,-Split_yes,-Split_no,eql_t,eql_f,leq_t,leq_f,geq_t,geq_f,gtr_t,gtr_f,Hp_eql,Hp_lss,Hp_leq,Hp_gtr,Hp_geq,gLeq,gGeq,gAnd,fo,fc,lo,lc,b0,b2,b3,b4,b5,b6,b7,b8,b9,b10,b11,b12,b13,b14,hb3,hq4]
        refine InvokeH_func kR ?_
        refine listH_c h0 h1 hb3 hq4 ?_
        simp(disch:=omega)[-Hp_eql_s,-Hp_lss_s,-Hp_leq_s,-Hp_gtr_s,-Hp_geq_s,-Split_yes,-Split_no,eql_t,eql_f,leq_t,leq_f,geq_t,geq_f,gtr_t,gtr_f,Hp_eql,Hp_lss,Hp_leq,Hp_gtr,Hp_geq,gLeq,gGeq,gAnd,fo,fc,lo,lc,b0,b2,b3,b4,b5,b6,b7,b8,b9,b10,b11,b12,b13,b14,hb3,hq4]
        refine InvokeH_func kR ?_
        refine listH_c h0 h1 hb3 hq4 ?_
        simp(disch:=omega)[-Hp_eql_s,-Hp_lss_s,-Hp_leq_s,-Hp_gtr_s,-Hp_geq_s,-Split_yes,-Split_no,eql_t,eql_f,leq_t,leq_f,geq_t,geq_f,gtr_t,gtr_f,Hp_eql,Hp_lss,Hp_leq,Hp_gtr,Hp_geq,gLeq,gGeq,gAnd,fo,fc,lo,lc,b0,b2,b3,b4,b5,b6,b7,b8,b9,b10,b11,b12,b13,b14,hb3,hq4]
        refine loop7 (h2:=h2) (bs:=[_,_,_,_,_,_,_]) rfl (hkk _ _ ⟨?_,E2.trans (Ext.trans (e3) extS)⟩)
        congr 1
        unfold MayB
        simp[l0,l2,lz,l1z,bl,Bool.and_assoc]
      ·have lp:0<x.l1len:=by omega
       simp(disch:=omega)[-Hp_eql_s,-Hp_lss_s,-Hp_leq_s,-Hp_gtr_s,-Hp_geq_s,-Split_yes,-Split_no,eql_t,eql_f,leq_t,leq_f,geq_t,geq_f,gtr_t,gtr_f,Hp_eql,Hp_lss,Hp_leq,Hp_gtr,Hp_geq,gLeq,gGeq,gAnd,fo,fc,a0,a2,a3,a4,a5,a6,a7,a8,a9,a10,a11,a12,a13,a14,hc3,hp4,loadH hA2]
       refine tables_c h0 h1 s0 s1 fun h2 e3=>?_
       have hA3:=hA2.ext e3
       obtain⟨b0,b1,b2,b3,b4,b5,b6,b7,b8,b9,b10,b11,b12,b13,b14⟩:=id hA3
       have hb3:=hcell_ext e3 hc3
       have hq4:=hcell_ext e3 hp4
       have lo:∀{b:Bool} {J:VP},Join1 (fun k h'=>guardP (.bool b) true (Hp Tryz.prog true (Instr.loadAt 3 (gv b true (.pointer (some ⟨h.size,5,none⟩)))) k h' ⟨⟩) (k undef h') ⟨⟩ ⟨⟩) J h2 ⟨⟩ ⟨⟩↔J (gv b true (.int .i64 x.order)) h2:=by
        intro b J;cases b<;>simp[gv,b5]
       have lc:∀{b:Bool} {J:VP},Join1 (fun k h'=>guardP (.bool b) true (Hp Tryz.prog true (Instr.loadAt 3 (gv b true (.pointer (some ⟨h.size,7,none⟩)))) k h' ⟨⟩) (k undef h') ⟨⟩ ⟨⟩) J h2 ⟨⟩ ⟨⟩↔J (gv b true (.int .i64 x.clen)) h2:=by
        intro b J;cases b<;>simp[gv,b7]
       simp(disch:=omega)[-Hp_eql_s,-Hp_lss_s,-Hp_leq_s,-Hp_gtr_s,-Hp_geq_s,-Split_yes,-Split_no,eql_t,eql_f,leq_t,leq_f,geq_t,geq_f,gtr_t,gtr_f,Hp_eql,Hp_lss,Hp_leq,Hp_gtr,Hp_geq,gLeq,gGeq,gAnd,fo,fc,lo,lc,b0,b2,b3,b4,b5,b6,b7,b8,b9,b10,b11,b12,b13,b14,hb3,hq4]
       refine InvokeH_func kR ?_
       refine placeH_c h0 h1 hb3 ?_
       simp(disch:=omega)[-Hp_eql_s,-Hp_lss_s,-Hp_leq_s,-Hp_gtr_s,-Hp_geq_s,-Split_yes,-Split_no,eql_t,eql_f,leq_t,leq_f,geq_t,geq_f,gtr_t,gtr_f,Hp_eql,Hp_lss,Hp_leq,Hp_gtr,Hp_geq,gLeq,gGeq,gAnd,fo,fc,lo,lc,b0,b2,b3,b4,b5,b6,b7,b8,b9,b10,b11,b12,b13,b14,hb3,hq4]
       refine InvokeH_func kR ?_
       refine placeH_c h0 h1 hb3 ?_
       simp(disch:=omega)[-Hp_eql_s,-Hp_lss_s,-Hp_leq_s,-Hp_gtr_s,-Hp_geq_s,-Split_yes,-Split_no,eql_t,eql_f,leq_t,leq_f,geq_t,geq_f,gtr_t,gtr_f,Hp_eql,Hp_lss,Hp_leq,Hp_gtr,Hp_geq,gLeq,gGeq,gAnd,fo,fc,lo,lc,b0,b2,b3,b4,b5,b6,b7,b8,b9,b10,b11,b12,b13,b14,hb3,hq4]
       refine InvokeH_func kR ?_
       refine listH_c h0 h1 hb3 hq4 ?_
       simp(disch:=omega)[-Hp_eql_s,-Hp_lss_s,-Hp_leq_s,-Hp_gtr_s,-Hp_geq_s,-Split_yes,-Split_no,eql_t,eql_f,leq_t,leq_f,geq_t,geq_f,gtr_t,gtr_f,Hp_eql,Hp_lss,Hp_leq,Hp_gtr,Hp_geq,gLeq,gGeq,gAnd,fo,fc,lo,lc,b0,b2,b3,b4,b5,b6,b7,b8,b9,b10,b11,b12,b13,b14,hb3,hq4]
       refine InvokeH_func kR ?_
       refine listH_c h0 h1 hb3 hq4 ?_
       simp(disch:=omega)[-Hp_eql_s,-Hp_lss_s,-Hp_leq_s,-Hp_gtr_s,-Hp_geq_s,-Split_yes,-Split_no,eql_t,eql_f,leq_t,leq_f,geq_t,geq_f,gtr_t,gtr_f,Hp_eql,Hp_lss,Hp_leq,Hp_gtr,Hp_geq,gLeq,gGeq,gAnd,fo,fc,lo,lc,b0,b2,b3,b4,b5,b6,b7,b8,b9,b10,b11,b12,b13,b14,hb3,hq4]
       refine loop7 (h2:=h2) (bs:=[_,_,_,_,_,_,_]) rfl (hkk _ _ ⟨?_,E2.trans (Ext.trans (e3) extS)⟩)
       congr 1
       unfold MayB
       simp[l0,l2,lz,lp,bl,Bool.and_assoc]
     ·have lp:0<x.l1len:=by omega
      have lz:¬x.l1len=0:=by omega
      have hA3:=hA2.ext (Ext.refl g2)
      obtain⟨b0,b1,b2,b3,b4,b5,b6,b7,b8,b9,b10,b11,b12,b13,b14⟩:=id hA3
      have hb3:=hcell_ext (Ext.refl g2) hc3
      have hq4:=hcell_ext (Ext.refl g2) hp4
      have lo:∀{b:Bool} {J:VP},Join1 (fun k h'=>guardP (.bool b) true (Hp Tryz.prog true (Instr.loadAt 3 (gv b true (.pointer (some ⟨h.size,5,none⟩)))) k h' ⟨⟩) (k undef h') ⟨⟩ ⟨⟩) J g2 ⟨⟩ ⟨⟩↔J (gv b true (.int .i64 x.order)) g2:=by
       intro b J;cases b<;>simp[gv,b5]
      have lc:∀{b:Bool} {J:VP},Join1 (fun k h'=>guardP (.bool b) true (Hp Tryz.prog true (Instr.loadAt 3 (gv b true (.pointer (some ⟨h.size,7,none⟩)))) k h' ⟨⟩) (k undef h') ⟨⟩ ⟨⟩) J g2 ⟨⟩ ⟨⟩↔J (gv b true (.int .i64 x.clen)) g2:=by
       intro b J;cases b<;>simp[gv,b7]
      simp(disch:=omega)[-Hp_eql_s,-Hp_lss_s,-Hp_leq_s,-Hp_gtr_s,-Hp_geq_s,-Split_yes,-Split_no,eql_t,eql_f,leq_t,leq_f,geq_t,geq_f,gtr_t,gtr_f,Hp_eql,Hp_lss,Hp_leq,Hp_gtr,Hp_geq,gLeq,gGeq,gAnd,fo,fc,lo,lc,b0,b2,b3,b4,b5,b6,b7,b8,b9,b10,b11,b12,b13,b14,hb3,hq4]
      refine InvokeH_func kR ?_
      refine placeH_c h0 h1 hb3 ?_
      simp(disch:=omega)[-Hp_eql_s,-Hp_lss_s,-Hp_leq_s,-Hp_gtr_s,-Hp_geq_s,-Split_yes,-Split_no,eql_t,eql_f,leq_t,leq_f,geq_t,geq_f,gtr_t,gtr_f,Hp_eql,Hp_lss,Hp_leq,Hp_gtr,Hp_geq,gLeq,gGeq,gAnd,fo,fc,lo,lc,b0,b2,b3,b4,b5,b6,b7,b8,b9,b10,b11,b12,b13,b14,hb3,hq4]
      refine InvokeH_func kR ?_
      refine placeH_c h0 h1 hb3 ?_
      simp(disch:=omega)[-Hp_eql_s,-Hp_lss_s,-Hp_leq_s,-Hp_gtr_s,-Hp_geq_s,-Split_yes,-Split_no,eql_t,eql_f,leq_t,leq_f,geq_t,geq_f,gtr_t,gtr_f,Hp_eql,Hp_lss,Hp_leq,Hp_gtr,Hp_geq,gLeq,gGeq,gAnd,fo,fc,lo,lc,b0,b2,b3,b4,b5,b6,b7,b8,b9,b10,b11,b12,b13,b14,hb3,hq4]
      refine InvokeH_func kR ?_
      refine listH_c h0 h1 hb3 hq4 ?_
      simp(disch:=omega)[-Hp_eql_s,-Hp_lss_s,-Hp_leq_s,-Hp_gtr_s,-Hp_geq_s,-Split_yes,-Split_no,eql_t,eql_f,leq_t,leq_f,geq_t,geq_f,gtr_t,gtr_f,Hp_eql,Hp_lss,Hp_leq,Hp_gtr,Hp_geq,gLeq,gGeq,gAnd,fo,fc,lo,lc,b0,b2,b3,b4,b5,b6,b7,b8,b9,b10,b11,b12,b13,b14,hb3,hq4]
      refine InvokeH_func kR ?_
      refine listH_c h0 h1 hb3 hq4 ?_
      simp(disch:=omega)[-Hp_eql_s,-Hp_lss_s,-Hp_leq_s,-Hp_gtr_s,-Hp_geq_s,-Split_yes,-Split_no,eql_t,eql_f,leq_t,leq_f,geq_t,geq_f,gtr_t,gtr_f,Hp_eql,Hp_lss,Hp_leq,Hp_gtr,Hp_geq,gLeq,gGeq,gAnd,fo,fc,lo,lc,b0,b2,b3,b4,b5,b6,b7,b8,b9,b10,b11,b12,b13,b14,hb3,hq4]
      refine loop7 (h2:=g2) (bs:=[_,_,_,_,_,_,_]) rfl (hkk _ _ ⟨?_,E2.trans (Ext.trans (Ext.refl g2) extS)⟩)
      congr 1
      unfold MayB
      simp[l0,l2,lz,lp,bl,Bool.and_assoc]
    ·have lp:¬0<x.l1len:=by omega
     have lz:¬x.l1len=0:=by omega
     have hA3:=hA2.ext (Ext.refl g2)
     obtain⟨b0,b1,b2,b3,b4,b5,b6,b7,b8,b9,b10,b11,b12,b13,b14⟩:=id hA3
     have hb3:=hcell_ext (Ext.refl g2) hc3
     have hq4:=hcell_ext (Ext.refl g2) hp4
     have lo:∀{b:Bool} {J:VP},Join1 (fun k h'=>guardP (.bool b) true (Hp Tryz.prog true (Instr.loadAt 3 (gv b true (.pointer (some ⟨h.size,5,none⟩)))) k h' ⟨⟩) (k undef h') ⟨⟩ ⟨⟩) J g2 ⟨⟩ ⟨⟩↔J (gv b true (.int .i64 x.order)) g2:=by
      intro b J;cases b<;>simp[gv,b5]
     have lc:∀{b:Bool} {J:VP},Join1 (fun k h'=>guardP (.bool b) true (Hp Tryz.prog true (Instr.loadAt 3 (gv b true (.pointer (some ⟨h.size,7,none⟩)))) k h' ⟨⟩) (k undef h') ⟨⟩ ⟨⟩) J g2 ⟨⟩ ⟨⟩↔J (gv b true (.int .i64 x.clen)) g2:=by
      intro b J;cases b<;>simp[gv,b7]
     simp(disch:=omega)[-Hp_eql_s,-Hp_lss_s,-Hp_leq_s,-Hp_gtr_s,-Hp_geq_s,-Split_yes,-Split_no,eql_t,eql_f,leq_t,leq_f,geq_t,geq_f,gtr_t,gtr_f,Hp_eql,Hp_lss,Hp_leq,Hp_gtr,Hp_geq,gLeq,gGeq,gAnd,fo,fc,lo,lc,b0,b2,b3,b4,b5,b6,b7,b8,b9,b10,b11,b12,b13,b14,hb3,hq4]
     refine InvokeH_func kR ?_
     refine placeH_c h0 h1 hb3 ?_
     simp(disch:=omega)[-Hp_eql_s,-Hp_lss_s,-Hp_leq_s,-Hp_gtr_s,-Hp_geq_s,-Split_yes,-Split_no,eql_t,eql_f,leq_t,leq_f,geq_t,geq_f,gtr_t,gtr_f,Hp_eql,Hp_lss,Hp_leq,Hp_gtr,Hp_geq,gLeq,gGeq,gAnd,fo,fc,lo,lc,b0,b2,b3,b4,b5,b6,b7,b8,b9,b10,b11,b12,b13,b14,hb3,hq4]
     refine InvokeH_func kR ?_
     refine listH_c h0 h1 hb3 hq4 ?_
     simp(disch:=omega)[-Hp_eql_s,-Hp_lss_s,-Hp_leq_s,-Hp_gtr_s,-Hp_geq_s,-Split_yes,-Split_no,eql_t,eql_f,leq_t,leq_f,geq_t,geq_f,gtr_t,gtr_f,Hp_eql,Hp_lss,Hp_leq,Hp_gtr,Hp_geq,gLeq,gGeq,gAnd,fo,fc,lo,lc,b0,b2,b3,b4,b5,b6,b7,b8,b9,b10,b11,b12,b13,b14,hb3,hq4]
     refine InvokeH_func kR ?_
     refine listH_c h0 h1 hb3 hq4 ?_
     simp(disch:=omega)[-Hp_eql_s,-Hp_lss_s,-Hp_leq_s,-Hp_gtr_s,-Hp_geq_s,-Split_yes,-Split_no,eql_t,eql_f,leq_t,leq_f,geq_t,geq_f,gtr_t,gtr_f,Hp_eql,Hp_lss,Hp_leq,Hp_gtr,Hp_geq,gLeq,gGeq,gAnd,fo,fc,lo,lc,b0,b2,b3,b4,b5,b6,b7,b8,b9,b10,b11,b12,b13,b14,hb3,hq4]
     refine loop7 (h2:=g2) (bs:=[_,_,_,_,_,_,_]) rfl (hkk _ _ ⟨?_,E2.trans (Ext.trans (Ext.refl g2) extS)⟩)
     congr 1
     unfold MayB
     simp[l0,lz,lp,bl,Bool.and_assoc]
  ·obtain⟨rfl,e3⟩:=hx
   by_cases hB:MayB x
   ·simp(disch:=omega)[hB]
    exact ht _ e3 ⟨hMA,hB⟩
   ·simp(disch:=omega)[hB]
    exact hf _ e3 (fun m=>hB m.2)
 ·have hf1:=hf g e1 (fun m=>hMA m.1)
  obtain⟨a0,a1,a2,-⟩:=hA
  by_cases c1:x.bits<9
  ·simp(disch:=omega)[a0,a1,a2,c1]
   exact hf1
  by_cases c2:16<x.bits
  ·simp(disch:=omega)[a0,a1,a2,c1,c2]
   exact hf1
  by_cases c3:1<x.flags
  ·simp(disch:=omega)[a0,a1,a2,c1,c2,c3]
   exact hf1
  by_cases c4:x.size<0
  ·simp(disch:=omega)[a0,a1,a2,c1,c2,c3,c4]
   exact hf1
  by_cases c5:67108864<x.size
  ·simp(disch:=omega)[a0,a1,a2,c1,c2,c3,c4,c5]
   exact hf1
  by_cases c6:x.size%512=0
  ·exact absurd ⟨by omega,by omega,by omega,by omega,by omega,c6⟩ hMA
  ·simp(disch:=omega)[a0,a1,a2,c1,c2,c3,c4,c5,c6]
   exact hf1
end
section
variable {K:VP}{h:Heap}
def Sns(h:Heap)(v:Value)(xs:List Sn):Prop:=Slc 4 h v (fun us x=>us=x.cells) xs
def GoodL(xs:List Sn)(b:Int):Prop:=(∀x∈xs,SnOk x b)/\(xs.map Sn.name).Nodup
def SnsB(xs:List Sn):List UInt8:=xs.flatMap Sn.bytes
open Classical in
noncomputable def putR (xs:List Sn) (b:Int):List UInt8×Int :=
 if ¬(9<=b/\b<=16) then ([],2) else if GoodL xs b then (if 64<xs.length then ([],3) else (SnsB xs,0)) else ([],2)
end
section
variable {K:VP}{h:Heap}
structure Acc (h h':Heap) (u:Value) (L:List UInt8):Prop where
 ext:Ext h h'
 own:OwnS 1 h' u (L.map byteV)
 blk:∀b,blkV u=some b->h.size<=b
theorem acc_app{h1 h2:Heap}{u v:Value}{L M:List UInt8}(a:Acc h h1 u L)(e:Ext h1 h2)(hB:Bytes h2 v M)(hl:L.length+M.length<1000000000)(H:∀u' h3,Acc h h3 u' (L++M)->K u' h3) :
 Hp Tryz.prog false (Builtin.append_ #[52,52] 52 #[u,v]) K h2 ⟨⟩:=by
 refine Hp_appB (e:=5) kR kR (a.own.ext e) hB omg fun v4 h4 hO4 hM4 hF4 _=>?_
 have z1:=a.ext.size
 have z2:=e.size
 exact H _ _ ⟨hM4.ext_from (a.ext.trans e) (fun b hb hb'=>by have:=a.blk b hb';omega),hO4,fun b hb=>(hF4 b hb).elim (a.blk b) (fun x=>by omega)⟩
end
section
variable {K:VP}{h:Heap}
def numV(l:List UInt8)(p n:Nat):Int×Bool:=(IntKind.i64.wrap (getR l p n).1,decide ((getR l p n).2=0)&&decide ((getR l p n).1<4611686018427387904))
def Rd(h:Heap)(B:Nat)(v:Value)(p:Nat)(f:Bool):Prop:=Cel h B 0 v/\Cel h B 1 (.int .i64 p)/\Cel h B 2 (.bool f)
theorem getR_in{l:List UInt8}{p n:Nat}(hn:n=1\/n=4\/n=8)(hp:p+n<=l.length):getR l p n=(leN ((l.drop p).take n),0):=by
 unfold getR
 rw[if_neg omg,if_pos omg]
 simp
def nameV(l:List UInt8)(p:Nat)(f:Bool):List UInt8×Nat×Bool :=
 if f=true/\(numV l p 1).2=true/\(numV l p 1).1<=(l.length:Int)-(p+1:Nat) then ((l.drop (p+1)).take (numV l p 1).1.toNat,p+1+(numV l p 1).1.toNat,true) else ([],p+1,false)
def snapV(l:List UInt8)(p:Nat)(f:Bool):Sn×Nat×Bool :=
 let q:=(nameV l p f).2.1
 (⟨(nameV l p f).1,(numV l q 8).1,(numV l (q+8) 4).1,(numV l (q+8+4) 8).1⟩,q+8+4+8,((((nameV l p f).2.2&&(numV l q 8).2)&&(numV l (q+8) 4).2)&&(numV l (q+8+4) 8).2))
end
section
variable {K:VP}{h:Heap}
def OwnSn(h:Heap)(v:Value)(xs:List Sn):Prop:=OwnS 4 h v (xs.flatMap Sn.cells)
@[simp] theorem Sn.cells_len(x:Sn):x.cells.length=4:=rfl
def rdN(l:List UInt8):Nat->List Sn×Nat×Bool
 | 0=>([],0,true)
 | i+1=>((rdN l i).1++[(snapV l (rdN l i).2.1 (rdN l i).2.2).1],(snapV l (rdN l i).2.1 (rdN l i).2.2).2)
open Classical in
noncomputable def readR (l:List UInt8) (n b:Int):List Sn×Int :=
 if ¬(9<=b/\b<=16)\/n<0 then ([],2) else if hx:∃ys:List Sn,(ys.length:Int)=n/\putR ys b=(l,0) then (hx.choose,0) else ([],210)
end
section
variable {K:VP}{h:Heap}
end
section
variable {K:VP}{h:Heap}
theorem RListB_c{n p l b:Int}{B:Bool}(hB:B=decide (ListOk n p l b))(h0:9<=b)(h1:b<=16)(H:K (.bool B) h):CallsH Tryz.prog 121 #[.int .i64 n,.int .i64 p,.int .i64 l,.int .i64 b] h K ⟨⟩:=RList_c h0 h1 (hB▸H)
set_option maxHeartbeats 4000000 in
theorem May_c{x:Hd}(hbl:x.back.length<9223372036854775808)(ht:∀h',Ext h h'->MayH x->K (.bool true) h')(hf:∀h',Ext h h'->¬MayH x->K (.bool false) h'):CallsH Tryz.prog 73 #[x.val] h K ⟨⟩:=by
 refine n73_calls ?_
 unfold n73;try delta vF vG vC vD vJ vV vk vt
 rw[boxH]
 have hA:=HdAt.new (h:=h) x
 have e1:Ext h (h.push (.cells x.cells.toArray 84)):=extS
 generalize h.push (.cells x.cells.toArray 84)=g at *
 obtain⟨b0,b1,b2,b3,b4,b5,b6,b7,b8,b9,b10,b11,b12,b13,b14⟩:=id hA
 have E2:=e1
 by_cases c1:x.bits<9
 ·skip
  simp(disch:=omega)[b0,b1,b2,b3,b4,b5,b6,b7,b8,b9,b10,b11,b12,b13,b14,c1]
  exact hf _ E2 (fun m=>by have:=m.1.1;omega)
 by_cases c2:16<x.bits
 ·skip
  simp(disch:=omega)[b0,b1,b2,b3,b4,b5,b6,b7,b8,b9,b10,b11,b12,b13,b14,c1,c2]
  exact hf _ E2 (fun m=>by have:=m.1.2.1;omega)
 by_cases c3:1<x.flags
 ·skip
  simp(disch:=omega)[b0,b1,b2,b3,b4,b5,b6,b7,b8,b9,b10,b11,b12,b13,b14,c1,c2,c3]
  exact hf _ E2 (fun m=>by have:=m.1.2.2.1;omega)
 by_cases c4:x.size<0
 ·skip
  simp(disch:=omega)[b0,b1,b2,b3,b4,b5,b6,b7,b8,b9,b10,b11,b12,b13,b14,c1,c2,c3,c4]
  exact hf _ E2 (fun m=>by have:=m.1.2.2.2.1;omega)
 by_cases c5:67108864<x.size
 ·skip
  simp(disch:=omega)[b0,b1,b2,b3,b4,b5,b6,b7,b8,b9,b10,b11,b12,b13,b14,c1,c2,c3,c4,c5]
  exact hf _ E2 (fun m=>by have:=m.1.2.2.2.2.1;omega)
 by_cases c6:x.size%512=0
 case neg =>
  simp(disch:=omega)[b0,b1,b2,b3,b4,b5,b6,b7,b8,b9,b10,b11,b12,b13,b14,c1,c2,c3,c4,c5,c6]
  exact hf _ E2 (fun m=>c6 m.1.2.2.2.2.2)
 have hMA:MayA x:=⟨by omega,by omega,by omega,by omega,by omega,c6⟩
 have h0:9<=x.bits:=by omega
 have h1:x.bits<=16:=by omega
 by_cases l0:x.l1len<0
 ·skip
  simp(disch:=omega)[b0,b1,b2,b3,b4,b5,b6,b7,b8,b9,b10,b11,b12,b13,b14,c1,c2,c3,c4,c5,c6,l0]
  exact hf _ E2 (fun m=>by have:=m.2.1.1;omega)
 by_cases l2:1048576<x.l1len
 ·skip
  simp(disch:=omega)[b0,b1,b2,b3,b4,b5,b6,b7,b8,b9,b10,b11,b12,b13,b14,c1,c2,c3,c4,c5,c6,l0,l2]
  exact hf _ E2 (fun m=>by have:=m.2.1.2.1;omega)
 simp(disch:=omega)[b0,b1,b2,b3,b4,b5,b6,b7,b8,b9,b10,b11,b12,b13,b14,c6,loadH hA]
 refine RTables_c h0 h1 omg omg fun h2 e2=>?_
 replace hA:=hA.ext e2
 replace E2:=e1.trans e2
 clear b0 b1 b2 b3 b4 b5 b6 b7 b8 b9 b10 b11 b12 b13 b14
 obtain⟨b0,b1,b2,b3,b4,b5,b6,b7,b8,b9,b10,b11,b12,b13,b14⟩:=id hA
 by_cases lt:x.l1len<x.tables
 ·skip
  simp(disch:=omega)[b0,b1,b2,b3,b4,b5,b6,b7,b8,b9,b10,b11,b12,b13,b14,lt]
  exact hf _ E2 (fun m=>by have:=m.2.1.2.2;omega)
 by_cases o0:x.order<0
 ·skip
  simp(disch:=omega)[b0,b1,b2,b3,b4,b5,b6,b7,b8,b9,b10,b11,b12,b13,b14,lt,o0]
  exact hf _ E2 (fun m=>by have:=m.2.2.2.1.1;omega)
 by_cases o6:6<x.order
 ·skip
  simp(disch:=omega)[b0,b1,b2,b3,b4,b5,b6,b7,b8,b9,b10,b11,b12,b13,b14,lt,o0,o6]
  exact hf _ E2 (fun m=>by have:=m.2.2.2.1.2;omega)
 by_cases k0:x.clen<1
 ·skip
  simp(disch:=omega)[b0,b1,b2,b3,b4,b5,b6,b7,b8,b9,b10,b11,b12,b13,b14,lt,o0,o6,k0]
  exact hf _ E2 (fun m=>by have:=m.2.2.2.2.1.2.1;omega)
 by_cases k6:65536<x.clen
 ·skip
  simp(disch:=omega)[b0,b1,b2,b3,b4,b5,b6,b7,b8,b9,b10,b11,b12,b13,b14,lt,o0,o6,k0,k6]
  exact hf _ E2 (fun m=>by have:=m.2.2.2.2.1.2.2;omega)
 by_cases lz:x.l1len=0
 ·by_cases l1z:x.l1=0
  ·skip
   simp(disch:=omega)[b0,b1,b2,b3,b4,b5,b6,b7,b8,b9,b10,b11,b12,b13,b14,lt,o0,o6,k0,k6,lz,l1z]
   refine Place_c h0 h1 (fun pc=>?_) (fun pc=>?_)
   ·have pc:PlaceOk x.counts x.bits:=pc
    simp(disch:=omega)[b0,b1,b2,b3,b4,b5,b6,b7,b8,b9,b10,b11,b12,b13,b14]
    obtain⟨B1,hB1⟩:∃B,B=decide (ListOk x.snaps x.sat x.slen x.bits):=⟨_,rfl⟩
    obtain⟨B2,hB2⟩:∃B,B=decide (ListOk x.maps x.mat x.mlen x.bits):=⟨_,rfl⟩
    refine RListB_c hB1 h0 h1 ?_
    simp(disch:=omega)[b0,b1,b2,b3,b4,b5,b6,b7,b8,b9,b10,b11,b12,b13,b14]
    refine RListB_c hB2 h0 h1 ?_
    refine loopA1 (fun k:Nat=>.int .i64 k) (fun k h'=>h'=h2/\k<=x.back.length/\∀j (hj:j<x.back.length),j<k->x.back[j]≠0) (fun k=>x.back.length-k) 0 rfl ⟨rfl,by omega,fun j _ hj=>by omega⟩ ?_
    rintro k h' ⟨rfl,hk,hno⟩
    by_cases hkn:k=x.back.length
    ·have hz0:(0:UInt8)∉x.back:=fun hm=>by
      obtain⟨j,hj,he⟩:=List.mem_iff_getElem.1 hm
      exact hno j hj omg he
     cases B1
     case false =>
      simp(disch:=omega)[b0,b1,b2,b3,b4,b5,b6,b7,b8,b9,b10,b11,b12,b13,b14,hkn]
      exact hf _ E2 (fun m=>of_decide_eq_false hB1.symm m.2.2.2.2.2.1)
     case true =>
      have ls1:=of_decide_eq_true hB1.symm
      cases B2
      case false =>
       simp(disch:=omega)[b0,b1,b2,b3,b4,b5,b6,b7,b8,b9,b10,b11,b12,b13,b14,hkn]
       exact hf _ E2 (fun m=>of_decide_eq_false hB2.symm m.2.2.2.2.2.2.1)
      case true =>
       have ls2:=of_decide_eq_true hB2.symm
       by_cases bl:x.back.length<=64
       ·simp(disch:=omega)[b14,hkn]
        exact ht _ E2 ⟨hMA,⟨by omega,by omega,by omega⟩,by first|exact .inl ⟨by omega,by omega⟩|exact .inr ⟨by omega,pl⟩,⟨by omega,by omega⟩,⟨pc,by omega,by omega⟩,ls1,ls2,bl,hz0⟩
       ·skip
        simp(disch:=omega)[b0,b1,b2,b3,b4,b5,b6,b7,b8,b9,b10,b11,b12,b13,b14,hkn,bl]
        exact hf _ E2 (fun m=>bl m.2.2.2.2.2.2.2.1)
    ·have hkl:k<x.back.length:=by omega
     by_cases hz:x.back[k]=0
     ·have hz':((x.back[k]).toNat:Int)=0:=by rw[hz];rfl
      simp(disch:=omega)[b0,b1,b2,b3,b4,b5,b6,b7,b8,b9,b10,b11,b12,b13,b14,hkl,hz',hz]
      exact hf _ E2 (fun m=>m.2.2.2.2.2.2.2.2 (hz▸List.getElem_mem hkl))
     ·have hz':¬((x.back[k]).toNat:Int)=0:=fun e=>hz (UInt8.toNat_inj.1 (by simpa using e))
      simp(disch:=omega)[b14,hkl,hz',hz]
      refine⟨k+1,by simp,⟨by omega,fun j hj hjk=>?_⟩,by omega⟩
      by_cases e:j=k
      ·subst e;exact hz
      ·exact hno j hj omg
   ·have pc:¬PlaceOk x.counts x.bits:=pc
    simp(disch:=omega)[b0,b1,b2,b3,b4,b5,b6,b7,b8,b9,b10,b11,b12,b13,b14]
    exact hf _ E2 (fun m=>pc m.2.2.2.2.1.1)
  ·skip
   simp(disch:=omega)[b0,b1,b2,b3,b4,b5,b6,b7,b8,b9,b10,b11,b12,b13,b14,lt,o0,o6,k0,k6,lz,l1z]
   exact hf _ E2 (fun m=>by have:=m.2.2.1;omega)
 ·simp(disch:=omega)[b0,b1,b2,b3,b4,b5,b6,b7,b8,b9,b10,b11,b12,b13,b14,lt,o0,o6,k0,k6,lz]
  refine Place_c h0 h1 (fun pl=>?_) (fun pl=>?_)
  ·have pl:PlaceOk x.l1 x.bits:=pl
   simp(disch:=omega)[b0,b1,b2,b3,b4,b5,b6,b7,b8,b9,b10,b11,b12,b13,b14,lz]
   refine Place_c h0 h1 (fun pc=>?_) (fun pc=>?_)
   ·have pc:PlaceOk x.counts x.bits:=pc
    simp(disch:=omega)[b0,b1,b2,b3,b4,b5,b6,b7,b8,b9,b10,b11,b12,b13,b14]
    obtain⟨B1,hB1⟩:∃B,B=decide (ListOk x.snaps x.sat x.slen x.bits):=⟨_,rfl⟩
    obtain⟨B2,hB2⟩:∃B,B=decide (ListOk x.maps x.mat x.mlen x.bits):=⟨_,rfl⟩
    refine RListB_c hB1 h0 h1 ?_
    simp(disch:=omega)[b0,b1,b2,b3,b4,b5,b6,b7,b8,b9,b10,b11,b12,b13,b14]
    refine RListB_c hB2 h0 h1 ?_
    refine loopA1 (fun k:Nat=>.int .i64 k) (fun k h'=>h'=h2/\k<=x.back.length/\∀j (hj:j<x.back.length),j<k->x.back[j]≠0) (fun k=>x.back.length-k) 0 rfl ⟨rfl,by omega,fun j _ hj=>by omega⟩ ?_
    rintro k h' ⟨rfl,hk,hno⟩
    by_cases hkn:k=x.back.length
    ·have hz0:(0:UInt8)∉x.back:=fun hm=>by
      obtain⟨j,hj,he⟩:=List.mem_iff_getElem.1 hm
      exact hno j hj omg he
     cases B1
     case false =>
      simp(disch:=omega)[b0,b1,b2,b3,b4,b5,b6,b7,b8,b9,b10,b11,b12,b13,b14,hkn]
      exact hf _ E2 (fun m=>of_decide_eq_false hB1.symm m.2.2.2.2.2.1)
     case true =>
      have ls1:=of_decide_eq_true hB1.symm
      cases B2
      case false =>
       simp(disch:=omega)[b0,b1,b2,b3,b4,b5,b6,b7,b8,b9,b10,b11,b12,b13,b14,hkn]
       exact hf _ E2 (fun m=>of_decide_eq_false hB2.symm m.2.2.2.2.2.2.1)
      case true =>
       have ls2:=of_decide_eq_true hB2.symm
       by_cases bl:x.back.length<=64
       ·simp(disch:=omega)[b14,hkn]
        exact ht _ E2 ⟨hMA,⟨by omega,by omega,by omega⟩,by first|exact .inl ⟨by omega,by omega⟩|exact .inr ⟨by omega,pl⟩,⟨by omega,by omega⟩,⟨pc,by omega,by omega⟩,ls1,ls2,bl,hz0⟩
       ·skip
        simp(disch:=omega)[b0,b1,b2,b3,b4,b5,b6,b7,b8,b9,b10,b11,b12,b13,b14,hkn,bl]
        exact hf _ E2 (fun m=>bl m.2.2.2.2.2.2.2.1)
    ·have hkl:k<x.back.length:=by omega
     by_cases hz:x.back[k]=0
     ·have hz':((x.back[k]).toNat:Int)=0:=by rw[hz];rfl
      simp(disch:=omega)[b0,b1,b2,b3,b4,b5,b6,b7,b8,b9,b10,b11,b12,b13,b14,hkl,hz',hz]
      exact hf _ E2 (fun m=>m.2.2.2.2.2.2.2.2 (hz▸List.getElem_mem hkl))
     ·have hz':¬((x.back[k]).toNat:Int)=0:=fun e=>hz (UInt8.toNat_inj.1 (by simpa using e))
      simp(disch:=omega)[b14,hkl,hz',hz]
      refine⟨k+1,by simp,⟨by omega,fun j hj hjk=>?_⟩,by omega⟩
      by_cases e:j=k
      ·subst e;exact hz
      ·exact hno j hj omg
   ·have pc:¬PlaceOk x.counts x.bits:=pc
    simp(disch:=omega)[b0,b1,b2,b3,b4,b5,b6,b7,b8,b9,b10,b11,b12,b13,b14]
    exact hf _ E2 (fun m=>pc m.2.2.2.2.1.1)
  ·have pl:¬PlaceOk x.l1 x.bits:=pl
   simp(disch:=omega)[b0,b1,b2,b3,b4,b5,b6,b7,b8,b9,b10,b11,b12,b13,b14,lz]
   exact hf _ E2 (fun m=>m.2.2.1.elim (fun e=>lz e.1) (fun e=>pl e.2))
theorem hdAsked_c{x:Hd}{f:Value}{r:Int}(hv:MayH x->∀h',Ext h h'->(∀g,Ext h' g->K (.int .i64 r) g)->InvokeH Tryz.prog f #[.int .i64 (2^x.bits.toNat)] h' K ⟨⟩)(ht:∀h',Ext h h'->MayH x->K (.int .i64 r) h')(hf:∀h',Ext h h'->¬MayH x->K (.int .i64 0) h') :
 CallsH Tryz.prog 89 #[x.val,f] h K ⟨⟩:=by
 refine n89_calls ?_
 unfold n89;try delta vF vG vC vD vJ vV vk vt
 rw[boxH]
 have hA:=HdAt.new (h:=h) x
 have e1:Ext h (h.push (.cells x.cells.toArray 84)):=extS
 generalize h.push (.cells x.cells.toArray 84)=g at *
 rw[loadH hA]
 refine Check_c (fun h2 e2 hM=>?_) (fun h2 e2 hM=>?_)
 ·have hA2:=hA.ext e2
  obtain⟨h0,h1,-⟩:=hM.1
  have hc:=clus h0 h1
  have hw:IntKind.i64.wrap (2^x.bits.toNat)=2^x.bits.toNat:=wrap_i64 omg omg
  simp(disch:=omega)[hA2.1,Hp_shl,IntKind.bits,hw]
  exact hv hM _ (e1.trans e2) (fun g' e=>ht _ ((e1.trans e2).trans e) hM)
 ·simp(disch:=omega)
  exact hf _ (e1.trans e2) hM
theorem ClusterH_c{x:Hd}(ht:∀h',Ext h h'->MayH x->K (.int .i64 (2^x.bits.toNat)) h')(hf:∀h',Ext h h'->¬MayH x->K (.int .i64 0) h'):CallsH Tryz.prog 35 #[x.val] h K ⟨⟩:=by
 refine n35_calls ?_
 unfold n35;try delta vF vG vC vD vJ vV vk vt
 rw[boxH]
 have hA:=HdAt.new (h:=h) x
 have e1:Ext h (h.push (.cells x.cells.toArray 84)):=extS
 generalize h.push (.cells x.cells.toArray 84)=g at *
 rw[loadH hA]
 try simp(disch:=omega)
 refine hdAsked_c (r:=2^x.bits.toNat) (fun hM h2 e2 H=>?_) (fun h2 e2 hM=>ht _ (e1.trans e2) hM) (fun h2 e2 hM=>hf _ (e1.trans e2) hM)
 have hA2:=hA.ext e2
 obtain⟨h0,h1,-,s0,s1,-⟩:=hM.1
 have hc:=clus h0 h1
 refine InvokeH_f1 kR ?_
 refine n90_calls ?_
 unfold n90;try delta vF vG vC vD vJ vV vk vt
 exact H _ (.refl _)
end
section
variable {K:VP}{h:Heap}
theorem MayH.bd{x:Hd}(m:MayH x):(0<=x.bits/\x.bits<=16/\x.flags<=1/\0<=x.size/\x.size<=268435456/\0<=x.l1/\x.l1<=268435456/\0<=x.l1len/\x.l1len<=268435456/\0<=x.order/\x.order<=6) /\
 (0<=x.counts/\x.counts<=268435456/\0<=x.clen/\x.clen<=65536)/\(0<=x.snaps/\x.snaps<=64/\0<=x.sat/\x.sat<=268435456/\0<=x.slen/\x.slen<=65536)/\(0<=x.maps/\x.maps<=64/\0<=x.mat/\x.mat<=268435456/\0<=x.mlen/\x.mlen<=65536)/\x.back.length<=64:=by
 obtain⟨⟨h0,h1,f1,s0,s1,s2⟩,⟨l0,l1,l2⟩,hl1,⟨o0,o1⟩,⟨⟨p0,p1,-⟩,c0,c1⟩,ls,lm,bl,-⟩:=m
 have e1:0<=x.l1/\x.l1<=268435456:=by rcases hl1 with h|⟨-,h⟩;omega;exact⟨by have:=h.1;omega,h.2.1⟩
 have e2:0<=x.snaps/\x.snaps<=64/\0<=x.sat/\x.sat<=268435456/\0<=x.slen/\x.slen<=65536:=by rcases ls with h|⟨h1,h2,h3,h4,h5⟩;omega;have:=h3.1;have:=h3.2.1;omega
 have e3:0<=x.maps/\x.maps<=64/\0<=x.mat/\x.mat<=268435456/\0<=x.mlen/\x.mlen<=65536:=by rcases lm with h|⟨h1,h2,h3,h4,h5⟩;omega;have:=h3.1;have:=h3.2.1;omega
 exact⟨by omega,by omega,e2,e3,bl⟩
def hdF(x:Hd):List (Nat×Nat):=[(4,x.bits.toNat),(8,x.flags),(8,x.size.toNat),(8,x.l1.toNat),(4,x.l1len.toNat),(4,x.order.toNat),(8,x.counts.toNat),(4,x.clen.toNat),(4,x.snaps.toNat),(8,x.sat.toNat),(4,x.slen.toNat),(4,x.maps.toNat),(8,x.mat.toNat),(4,x.mlen.toNat)]
def hdAt:List Nat:=[4,8,16,24,32,36,40,48,52,56,64,68,72,80]
def hdP(x:Hd)(j:Nat):List UInt8:=[80,65,76,49]++((hdF x).take j).flatMap fun p=>leB p.1 p.2
def hdB(x:Hd):List UInt8:=hdP x 14++(fieldB 64 x.back++List.replicate 360 0)
theorem hdP_succ{x:Hd}{j:Nat}(hj:j<(hdF x).length):hdP x (j+1)=hdP x j++leB (hdF x)[j].1 (hdF x)[j].2:=by
 unfold hdP
 rw[List.take_succ_eq_append_getElem hj,List.flatMap_append]
 simp
theorem hdP_len{x:Hd}{j:Nat}(hj:j<14):(hdP x j).length=hdAt[j]'hj:=by
 have:j=0\/j=1\/j=2\/j=3\/j=4\/j=5\/j=6\/j=7\/j=8\/j=9\/j=10\/j=11\/j=12\/j=13:=by omega
 rcases this with rfl|rfl|rfl|rfl|rfl|rfl|rfl|rfl|rfl|rfl|rfl|rfl|rfl|rfl<;>simp[hdP,hdF,hdAt]
theorem hdP_14{x:Hd}:(hdP x 14).length=84:=by simp[hdP,hdF]
theorem hdF_ok{x:Hd}(m:MayH x):∀j (hj:j<14),((hdF x)[j]'hj).1+(hdAt[j]'hj)<=84/\(((hdF x)[j]'hj).1=4\/((hdF x)[j]'hj).1=8)/\((hdF x)[j]'hj).2<=268435456:=by
 intro j hj
 have b:=m.bd
 have:j=0\/j=1\/j=2\/j=3\/j=4\/j=5\/j=6\/j=7\/j=8\/j=9\/j=10\/j=11\/j=12\/j=13:=by omega
 rcases this with rfl|rfl|rfl|rfl|rfl|rfl|rfl|rfl|rfl|rfl|rfl|rfl|rfl|rfl<;>(simp[hdF,hdAt];omega)
theorem over_zeros{A M:List UInt8}{n m:Nat}(hM:M.length=n):over (A++List.replicate (n+m) (0:UInt8)) A.length M=(A++M)++List.replicate m 0:=by
 unfold over
 rw[List.take_left,hM,List.drop_append]
 simp
theorem hdB_len{x:Hd}(m:MayH x):(hdB x).length=512:=by
 have:=m.bd.2.2.2.2
 unfold hdB
 simp only[List.length_append,List.length_replicate,hdP_14,fieldB_length this]
theorem fields_c{x:Hd}(m:MayH x)(H:∀B h',Ext h h'->(∀j (hj:j<14),hcell h' (elt ⟨B,0,none⟩ (j*3))=some (.int .i64 (hdAt[j]'hj:Nat))/\hcell h' (elt ⟨B,0,none⟩ (j*3+1))=some (.int .i64 ((hdF x)[j]'hj).1)/\hcell h' (elt ⟨B,0,none⟩ (j*3+2))=some (.int .u64 ((hdF x)[j]'hj).2)) ->
 h.size<=B->B<h'.size->K (.slice (some ⟨B,0,none⟩) 14 14) h'):CallsH Tryz.prog 129 #[x.val] h K ⟨⟩:=by
 have b:=m.bd
 refine n129_calls ?_
 unfold n129;try delta vF vG vC vD vJ vV vk vt
 rw[boxH]
 have hA:=HdAt.new (h:=h) x
 have e1:Ext h (h.push (.cells x.cells.toArray 84)):=extS
 generalize h.push (.cells x.cells.toArray 84)=g at *
 obtain⟨b0,b1,b2,b3,b4,b5,b6,b7,b8,b9,b10,b11,b12,b13,b14⟩:=hA
 simp(disch:=omega)[b0,b1,b2,b3,b4,b5,b6,b7,b8,b9,b10,b11,b12,b13,b14]
 have ez:=e1.size
 refine H g.size _ (e1.trans extS) (fun j hj=>?_) omg sM
 simp only[elt_mk]
 have:j=0\/j=1\/j=2\/j=3\/j=4\/j=5\/j=6\/j=7\/j=8\/j=9\/j=10\/j=11\/j=12\/j=13:=by omega
 rcases this with rfl|rfl|rfl|rfl|rfl|rfl|rfl|rfl|rfl|rfl|rfl|rfl|rfl|rfl<;>(refine⟨?_,?_,?_⟩<;>(simp[hdF,hdAt]<;>omega))
end
section
variable {K:VP}{h:Heap}
theorem Hp_copyS{P:Program}{t t2 n c k B:Nat}{L m:List UInt8}(ht:slS P t 1=true)(hO:OwnS 1 h (.slice (some ⟨B,0,none⟩) n c) (L.map byteV))(hk:k<=L.length)
 (H:∀h',OwnS 1 h' (.slice (some ⟨B,0,none⟩) n c) ((over L 0 (m.take k)).map byteV)->Mod (· = B) h h'->K (.int .i64 (min m.length k:Nat)) h') :
 Hp P false (Builtin.copy_ #[t,t2] 3 #[.slice (some ⟨B,0,none⟩) k c,str m]) K h ⟨⟩:=by
 have hs:=hO.seg
 simp only[List.length_map,Nat.mul_one]at hs
 refine Hp_copy ht (Src.str (l:=m)) (one_bytes m) (fun i hi=>?_) (fun i hi=>hO.free omg) ?_
 ·rw[hs.2.2 i (by simp;omega)];rfl
 ·have:=hO.write (k:=0) (new:=(m.map byteV).take k) (by simp;omega)
  rw[<-List.map_take,<-over_map]at this
  rw[<-List.map_take]
  exact H _ this (Mod.write ⟨B,0,none⟩ _ _ _)
theorem own0(n:Nat):OwnS 1 (h.push (.cells (Array.replicate n (Value.int .u8 0)) 5)) (.slice (some ⟨h.size,0,none⟩) n n) ((List.replicate n (0:UInt8)).map byteV):=by
 have hO:OwnS 1 (h.push (.cells ((List.replicate n (0:UInt8)).map byteV).toArray 5)) (.slice (some ⟨h.size,0,none⟩) n n) ((List.replicate n (0:UInt8)).map byteV):=OwnS_new rfl sM
 have hz:((List.replicate n (0:UInt8)).map byteV).toArray=Array.replicate n (Value.int .u8 0):=by simp[byteV]
 rw[hz]at hO
 exact hO
theorem cell_mod{S:Nat->Prop}{h':Heap}{a:Addr}{v:Value}(c:hcell h a=some v)(m:Mod S h h')(hS:¬S a.block):hcell h' a=some v:=by
 rw[m.cell (hcell_lt c) hS];exact c
set_option maxHeartbeats 4000000 in
theorem HBytes_c{x:Hd}(ht:∀v h',Ext h h'->OwnS 1 h' v ((hdB x).map byteV)->(∀b,blkV v=some b->h.size<=b)->MayH x->K (.tuple #[v,.int .i64 0]) h')(hf:∀h',Ext h h'->¬MayH x->K (.tuple #[.slice none 0 0,.int .i64 2]) h') :
 CallsH Tryz.prog 87 #[x.val] h K ⟨⟩:=by
 refine n87_calls ?_
 unfold n87;try delta vF vG vC vD vJ vV vk vt
 rw[boxH]
 have hA:=HdAt.new (h:=h) x
 have e1:Ext h (h.push (.cells x.cells.toArray 84)):=extS
 have z1:h.size<(h.push (.cells x.cells.toArray 84)).size:=by simp
 generalize h.push (.cells x.cells.toArray 84)=g at *
 rw[loadH hA]
 refine Check_c (fun h2 e2 hM=>?_) (fun h2 e2 hM=>?_)
 case refine_2 =>
  simp(disch:=omega)
  exact hf _ (e1.trans e2) hM
 have hA2:=hA.ext e2
 have E2:=e1.trans e2
 have zz2:=e2.size
 simp(disch:=omega)
 have hO:=own0 (h:=h2) 512
 have hA3:HdAt (h2.push (.cells (Array.replicate 512 (Value.int .u8 0)) 5)) h.size x:=hA2.ext extS
 have e3:Ext h2 (h2.push (.cells (Array.replicate 512 (Value.int .u8 0)) 5)):=extS
 have z3:(h2.push (.cells (Array.replicate 512 (Value.int .u8 0)) 5)).size=h2.size+1:=by simp
 generalize h2.push (.cells (Array.replicate 512 (Value.int .u8 0)) 5)=g3 at *
 refine Hp_copyS kR hO (Nat.le_of_eq (List.length_replicate ..).symm) fun h4 hO4 m4=>?_
 have hA4:HdAt h4 h.size x:=by
  obtain⟨b0,b1,b2,b3,b4,b5,b6,b7,b8,b9,b10,b11,b12,b13,b14⟩:=hA3
  have ne:¬h.size=h2.size:=by omega
  exact⟨cell_mod b0 m4 ne,cell_mod b1 m4 ne,cell_mod b2 m4 ne,cell_mod b3 m4 ne,cell_mod b4 m4 ne,cell_mod b5 m4 ne,cell_mod b6 m4 ne,cell_mod b7 m4 ne,cell_mod b8 m4 ne,cell_mod b9 m4 ne,cell_mod b10 m4 ne,cell_mod b11 m4 ne,cell_mod b12 m4 ne,cell_mod b13 m4 ne,cell_mod b14 m4 ne⟩
 have E4:Ext h h4:=m4.ext_from (E2.trans e3) (fun b hb e=>by omega)
 have hL0:over (List.replicate 512 (0:UInt8)) 0 (List.take 512 [80,65,76,49])=hdP x 0++List.replicate (512-(hdP x 0).length) 0:=by
  show over ([]++List.replicate (4+508) (0:UInt8)) ([]:List UInt8).length [80,65,76,49]=_
  rw[over_zeros (A:=[]) (M:=[80,65,76,49]) (n:=4) (m:=508) rfl]
  rfl
 rw[hL0]at hO4
 have z4:=m4.size
 rw[loadH hA4]
 refine fields_c hM fun B h5 e5 hF hB1 hB2=>?_
 have E5:=E4.trans e5
 have hO5:=hO4.ext e5
 have hA5:=hA4.ext e5
 simp(disch:=omega)
 refine loopA1 (fun j:Nat=>.int .i64 j) (fun j h'=>j<=14/\Mod (· = h2.size) h5 h'/\OwnS 1 h' (.slice (some ⟨h2.size,0,none⟩) 512 512) ((hdP x j++List.replicate (512-(hdP x j).length) 0).map byteV)) (fun j=>14-j) 0 rfl ⟨by omega,Mod.refl _ _,hO5⟩ ?_
 rintro j h6 ⟨hj,m6,hO6⟩
 by_cases hj14:j=14
 ·subst hj14
  have b14:=cell_mod hA5.2.2.2.2.2.2.2.2.2.2.2.2.2.2 m6 (by show ¬h.size=h2.size;omega)
  simp(disch:=omega)[b14]
  have hbl:=hM.bd.2.2.2.2
  have hlen:(hdP x 14++List.replicate (512-(hdP x 14).length) (0:UInt8)).length=512:=by rw[List.length_append,List.length_replicate,hdP_14]
  have hE:setTextE (512:Nat) 84 64 x.back=0:=by
   have hF0:fieldE (512:Nat) 84 64=0:=by unfold fieldE;rw[if_neg omg,if_pos omg]
   unfold setTextE
   rw[if_neg (by rw[hF0];simp),if_neg omg]
  refine SetTextO_c hO6 omg omg (fun e=>absurd hE e) (fun h7 _ hO7 m7 _ _=>?_)
  try simp(disch:=omega)
  have hB:over (hdP x 14++List.replicate (512-(hdP x 14).length) (0:UInt8)) (84:Int).toNat (fieldB (64:Int).toNat x.back)=hdB x:=by
   have:=over_zeros (A:=hdP x 14) (M:=fieldB 64 x.back) (n:=68) (m:=360) (by rw[fieldB_length hbl])
   rw[hdP_14]at this ⊢
   unfold hdB
   rw[<-List.append_assoc]
   exact this
  rw[hB]at hO7
  exact ht _ _ ((m6.trans m7 (fun b _ e=>e)).ext_from E5 (fun b hb e=>by omega)) hO7 (fun b hb=>by simp[blkV]at hb;omega) hM
 ·have hj':j<14:=by omega
  obtain⟨c0,c1,c2⟩:=hF j hj'
  have c0:=cell_mod c0 m6 (by simp;omega)
  have c1:=cell_mod c1 m6 (by simp;omega)
  have c2:=cell_mod c2 m6 (by simp;omega)
  simp(disch:=omega)[c0,c1,c2]
  have hok:=hdF_ok hM j hj'
  have hlen:(hdP x j++List.replicate (512-(hdP x j).length) (0:UInt8)).length=512:=by rw[List.length_append,List.length_replicate,hdP_len hj'];omega
  have hs:=hdP_succ (x:=x) (j:=j) hj'
  have hpl:=hdP_len (x:=x) hj'
  generalize (hdF x)[j]=F at *
  obtain⟨n,v⟩:=F
  generalize hdAt[j]=p at *
  dsimp only at hok hs ⊢
  have eS:Ext h6 (hset (hset (hset (Array.push h6 (Obj.cells #[Value.int IntKind.i64 0,Value.int IntKind.i64 0,Value.int IntKind.u64 0] 200)) { block:=Array.size h6,off:=0 } (Value.int IntKind.i64 p)) { block:=Array.size h6,off:=1 } (Value.int IntKind.i64 n)) { block:=Array.size h6,off:=2 } (Value.int IntKind.u64 v)):=extS
  generalize hset (hset (hset (Array.push h6 (Obj.cells #[Value.int IntKind.i64 0,Value.int IntKind.i64 0,Value.int IntKind.u64 0] 200)) { block:=Array.size h6,off:=0 } (Value.int IntKind.i64 p)) { block:=Array.size h6,off:=1 } (Value.int IntKind.i64 n)) { block:=Array.size h6,off:=2 } (Value.int IntKind.u64 v)=g6 at *
  have hpw:v<256^n:=by
   rcases hok.2.1 with e|e
   ·rw[e,show (256:Nat)^4=4294967296 by decide];omega
   ·rw[e,show (256:Nat)^8=18446744073709551616 by decide];omega
  have hE:setE (512:Nat) p n v=0:=by
   unfold setE
   rw[if_neg omg,if_pos omg,Int.toNat_natCast,if_neg omg]
  refine SetO_c (hO6.ext eS) omg omg omg (fun e=>absurd hE e) (fun h7 _ hO7 m7 _=>?_)
  simp(disch:=omega)
  refine⟨j+1,by simp,⟨by omega,(m6.trans (Mod.of_ext eS) (fun b _ e=>e)).trans m7 (fun b _ e=>e),?_⟩,by omega⟩
  have hB:over (hdP x j++List.replicate (512-(hdP x j).length) (0:UInt8)) (p:Int).toNat (leB (n:Int).toNat v)=hdP x (j+1)++List.replicate (512-(hdP x (j+1)).length) 0:=by
   have:=over_zeros (A:=hdP x j) (M:=leB n v) (n:=n) (m:=512-p-n) sM
   rw[hs,List.length_append,leB_length,hpl,Int.toNat_natCast,Int.toNat_natCast]
   rw[hpl,show n+(512-p-n)=512-p by omega]at this
   rw[show 512-(p+n)=512-p-n by omega]
   exact this
  rw[hB,List.map_append,List.map_replicate]at hO7
  exact hO7
end
section
/-! ### Parts of bytes -/
def part(B:List UInt8)(a m:Nat):List UInt8:=(B.drop a).take m
theorem part_len{B:List UInt8}{a m:Nat}(h:a+m<=B.length):(part B a m).length=m:=by unfold part;rw[List.length_take,List.length_drop];omega
theorem part_get(B:List UInt8)(a m i:Nat):(part B a m)[i]? = if i<m then B[a+i]? else none:=by
 unfold part;rw[List.getElem?_take,List.getElem?_drop]
theorem part_out{B x:List UInt8}{k a m:Nat}(hk:k+x.length<=B.length)(h:a+m<=k\/k+x.length<=a):part (over B k x) a m=part B a m:=by
 refine List.ext_getElem? fun i=>?_
 rw[part_get,part_get]
 split
 ·rw[over_get? hk]
  rcases h with h|h
  ·rw[if_pos omg]
  ·rw[if_neg omg,if_neg omg]
 ·rfl
theorem part_in{B x:List UInt8}{k a m:Nat}(hk:k+x.length<=B.length)(h1:a<=k)(h2:k+x.length<=a+m)(h3:a+m<=B.length):part (over B k x) a m=over (part B a m) (k-a) x:=by
 have hp:(k-a)+x.length<=(part B a m).length:=by rw[part_len h3];omega
 refine List.ext_getElem? fun i=>?_
 rw[part_get,over_get? hk,over_get? hp,part_get]
 by_cases hi:i<m
 ·rw[if_pos hi,if_pos hi]
  by_cases h4:a+i<k
  ·have h4':i<k-a:=by omega
   rw[if_pos h4,if_pos h4']
  ·have h4':¬i<k-a:=by omega
   rw[if_neg h4,if_neg h4']
   by_cases h5:a+i<k+x.length
   ·have h5':i<k-a+x.length:=by omega
    rw[if_pos h5,if_pos h5']
    congr 1;omega
   ·have h5':¬i<k-a+x.length:=by omega
    rw[if_neg h5,if_neg h5']
 ·have h4':¬i<k-a:=by omega
  have h5':¬i<k-a+x.length:=by omega
  rw[if_neg hi,if_neg hi,if_neg h4',if_neg h5']
theorem part_is{B x:List UInt8}{k:Nat}(hk:k+x.length<=B.length):part (over B k x) k x.length=x:=by
 refine List.ext_getElem? fun i=>?_
 rw[part_get,over_get? hk]
 by_cases hi:i<x.length
 ·rw[if_pos hi,if_neg omg,if_pos omg,Nat.add_sub_cancel_left]
 ·rw[if_neg hi,List.getElem?_eq_none omg]
theorem part_part(B:List UInt8){a m x y:Nat}(h:x+y<=m):part (part B a m) x y=part B (a+x) y:=by
 refine List.ext_getElem? fun i=>?_
 rw[part_get,part_get,part_get]
 by_cases hi:i<y
 ·rw[if_pos hi,if_pos hi,if_pos omg];congr 1;omega
 ·rw[if_neg hi,if_neg hi]
theorem part_grow{B:List UInt8}{n a m:Nat}(h:a+m<=B.length):part (growL B n) a m=part B a m:=by
 refine List.ext_getElem? fun i=>?_
 rw[part_get,part_get]
 split
 ·unfold growL;rw[List.getElem?_append_left omg]
 ·rfl
theorem over_part{B x:List UInt8}{k:Nat}(hk:k+x.length<=B.length):over B k (part B k x.length)=B:=by
 have hl:=part_len hk
 refine List.ext_getElem? fun i=>?_
 rw[over_get? (by rw[hl];exact hk),hl,part_get]
 split
 ·rfl
 ·rename_i h1
  split
  ·rw[if_pos omg];congr 1;omega
  ·rfl
/-! ### How an image lies -/
structure Gm where
 b:Nat
 o:Nat
 L:Nat
 u:Nat
def Gm.c(g:Gm):Nat:=2^g.b
def Gm.w(g:Gm):Nat:=2^g.o
def Gm.n(g:Gm):Nat:=2^(g.b+3-g.o)
def Gm.m(g:Gm):Nat:=g.L*(g.c/8)
def Gm.room(g:Gm):Nat:=g.m*g.n
structure Gm.ok (g:Gm):Prop where
 b0:9<=g.b
 b1:g.b<=16
 o1:g.o<=6
 L0:1<=g.L
 L1:g.L<=40
 u0:g.L+2<=g.u
 u1:g.u<=g.L+3
theorem Gm.ok.c512{g:Gm}(k:g.ok):∃q,g.c=512*q/\1<=q/\q<=128:=by
 have h0:=k.b0;have h1:=k.b1
 refine⟨2^(g.b-9),?_,Nat.one_le_two_pow,?_⟩
 ·unfold Gm.c
  rw[show (512:Nat)=2^9 by decide,<-Nat.pow_add];congr 1;omega
 ·calc 2^(g.b-9)<=2^7:=Nat.pow_le_pow_right omg omg
   _=128:=by decide
theorem Gm.ok.n64{g:Gm}(k:g.ok):64<=g.n/\g.n<=524288:=by
 have h0:=k.b0;have h1:=k.b1;have h2:=k.o1
 unfold Gm.n
 constructor
 ·calc 64=2^6:=by decide
   _<=_:=Nat.pow_le_pow_right omg omg
 ·calc _<=2^19:=Nat.pow_le_pow_right omg omg
   _=524288:=by decide
theorem Gm.ok.nw{g:Gm}(k:g.ok):g.n*g.w=8*g.c:=by
 have h0:=k.b0;have h2:=k.o1
 unfold Gm.n Gm.w Gm.c
 rw[<-Nat.pow_add,show (8:Nat)=2^3 by decide,<-Nat.pow_add];congr 1;omega
theorem Gm.ok.w64{g:Gm}(k:g.ok):1<=g.w/\g.w<=64:=by
 have h2:=k.o1
 refine⟨Nat.one_le_two_pow,?_⟩
 calc g.w<=2^6:=Nat.pow_le_pow_right omg h2
  _=64:=by decide
theorem Gm.ok.m8{g:Gm}(k:g.ok):8*g.m=g.L*g.c:=by
 obtain⟨q,hq,-,-⟩:=k.c512
 unfold Gm.m
 rw[hq,show 512*q/8=64*q by omega,<-Nat.mul_assoc,Nat.mul_comm 8,Nat.mul_assoc]
 congr 1;omega
theorem Gm.ok.m0{g:Gm}(k:g.ok):64<=g.m:=by
 obtain⟨q,hq,h1,-⟩:=k.c512
 have h2:=k.m8
 have:1*g.c<=g.L*g.c:=Nat.mul_le_mul_right _ k.L0
 omega
def Gm.cl(g:Gm)(i:Nat):Nat:=if i=0 then g.u-1 else i*g.n
def Gm.pl(g:Gm)(i:Nat):Nat:=g.cl i*g.c
theorem Gm.ok.cl_u{g:Gm}(k:g.ok){i:Nat}(hi:i≠0):g.u<g.cl i:=by
 have:=k.n64;have:=k.u1;have:=k.L1
 unfold Gm.cl
 rw[if_neg hi]
 have:1*g.n<=i*g.n:=Nat.mul_le_mul_right _ omg
 omega
theorem Gm.ok.cl_inj{g:Gm}(k:g.ok){i j:Nat}(h:g.cl i=g.cl j):i=j:=by
 have h0:=k.n64;have h1:=k.u0
 by_cases hi:i=0
 ·by_cases hj:j=0
  ·rw[hi,hj]
  ·have:=k.cl_u hj
   rw[<-h,hi]at this
   unfold Gm.cl at this
   rw[if_pos rfl]at this;omega
 ·by_cases hj:j=0
  ·have:=k.cl_u hi
   rw[h,hj]at this
   unfold Gm.cl at this
   rw[if_pos rfl]at this;omega
  ·unfold Gm.cl at h
   rw[if_neg hi,if_neg hj]at h
   exact Nat.eq_of_mul_eq_mul_right omg h
theorem mul_apart{a b c:Nat}(h:a≠b):a*c+c<=b*c\/b*c+c<=a*c:=by
 rcases Nat.lt_or_gt_of_ne h with h|h
 ·left;have:=Nat.mul_le_mul_right c (show a+1<=b from h);rw[Nat.add_mul]at this;omega
 ·right;have:=Nat.mul_le_mul_right c (show b+1<=a from h);rw[Nat.add_mul]at this;omega
theorem Gm.ok.pl_apart{g:Gm}(k:g.ok){i j:Nat}(h:i≠j):g.pl i+g.c<=g.pl j\/g.pl j+g.c<=g.pl i :=
 mul_apart fun e=>h (k.cl_inj e)
theorem Gm.ok.pl_far{g:Gm}(k:g.ok)(i:Nat):(g.u-1)*g.c<=g.pl i:=by
 refine Nat.mul_le_mul_right _ ?_
 by_cases hi:i=0
 ·rw[hi];unfold Gm.cl;rw[if_pos rfl];exact Nat.le_refl _
 ·have:=k.cl_u hi;omega
theorem Gm.ok.pl_tab{g:Gm}(k:g.ok)(i:Nat):g.c+g.L*g.c<=g.pl i:=by
 have h1:=k.pl_far i
 have:(1+g.L)*g.c<=(g.u-1)*g.c:=Nat.mul_le_mul_right _ (by have:=k.u0;omega)
 rw[Nat.add_mul,Nat.one_mul]at this
 omega
def Gm.word(g:Gm)(B:List UInt8)(i:Nat):Nat:=leN (part B (g.c+8*i) 8)
def Gm.blk(g:Gm)(B:List UInt8)(i:Nat):List UInt8:=part B (g.pl i) g.c
def Gm.cnt(g:Gm)(B:List UInt8)(k:Nat):Nat:=if g.word B (k/g.n)=0 then 0 else Vc.cnt (g.blk B (k/g.n)) g.w (k%g.n)
def Gm.hold(g:Gm)(B:List UInt8)(k:Nat):Prop:=k<g.u\/∃i,i≠0/\i<g.m/\g.word B i≠0/\k=g.cl i
structure Img (g:Gm) (x:Hd) (B:List UInt8):Prop where
 few:B.length<=268435456
 mod:B.length%g.c=0
 len:g.u*g.c<=B.length
 head:part B 0 512=hdB x
 w0:g.word B 0≠0
 wi:∀i,i<g.m->g.word B i≠0->g.word B i=g.pl i/\g.pl i+g.c<=B.length
 l1:part B ((1+g.L)*g.c) ((g.u-2-g.L)*g.c)=zeros ((g.u-2-g.L)*g.c)
 cov:∀k,g.hold B k->1<=g.cnt B k
theorem Gm.ok.word_at{g:Gm}(k:g.ok){i:Nat}(hi:i<g.m):g.c+8*i+8<=g.c+g.L*g.c:=by have:=k.m8;omega
theorem Gm.ok.l1_at{g:Gm}(k:g.ok)(i:Nat):(1+g.L)*g.c+(g.u-2-g.L)*g.c<=g.pl i:=by
 have h1:=k.pl_far i
 have:=k.u0
 rw[<-Nat.add_mul,show 1+g.L+(g.u-2-g.L)=g.u-1 by omega]
 exact h1
theorem Gm.ok.tab_l1{g:Gm}(k:g.ok):g.c+g.L*g.c=(1+g.L)*g.c:=by rw[Nat.add_mul,Nat.one_mul]
theorem Img.block{g:Gm}{x:Hd}{B y:List UInt8}(I:Img g x B)(k:g.ok){i q:Nat}(hi:i<g.m)(hw:g.word B i≠0)(hq:q+y.length<=g.c) :
 let B':=over B (g.pl i+q) y
 B'.length=B.length/\(∀j,j<g.m->g.word B' j=g.word B j)/\g.blk B' i=over (g.blk B i) q y/\(∀j,j<g.m->j≠i->g.word B j≠0->g.blk B' j=g.blk B j)/\((∀k,g.hold B k->k/g.n=i->1<=Vc.cnt (over (g.blk B i) q y) g.w (k%g.n))->(∀k,g.hold B k->k/g.n<g.m)->Img g x B'):=by
 intro B'
 obtain⟨hp,hle⟩:=I.wi i hi hw
 have hk:g.pl i+q+y.length<=B.length:=by omega
 have hlen:B'.length=B.length:=over_len hk
 have htab:=k.pl_tab i
 have hl1:=k.l1_at i
 obtain⟨c1,hc,hc1,-⟩:=k.c512
 have hword:∀j,j<g.m->g.word B' j=g.word B j:=fun j hj=>by
  unfold Gm.word
  rw[part_out hk (.inl (by have:=k.word_at hj;omega))]
 have hbi:g.blk B' i=over (g.blk B i) q y:=by
  unfold Gm.blk
  rw[part_in hk omg omg hle,Nat.add_sub_cancel_left]
 have hbj:∀j,j<g.m->j≠i->g.word B j≠0->g.blk B' j=g.blk B j:=fun j hj hne hwj=>by
  unfold Gm.blk
  exact part_out hk (by have:=k.pl_apart hne;omega)
 refine⟨hlen,hword,hbi,hbj,fun hcov hlt=>?_⟩
 have hold:∀k',g.hold B' k'->g.hold B k':=fun k' hh=>hh.imp id (fun ⟨j,h1,h2,h3,h4⟩=>⟨j,h1,h2,by rw[<-hword j h2];exact h3,h4⟩)
 refine⟨by rw[hlen];exact I.few,by rw[hlen];exact I.mod,by rw[hlen];exact I.len,?_,?_,fun j hj hwj=>?_,?_,fun k' hk'=>?_⟩
 ·rw[part_out hk (.inl omg)];exact I.head
 ·rw[hword 0 (by have:=k.m0;omega)];exact I.w0
 ·rw[hword j hj]at hwj ⊢
  rw[hlen];exact I.wi j hj hwj
 ·rw[part_out hk (.inl omg)];exact I.l1
 ·have h1:=hold k' hk'
  have h2:=I.cov k' h1
  have hm:=hlt k' h1
  unfold Gm.cnt at h2 ⊢
  rw[hword _ hm]
  split at h2
  ·omega
  ·rename_i hne
   rw[if_neg hne]
   by_cases e:k'/g.n=i
   ·rw[e,hbi];exact hcov k' h1 e
   ·rw[hbj _ hm e hne];exact h2
theorem Gm.ok.hold_lt{g:Gm}(k:g.ok){B:List UInt8}{j:Nat}(hj:g.hold B j):j/g.n<g.m:=by
 have h0:=k.n64;have h1:=k.u1;have h2:=k.L1;have h3:=k.m0
 rcases hj with h|⟨i,h4,h5,-,rfl⟩
 ·rw[Nat.div_eq_of_lt omg];omega
 ·unfold Gm.cl
  rw[if_neg h4,Nat.mul_div_cancel _ omg];exact h5
end
section
theorem Img.word_fit{g:Gm}{x:Hd}{B:List UInt8}(I:Img g x B)(k:g.ok){i:Nat}(hi:i<g.m):g.c+8*i+8<=B.length:=by
 have h1:=k.word_at hi
 have h2:=I.wi 0 (by have:=k.m0;omega) I.w0
 have h3:=k.pl_tab 0
 omega
theorem Img.grown{g:Gm}{x:Hd}{B:List UInt8}(I:Img g x B)(k:g.ok){n:Nat}(hn:n<=268435456)(hm:n%g.c=0) :
 Img g x (growL B n)/\(∀j,j<g.m->g.word (growL B n) j=g.word B j)/\(∀j,j/g.n<g.m->g.cnt (growL B n) j=g.cnt B j):=by
 have hl:=growL_len B n
 have hword:∀j,j<g.m->g.word (growL B n) j=g.word B j:=fun j hj=>by
  unfold Gm.word
  rw[part_grow (I.word_fit k hj)]
 have hcnt:∀j,j/g.n<g.m->g.cnt (growL B n) j=g.cnt B j:=fun j hj=>by
  unfold Gm.cnt
  rw[hword _ hj]
  split
  ·rfl
  ·rename_i hw
   unfold Gm.blk
   rw[part_grow (I.wi _ hj hw).2]
 have hold:∀j,g.hold (growL B n) j->g.hold B j:=fun j hh=>hh.imp id (fun ⟨i,h1,h2,h3,h4⟩=>⟨i,h1,h2,by rw[<-hword i h2];exact h3,h4⟩)
 obtain⟨c1,hc,hc1,-⟩:=k.c512
 have h0:=I.word_fit k (i:=0) (by have:=k.m0;omega)
 refine⟨⟨by rw[hl];have:=I.few;omega,?_,by rw[hl];have:=I.len;omega,?_,?_,fun j hj hw=>?_,?_,fun j hj=>?_⟩,hword,hcnt⟩
 ·rw[hl]
  rcases Nat.le_total B.length n with h|h
  ·rw[Nat.max_eq_right h];exact hm
  ·rw[Nat.max_eq_left h];exact I.mod
 ·rw[part_grow omg];exact I.head
 ·rw[hword 0 (by have:=k.m0;omega)];exact I.w0
 ·rw[hword j hj]at hw ⊢
  have:=I.wi j hj hw
  exact⟨this.1,by rw[hl];omega⟩
 ·have h1:=k.l1_at 0
  have h2:=I.wi 0 (by have:=k.m0;omega) I.w0
  rw[part_grow omg];exact I.l1
 ·have h1:=hold j hj
  rw[hcnt j (k.hold_lt h1)]
  exact I.cov j h1
def Gm.newB(g:Gm):List UInt8:=setC (zeros g.c) g.w 0 1
theorem Gm.newB_len(g:Gm):g.newB.length=g.c:=by unfold Gm.newB;rw[setC_length,zeros_len]
theorem leN_zeros(n:Nat):leN (zeros n)=0:=by
 unfold zeros
 induction n with
 | zero=>rfl
 | succ n ih=>rw[List.replicate_succ,leN,ih];rfl
theorem cnt_zeros(n w i:Nat):cnt (zeros n) w i=0:=by unfold cnt;rw[leN_zeros];simp
theorem Gm.ok.newB_cnt{g:Gm}(k:g.ok)(i:Nat):Vc.cnt g.newB g.w i=if i=0 then 1 else 0:=by
 unfold Gm.newB
 obtain⟨h1,h2⟩:=k.w64
 obtain⟨q,hq,hq1,-⟩:=k.c512
 rw[cnt_setC (by rw[zeros_len];omega),cnt_zeros]
 split
 ·rw[Nat.mod_eq_of_lt (Nat.one_lt_two_pow omg)]
 ·rfl
def Gm.mkB(g:Gm)(B:List UInt8)(i:Nat):List UInt8:=over (over (growL B (g.pl i+g.c)) (g.pl i) g.newB) (g.c+8*i) (leB 8 (g.pl i))
theorem Gm.pl_mod(g:Gm)(i:Nat):(g.pl i+g.c)%g.c=0:=by unfold Gm.pl;rw[Nat.add_mod_right,Nat.mul_mod_left]
theorem Img.mk1{g:Gm}{x:Hd}{B y:List UInt8}(I:Img g x B)(k:g.ok){i:Nat}(hi:i<g.m)(hw:g.word B i=0)(hf:g.pl i+g.c<=B.length)(hy:y.length<=g.c) :
 Img g x (over B (g.pl i) y)/\(∀j,j<g.m->g.word (over B (g.pl i) y) j=g.word B j)/\(∀j,j/g.n<g.m->g.cnt (over B (g.pl i) y) j=g.cnt B j):=by
 have hk:g.pl i+y.length<=B.length:=by omega
 have hlen:(over B (g.pl i) y).length=B.length:=over_len hk
 have htab:=k.pl_tab i
 have hl1:=k.l1_at i
 obtain⟨c1,hc,hc1,-⟩:=k.c512
 have hword:∀j,j<g.m->g.word (over B (g.pl i) y) j=g.word B j:=fun j hj=>by
  unfold Gm.word
  rw[part_out hk (.inl (by have:=k.word_at hj;omega))]
 have hcnt:∀j,j/g.n<g.m->g.cnt (over B (g.pl i) y) j=g.cnt B j:=fun j hj=>by
  unfold Gm.cnt
  rw[hword _ hj]
  split
  ·rfl
  ·rename_i hwj
   unfold Gm.blk
   rw[part_out hk]
   have:=k.pl_apart (i:=j/g.n) (j:=i) (fun e=>hwj (by rw[e];exact hw))
   omega
 have hold:∀j,g.hold (over B (g.pl i) y) j->g.hold B j:=fun j hh=>hh.imp id (fun ⟨i,h1,h2,h3,h4⟩=>⟨i,h1,h2,by rw[<-hword i h2];exact h3,h4⟩)
 refine⟨⟨by rw[hlen];exact I.few,by rw[hlen];exact I.mod,by rw[hlen];exact I.len,?_,?_,fun j hj hwj=>?_,?_,fun j hj=>?_⟩,hword,hcnt⟩
 ·rw[part_out hk (.inl omg)];exact I.head
 ·rw[hword 0 (by have:=k.m0;omega)];exact I.w0
 ·rw[hword j hj]at hwj ⊢
  rw[hlen];exact I.wi j hj hwj
 ·rw[part_out hk (.inl omg)];exact I.l1
 ·have h1:=hold j hj
  rw[hcnt j (k.hold_lt h1)]
  exact I.cov j h1
theorem leN_leB8{x:Nat}(h:x<18446744073709551616):leN (leB 8 x)=x:=by
 rw[leN_leB];exact Nat.mod_eq_of_lt (by simpa using h)
theorem Img.mk2{g:Gm}{x:Hd}{B:List UInt8}(I:Img g x B)(k:g.ok){i:Nat}(hi:i<g.m)(hw:g.word B i=0)(hf:g.pl i+g.c<=B.length)(hb:g.blk B i=g.newB) :
 let B':=over B (g.c+8*i) (leB 8 (g.pl i))
 Img g x B'/\g.word B' i=g.pl i/\(∀j,j<g.m->j≠i->g.word B' j=g.word B j)/\(∀j,j/g.n<g.m->g.cnt B' j=if j=g.cl i then 1 else g.cnt B j)/\B'.length=B.length:=by
 intro B'
 have h8:(leB 8 (g.pl i)).length=8:=leB_length 8 _
 have hk:g.c+8*i+(leB 8 (g.pl i)).length<=B.length:=by rw[h8];exact I.word_fit k hi
 have hlen:B'.length=B.length:=over_len hk
 have hi0:i≠0:=fun e=>I.w0 (e▸hw)
 have hfew:=I.few
 obtain⟨c1,hc,hc1,-⟩:=k.c512
 have hwi:g.word B' i=g.pl i:=by
  unfold Gm.word
  have:=part_is hk
  rw[h8]at this
  rw[this,leN_leB8 omg]
 have hwj:∀j,j<g.m->j≠i->g.word B' j=g.word B j:=fun j hj hne=>by
  unfold Gm.word
  rw[part_out hk (by rw[h8];omega)]
 have hpos:0<g.pl i:=by have:=k.pl_tab i;omega
 have hblk:∀j,j<g.m->g.blk B' j=g.blk B j:=fun j hj=>by
  unfold Gm.blk
  exact part_out hk (.inr (by rw[h8];have:=k.word_at hi;have:=k.pl_tab j;omega))
 have hn:=k.n64
 have hcl:g.cl i/g.n=i/\g.cl i%g.n=0:=by
  unfold Gm.cl;rw[if_neg hi0]
  exact⟨Nat.mul_div_cancel _ omg,Nat.mul_mod_left _ _⟩
 have hcnt:∀j,j/g.n<g.m->g.cnt B' j=if j=g.cl i then 1 else g.cnt B j:=fun j hj=>by
  unfold Gm.cnt
  by_cases e:j/g.n=i
  ·rw[e,hwi,if_neg omg,hblk i hi,hb,k.newB_cnt,hw,if_pos rfl]
   have hdm:=Nat.div_add_mod j g.n
   rw[e]at hdm
   have hcl2:=Nat.div_add_mod (g.cl i) g.n
   rw[hcl.1,hcl.2]at hcl2
   by_cases e2:j%g.n=0
   ·rw[if_pos e2,if_pos omg]
   ·rw[if_neg e2,if_neg omg]
  ·have hne:¬j=g.cl i:=fun h=>e (by rw[h];exact hcl.1)
   rw[hwj _ hj e,hblk _ hj,if_neg hne]
 have hold:∀j,g.hold B' j->g.hold B j\/j=g.cl i:=fun j hh=>by
  rcases hh with h|⟨q,h1,h2,h3,h4⟩
  ·exact .inl (.inl h)
  ·by_cases e:q=i
   ·right;rw[h4,e]
   ·left;exact .inr ⟨q,h1,h2,by rw[<-hwj q h2 e];exact h3,h4⟩
 have htab:=k.tab_l1
 refine⟨⟨by rw[hlen];exact I.few,by rw[hlen];exact I.mod,by rw[hlen];exact I.len,?_,?_,fun j hj hw'=>?_,?_,fun j hj=>?_⟩,hwi,hwj,hcnt,hlen⟩
 ·rw[part_out hk (.inl omg)];exact I.head
 ·rw[hwj 0 (by have:=k.m0;omega) (Ne.symm hi0)];exact I.w0
 ·rw[hlen]
  by_cases e:j=i
  ·rw[e];exact⟨hwi,hf⟩
  ·rw[hwj j hj e]at hw' ⊢
   exact I.wi j hj hw'
 ·rw[part_out hk (.inr (by rw[h8];have:=k.word_at hi;omega))];exact I.l1
 ·rcases hold j hj with h1|rfl
  ·rw[hcnt j (k.hold_lt h1)]
   split
   ·exact Nat.le_refl _
   ·exact I.cov j h1
  ·rw[hcnt _ (by rw[hcl.1];exact hi),if_pos rfl]
   exact Nat.le_refl _
theorem Img.made{g:Gm}{x:Hd}{B:List UInt8}(I:Img g x B)(k:g.ok){i:Nat}(hi:i<g.m)(hw:g.word B i=0)(hf:g.pl i+g.c<=268435456) :
 Img g x (g.mkB B i)/\g.word (g.mkB B i) i=g.pl i/\(∀j,j<g.m->j≠i->g.word (g.mkB B i) j=g.word B j)/\(∀j,j/g.n<g.m->g.cnt (g.mkB B i) j=if j=g.cl i then 1 else g.cnt B j)/\(g.mkB B i).length=max B.length (g.pl i+g.c):=by
 obtain⟨I1,w1,c1⟩:=I.grown k hf (g.pl_mod i)
 have hl:=growL_len B (g.pl i+g.c)
 obtain⟨I2,w2,c2⟩:=I1.mk1 (y:=g.newB) k hi (by rw[w1 i hi];exact hw) omg (by rw[g.newB_len];exact Nat.le_refl _)
 have hl2:(over (growL B (g.pl i+g.c)) (g.pl i) g.newB).length=(growL B (g.pl i+g.c)).length:=over_len (by rw[g.newB_len];omega)
 obtain⟨I3,w3,w4,c3,l3⟩:=I2.mk2 k hi (by rw[w2 i hi,w1 i hi];exact hw) omg (by
  unfold Gm.blk
  have:=part_is (B:=growL B (g.pl i+g.c)) (x:=g.newB) (k:=g.pl i) (by rw[g.newB_len];omega)
  rw[g.newB_len]at this;exact this)
 refine⟨I3,w3,fun j hj hne=>?_,fun j hj=>?_,?_⟩
 ·show g.word (over _ _ _) j=_
  rw[w4 j hj hne,w2 j hj,w1 j hj]
 ·show g.cnt (over _ _ _) j=_
  rw[c3 j hj,c2 j hj,c1 j hj]
 ·show (over _ _ _).length=_
  rw[l3,hl2,hl]
end
end Go.Proofs.YtdccfkffabngjaaGreat
