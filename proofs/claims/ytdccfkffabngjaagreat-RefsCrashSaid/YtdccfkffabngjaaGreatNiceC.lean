/- Printed by /tmp/tools2/gen.py: the condition of each function,and that a call meets it. -/
import Derived.Test.YtdccfkffabngjaaGreatVcFun
import Derived.Test.YtdccfkffabngjaaGreatProg
import Derived.Test.YtdccfkffabngjaaGreatNiceA
import Derived.Test.YtdccfkffabngjaaGreatNiceB
set_option maxRecDepth 100000
set_option linter.unusedVariables false
namespace Go.Proofs.YtdccfkffabngjaaGreat
open Go.Vc Go.Instr Go.Builtin

def n53(r0 at1 was2 is3:Value)(R:VP)(h:Heap):Prop :=
 LoopC 1 (fun (X:VP)=>fun i9 H1 =>
 vF (len_ #[52] 3 #[is3]) (fun t14 H2 =>
 vF (vt .lss 3 12 14 i9 t14) (fun t15 H3 =>
 vD t15 (
 JoinN 0 (fun (k:Heap->Prop) H4 =>
 JoinN 0 (fun (k_1:Heap->Prop) H5 =>
 vF (vk .add 3 20 .i64 512 i9) (fun t21 H6 =>
 vF (sliceAt 52 is3 (some i9) (some t21) none) (fun t22 H7 =>
 vF (vk .add 3 26 .i64 512 i9) (fun t27 H8 =>
 vF (sliceAt 52 was2 (some i9) (some t27) none) (fun t28 H9 =>
 vC 109 #[t22,t28] (fun t29 H10 =>
 vD t29 (
 k_1 H10) (
 vG (nilS r0) (fun t31 _ =>
 vG (fieldAt 89 t31 0) (fun t32 _ =>
 vG (loadAt 27 t32) (fun t33 _ =>
 vG (nilS r0) (fun t35 _ =>
 vG (fieldAt 89 t35 1) (fun t36 _ =>
 vG (loadAt 9 t36) (fun t37 _ =>
 vG (vt .add 2 38 39 at1 i9) (fun t40 _ =>
 vC 30 #[t33,t37,t40,t22] (fun t42 H11 =>
 vF (vk .neq 31 43 .i64 0 t42) (fun t44 H12 =>
 vD t44 (
 R t42 H12) (
 k_1 H12)) H11) H10) #[]) H10) #[]) #[]) H10) #[]) #[])) H9) H8) H7) H6) H5)
 (fun H13 =>
 k H13) H4 ⟨⟩ ⟨⟩)
 (fun H14 =>
 vF (vk .add 3 16 .i64 512 i9) (fun t17 H15 =>
 X t17 H15) H14) H3 ⟨⟩ ⟨⟩) (
 R (.int .i64 0) H3)) H2) H1) [(.int .i64 0)] h ⟨⟩

theorem n53_calls{r0 at1 was2 is3:Value}{R:VP}{h:Heap}(H:n53 r0 at1 was2 is3 R h):CallsH Tryz.prog 53 #[r0,at1,was2,is3] h R ⟨⟩ :=
 callsH_of_eq Tryz.follow (.n none .l (.n none (.n none .l (.n none (.n (some [10]) (.n none .l (.n (some []) (.n (some []) .l .l) .l)) .l) .l)) .l)) Tryz.func53 kR kR kR H

def n54(b0:Value)(R:VP)(h:Heap):Prop :=
 vF (alloc 84 true undef) (fun t2 H1 =>
 vF (len_ #[52] 3 #[b0]) (fun t8 H2 =>
 vF (vk .lss 3 8 .i64 512 t8) (fun t9 H3 =>
 vD t9 (
 vF (build 84 #[]) (fun t10 H4 =>
 vF (storeS 84 t2 t10) (fun _ H5 =>
 vG (loadCell 84 t2) (fun r _ =>
 R (.tuple #[r,(.bool false)]) H5) H5) H4) H3) (
 vC 110 #[b0,(.int .i64 84),(.int .i64 4)] (fun t12 H6 =>
 vF (vk .gtr 2 13 .i64 64 t12) (fun t14 H7 =>
 vD t14 (
 vF (build 84 #[]) (fun t15 H8 =>
 vF (storeS 84 t2 t15) (fun _ H9 =>
 vG (loadCell 84 t2) (fun r_1 _ =>
 R (.tuple #[r_1,(.bool false)]) H9) H9) H8) H7) (
 JoinN 1 (fun (k:VP) H10 =>
 vG (sliceAt 52 b0 (some (.int .i64 8)) (some (.int .i64 16)) none) (fun t19 _ =>
 vG (binS .add 2 (.const (.int .i64 88)) (.tmp 46) (.int .i64 88) t12) (fun t47 _ =>
 vG (sliceAt 52 b0 (some (.int .i64 88)) (some t47) none) (fun t48 _ =>
 vG (convert 52 9 t48) (fun t49 _ =>
 ((
 vC 110 #[b0,(.int .i64 4),(.int .i64 4)] (fun t17 H11=>vG (convert 52 9 t48) (fun u _=>u=t49) H11 /\
 ((
 vC 55 #[t19] (fun t20 H12=>vG (convert 52 9 t48) (fun u _=>u=t49) H12 /\
 ((
 vC 110 #[b0,(.int .i64 16),(.int .i64 8)] (fun t22 H13=>vG (convert 52 9 t48) (fun u _=>u=t49) H13 /\
 ((
 vC 110 #[b0,(.int .i64 24),(.int .i64 8)] (fun t24 H14=>vG (convert 52 9 t48) (fun u _=>u=t49) H14 /\
 ((
 vC 110 #[b0,(.int .i64 32),(.int .i64 4)] (fun t26 H15=>vG (convert 52 9 t48) (fun u _=>u=t49) H15 /\
 ((
 vC 110 #[b0,(.int .i64 36),(.int .i64 4)] (fun t28 H16=>vG (convert 52 9 t48) (fun u _=>u=t49) H16 /\
 ((
 vC 110 #[b0,(.int .i64 40),(.int .i64 8)] (fun t30 H17=>vG (convert 52 9 t48) (fun u _=>u=t49) H17 /\
 ((
 vC 110 #[b0,(.int .i64 48),(.int .i64 4)] (fun t32 H18=>vG (convert 52 9 t48) (fun u _=>u=t49) H18 /\
 ((
 vC 110 #[b0,(.int .i64 52),(.int .i64 4)] (fun t34 H19=>vG (convert 52 9 t48) (fun u _=>u=t49) H19 /\
 ((
 vC 110 #[b0,(.int .i64 56),(.int .i64 8)] (fun t36 H20=>vG (convert 52 9 t48) (fun u _=>u=t49) H20 /\
 ((
 vC 110 #[b0,(.int .i64 64),(.int .i64 4)] (fun t38 H21=>vG (convert 52 9 t48) (fun u _=>u=t49) H21 /\
 ((
 vC 110 #[b0,(.int .i64 68),(.int .i64 4)] (fun t40 H22=>vG (convert 52 9 t48) (fun u _=>u=t49) H22 /\
 ((
 vC 110 #[b0,(.int .i64 72),(.int .i64 8)] (fun t42 H23=>vG (convert 52 9 t48) (fun u _=>u=t49) H23 /\
 ((
 vC 110 #[b0,(.int .i64 80),(.int .i64 4)] (fun t44 H24=>vG (convert 52 9 t48) (fun u _=>u=t49) H24 /\
 vG (build 84 #[(0,t17),(1,t20),(2,t22),(3,t24),(4,t26),(5,t28),(6,t30),(7,t32),(8,t34),(9,t36),(10,t38),(11,t40),(12,t42),(13,t44),(14,t49)]) (fun t50 _ =>
 vF (alloc 84 true undef) (fun h5 H25=>vG (convert 52 9 t48) (fun u _=>u=t49) H25 /\
 vF (storeS 84 h5 t50) (fun _ H26 =>
 k h5 H26) H25) H24) #[]) H23)/\(
 vF (alloc 84 true undef) (fun h5_1 H27=>vG (convert 52 9 t48) (fun u _=>u=t49) H27 /\
 vC 110 #[b0,(.int .i64 80),(.int .i64 4)] (fun t44_1 H28=>vG (convert 52 9 t48) (fun u _=>u=t49) H28 /\
 vG (build 84 #[(0,t17),(1,t20),(2,t22),(3,t24),(4,t26),(5,t28),(6,t30),(7,t32),(8,t34),(9,t36),(10,t38),(11,t40),(12,t42),(13,t44_1),(14,t49)]) (fun t50_1 _ =>
 vF (storeS 84 h5_1 t50_1) (fun _ H29 =>
 k h5_1 H29) H28) #[]) H27) H23))) H22)/\(
 vF (alloc 84 true undef) (fun h5_2 H30=>vG (convert 52 9 t48) (fun u _=>u=t49) H30 /\
 vC 110 #[b0,(.int .i64 72),(.int .i64 8)] (fun t42_1 H31=>vG (convert 52 9 t48) (fun u _=>u=t49) H31 /\
 vC 110 #[b0,(.int .i64 80),(.int .i64 4)] (fun t44_2 H32=>vG (convert 52 9 t48) (fun u _=>u=t49) H32 /\
 vG (build 84 #[(0,t17),(1,t20),(2,t22),(3,t24),(4,t26),(5,t28),(6,t30),(7,t32),(8,t34),(9,t36),(10,t38),(11,t40),(12,t42_1),(13,t44_2),(14,t49)]) (fun t50_2 _ =>
 vF (storeS 84 h5_2 t50_2) (fun _ H33 =>
 k h5_2 H33) H32) #[]) H31) H30) H22))) H21)/\(
 vF (alloc 84 true undef) (fun h5_3 H34=>vG (convert 52 9 t48) (fun u _=>u=t49) H34 /\
 vC 110 #[b0,(.int .i64 68),(.int .i64 4)] (fun t40_1 H35=>vG (convert 52 9 t48) (fun u _=>u=t49) H35 /\
 vC 110 #[b0,(.int .i64 72),(.int .i64 8)] (fun t42_2 H36=>vG (convert 52 9 t48) (fun u _=>u=t49) H36 /\
 vC 110 #[b0,(.int .i64 80),(.int .i64 4)] (fun t44_3 H37=>vG (convert 52 9 t48) (fun u _=>u=t49) H37 /\
 vG (build 84 #[(0,t17),(1,t20),(2,t22),(3,t24),(4,t26),(5,t28),(6,t30),(7,t32),(8,t34),(9,t36),(10,t38),(11,t40_1),(12,t42_2),(13,t44_3),(14,t49)]) (fun t50_3 _ =>
 vF (storeS 84 h5_3 t50_3) (fun _ H38 =>
 k h5_3 H38) H37) #[]) H36) H35) H34) H21))) H20)/\(
 vF (alloc 84 true undef) (fun h5_4 H39=>vG (convert 52 9 t48) (fun u _=>u=t49) H39 /\
 vC 110 #[b0,(.int .i64 64),(.int .i64 4)] (fun t38_1 H40=>vG (convert 52 9 t48) (fun u _=>u=t49) H40 /\
 vC 110 #[b0,(.int .i64 68),(.int .i64 4)] (fun t40_2 H41=>vG (convert 52 9 t48) (fun u _=>u=t49) H41 /\
 vC 110 #[b0,(.int .i64 72),(.int .i64 8)] (fun t42_3 H42=>vG (convert 52 9 t48) (fun u _=>u=t49) H42 /\
 vC 110 #[b0,(.int .i64 80),(.int .i64 4)] (fun t44_4 H43=>vG (convert 52 9 t48) (fun u _=>u=t49) H43 /\
 vG (build 84 #[(0,t17),(1,t20),(2,t22),(3,t24),(4,t26),(5,t28),(6,t30),(7,t32),(8,t34),(9,t36),(10,t38_1),(11,t40_2),(12,t42_3),(13,t44_4),(14,t49)]) (fun t50_4 _ =>
 vF (storeS 84 h5_4 t50_4) (fun _ H44 =>
 k h5_4 H44) H43) #[]) H42) H41) H40) H39) H20))) H19)/\(
 vF (alloc 84 true undef) (fun h5_5 H45=>vG (convert 52 9 t48) (fun u _=>u=t49) H45 /\
 vC 110 #[b0,(.int .i64 56),(.int .i64 8)] (fun t36_1 H46=>vG (convert 52 9 t48) (fun u _=>u=t49) H46 /\
 vC 110 #[b0,(.int .i64 64),(.int .i64 4)] (fun t38_2 H47=>vG (convert 52 9 t48) (fun u _=>u=t49) H47 /\
 vC 110 #[b0,(.int .i64 68),(.int .i64 4)] (fun t40_3 H48=>vG (convert 52 9 t48) (fun u _=>u=t49) H48 /\
 vC 110 #[b0,(.int .i64 72),(.int .i64 8)] (fun t42_4 H49=>vG (convert 52 9 t48) (fun u _=>u=t49) H49 /\
 vC 110 #[b0,(.int .i64 80),(.int .i64 4)] (fun t44_5 H50=>vG (convert 52 9 t48) (fun u _=>u=t49) H50 /\
 vG (build 84 #[(0,t17),(1,t20),(2,t22),(3,t24),(4,t26),(5,t28),(6,t30),(7,t32),(8,t34),(9,t36_1),(10,t38_2),(11,t40_3),(12,t42_4),(13,t44_5),(14,t49)]) (fun t50_5 _ =>
 vF (storeS 84 h5_5 t50_5) (fun _ H51 =>
 k h5_5 H51) H50) #[]) H49) H48) H47) H46) H45) H19))) H18)/\(
 vF (alloc 84 true undef) (fun h5_6 H52=>vG (convert 52 9 t48) (fun u _=>u=t49) H52 /\
 vC 110 #[b0,(.int .i64 52),(.int .i64 4)] (fun t34_1 H53=>vG (convert 52 9 t48) (fun u _=>u=t49) H53 /\
 vC 110 #[b0,(.int .i64 56),(.int .i64 8)] (fun t36_2 H54=>vG (convert 52 9 t48) (fun u _=>u=t49) H54 /\
 vC 110 #[b0,(.int .i64 64),(.int .i64 4)] (fun t38_3 H55=>vG (convert 52 9 t48) (fun u _=>u=t49) H55 /\
 vC 110 #[b0,(.int .i64 68),(.int .i64 4)] (fun t40_4 H56=>vG (convert 52 9 t48) (fun u _=>u=t49) H56 /\
 vC 110 #[b0,(.int .i64 72),(.int .i64 8)] (fun t42_5 H57=>vG (convert 52 9 t48) (fun u _=>u=t49) H57 /\
 vC 110 #[b0,(.int .i64 80),(.int .i64 4)] (fun t44_6 H58=>vG (convert 52 9 t48) (fun u _=>u=t49) H58 /\
 vG (build 84 #[(0,t17),(1,t20),(2,t22),(3,t24),(4,t26),(5,t28),(6,t30),(7,t32),(8,t34_1),(9,t36_2),(10,t38_3),(11,t40_4),(12,t42_5),(13,t44_6),(14,t49)]) (fun t50_6 _ =>
 vF (storeS 84 h5_6 t50_6) (fun _ H59 =>
 k h5_6 H59) H58) #[]) H57) H56) H55) H54) H53) H52) H18))) H17)/\(
 vF (alloc 84 true undef) (fun h5_7 H60=>vG (convert 52 9 t48) (fun u _=>u=t49) H60 /\
 vC 110 #[b0,(.int .i64 48),(.int .i64 4)] (fun t32_1 H61=>vG (convert 52 9 t48) (fun u _=>u=t49) H61 /\
 vC 110 #[b0,(.int .i64 52),(.int .i64 4)] (fun t34_2 H62=>vG (convert 52 9 t48) (fun u _=>u=t49) H62 /\
 vC 110 #[b0,(.int .i64 56),(.int .i64 8)] (fun t36_3 H63=>vG (convert 52 9 t48) (fun u _=>u=t49) H63 /\
 vC 110 #[b0,(.int .i64 64),(.int .i64 4)] (fun t38_4 H64=>vG (convert 52 9 t48) (fun u _=>u=t49) H64 /\
 vC 110 #[b0,(.int .i64 68),(.int .i64 4)] (fun t40_5 H65=>vG (convert 52 9 t48) (fun u _=>u=t49) H65 /\
 vC 110 #[b0,(.int .i64 72),(.int .i64 8)] (fun t42_6 H66=>vG (convert 52 9 t48) (fun u _=>u=t49) H66 /\
 vC 110 #[b0,(.int .i64 80),(.int .i64 4)] (fun t44_7 H67=>vG (convert 52 9 t48) (fun u _=>u=t49) H67 /\
 vG (build 84 #[(0,t17),(1,t20),(2,t22),(3,t24),(4,t26),(5,t28),(6,t30),(7,t32_1),(8,t34_2),(9,t36_3),(10,t38_4),(11,t40_5),(12,t42_6),(13,t44_7),(14,t49)]) (fun t50_7 _ =>
 vF (storeS 84 h5_7 t50_7) (fun _ H68 =>
 k h5_7 H68) H67) #[]) H66) H65) H64) H63) H62) H61) H60) H17))) H16)/\(
 vF (alloc 84 true undef) (fun h5_8 H69=>vG (convert 52 9 t48) (fun u _=>u=t49) H69 /\
 vC 110 #[b0,(.int .i64 40),(.int .i64 8)] (fun t30_1 H70=>vG (convert 52 9 t48) (fun u _=>u=t49) H70 /\
 vC 110 #[b0,(.int .i64 48),(.int .i64 4)] (fun t32_2 H71=>vG (convert 52 9 t48) (fun u _=>u=t49) H71 /\
 vC 110 #[b0,(.int .i64 52),(.int .i64 4)] (fun t34_3 H72=>vG (convert 52 9 t48) (fun u _=>u=t49) H72 /\
 vC 110 #[b0,(.int .i64 56),(.int .i64 8)] (fun t36_4 H73=>vG (convert 52 9 t48) (fun u _=>u=t49) H73 /\
 vC 110 #[b0,(.int .i64 64),(.int .i64 4)] (fun t38_5 H74=>vG (convert 52 9 t48) (fun u _=>u=t49) H74 /\
 vC 110 #[b0,(.int .i64 68),(.int .i64 4)] (fun t40_6 H75=>vG (convert 52 9 t48) (fun u _=>u=t49) H75 /\
 vC 110 #[b0,(.int .i64 72),(.int .i64 8)] (fun t42_7 H76=>vG (convert 52 9 t48) (fun u _=>u=t49) H76 /\
 vC 110 #[b0,(.int .i64 80),(.int .i64 4)] (fun t44_8 H77=>vG (convert 52 9 t48) (fun u _=>u=t49) H77 /\
 vG (build 84 #[(0,t17),(1,t20),(2,t22),(3,t24),(4,t26),(5,t28),(6,t30_1),(7,t32_2),(8,t34_3),(9,t36_4),(10,t38_5),(11,t40_6),(12,t42_7),(13,t44_8),(14,t49)]) (fun t50_8 _ =>
 vF (storeS 84 h5_8 t50_8) (fun _ H78 =>
 k h5_8 H78) H77) #[]) H76) H75) H74) H73) H72) H71) H70) H69) H16))) H15)/\(
 vF (alloc 84 true undef) (fun h5_9 H79=>vG (convert 52 9 t48) (fun u _=>u=t49) H79 /\
 vC 110 #[b0,(.int .i64 36),(.int .i64 4)] (fun t28_1 H80=>vG (convert 52 9 t48) (fun u _=>u=t49) H80 /\
 vC 110 #[b0,(.int .i64 40),(.int .i64 8)] (fun t30_2 H81=>vG (convert 52 9 t48) (fun u _=>u=t49) H81 /\
 vC 110 #[b0,(.int .i64 48),(.int .i64 4)] (fun t32_3 H82=>vG (convert 52 9 t48) (fun u _=>u=t49) H82 /\
 vC 110 #[b0,(.int .i64 52),(.int .i64 4)] (fun t34_4 H83=>vG (convert 52 9 t48) (fun u _=>u=t49) H83 /\
 vC 110 #[b0,(.int .i64 56),(.int .i64 8)] (fun t36_5 H84=>vG (convert 52 9 t48) (fun u _=>u=t49) H84 /\
 vC 110 #[b0,(.int .i64 64),(.int .i64 4)] (fun t38_6 H85=>vG (convert 52 9 t48) (fun u _=>u=t49) H85 /\
 vC 110 #[b0,(.int .i64 68),(.int .i64 4)] (fun t40_7 H86=>vG (convert 52 9 t48) (fun u _=>u=t49) H86 /\
 vC 110 #[b0,(.int .i64 72),(.int .i64 8)] (fun t42_8 H87=>vG (convert 52 9 t48) (fun u _=>u=t49) H87 /\
 vC 110 #[b0,(.int .i64 80),(.int .i64 4)] (fun t44_9 H88=>vG (convert 52 9 t48) (fun u _=>u=t49) H88 /\
 vG (build 84 #[(0,t17),(1,t20),(2,t22),(3,t24),(4,t26),(5,t28_1),(6,t30_2),(7,t32_3),(8,t34_4),(9,t36_5),(10,t38_6),(11,t40_7),(12,t42_8),(13,t44_9),(14,t49)]) (fun t50_9 _ =>
 vF (storeS 84 h5_9 t50_9) (fun _ H89 =>
 k h5_9 H89) H88) #[]) H87) H86) H85) H84) H83) H82) H81) H80) H79) H15))) H14)/\(
 vF (alloc 84 true undef) (fun h5_10 H90=>vG (convert 52 9 t48) (fun u _=>u=t49) H90 /\
 vC 110 #[b0,(.int .i64 32),(.int .i64 4)] (fun t26_1 H91=>vG (convert 52 9 t48) (fun u _=>u=t49) H91 /\
 vC 110 #[b0,(.int .i64 36),(.int .i64 4)] (fun t28_2 H92=>vG (convert 52 9 t48) (fun u _=>u=t49) H92 /\
 vC 110 #[b0,(.int .i64 40),(.int .i64 8)] (fun t30_3 H93=>vG (convert 52 9 t48) (fun u _=>u=t49) H93 /\
 vC 110 #[b0,(.int .i64 48),(.int .i64 4)] (fun t32_4 H94=>vG (convert 52 9 t48) (fun u _=>u=t49) H94 /\
 vC 110 #[b0,(.int .i64 52),(.int .i64 4)] (fun t34_5 H95=>vG (convert 52 9 t48) (fun u _=>u=t49) H95 /\
 vC 110 #[b0,(.int .i64 56),(.int .i64 8)] (fun t36_6 H96=>vG (convert 52 9 t48) (fun u _=>u=t49) H96 /\
 vC 110 #[b0,(.int .i64 64),(.int .i64 4)] (fun t38_7 H97=>vG (convert 52 9 t48) (fun u _=>u=t49) H97 /\
 vC 110 #[b0,(.int .i64 68),(.int .i64 4)] (fun t40_8 H98=>vG (convert 52 9 t48) (fun u _=>u=t49) H98 /\
 vC 110 #[b0,(.int .i64 72),(.int .i64 8)] (fun t42_9 H99=>vG (convert 52 9 t48) (fun u _=>u=t49) H99 /\
 vC 110 #[b0,(.int .i64 80),(.int .i64 4)] (fun t44_10 H100=>vG (convert 52 9 t48) (fun u _=>u=t49) H100 /\
 vG (build 84 #[(0,t17),(1,t20),(2,t22),(3,t24),(4,t26_1),(5,t28_2),(6,t30_3),(7,t32_4),(8,t34_5),(9,t36_6),(10,t38_7),(11,t40_8),(12,t42_9),(13,t44_10),(14,t49)]) (fun t50_10 _ =>
 vF (storeS 84 h5_10 t50_10) (fun _ H101 =>
 k h5_10 H101) H100) #[]) H99) H98) H97) H96) H95) H94) H93) H92) H91) H90) H14))) H13)/\(
 vF (alloc 84 true undef) (fun h5_11 H102=>vG (convert 52 9 t48) (fun u _=>u=t49) H102 /\
 vC 110 #[b0,(.int .i64 24),(.int .i64 8)] (fun t24_1 H103=>vG (convert 52 9 t48) (fun u _=>u=t49) H103 /\
 vC 110 #[b0,(.int .i64 32),(.int .i64 4)] (fun t26_2 H104=>vG (convert 52 9 t48) (fun u _=>u=t49) H104 /\
 vC 110 #[b0,(.int .i64 36),(.int .i64 4)] (fun t28_3 H105=>vG (convert 52 9 t48) (fun u _=>u=t49) H105 /\
 vC 110 #[b0,(.int .i64 40),(.int .i64 8)] (fun t30_4 H106=>vG (convert 52 9 t48) (fun u _=>u=t49) H106 /\
 vC 110 #[b0,(.int .i64 48),(.int .i64 4)] (fun t32_5 H107=>vG (convert 52 9 t48) (fun u _=>u=t49) H107 /\
 vC 110 #[b0,(.int .i64 52),(.int .i64 4)] (fun t34_6 H108=>vG (convert 52 9 t48) (fun u _=>u=t49) H108 /\
 vC 110 #[b0,(.int .i64 56),(.int .i64 8)] (fun t36_7 H109=>vG (convert 52 9 t48) (fun u _=>u=t49) H109 /\
 vC 110 #[b0,(.int .i64 64),(.int .i64 4)] (fun t38_8 H110=>vG (convert 52 9 t48) (fun u _=>u=t49) H110 /\
 vC 110 #[b0,(.int .i64 68),(.int .i64 4)] (fun t40_9 H111=>vG (convert 52 9 t48) (fun u _=>u=t49) H111 /\
 vC 110 #[b0,(.int .i64 72),(.int .i64 8)] (fun t42_10 H112=>vG (convert 52 9 t48) (fun u _=>u=t49) H112 /\
 vC 110 #[b0,(.int .i64 80),(.int .i64 4)] (fun t44_11 H113=>vG (convert 52 9 t48) (fun u _=>u=t49) H113 /\
 vG (build 84 #[(0,t17),(1,t20),(2,t22),(3,t24_1),(4,t26_2),(5,t28_3),(6,t30_4),(7,t32_5),(8,t34_6),(9,t36_7),(10,t38_8),(11,t40_9),(12,t42_10),(13,t44_11),(14,t49)]) (fun t50_11 _ =>
 vF (storeS 84 h5_11 t50_11) (fun _ H114 =>
 k h5_11 H114) H113) #[]) H112) H111) H110) H109) H108) H107) H106) H105) H104) H103) H102) H13))) H12)/\(
 vF (alloc 84 true undef) (fun h5_12 H115=>vG (convert 52 9 t48) (fun u _=>u=t49) H115 /\
 vC 110 #[b0,(.int .i64 16),(.int .i64 8)] (fun t22_1 H116=>vG (convert 52 9 t48) (fun u _=>u=t49) H116 /\
 vC 110 #[b0,(.int .i64 24),(.int .i64 8)] (fun t24_2 H117=>vG (convert 52 9 t48) (fun u _=>u=t49) H117 /\
 vC 110 #[b0,(.int .i64 32),(.int .i64 4)] (fun t26_3 H118=>vG (convert 52 9 t48) (fun u _=>u=t49) H118 /\
 vC 110 #[b0,(.int .i64 36),(.int .i64 4)] (fun t28_4 H119=>vG (convert 52 9 t48) (fun u _=>u=t49) H119 /\
 vC 110 #[b0,(.int .i64 40),(.int .i64 8)] (fun t30_5 H120=>vG (convert 52 9 t48) (fun u _=>u=t49) H120 /\
 vC 110 #[b0,(.int .i64 48),(.int .i64 4)] (fun t32_6 H121=>vG (convert 52 9 t48) (fun u _=>u=t49) H121 /\
 vC 110 #[b0,(.int .i64 52),(.int .i64 4)] (fun t34_7 H122=>vG (convert 52 9 t48) (fun u _=>u=t49) H122 /\
 vC 110 #[b0,(.int .i64 56),(.int .i64 8)] (fun t36_8 H123=>vG (convert 52 9 t48) (fun u _=>u=t49) H123 /\
 vC 110 #[b0,(.int .i64 64),(.int .i64 4)] (fun t38_9 H124=>vG (convert 52 9 t48) (fun u _=>u=t49) H124 /\
 vC 110 #[b0,(.int .i64 68),(.int .i64 4)] (fun t40_10 H125=>vG (convert 52 9 t48) (fun u _=>u=t49) H125 /\
 vC 110 #[b0,(.int .i64 72),(.int .i64 8)] (fun t42_11 H126=>vG (convert 52 9 t48) (fun u _=>u=t49) H126 /\
 vC 110 #[b0,(.int .i64 80),(.int .i64 4)] (fun t44_12 H127=>vG (convert 52 9 t48) (fun u _=>u=t49) H127 /\
 vG (build 84 #[(0,t17),(1,t20),(2,t22_1),(3,t24_2),(4,t26_3),(5,t28_4),(6,t30_5),(7,t32_6),(8,t34_7),(9,t36_8),(10,t38_9),(11,t40_10),(12,t42_11),(13,t44_12),(14,t49)]) (fun t50_12 _ =>
 vF (storeS 84 h5_12 t50_12) (fun _ H128 =>
 k h5_12 H128) H127) #[]) H126) H125) H124) H123) H122) H121) H120) H119) H118) H117) H116) H115) H12))) H11)/\(
 vF (alloc 84 true undef) (fun h5_13 H129=>vG (convert 52 9 t48) (fun u _=>u=t49) H129 /\
 vC 55 #[t19] (fun t20_1 H130=>vG (convert 52 9 t48) (fun u _=>u=t49) H130 /\
 vC 110 #[b0,(.int .i64 16),(.int .i64 8)] (fun t22_2 H131=>vG (convert 52 9 t48) (fun u _=>u=t49) H131 /\
 vC 110 #[b0,(.int .i64 24),(.int .i64 8)] (fun t24_3 H132=>vG (convert 52 9 t48) (fun u _=>u=t49) H132 /\
 vC 110 #[b0,(.int .i64 32),(.int .i64 4)] (fun t26_4 H133=>vG (convert 52 9 t48) (fun u _=>u=t49) H133 /\
 vC 110 #[b0,(.int .i64 36),(.int .i64 4)] (fun t28_5 H134=>vG (convert 52 9 t48) (fun u _=>u=t49) H134 /\
 vC 110 #[b0,(.int .i64 40),(.int .i64 8)] (fun t30_6 H135=>vG (convert 52 9 t48) (fun u _=>u=t49) H135 /\
 vC 110 #[b0,(.int .i64 48),(.int .i64 4)] (fun t32_7 H136=>vG (convert 52 9 t48) (fun u _=>u=t49) H136 /\
 vC 110 #[b0,(.int .i64 52),(.int .i64 4)] (fun t34_8 H137=>vG (convert 52 9 t48) (fun u _=>u=t49) H137 /\
 vC 110 #[b0,(.int .i64 56),(.int .i64 8)] (fun t36_9 H138=>vG (convert 52 9 t48) (fun u _=>u=t49) H138 /\
 vC 110 #[b0,(.int .i64 64),(.int .i64 4)] (fun t38_10 H139=>vG (convert 52 9 t48) (fun u _=>u=t49) H139 /\
 vC 110 #[b0,(.int .i64 68),(.int .i64 4)] (fun t40_11 H140=>vG (convert 52 9 t48) (fun u _=>u=t49) H140 /\
 vC 110 #[b0,(.int .i64 72),(.int .i64 8)] (fun t42_12 H141=>vG (convert 52 9 t48) (fun u _=>u=t49) H141 /\
 vC 110 #[b0,(.int .i64 80),(.int .i64 4)] (fun t44_13 H142=>vG (convert 52 9 t48) (fun u _=>u=t49) H142 /\
 vG (build 84 #[(0,t17),(1,t20_1),(2,t22_2),(3,t24_3),(4,t26_4),(5,t28_5),(6,t30_6),(7,t32_7),(8,t34_8),(9,t36_9),(10,t38_10),(11,t40_11),(12,t42_12),(13,t44_13),(14,t49)]) (fun t50_13 _ =>
 vF (storeS 84 h5_13 t50_13) (fun _ H143 =>
 k h5_13 H143) H142) #[]) H141) H140) H139) H138) H137) H136) H135) H134) H133) H132) H131) H130) H129) H11))) H10)/\(
 vF (alloc 84 true undef) (fun h5_14 H144=>vG (convert 52 9 t48) (fun u _=>u=t49) H144 /\
 vC 110 #[b0,(.int .i64 4),(.int .i64 4)] (fun t17_1 H145=>vG (convert 52 9 t48) (fun u _=>u=t49) H145 /\
 vC 55 #[t19] (fun t20_2 H146=>vG (convert 52 9 t48) (fun u _=>u=t49) H146 /\
 vC 110 #[b0,(.int .i64 16),(.int .i64 8)] (fun t22_3 H147=>vG (convert 52 9 t48) (fun u _=>u=t49) H147 /\
 vC 110 #[b0,(.int .i64 24),(.int .i64 8)] (fun t24_4 H148=>vG (convert 52 9 t48) (fun u _=>u=t49) H148 /\
 vC 110 #[b0,(.int .i64 32),(.int .i64 4)] (fun t26_5 H149=>vG (convert 52 9 t48) (fun u _=>u=t49) H149 /\
 vC 110 #[b0,(.int .i64 36),(.int .i64 4)] (fun t28_6 H150=>vG (convert 52 9 t48) (fun u _=>u=t49) H150 /\
 vC 110 #[b0,(.int .i64 40),(.int .i64 8)] (fun t30_7 H151=>vG (convert 52 9 t48) (fun u _=>u=t49) H151 /\
 vC 110 #[b0,(.int .i64 48),(.int .i64 4)] (fun t32_8 H152=>vG (convert 52 9 t48) (fun u _=>u=t49) H152 /\
 vC 110 #[b0,(.int .i64 52),(.int .i64 4)] (fun t34_9 H153=>vG (convert 52 9 t48) (fun u _=>u=t49) H153 /\
 vC 110 #[b0,(.int .i64 56),(.int .i64 8)] (fun t36_10 H154=>vG (convert 52 9 t48) (fun u _=>u=t49) H154 /\
 vC 110 #[b0,(.int .i64 64),(.int .i64 4)] (fun t38_11 H155=>vG (convert 52 9 t48) (fun u _=>u=t49) H155 /\
 vC 110 #[b0,(.int .i64 68),(.int .i64 4)] (fun t40_12 H156=>vG (convert 52 9 t48) (fun u _=>u=t49) H156 /\
 vC 110 #[b0,(.int .i64 72),(.int .i64 8)] (fun t42_13 H157=>vG (convert 52 9 t48) (fun u _=>u=t49) H157 /\
 vC 110 #[b0,(.int .i64 80),(.int .i64 4)] (fun t44_14 H158=>vG (convert 52 9 t48) (fun u _=>u=t49) H158 /\
 vG (build 84 #[(0,t17_1),(1,t20_2),(2,t22_3),(3,t24_4),(4,t26_5),(5,t28_6),(6,t30_7),(7,t32_8),(8,t34_9),(9,t36_10),(10,t38_11),(11,t40_12),(12,t42_13),(13,t44_14),(14,t49)]) (fun t50_14 _ =>
 vF (storeS 84 h5_14 t50_14) (fun _ H159 =>
 k h5_14 H159) H158) #[]) H157) H156) H155) H154) H153) H152) H151) H150) H149) H148) H147) H146) H145) H144) H10))) H10) #[]) #[]) #[])
 (fun h5_15 H160 =>
 vF (loadAt 84 h5_15) (fun t51 H161 =>
 vC 73 #[t51] (fun t52 H162 =>
 vG (Op.unary .not t52) (fun t54 _ =>
 vJ t54 false (vG (loadAt 84 h5_15)) (fun t56 _ =>
 vJ t54 false (vV b0) (fun t59 _ =>
 vJ t54 false (vG (sliceAt 52 t59 none (some (.int .i64 512)) none)) (fun t60 _ =>
 vJ t54 false (vG (convert 52 9 t60)) (fun t61 _ =>
 vJ t54 false (vC 75 #[t56]) (fun t57 H168=>vJ t54 false (vG (convert 52 9 t60)) (fun u _=>u=t61) H168 /\
 vJ t54 false (vG (convert 52 9 t57)) (fun t58 _ =>
 vJ t54 false (vG (vt .neq 9 58 61 t58 t61)) (fun t62 _ =>
 vG (pickS t54 (.bool true) t62) (fun t63 _ =>
 vD t63 (
 vF (build 84 #[]) (fun t64 H171 =>
 vF (storeS 84 t2 t64) (fun _ H172 =>
 vG (loadCell 84 t2) (fun r_2 _ =>
 R (.tuple #[r_2,(.bool false)]) H172) H172) H171) H168) (
 vF (loadAt 84 h5_15) (fun t65 H173 =>
 vF (storeS 84 t2 t65) (fun _ H174 =>
 vG (loadCell 84 t2) (fun r_3 _ =>
 R (.tuple #[r_3,(.bool true)]) H174) H174) H173) H168)) #[]) #[]) H168) H162) H162) #[]) #[]) H162) #[]) H161) H160) H7 ⟨⟩ ⟨⟩)) H6) H3)) H2) H1) h

theorem n54_calls{b0:Value}{R:VP}{h:Heap}(H:n54 b0 R h):CallsH Tryz.prog 54 #[b0] h R ⟨⟩ :=
 callsH_of_eq Tryz.follow (.n none .l (.n none .l (.n none .l (.n none .l (.n (some [6]) .l .l))))) Tryz.func54 kR kR kR H

def n55(b0:Value)(R:VP)(h:Heap):Prop :=
 vF (len_ #[52] 3 #[b0]) (fun t6 H1 =>
 vF (vk .sub 3 6 .i64 1 t6) (fun t7 H2 =>
 LoopC 2 (fun (X:Value->VP)=>fun x3 i4 H3 =>
 vF (vk .geq 3 8 .i64 0 i4) (fun t9 H4 =>
 vD t9 (
 vF (binS .mul 44 (.const (.int .u64 256)) (.tmp 12) (.int .u64 256) x3) (fun t13 H5 =>
 vF (indexAt 52 b0 i4) (fun t16 H6 =>
 vF (loadAt 5 t16) (fun t17 H7 =>
 vF (convert 5 44 t17) (fun t18 H8 =>
 vF (vt .add 44 13 18 t13 t18) (fun t19 H9 =>
 vF (vk .sub 3 10 .i64 1 i4) (fun t11 H10 =>
 X t19 t11 H10) H9) H8) H7) H6) H5) H4) (
 R x3 H4)) H3) [(.int .u64 0),t7] H2 ⟨⟩) H1) h

theorem n55_calls{b0:Value}{R:VP}{h:Heap}(H:n55 b0 R h):CallsH Tryz.prog 55 #[b0] h R ⟨⟩ :=
 callsH_of_eq Tryz.follow (.n none .l (.n none .l (.n none (.n none .l (.n none (.n (some [4,5]) .l .l) .l)) .l))) Tryz.func55 kR kR kR H

def n56(b0 order1 i2:Value)(R:VP)(h:Heap):Prop :=
 vC 37 #[order1] (fun t12 H1 =>
 vF (vk .sub 3 13 .i64 1 t12) (fun t14 H2 =>
 LoopC 2 (fun (X:Value->VP)=>fun x8 k9 H3 =>
 vF (vk .geq 3 15 .i64 0 k9) (fun t16 H4 =>
 vD t16 (
 vF (vt .mul 3 19 20 i2 t12) (fun t21 H5 =>
 vF (vt .add 3 21 22 t21 k9) (fun t23 H6 =>
 vF (binS .mul 44 (.const (.int .u64 2)) (.tmp 24) (.int .u64 2) x8) (fun t25 H7 =>
 vF (vk .quo 3 27 .i64 8 t23) (fun t28 H8 =>
 vF (indexAt 52 b0 t28) (fun t29 H9 =>
 vF (loadAt 5 t29) (fun t30 H10 =>
 vF (vk .rem 3 31 .i64 8 t23) (fun t32 H11 =>
 vF (vt .shr 5 30 32 t30 t32) (fun t33 H12 =>
 vF (vk .rem 5 33 .u8 2 t33) (fun t34 H13 =>
 vF (convert 5 44 t34) (fun t35 H14 =>
 vF (vt .add 44 25 35 t25 t35) (fun t36 H15 =>
 vF (vk .sub 3 17 .i64 1 k9) (fun t18 H16 =>
 X t36 t18 H16) H15) H14) H13) H12) H11) H10) H9) H8) H7) H6) H5) H4) (
 R x8 H4)) H3) [(.int .u64 0),t14] H2 ⟨⟩) H1) h

theorem n56_calls{b0 order1 i2:Value}{R:VP}{h:Heap}(H:n56 b0 order1 i2 R h):CallsH Tryz.prog 56 #[b0,order1,i2] h R ⟨⟩ :=
 callsH_of_eq Tryz.follow (.n none .l (.n none .l (.n none .l (.n none (.n none .l (.n none (.n (some [9,10]) .l .l) .l)) .l)))) Tryz.func56 kR kR kR H

def n57(s0 name1 size2:Value)(R:VP)(h:Heap):Prop :=
 vC 38 #[s0,name1] (fun t17 H1 =>
 vF (extract t17 0) (fun t18 H2 =>
 vF (extract t17 1) (fun t19 H3 =>
 vF (vk .neq 31 21 .i64 0 t19) (fun t22 H4 =>
 vD t22 (
 R t19 H4) (
 vF (vk .lss 2 25 .i64 0 size2) (fun t26 H5 =>
 vD t26 (
 R (.int .i64 4) H5) (
 vF (vk .gtr 2 28 .i64 268435456 size2) (fun t29 H6 =>
 vD t29 (
 R (.int .i64 6) H6) (
 vC 81 #[s0] (fun t32 H7 =>
 vF (extract t32 0) (fun t33 H8 =>
 vF (extract t32 1) (fun t34 H9 =>
 vF (vk .neq 31 35 .i64 0 t33) (fun t36 H10 =>
 vD t36 (
 R t33 H10) (
 vC 82 #[t18,size2] (fun t40 H11 =>
 vG (nilS t18) (fun t44 _ =>
 vG (fieldAt 97 t44 2) (fun t45 _ =>
 vG (loadAt 52 t45) (fun t46 _ =>
 vG (sliceAt 52 t46 none (some size2) (some size2)) (fun t49 _ =>
 vG (nilS t18) (fun t51 _ =>
 vG (fieldAt 97 t51 0) (fun t52 _ =>
 vG (loadAt 52 t52) (fun t53 _ =>
 vG (sliceAt 52 t53 none (some size2) (some size2)) (fun t56 _ =>
 vG (nilS t18) (fun t57 _ =>
 vG (fieldAt 97 t57 2) (fun t58 _ =>
 vF (storeS 52 t58 t49) (fun _ H12 =>
 vG (nilS t18) (fun t59 _ =>
 vG (fieldAt 97 t59 0) (fun t60 _ =>
 vF (storeS 52 t60 t56) (fun _ H13 =>
 vF (nilS t18) (fun t62 H14 =>
 vF (fieldAt 97 t62 1) (fun t63 H15 =>
 vF (loadAt 95 t63) (fun t64 H16 =>
 vF (len_ #[95] 3 #[t64]) (fun t65 H17 =>
 LoopC 2 (fun (X:Value->VP)=>fun stay11 t66 H18 =>
 vF (vt .lss 3 66 65 t66 t65) (fun t67 H19 =>
 vD t67 (
 JoinN 1 (fun (k:VP) H20 =>
 JoinN 1 (fun (k_1:VP) H21 =>
 vF (indexAt 95 t64 t66) (fun t68 H22 =>
 vF (loadAt 146 t68) (fun t69 H23 =>
 vF (alloc 146 true undef) (fun p13 H24 =>
 vF (storeS 146 p13 t69) (fun _ H25 =>
 vF (fieldAt 146 p13 0) (fun t70 H26 =>
 vF (loadAt 2 t70) (fun t71 H27 =>
 vF (vt .lss 2 71 72 t71 size2) (fun t73 H28 =>
 vD t73 (
 vF (fieldAt 146 p13 1) (fun t74 H29 =>
 vF (loadAt 52 t74) (fun t75 H30 =>
 vF (fieldAt 146 p13 1) (fun t76 H31 =>
 vF (loadAt 52 t76) (fun t77 H32 =>
 vF (len_ #[52] 3 #[t77]) (fun t78 H33 =>
 vF (fieldAt 146 p13 0) (fun t80 H34 =>
 vF (loadAt 2 t80) (fun t81 H35 =>
 vF (vt .sub 2 79 81 size2 t81) (fun t82 H36 =>
 vF (min_ #[2,2] 2 #[t78,t82]) (fun t83 H37 =>
 vF (sliceAt 52 t75 none (some t83) none) (fun t84 H38 =>
 vF (fieldAt 146 p13 1) (fun t85 H39 =>
 vF (storeS 52 t85 t84) (fun _ H40 =>
 vF (loadAt 146 p13) (fun t87 H41 =>
 vF (buildSlice 95 1 #[(0,t87)]) (fun t88 H42 =>
 vF (append_ #[95,95] 95 #[stay11,t88]) (fun t89 H43 =>
 k_1 t89 H43) H42) H41) H40) H39) H38) H37) H36) H35) H34) H33) H32) H31) H30) H29) H28) (
 k_1 stay11 H28)) H27) H26) H25) H24) H23) H22) H21)
 (fun stay11_1 H44 =>
 k stay11_1 H44) H20 ⟨⟩ ⟨⟩)
 (fun stay11_2 H45 =>
 vF (vk .add 3 66 .i64 1 t66) (fun t90 H46 =>
 X stay11_2 t90 H46) H45) H19 ⟨⟩ ⟨⟩) (
 vF (nilS t18) (fun t93 H47 =>
 vF (fieldAt 97 t93 1) (fun t94 H48 =>
 vF (storeS 95 t94 stay11) (fun _ H49 =>
 R (.int .i64 0) H49) H48) H47) H19)) H18) [(.slice none 0 0),(.int .i64 0)] H17 ⟨⟩) H16) H15) H14) H13) H12) #[]) #[]) H11) #[]) #[]) #[]) H11) #[]) #[]) #[]) H11) #[]) #[]) H10)) H9) H8) H7) H6)) H5)) H4)) H3) H2) H1) h

theorem n57_calls{s0 name1 size2:Value}{R:VP}{h:Heap}(H:n57 s0 name1 size2 R h):CallsH Tryz.prog 57 #[s0,name1,size2] h R ⟨⟩ :=
 callsH_of_eq Tryz.follow (.n none .l (.n none .l (.n none .l (.n none .l (.n none .l (.n none .l (.n none .l (.n none (.n none .l (.n none (.n (some [12,67]) (.n none .l (.n none .l (.n (some [12]) (.n (some [12]) .l .l) .l))) .l) .l)) .l)))))))) Tryz.func57 kR kR kR H

def n58(s0:Value)(R:VP)(h:Heap):Prop :=
 vC 66 #[s0] (fun t4 H1 =>
 vD t4 (
 R (.slice none 0 0) H1) (
 vF (nilS s0) (fun t6 H2 =>
 vF (fieldAt 144 t6 0) (fun t7 H3 =>
 vF (loadAt 142 t7) (fun t8 H4 =>
 vC 112 #[t8] (fun t9 H5 =>
 vC 111 #[t9] (fun t10 H6 =>
 R t10 H6) H5) H4) H3) H2) H1)) h

theorem n58_calls{s0:Value}{R:VP}{h:Heap}(H:n58 s0 R h):CallsH Tryz.prog 58 #[s0] h R ⟨⟩ :=
 callsH_of_eq Tryz.follow .l Tryz.func58 kR kR kR H

def n60(b0:Value)(R:VP)(h:Heap):Prop :=
 vC 54 #[b0] (fun t9 H1 =>
 vF (extract t9 0) (fun t10 H2 =>
 vF (extract t9 1) (fun t11 H3 =>
 vF (alloc 84 true undef) (fun h4 H4 =>
 vF (storeS 84 h4 t10) (fun _ H5 =>
 vF (Op.unary .not t11) (fun t13 H6 =>
 vD t13 (
 R (.tuple #[(.pointer none),(.int .i64 180)]) H6) (
 vF (loadAt 84 h4) (fun t15 H7 =>
 vF (build 183 #[(0,(.int .i64 0)),(1,(.int .i64 1))]) (fun t16 H8 =>
 vF (buildSlice 128 1 #[(0,t16)]) (fun t17 H9 =>
 vF (build 130 #[(0,b0),(1,t15),(2,t17)]) (fun t18 H10 =>
 vF (box 130 t18) (fun t19 H11 =>
 vC 114 #[t19] (fun t21 H12 =>
 vF (nilS t19) (fun t23 H13 =>
 vF (fieldAt 130 t23 5) (fun t24 H14 =>
 vF (storeS 4 t24 (.bool true)) (fun _ H15 =>
 vF (fieldAt 84 h4 3) (fun t26 H16 =>
 vF (loadAt 2 t26) (fun t27 H17 =>
 vF (fieldAt 84 h4 4) (fun t28 H18 =>
 vF (loadAt 3 t28) (fun t29 H19 =>
 vC 115 #[t19,t27,t29,(.int .i64 24)] (fun t30 H20 =>
 vF (nilS t19) (fun t32 H21 =>
 vF (fieldAt 130 t32 5) (fun t33 H22 =>
 vF (storeS 4 t33 (.bool false)) (fun _ H23 =>
 vC 116 #[t19] (fun t35 H24 =>
 R (.tuple #[t19,(.int .i64 0)]) H24) H23) H22) H21) H20) H19) H18) H17) H16) H15) H14) H13) H12) H11) H10) H9) H8) H7) H6)) H5) H4) H3) H2) H1) h

theorem n60_calls{b0:Value}{R:VP}{h:Heap}(H:n60 b0 R h):CallsH Tryz.prog 60 #[b0] h R ⟨⟩ :=
 callsH_of_eq Tryz.follow .l Tryz.func60 kR kR kR H

def n61(w0:Value)(R:VP)(h:Heap):Prop :=
 vG (nilS w0) (fun t4 _ =>
 vG (fieldAt 130 t4 0) (fun t5 _ =>
 vG (loadAt 52 t5) (fun t6 _ =>
 vG (len_ #[52] 3 #[t6]) (fun t7 _ =>
 vC 117 #[w0] (fun t9 H1=>vG (loadAt 52 t5) (fun u _=>u=t6) H1 /\
 vG (vt .quo 2 7 9 t7 t9) (fun t10 _ =>
 R t10 H1) #[]) h) #[]) h) #[]) #[]

theorem n61_calls{w0:Value}{R:VP}{h:Heap}(H:n61 w0 R h):CallsH Tryz.prog 61 #[w0] h R ⟨⟩ :=
 callsH_of_eq Tryz.follow .l Tryz.func61 kR kR kR H

def n62(w0:Value)(R:VP)(h:Heap):Prop :=
 LoopC 2 (fun (X:Value->VP)=>fun n3 i4 H1 =>
 vF (nilS w0) (fun t9 H2 =>
 vF (fieldAt 130 t9 2) (fun t10 H3 =>
 vF (loadAt 128 t10) (fun t11 H4 =>
 vF (len_ #[128] 3 #[t11]) (fun t12 H5 =>
 vF (vt .lss 3 7 12 i4 t12) (fun t13 H6 =>
 vD t13 (
 vF (nilS w0) (fun t18 H7 =>
 vF (fieldAt 130 t18 2) (fun t19 H8 =>
 vF (loadAt 128 t19) (fun t20 H9 =>
 vF (indexAt 128 t20 i4) (fun t22 H10 =>
 vF (fieldAt 183 t22 0) (fun t23 H11 =>
 vF (loadAt 2 t23) (fun t24 H12 =>
 vF (vk .add 2 24 .i64 1 t24) (fun t25 H13 =>
 vF (max_ #[2,2] 2 #[n3,t25]) (fun t26 H14 =>
 vF (vk .add 3 14 .i64 1 i4) (fun t15 H15 =>
 X t26 t15 H15) H14) H13) H12) H11) H10) H9) H8) H7) H6) (
 vG (nilS w0) (fun t31 _ =>
 vG (fieldAt 130 t31 1) (fun t32 _ =>
 vG (fieldAt 84 t32 5) (fun t33 _ =>
 vG (loadAt 3 t33) (fun t34 _ =>
 vC 117 #[w0] (fun t28 H16=>vG (loadAt 3 t33) (fun u _=>u=t34) H16 /\
 vG (binS .mul 2 (.const (.int .i64 8)) (.tmp 28) (.int .i64 8) t28) (fun t29 _ =>
 vC 37 #[t34] (fun t35 H17 =>
 vG (vt .quo 2 29 35 t29 t35) (fun t36 _ =>
 LoopC 2 (fun (X_1:Value->VP)=>fun n3_1 i6 H18 =>
 vF (nilS w0) (fun t39 H19 =>
 vF (fieldAt 130 t39 6) (fun t40 H20 =>
 vF (loadAt 47 t40) (fun t41 H21 =>
 vF (len_ #[47] 3 #[t41]) (fun t42 H22 =>
 vF (vt .lss 3 37 42 i6 t42) (fun t43 H23 =>
 vD t43 (
 JoinN 1 (fun (k:VP) H24 =>
 JoinN 1 (fun (k_1:VP) H25 =>
 vF (nilS w0) (fun t47 H26 =>
 vF (fieldAt 130 t47 6) (fun t48 H27 =>
 vF (loadAt 47 t48) (fun t49 H28 =>
 vF (indexAt 47 t49 i6) (fun t51 H29 =>
 vF (loadAt 2 t51) (fun t52 H30 =>
 vF (vk .neq 2 52 .i64 0 t52) (fun t53 H31 =>
 vD t53 (
 vF (vk .add 3 55 .i64 1 i6) (fun t56 H32 =>
 vF (vt .mul 2 56 57 t56 t36) (fun t58 H33 =>
 vF (max_ #[2,2] 2 #[n3_1,t58]) (fun t59 H34 =>
 k_1 t59 H34) H33) H32) H31) (
 k_1 n3_1 H31)) H30) H29) H28) H27) H26) H25)
 (fun n3_2 H35 =>
 k n3_2 H35) H24 ⟨⟩ ⟨⟩)
 (fun n3_3 H36 =>
 vF (vk .add 3 44 .i64 1 i6) (fun t45 H37 =>
 X_1 n3_3 t45 H37) H36) H23 ⟨⟩ ⟨⟩) (
 R n3_1 H23)) H22) H21) H20) H19) H18) [n3,(.int .i64 0)] H17 ⟨⟩) #[]) H16) #[]) H6) H6) #[]) #[]) #[])) H5) H4) H3) H2) H1) [(.int .i64 0),(.int .i64 0)] h ⟨⟩

theorem n62_calls{w0:Value}{R:VP}{h:Heap}(H:n62 w0 R h):CallsH Tryz.prog 62 #[w0] h R ⟨⟩ :=
 callsH_of_eq Tryz.follow (.n none .l (.n none .l (.n none (.n none .l (.n none (.n (some [4,5]) .l .l) .l)) (.n none .l (.n none (.n none .l (.n none (.n (some [4,7]) (.n none .l (.n (some [4]) (.n (some [4]) .l .l) .l)) .l) .l)) .l))))) Tryz.func62 kR kR kR H

def n63(w0 k1:Value)(R:VP)(h:Heap):Prop :=
 LoopC 4 (fun (X:Value->Value->Value->VP)=>fun n6 how7 ok8 i9 H1 =>
 vF (nilS w0) (fun t12 H2 =>
 vF (fieldAt 130 t12 2) (fun t13 H3 =>
 vF (loadAt 128 t13) (fun t14 H4 =>
 vF (len_ #[128] 3 #[t14]) (fun t15 H5 =>
 vF (vt .lss 3 10 15 i9 t15) (fun t16 H6 =>
 vD t16 (
 JoinN 3 (fun (k:Value->Value->VP) H7 =>
 JoinN 3 (fun (k_1:Value->Value->VP) H8 =>
 vF (nilS w0) (fun t20 H9 =>
 vF (fieldAt 130 t20 2) (fun t21 H10 =>
 vF (loadAt 128 t21) (fun t22 H11 =>
 vF (indexAt 128 t22 i9) (fun t24 H12 =>
 vF (fieldAt 183 t24 0) (fun t25 H13 =>
 vF (loadAt 2 t25) (fun t26 H14 =>
 vF (vt .neq 2 26 27 t26 k1) (fun t28 H15 =>
 vD t28 (
 k_1 n6 how7 ok8 H15) (
 vJ ok8 true (vV n6) (fun t31 H17 =>
 vJ ok8 true (vF (vk .eql 44 31 .u64 0 t31)) (fun t32 H19 =>
 vJ ok8 true (vV t32) (fun t33 H21 =>
 vJ t33 false (vV w0) (fun t34 H23 =>
 vJ t33 false (vF (nilS t34)) (fun t35 H25 =>
 vJ t33 false (vF (fieldAt 130 t35 2)) (fun t36 H27 =>
 vJ t33 false (vF (loadAt 128 t36)) (fun t37 H29 =>
 vJ t33 false (vV i9) (fun t38 H31 =>
 vJ t33 false (vF (indexAt 128 t37 t38)) (fun t39 H33 =>
 vJ t33 false (vF (fieldAt 183 t39 1)) (fun t40 H35 =>
 vJ t33 false (vF (loadAt 3 t40)) (fun t41 H37 =>
 vJ t33 false (vV how7) (fun t42 H39 =>
 vJ t33 false (vF (vt .eql 3 41 42 t41 t42)) (fun t43 H41 =>
 vJ t33 false (vV t43) (fun t44 H43 =>
 vJ t44 true (vV how7) (fun t45 H45 =>
 vJ t44 true (vF (vk .neq 3 45 .i64 1 t45)) (fun t46 H47 =>
 vJ t33 false (vF (pickS t44 t46 (.bool false))) (fun t47 H49 =>
 vJ ok8 true (vF (pickS t33 (.bool true) t47)) (fun t48 H51 =>
 vF (pickS ok8 t48 (.bool false)) (fun t49 H52 =>
 vF (nilS w0) (fun t51 H53 =>
 vF (fieldAt 130 t51 2) (fun t52 H54 =>
 vF (loadAt 128 t52) (fun t53 H55 =>
 vF (indexAt 128 t53 i9) (fun t55 H56 =>
 vF (fieldAt 183 t55 1) (fun t56 H57 =>
 vF (loadAt 3 t56) (fun t57 H58 =>
 vF (vk .add 44 58 .u64 1 n6) (fun t59 H59 =>
 k_1 t59 t57 t49 H59) H58) H57) H56) H55) H54) H53) H52) H51) H49) H47) H45) H43) H41) H39) H37) H35) H33) H31) H29) H27) H25) H23) H21) H19) H17) H15)) H14) H13) H12) H11) H10) H9) H8)
 (fun n6_1 how7_1 ok8_1 H60 =>
 k n6_1 how7_1 ok8_1 H60) H7 ⟨⟩ ⟨⟩)
 (fun n6_2 how7_2 ok8_2 H61 =>
 vF (vk .add 3 17 .i64 1 i9) (fun t18 H62 =>
 X n6_2 how7_2 ok8_2 t18 H62) H61) H6 ⟨⟩ ⟨⟩) (
 R (.tuple #[n6,ok8]) H6)) H5) H4) H3) H2) H1) [(.int .u64 0),(.int .i64 0),(.bool true),(.int .i64 0)] h ⟨⟩

theorem n63_calls{w0 k1:Value}{R:VP}{h:Heap}(H:n63 w0 k1 R h):CallsH Tryz.prog 63 #[w0,k1] h R ⟨⟩ :=
 callsH_of_eq Tryz.follow (.n none .l (.n none .l (.n none (.n none .l (.n none (.n (some [7,8,9,10]) (.n none .l (.n (some [7,8,9]) (.n (some [7,8,9]) .l .l) .l)) .l) .l)) .l))) Tryz.func63 kR kR kR H

def n64(w0 k1:Value)(R:VP)(h:Heap):Prop :=
 vG (nilS w0) (fun t11 _ =>
 vG (fieldAt 130 t11 1) (fun t12 _ =>
 vG (fieldAt 84 t12 5) (fun t13 _ =>
 vG (loadAt 3 t13) (fun t14 _ =>
 vC 117 #[w0] (fun t8 H1=>vG (loadAt 3 t13) (fun u _=>u=t14) H1 /\
 vG (binS .mul 2 (.const (.int .i64 8)) (.tmp 8) (.int .i64 8) t8) (fun t9 _ =>
 vC 37 #[t14] (fun t15 H2 =>
 vG (vt .quo 2 9 15 t9 t15) (fun t16 _ =>
 vG (vt .quo 2 17 18 k1 t16) (fun t19 _ =>
 vG (nilS w0) (fun t21 _ =>
 vG (fieldAt 130 t21 6) (fun t22 _ =>
 vG (loadAt 47 t22) (fun t23 _ =>
 vG (len_ #[47] 3 #[t23]) (fun t24 _ =>
 vG (vt .geq 2 19 24 t19 t24) (fun t25 _ =>
 vJ t25 false (vV w0) (fun t27 _ =>
 vJ t25 false (vG (nilS t27)) (fun t28 _ =>
 vJ t25 false (vG (fieldAt 130 t28 6)) (fun t29 _ =>
 vJ t25 false (vG (loadAt 47 t29)) (fun t30 _ =>
 vJ t25 false (vV k1) (fun t31 _ =>
 vJ t25 false (vV t16) (fun t32 _ =>
 vJ t25 false (vG (vt .quo 2 31 32 t31 t32)) (fun t33 _ =>
 vJ t25 false (vG (indexAt 47 t30 t33)) (fun t34 _ =>
 vJ t25 false (vG (loadAt 2 t34)) (fun t35 _ =>
 vJ t25 false (vG (vk .eql 2 35 .i64 0 t35)) (fun t36 _ =>
 vG (pickS t25 (.bool true) t36) (fun t37 _ =>
 vD t37 (
 R (.int .u64 0) H2) (
 vG (nilS w0) (fun t39 _ =>
 vG (fieldAt 130 t39 6) (fun t40 _ =>
 vG (loadAt 47 t40) (fun t41 _ =>
 vG (vt .quo 2 42 43 k1 t16) (fun t44 _ =>
 vG (indexAt 47 t41 t44) (fun t45 _ =>
 vG (loadAt 2 t45) (fun t46 _ =>
 vG (nilS w0) (fun t48 _ =>
 vG (fieldAt 130 t48 0) (fun t49 _ =>
 vG (loadAt 52 t49) (fun t50 _ =>
 vG (nilS w0) (fun t58 _ =>
 vG (fieldAt 130 t58 1) (fun t59 _ =>
 vG (fieldAt 84 t59 5) (fun t60 _ =>
 vG (loadAt 3 t60) (fun t61 _ =>
 vG (vt .rem 2 62 63 k1 t16) (fun t64 _ =>
 vC 117 #[w0] (fun t54 H13=>vG (loadAt 3 t60) (fun u _=>u=t61) H13/\vG (loadAt 52 t49) (fun u _=>u=t50) H13 /\
 vG (vt .add 2 52 54 t46 t54) (fun t55 _ =>
 vG (sliceAt 52 t50 (some t46) (some t55) none) (fun t56 _ =>
 vC 56 #[t56,t61,t64] (fun t65 H14 =>
 R t65 H14) H13) #[]) #[]) H2) #[]) H2) #[]) #[]) #[]) H2) #[]) #[]) H2) #[]) #[]) H2) #[]) #[])) #[]) #[]) H2) #[]) #[]) #[]) #[]) H2) #[]) #[]) #[]) #[]) #[]) H2) #[]) #[]) #[]) #[]) H1) #[]) h) h) #[]) #[]) #[]

theorem n64_calls{w0 k1:Value}{R:VP}{h:Heap}(H:n64 w0 k1 R h):CallsH Tryz.prog 64 #[w0,k1] h R ⟨⟩ :=
 callsH_of_eq Tryz.follow .l Tryz.func64 kR kR kR H

def n65(l0 x1:Value)(R:VP)(h:Heap):Prop :=
 vF (box 134 x1) (fun x3 H1 =>
 vF (len_ #[61] 3 #[l0]) (fun t8 H2 =>
 LoopC 1 (fun (X:VP)=>fun at5 H3 =>
 vG (vk .gtr 3 9 .i64 0 at5) (fun t10 _ =>
 vJ t10 true (vV l0) (fun t12 _ =>
 vJ t10 true (vV at5) (fun t13 _ =>
 vJ t10 true (vG (vk .sub 3 13 .i64 1 t13)) (fun t14 _ =>
 vJ t10 true (vG (indexAt 61 t12 t14)) (fun t15 _ =>
 vJ t10 true (vG (fieldAt 134 t15 1)) (fun t16 _ =>
 vJ t10 true (vG (loadAt 2 t16)) (fun t17 _ =>
 vJ t10 true (vG (fieldAt 134 x3 1)) (fun t18 _ =>
 vJ t10 true (vG (loadAt 2 t18)) (fun t19 _ =>
 vJ t10 true (vG (vt .gtr 2 17 19 t17 t19)) (fun t20 _ =>
 vJ t10 true (vV t20) (fun t21 _ =>
 vJ t21 false (vV l0) (fun t22 _ =>
 vJ t21 false (vV at5) (fun t23 _ =>
 vJ t21 false (vG (vk .sub 3 23 .i64 1 t23)) (fun t24 _ =>
 vJ t21 false (vG (indexAt 61 t22 t24)) (fun t25 _ =>
 vJ t21 false (vG (fieldAt 134 t25 1)) (fun t26 _ =>
 vJ t21 false (vG (loadAt 2 t26)) (fun t27 _ =>
 vJ t21 false (vG (fieldAt 134 x3 1)) (fun t28 _ =>
 vJ t21 false (vG (loadAt 2 t28)) (fun t29 _ =>
 vJ t21 false (vG (vt .eql 2 27 29 t27 t29)) (fun t30 _ =>
 vJ t21 false (vV t30) (fun t31 _ =>
 vJ t31 true (vV l0) (fun t32 _ =>
 vJ t31 true (vV at5) (fun t33 _ =>
 vJ t31 true (vG (vk .sub 3 33 .i64 1 t33)) (fun t34 _ =>
 vJ t31 true (vG (indexAt 61 t32 t34)) (fun t35 _ =>
 vJ t31 true (vG (fieldAt 134 t35 0)) (fun t36 _ =>
 vJ t31 true (vG (loadAt 132 t36)) (fun t37 _ =>
 vJ t31 true (vG (fieldAt 134 x3 0)) (fun t38 _ =>
 vJ t31 true (vG (loadAt 132 t38)) (fun t39 _ =>
 vJ t31 true (vG (vt .geq 132 37 39 t37 t39)) (fun t40 _ =>
 vJ t21 false (vG (pickS t31 t40 (.bool false))) (fun t41 _ =>
 vJ t10 true (vG (pickS t21 (.bool true) t41)) (fun t42 _ =>
 vG (pickS t10 t42 (.bool false)) (fun t43 _ =>
 vD t43 (
 vF (vk .sub 3 44 .i64 1 at5) (fun t45 H35 =>
 vG (indexAt 61 l0 t45) (fun t48 _ =>
 vG (loadAt 134 t48) (fun t49 _ =>
 vG (loadAt 134 x3) (fun t50 _ =>
 vG (vt .eql 134 49 50 t49 t50) (fun t51 _ =>
 vD t51 (
 R l0 H35) (
 X t45 H35)) #[]) H35) H35) #[]) H3) (
 JoinN 1 (fun (k_31:VP) H36 =>
 vG (sliceAt 61 l0 none (some at5) none) (fun t56 _ =>
 vG (loadAt 134 x3) (fun t58 _ =>
 ((
 vF (append_ #[61,61] 61 #[(.slice none 0 0),t56]) (fun t57 H37=>vG (loadAt 134 x3) (fun u _=>u=t58) H37 /\
 vF (buildSlice 61 1 #[(0,t58)]) (fun t59 H38 =>
 vF (append_ #[61,61] 61 #[t57,t59]) (fun t60 H39 =>
 k_31 t60 H39) H38) H37) H36)/\(
 vF (buildSlice 61 1 #[(0,t58)]) (fun t59_1 H40 =>
 vF (append_ #[61,61] 61 #[(.slice none 0 0),t56]) (fun t57_1 H41=>vG (loadAt 134 x3) (fun u _=>u=t58) H41 /\
 vF (append_ #[61,61] 61 #[t57_1,t59_1]) (fun t60_1 H42 =>
 k_31 t60_1 H42) H41) H40) H36))) H36) #[])
 (fun out6 H43 =>
 vF (sliceAt 61 l0 (some at5) none none) (fun t64 H44 =>
 vF (append_ #[61,61] 61 #[out6,t64]) (fun t65 H45 =>
 R t65 H45) H44) H43) H3 ⟨⟩ ⟨⟩)) #[]) #[]) #[]) #[]) H3) #[]) H3) #[]) #[]) #[]) #[]) #[]) #[]) #[]) H3) #[]) H3) #[]) #[]) #[]) #[]) #[]) #[]) #[]) H3) #[]) H3) #[]) #[]) #[]) #[]) #[]) #[]) [t8] H2 ⟨⟩) H1) h

theorem n65_calls{l0 x1:Value}{R:VP}{h:Heap}(H:n65 l0 x1 R h):CallsH Tryz.prog 65 #[l0,x1] h R ⟨⟩ :=
 callsH_of_eq Tryz.follow (.n none .l (.n none .l (.n none (.n none (.n (some [6]) .l .l) .l) (.n none .l (.n (some [7]) .l .l))))) Tryz.func65 kR kR kR H

def n66(s0:Value)(R:VP)(h:Heap):Prop :=
 vF (binS .eql 27 (.tmp 3) (.const (.pointer none)) s0 (.pointer none)) (fun t4 H1 =>
 vJ t4 false (vV s0) (fun t6 H3 =>
 vJ t4 false (vF (nilS t6)) (fun t7 H5 =>
 vJ t4 false (vF (fieldAt 144 t7 0)) (fun t8 H7 =>
 vJ t4 false (vF (loadAt 142 t8)) (fun t9 H9 =>
 vJ t4 false (vF (binS .eql 142 (.tmp 9) (.const (.map none)) t9 (.map none))) (fun t10 H11 =>
 vF (pickS t4 (.bool true) t10) (fun t11 H12 =>
 R t11 H12) H11) H9) H7) H5) H3) H1) h

theorem n66_calls{s0:Value}{R:VP}{h:Heap}(H:n66 s0 R h):CallsH Tryz.prog 66 #[s0] h R ⟨⟩ :=
 callsH_of_eq Tryz.follow .l Tryz.func66 kR kR kR H

def n67(s0 f1:Value)(R:VP)(h:Heap):Prop :=
 vC 118 #[s0,f1] (fun t7 H1 =>
 vF (vk .geq 3 7 .i64 0 t7) (fun t8 H2 =>
 R t8 H2) H1) h

theorem n67_calls{s0 f1:Value}{R:VP}{h:Heap}(H:n67 s0 f1 R h):CallsH Tryz.prog 67 #[s0,f1] h R ⟨⟩ :=
 callsH_of_eq Tryz.follow .l Tryz.func67 kR kR kR H

def n68(p0:Value)(R:VP)(h:Heap):Prop :=
 vF (vk .lss 3 3 .i64 0 p0) (fun t4 H1 =>
 R t4 H1) h

theorem n68_calls{p0:Value}{R:VP}{h:Heap}(H:n68 p0 R h):CallsH Tryz.prog 68 #[p0] h R ⟨⟩ :=
 callsH_of_eq Tryz.follow .l Tryz.func68 kR kR kR H

def n69(t0:Value)(R:VP)(h:Heap):Prop :=
 vF (loadAt 68 t0) (fun t3 H1 =>
 vF (len_ #[68] 3 #[t3]) (fun t4 H2 =>
 vF (vk .eql 3 4 .i64 0 t4) (fun t5 H3 =>
 vD t5 (
 R (.bool false) H3) (
 vF (loadAt 68 t0) (fun t6 H4 =>
 vF (indexAt 68 t6 (.int .i64 0)) (fun t7 H5 =>
 vF (loadAt 3 t7) (fun t8 H6 =>
 vF (loadAt 68 t0) (fun t9 H7 =>
 vF (sliceAt 68 t9 (some (.int .i64 1)) none none) (fun t10 H8 =>
 vF (storeS 68 t0 t10) (fun _ H9 =>
 vF (vk .rem 3 11 .i64 2 t8) (fun t12 H10 =>
 vF (vk .eql 3 12 .i64 1 t12) (fun t13 H11 =>
 R t13 H11) H10) H9) H8) H7) H6) H5) H4) H3)) H2) H1) h

theorem n69_calls{t0:Value}{R:VP}{h:Heap}(H:n69 t0 R h):CallsH Tryz.prog 69 #[t0] h R ⟨⟩ :=
 callsH_of_eq Tryz.follow .l Tryz.func69 kR kR kR H

def n70(b0:Value)(R:VP)(h:Heap):Prop :=
 vF (binS .eql 52 (.tmp 3) (.const (.slice none 0 0)) b0 (.slice none 0 0)) (fun t4 H1 =>
 vD t4 (
 R (.slice none 0 0) H1) (
 vF (buildSlice 52 0 #[]) (fun t5 H2 =>
 vF (append_ #[52,52] 52 #[t5,b0]) (fun t7 H3 =>
 R t7 H3) H2) H1)) h

theorem n70_calls{b0:Value}{R:VP}{h:Heap}(H:n70 b0 R h):CallsH Tryz.prog 70 #[b0] h R ⟨⟩ :=
 callsH_of_eq Tryz.follow .l Tryz.func70 kR kR kR H

def n71(h0:Value)(R:VP)(h:Heap):Prop :=
 vF (box 84 h0) (fun h1 H1 =>
 vG (loadAt 84 h1) (fun t3 _ =>
 vG (fieldAt 84 h1 0) (fun t5 _ =>
 vG (loadAt 3 t5) (fun t6 _ =>
 vC 119 #[t3] (fun t4 H2=>vG (loadAt 3 t5) (fun u _=>u=t6) H2 /\
 vC 36 #[t6] (fun t7 H3 =>
 vG (vk .quo 2 7 .i64 8 t7) (fun t8 _ =>
 vC 72 #[t4,t8] (fun t9 H4 =>
 R t9 H4) H3) #[]) H2) H1) H1) #[]) H1) h

theorem n71_calls{h0:Value}{R:VP}{h:Heap}(H:n71 h0 R h):CallsH Tryz.prog 71 #[h0] h R ⟨⟩ :=
 callsH_of_eq Tryz.follow .l Tryz.func71 kR kR kR H

def n72(a0 b1:Value)(R:VP)(h:Heap):Prop :=
 vF (vt .rem 2 5 6 a0 b1) (fun t7 H1 =>
 vF (vk .eql 2 7 .i64 0 t7) (fun t8 H2 =>
 vD t8 (
 vF (vt .quo 2 9 10 a0 b1) (fun t11 H3 =>
 R t11 H3) H2) (
 vF (vt .quo 2 12 13 a0 b1) (fun t14 H4 =>
 vF (vk .add 2 14 .i64 1 t14) (fun t15 H5 =>
 R t15 H5) H4) H2)) H1) h

theorem n72_calls{a0 b1:Value}{R:VP}{h:Heap}(H:n72 a0 b1 R h):CallsH Tryz.prog 72 #[a0,b1] h R ⟨⟩ :=
 callsH_of_eq Tryz.follow .l Tryz.func72 kR kR kR H

def n73(h0:Value)(R:VP)(h:Heap):Prop :=
 vF (box 84 h0) (fun h1 H1 =>
 vF (fieldAt 84 h1 0) (fun t6 H2 =>
 vF (loadAt 3 t6) (fun t7 H3 =>
 vF (vk .lss 3 7 .i64 9 t7) (fun t8 H4 =>
 vJ t8 false (vF (fieldAt 84 h1 0)) (fun t10 H6 =>
 vJ t8 false (vF (loadAt 3 t10)) (fun t11 H8 =>
 vJ t8 false (vF (vk .gtr 3 11 .i64 16 t11)) (fun t12 H10 =>
 vF (pickS t8 (.bool true) t12) (fun t13 H11 =>
 vJ t13 false (vF (fieldAt 84 h1 1)) (fun t15 H13 =>
 vJ t13 false (vF (loadAt 44 t15)) (fun t16 H15 =>
 vJ t13 false (vF (vk .gtr 44 16 .u64 1 t16)) (fun t17 H17 =>
 vF (pickS t13 (.bool true) t17) (fun t18 H18 =>
 vJ t18 false (vF (fieldAt 84 h1 2)) (fun t20 H20 =>
 vJ t18 false (vF (loadAt 2 t20)) (fun t21 H22 =>
 vJ t18 false (vF (vk .lss 2 21 .i64 0 t21)) (fun t22 H24 =>
 vF (pickS t18 (.bool true) t22) (fun t23 H25 =>
 vJ t23 false (vF (fieldAt 84 h1 2)) (fun t25 H27 =>
 vJ t23 false (vF (loadAt 2 t25)) (fun t26 H29 =>
 vJ t23 false (vF (vk .gtr 2 26 .i64 67108864 t26)) (fun t27 H31 =>
 vF (pickS t23 (.bool true) t27) (fun t28 H32 =>
 vJ t28 false (vF (fieldAt 84 h1 2)) (fun t30 H34 =>
 vJ t28 false (vF (loadAt 2 t30)) (fun t31 H36 =>
 vJ t28 false (vF (vk .rem 2 31 .i64 512 t31)) (fun t32 H38 =>
 vJ t28 false (vF (vk .neq 2 32 .i64 0 t32)) (fun t33 H40 =>
 vF (pickS t28 (.bool true) t33) (fun t34 H41 =>
 vD t34 (
 R (.bool false) H41) (
 vG (fieldAt 84 h1 4) (fun t35 _ =>
 vG (loadAt 3 t35) (fun t36 _ =>
 vG (vk .lss 3 36 .i64 0 t36) (fun t37 _ =>
 vJ t37 false (vG (fieldAt 84 h1 4)) (fun t39 _ =>
 vJ t37 false (vG (loadAt 3 t39)) (fun t40 _ =>
 vJ t37 false (vG (vk .gtr 3 40 .i64 1048576 t40)) (fun t41 _ =>
 vG (pickS t37 (.bool true) t41) (fun t42 _ =>
 vJ t42 false (vG (fieldAt 84 h1 4)) (fun t44 _ =>
 vJ t42 false (vG (loadAt 3 t44)) (fun t45 _ =>
 vJ t42 false (vG (loadAt 84 h1)) (fun t46 _ =>
 vJ t42 false (vC 71 #[t46]) (fun t47 H49=>vJ t42 false (vG (loadAt 3 t44)) (fun u _=>u=t45) H49 /\
 vJ t42 false (vG (vt .lss 2 45 47 t45 t47)) (fun t48 _ =>
 vG (pickS t42 (.bool true) t48) (fun t49 _ =>
 vJ t49 false (vG (fieldAt 84 h1 5)) (fun t51 _ =>
 vJ t49 false (vG (loadAt 3 t51)) (fun t52 _ =>
 vJ t49 false (vG (vk .lss 3 52 .i64 0 t52)) (fun t53 _ =>
 vG (pickS t49 (.bool true) t53) (fun t54 _ =>
 vJ t54 false (vG (fieldAt 84 h1 5)) (fun t56 _ =>
 vJ t54 false (vG (loadAt 3 t56)) (fun t57 _ =>
 vJ t54 false (vG (vk .gtr 3 57 .i64 6 t57)) (fun t58 _ =>
 vG (pickS t54 (.bool true) t58) (fun t59 _ =>
 vJ t59 false (vG (fieldAt 84 h1 7)) (fun t61 _ =>
 vJ t59 false (vG (loadAt 3 t61)) (fun t62 _ =>
 vJ t59 false (vG (vk .lss 3 62 .i64 1 t62)) (fun t63 _ =>
 vG (pickS t59 (.bool true) t63) (fun t64 _ =>
 vJ t64 false (vG (fieldAt 84 h1 7)) (fun t66 _ =>
 vJ t64 false (vG (loadAt 3 t66)) (fun t67 _ =>
 vJ t64 false (vG (vk .gtr 3 67 .i64 65536 t67)) (fun t68 _ =>
 vG (pickS t64 (.bool true) t68) (fun t69 _ =>
 vD t69 (
 R (.bool false) H49) (
 vF (fieldAt 84 h1 4) (fun t70 H63 =>
 vF (loadAt 3 t70) (fun t71 H64 =>
 vF (vk .eql 3 71 .i64 0 t71) (fun t72 H65 =>
 vJ t72 true (vF (fieldAt 84 h1 3)) (fun t74 H67 =>
 vJ t72 true (vF (loadAt 2 t74)) (fun t75 H69 =>
 vJ t72 true (vF (vk .neq 2 75 .i64 0 t75)) (fun t76 H71 =>
 vF (pickS t72 t76 (.bool false)) (fun t77 H72 =>
 vJ t77 false (vF (fieldAt 84 h1 4)) (fun t79 H74 =>
 vJ t77 false (vF (loadAt 3 t79)) (fun t80 H76 =>
 vJ t77 false (vF (vk .gtr 3 80 .i64 0 t80)) (fun t81 H78 =>
 vJ t77 false (vV t81) (fun t82 H80 =>
 vJ t82 true (vF (fieldAt 84 h1 3)) (fun t83 H82 =>
 vJ t82 true (vF (loadAt 2 t83)) (fun t84 H84 =>
 vJ t82 true (vF (fieldAt 84 h1 0)) (fun t85 H86 =>
 vJ t82 true (vF (loadAt 3 t85)) (fun t86 H88 =>
 vJ t82 true (vC 120 #[t84,t86]) (fun t87 H90 =>
 vJ t82 true (vF (Op.unary .not t87)) (fun t88 H92 =>
 vJ t77 false (vF (pickS t82 t88 (.bool false))) (fun t89 H94 =>
 vF (pickS t77 (.bool true) t89) (fun t90 H95 =>
 vJ t90 false (vF (fieldAt 84 h1 6)) (fun t92 H97 =>
 vJ t90 false (vF (loadAt 2 t92)) (fun t93 H99 =>
 vJ t90 false (vF (fieldAt 84 h1 0)) (fun t94 H101 =>
 vJ t90 false (vF (loadAt 3 t94)) (fun t95 H103 =>
 vJ t90 false (vC 120 #[t93,t95]) (fun t96 H105 =>
 vJ t90 false (vF (Op.unary .not t96)) (fun t97 H107 =>
 vF (pickS t90 (.bool true) t97) (fun t98 H108 =>
 vD t98 (
 R (.bool false) H108) (
 vF (fieldAt 84 h1 8) (fun t99 H109 =>
 vF (loadAt 3 t99) (fun t100 H110 =>
 vF (fieldAt 84 h1 9) (fun t101 H111 =>
 vF (loadAt 2 t101) (fun t102 H112 =>
 vF (fieldAt 84 h1 10) (fun t103 H113 =>
 vF (loadAt 3 t103) (fun t104 H114 =>
 vF (fieldAt 84 h1 0) (fun t105 H115 =>
 vF (loadAt 3 t105) (fun t106 H116 =>
 vC 121 #[t100,t102,t104,t106] (fun t107 H117 =>
 vF (fieldAt 84 h1 11) (fun t108 H118 =>
 vF (loadAt 3 t108) (fun t109 H119 =>
 vF (fieldAt 84 h1 12) (fun t110 H120 =>
 vF (loadAt 2 t110) (fun t111 H121 =>
 vF (fieldAt 84 h1 13) (fun t112 H122 =>
 vF (loadAt 3 t112) (fun t113 H123 =>
 vF (fieldAt 84 h1 0) (fun t114 H124 =>
 vF (loadAt 3 t114) (fun t115 H125 =>
 vC 121 #[t109,t111,t113,t115] (fun t116 H126 =>
 LoopC 1 (fun (X:VP)=>fun i5 H127 =>
 vF (fieldAt 84 h1 14) (fun t118 H128 =>
 vF (loadAt 9 t118) (fun t119 H129 =>
 vF (len_ #[9] 3 #[t119]) (fun t120 H130 =>
 vF (vt .lss 3 117 120 i5 t120) (fun t121 H131 =>
 vD t121 (
 vF (fieldAt 84 h1 14) (fun t124 H132 =>
 vF (loadAt 9 t124) (fun t125 H133 =>
 vF (index 9 t125 i5) (fun t127 H134 =>
 vF (vk .eql 5 127 .u8 0 t127) (fun t128 H135 =>
 vD t128 (
 R (.bool false) H135) (
 vF (vk .add 3 122 .i64 1 i5) (fun t123 H136 =>
 X t123 H136) H135)) H134) H133) H132) H131) (
 vJ t107 true (vV t116) (fun t131 H138 =>
 vF (pickS t107 t131 (.bool false)) (fun t132 H139 =>
 vJ t132 true (vF (fieldAt 84 h1 14)) (fun t134 H141 =>
 vJ t132 true (vF (loadAt 9 t134)) (fun t135 H143 =>
 vJ t132 true (vF (len_ #[9] 3 #[t135])) (fun t136 H145 =>
 vJ t132 true (vF (vk .leq 3 136 .i64 64 t136)) (fun t137 H147 =>
 vF (pickS t132 t137 (.bool false)) (fun t138 H148 =>
 R t138 H148) H147) H145) H143) H141) H139) H138) H131)) H130) H129) H128) H127) [(.int .i64 0)] H126 ⟨⟩) H125) H124) H123) H122) H121) H120) H119) H118) H117) H116) H115) H114) H113) H112) H111) H110) H109) H108)) H107) H105) H103) H101) H99) H97) H95) H94) H92) H90) H88) H86) H84) H82) H80) H78) H76) H74) H72) H71) H69) H67) H65) H64) H63) H49)) #[]) #[]) H49) #[]) #[]) #[]) H49) #[]) #[]) #[]) H49) #[]) #[]) #[]) H49) #[]) #[]) #[]) H41) H41) H41) #[]) #[]) #[]) H41) #[]) #[]) H41) #[])) H40) H38) H36) H34) H32) H31) H29) H27) H25) H24) H22) H20) H18) H17) H15) H13) H11) H10) H8) H6) H4) H3) H2) H1) h

theorem n73_calls{h0:Value}{R:VP}{h:Heap}(H:n73 h0 R h):CallsH Tryz.prog 73 #[h0] h R ⟨⟩ :=
 callsH_of_eq Tryz.follow (.n none .l (.n none .l (.n none .l (.n none .l (.n none .l (.n none .l (.n none (.n none .l (.n none (.n (some [6]) .l .l) .l)) .l))))))) Tryz.func73 kR kR kR H

def n74(b0 at1 x2:Value)(R:VP)(h:Heap):Prop :=
 vF (sliceAt 52 b0 none (some at1) none) (fun t10 H1 =>
 vF (append_ #[52,52] 52 #[(.slice none 0 0),t10]) (fun t11 H2 =>
 vF (append_ #[52,52] 52 #[t11,x2]) (fun t14 H3 =>
 vF (len_ #[52] 3 #[x2]) (fun t19 H4 =>
 vF (vt .add 2 17 19 at1 t19) (fun t20 H5 =>
 vF (sliceAt 52 b0 (some t20) none none) (fun t21 H6 =>
 vF (append_ #[52,52] 52 #[t14,t21]) (fun t22 H7 =>
 R t22 H7) H6) H5) H4) H3) H2) H1) h

theorem n74_calls{b0 at1 x2:Value}{R:VP}{h:Heap}(H:n74 b0 at1 x2 R h):CallsH Tryz.prog 74 #[b0,at1,x2] h R ⟨⟩ :=
 callsH_of_eq Tryz.follow .l Tryz.func74 kR kR kR H

def n75(h0:Value)(R:VP)(h:Heap):Prop :=
 vF (box 84 h0) (fun h1 H1 =>
 vF (buildSlice 52 4 #[(0,(.int .u8 80)),(1,(.int .u8 65)),(2,(.int .u8 76)),(3,(.int .u8 49))]) (fun t4 H2 =>
 vF (convert 52 52 t4) (fun t5 H3 =>
 vF (fieldAt 84 h1 0) (fun t7 H4 =>
 vF (loadAt 3 t7) (fun t8 H5 =>
 vF (convert 3 44 t8) (fun t9 H6 =>
 vC 76 #[t9,(.int .i64 4)] (fun t10 H7 =>
 vF (append_ #[52,52] 52 #[t5,t10]) (fun t11 H8 =>
 vF (fieldAt 84 h1 1) (fun t13 H9 =>
 vF (loadAt 44 t13) (fun t14 H10 =>
 vC 76 #[t14,(.int .i64 8)] (fun t15 H11 =>
 vF (append_ #[52,52] 52 #[t11,t15]) (fun t16 H12 =>
 vF (fieldAt 84 h1 2) (fun t18 H13 =>
 vF (loadAt 2 t18) (fun t19 H14 =>
 vF (convert 2 44 t19) (fun t20 H15 =>
 vC 76 #[t20,(.int .i64 8)] (fun t21 H16 =>
 vF (append_ #[52,52] 52 #[t16,t21]) (fun t22 H17 =>
 vF (fieldAt 84 h1 3) (fun t24 H18 =>
 vF (loadAt 2 t24) (fun t25 H19 =>
 vF (convert 2 44 t25) (fun t26 H20 =>
 vC 76 #[t26,(.int .i64 8)] (fun t27 H21 =>
 vF (append_ #[52,52] 52 #[t22,t27]) (fun t28 H22 =>
 vF (fieldAt 84 h1 4) (fun t30 H23 =>
 vF (loadAt 3 t30) (fun t31 H24 =>
 vF (convert 3 44 t31) (fun t32 H25 =>
 vC 76 #[t32,(.int .i64 4)] (fun t33 H26 =>
 vF (append_ #[52,52] 52 #[t28,t33]) (fun t34 H27 =>
 vF (fieldAt 84 h1 5) (fun t36 H28 =>
 vF (loadAt 3 t36) (fun t37 H29 =>
 vF (convert 3 44 t37) (fun t38 H30 =>
 vC 76 #[t38,(.int .i64 4)] (fun t39 H31 =>
 vF (append_ #[52,52] 52 #[t34,t39]) (fun t40 H32 =>
 vF (fieldAt 84 h1 6) (fun t42 H33 =>
 vF (loadAt 2 t42) (fun t43 H34 =>
 vF (convert 2 44 t43) (fun t44 H35 =>
 vC 76 #[t44,(.int .i64 8)] (fun t45 H36 =>
 vF (append_ #[52,52] 52 #[t40,t45]) (fun t46 H37 =>
 vF (fieldAt 84 h1 7) (fun t48 H38 =>
 vF (loadAt 3 t48) (fun t49 H39 =>
 vF (convert 3 44 t49) (fun t50 H40 =>
 vC 76 #[t50,(.int .i64 4)] (fun t51 H41 =>
 vF (append_ #[52,52] 52 #[t46,t51]) (fun t52 H42 =>
 vF (fieldAt 84 h1 8) (fun t54 H43 =>
 vF (loadAt 3 t54) (fun t55 H44 =>
 vF (convert 3 44 t55) (fun t56 H45 =>
 vC 76 #[t56,(.int .i64 4)] (fun t57 H46 =>
 vF (append_ #[52,52] 52 #[t52,t57]) (fun t58 H47 =>
 vF (fieldAt 84 h1 9) (fun t60 H48 =>
 vF (loadAt 2 t60) (fun t61 H49 =>
 vF (convert 2 44 t61) (fun t62 H50 =>
 vC 76 #[t62,(.int .i64 8)] (fun t63 H51 =>
 vF (append_ #[52,52] 52 #[t58,t63]) (fun t64 H52 =>
 vF (fieldAt 84 h1 10) (fun t66 H53 =>
 vF (loadAt 3 t66) (fun t67 H54 =>
 vF (convert 3 44 t67) (fun t68 H55 =>
 vC 76 #[t68,(.int .i64 4)] (fun t69 H56 =>
 vF (append_ #[52,52] 52 #[t64,t69]) (fun t70 H57 =>
 vF (fieldAt 84 h1 11) (fun t72 H58 =>
 vF (loadAt 3 t72) (fun t73 H59 =>
 vF (convert 3 44 t73) (fun t74 H60 =>
 vC 76 #[t74,(.int .i64 4)] (fun t75 H61 =>
 vF (append_ #[52,52] 52 #[t70,t75]) (fun t76 H62 =>
 vF (fieldAt 84 h1 12) (fun t78 H63 =>
 vF (loadAt 2 t78) (fun t79 H64 =>
 vF (convert 2 44 t79) (fun t80 H65 =>
 vC 76 #[t80,(.int .i64 8)] (fun t81 H66 =>
 vF (append_ #[52,52] 52 #[t76,t81]) (fun t82 H67 =>
 vF (fieldAt 84 h1 13) (fun t84 H68 =>
 vF (loadAt 3 t84) (fun t85 H69 =>
 vF (convert 3 44 t85) (fun t86 H70 =>
 vC 76 #[t86,(.int .i64 4)] (fun t87 H71 =>
 vF (append_ #[52,52] 52 #[t82,t87]) (fun t88 H72 =>
 vF (fieldAt 84 h1 14) (fun t90 H73 =>
 vF (loadAt 9 t90) (fun t91 H74 =>
 vF (len_ #[9] 3 #[t91]) (fun t92 H75 =>
 vF (convert 3 44 t92) (fun t93 H76 =>
 vC 76 #[t93,(.int .i64 4)] (fun t94 H77 =>
 vF (append_ #[52,52] 52 #[t88,t94]) (fun t95 H78 =>
 vF (fieldAt 84 h1 14) (fun t97 H79 =>
 vF (loadAt 9 t97) (fun t98 H80 =>
 vF (append_ #[52,9] 52 #[t95,t98]) (fun t99 H81 =>
 LoopC 1 (fun (X:VP)=>fun out3 H82 =>
 vF (len_ #[52] 3 #[out3]) (fun t101 H83 =>
 vF (vk .lss 3 101 .i64 512 t101) (fun t102 H84 =>
 vD t102 (
 vF (buildSlice 52 1 #[(0,(.int .u8 0))]) (fun t104 H85 =>
 vF (append_ #[52,52] 52 #[out3,t104]) (fun t105 H86 =>
 X t105 H86) H85) H84) (
 R out3 H84)) H83) H82) [t99] H81 ⟨⟩) H80) H79) H78) H77) H76) H75) H74) H73) H72) H71) H70) H69) H68) H67) H66) H65) H64) H63) H62) H61) H60) H59) H58) H57) H56) H55) H54) H53) H52) H51) H50) H49) H48) H47) H46) H45) H44) H43) H42) H41) H40) H39) H38) H37) H36) H35) H34) H33) H32) H31) H30) H29) H28) H27) H26) H25) H24) H23) H22) H21) H20) H19) H18) H17) H16) H15) H14) H13) H12) H11) H10) H9) H8) H7) H6) H5) H4) H3) H2) H1) h

theorem n75_calls{h0:Value}{R:VP}{h:Heap}(H:n75 h0 R h):CallsH Tryz.prog 75 #[h0] h R ⟨⟩ :=
 callsH_of_eq Tryz.follow (.n none .l (.n none .l (.n none .l (.n none .l (.n none .l (.n none .l (.n none .l (.n none .l (.n none .l (.n none .l (.n none .l (.n none .l (.n none .l (.n none .l (.n none .l (.n none .l (.n none .l (.n none .l (.n none (.n none (.n (some [4]) .l .l) .l) .l))))))))))))))))))) Tryz.func75 kR kR kR H

def n76(x0 n1:Value)(R:VP)(h:Heap):Prop :=
 LoopC 3 (fun (X:Value->Value->VP)=>fun x0_1 out5 i6 H1 =>
 vF (vt .lss 3 7 8 i6 n1) (fun t9 H2 =>
 vD t9 (
 vF (vk .rem 44 13 .u64 256 x0_1) (fun t14 H3 =>
 vF (convert 44 5 t14) (fun t15 H4 =>
 vF (buildSlice 52 1 #[(0,t15)]) (fun t16 H5 =>
 vF (append_ #[52,52] 52 #[out5,t16]) (fun t17 H6 =>
 vF (vk .quo 44 18 .u64 256 x0_1) (fun t19 H7 =>
 vF (vk .add 3 10 .i64 1 i6) (fun t11 H8 =>
 X t19 t17 t11 H8) H7) H6) H5) H4) H3) H2) (
 R out5 H2)) H1) [x0,(.slice none 0 0),(.int .i64 0)] h ⟨⟩

theorem n76_calls{x0 n1:Value}{R:VP}{h:Heap}(H:n76 x0 n1 R h):CallsH Tryz.prog 76 #[x0,n1] h R ⟨⟩ :=
 callsH_of_eq Tryz.follow (.n none .l (.n none .l (.n none (.n none .l (.n none (.n (some [1,6,7]) .l .l) .l)) .l))) Tryz.func76 kR kR kR H

def n77(b0 order1 i2 x3:Value)(R:VP)(h:Heap):Prop :=
 vC 37 #[order1] (fun t16 H1 =>
 vF (append_ #[52,52] 52 #[(.slice none 0 0),b0]) (fun t18 H2 =>
 LoopC 2 (fun (X:Value->VP)=>fun x3_1 k11 H3 =>
 vF (vt .lss 3 19 20 k11 t16) (fun t21 H4 =>
 vD t21 (
 vF (vt .mul 3 24 25 i2 t16) (fun t26 H5 =>
 vF (vt .add 3 26 27 t26 k11) (fun t28 H6 =>
 vF (vk .quo 3 30 .i64 8 t28) (fun t31 H7 =>
 vF (indexAt 52 t18 t31) (fun t32 H8 =>
 vF (loadAt 5 t32) (fun t33 H9 =>
 vF (vk .rem 3 34 .i64 8 t28) (fun t35 H10 =>
 vF (vt .shr 5 33 35 t33 t35) (fun t36 H11 =>
 vF (vk .rem 5 36 .u8 2 t36) (fun t37 H12 =>
 vF (vk .rem 44 38 .u64 2 x3_1) (fun t39 H13 =>
 vF (convert 44 5 t39) (fun t40 H14 =>
 JoinN 0 (fun (k:Heap->Prop) H15 =>
 vF (vt .neq 5 41 42 t37 t40) (fun t43 H16 =>
 vD t43 (
 vG (vk .quo 3 45 .i64 8 t28) (fun t46 _ =>
 vG (vk .quo 3 48 .i64 8 t28) (fun t49 _ =>
 vG (indexAt 52 t18 t49) (fun t50 _ =>
 vG (loadAt 5 t50) (fun t51 _ =>
 vG (vk .rem 3 52 .i64 8 t28) (fun t53 _ =>
 vG (binS .shl 5 (.const (.int .u8 1)) (.tmp 53) (.int .u8 1) t53) (fun t54 _ =>
 vG (vt .xor 5 51 54 t51 t54) (fun t55 _ =>
 vG (indexAt 52 t18 t46) (fun t56 _ =>
 vF (storeS 5 t56 t55) (fun _ H17 =>
 k H17) H16) #[]) #[]) #[]) #[]) H16) #[]) #[]) #[]) (
 k H16)) H15)
 (fun H18 =>
 vF (vk .quo 44 57 .u64 2 x3_1) (fun t58 H19 =>
 vF (vk .add 3 22 .i64 1 k11) (fun t23 H20 =>
 X t58 t23 H20) H19) H18) H14 ⟨⟩ ⟨⟩) H13) H12) H11) H10) H9) H8) H7) H6) H5) H4) (
 R t18 H4)) H3) [x3,(.int .i64 0)] H2 ⟨⟩) H1) h

theorem n77_calls{b0 order1 i2 x3:Value}{R:VP}{h:Heap}(H:n77 b0 order1 i2 x3 R h):CallsH Tryz.prog 77 #[b0,order1,i2,x3] h R ⟨⟩ :=
 callsH_of_eq Tryz.follow (.n none .l (.n none .l (.n none .l (.n none (.n none .l (.n none (.n (some [4,12]) (.n none .l (.n none (.n none (.n none .l (.n none .l (.n none .l (.n (some []) .l .l)))) .l) .l)) .l) .l)) .l)))) Tryz.func77 kR kR kR H

def n78(fates0:Value)(R:VP)(h:Heap):Prop :=
 vC 122 #[fates0,(.func (.func 123) #[] #[])] (fun t4 H1 =>
 vF (Op.unary .not t4) (fun t5 H2 =>
 R t5 H2) H1) h

theorem n78_calls{fates0:Value}{R:VP}{h:Heap}(H:n78 fates0 R h):CallsH Tryz.prog 78 #[fates0] h R ⟨⟩ :=
 callsH_of_eq Tryz.follow .l Tryz.func78 kR kR kR H

def n79(s0:Value)(R:VP)(h:Heap):Prop :=
 vF (binS .eql 67 (.tmp 3) (.const (.slice none 0 0)) s0 (.slice none 0 0)) (fun t4 H1 =>
 vD t4 (
 R (.slice none 0 0) H1) (
 vF (buildSlice 67 0 #[]) (fun t5 H2 =>
 vF (append_ #[67,67] 67 #[t5,s0]) (fun t7 H3 =>
 R t7 H3) H2) H1)) h

theorem n79_calls{s0:Value}{R:VP}{h:Heap}(H:n79 s0 R h):CallsH Tryz.prog 79 #[s0] h R ⟨⟩ :=
 callsH_of_eq Tryz.follow .l Tryz.func79 kR kR kR H

def n80(s0 name1:Value)(R:VP)(h:Heap):Prop :=
 vC 66 #[s0] (fun t7 H1 =>
 vD t7 (
 R (.int .i64 1) H1) (
 vF (len_ #[9] 3 #[name1]) (fun t10 H2 =>
 vF (vk .lss 3 10 .i64 1 t10) (fun t11 H3 =>
 vJ t11 false (vV name1) (fun t13 H5 =>
 vJ t11 false (vF (len_ #[9] 3 #[t13])) (fun t14 H7 =>
 vJ t11 false (vF (vk .gtr 3 14 .i64 64 t14)) (fun t15 H9 =>
 vF (pickS t11 (.bool true) t15) (fun t16 H10 =>
 vJ t16 false (vV name1) (fun t18 H12 =>
 vJ t16 false (vF (convert 9 52 t18)) (fun t19 H14 =>
 vJ t16 false (vC 124 #[t19,(.int .u8 0)]) (fun t20 H16 =>
 vJ t16 false (vF (vk .geq 3 20 .i64 0 t20)) (fun t21 H18 =>
 vF (pickS t16 (.bool true) t21) (fun t22 H19 =>
 vD t22 (
 R (.int .i64 2) H19) (
 R (.int .i64 0) H19)) H18) H16) H14) H12) H10) H9) H7) H5) H3) H2) H1)) h

theorem n80_calls{s0 name1:Value}{R:VP}{h:Heap}(H:n80 s0 name1 R h):CallsH Tryz.prog 80 #[s0,name1] h R ⟨⟩ :=
 callsH_of_eq Tryz.follow .l Tryz.func80 kR kR kR H

def n81(s0:Value)(R:VP)(h:Heap):Prop :=
 vF (nilS s0) (fun t7 H1 =>
 vF (fieldAt 144 t7 2) (fun t8 H2 =>
 vF (loadAt 3 t8) (fun t9 H3 =>
 vF (vk .add 3 9 .i64 1 t9) (fun t10 H4 =>
 vF (nilS s0) (fun t11 H5 =>
 vF (fieldAt 144 t11 2) (fun t12 H6 =>
 vF (storeS 3 t12 t10) (fun _ H7 =>
 vF (nilS s0) (fun t14 H8 =>
 vF (fieldAt 144 t14 1) (fun t15 H9 =>
 vF (loadAt 67 t15) (fun t16 H10 =>
 vF (len_ #[67] 3 #[t16]) (fun t17 H11 =>
 vF (vk .eql 3 17 .i64 0 t17) (fun t18 H12 =>
 vD t18 (
 R (.tuple #[(.int .i64 0),(.int .i64 0)]) H12) (
 vF (nilS s0) (fun t20 H13 =>
 vF (fieldAt 144 t20 1) (fun t21 H14 =>
 vF (loadAt 67 t21) (fun t22 H15 =>
 vF (indexAt 67 t22 (.int .i64 0)) (fun t23 H16 =>
 vF (loadAt 139 t23) (fun t24 H17 =>
 vF (alloc 139 true undef) (fun f4 H18 =>
 vF (storeS 139 f4 t24) (fun _ H19 =>
 vF (nilS s0) (fun t27 H20 =>
 vF (fieldAt 144 t27 1) (fun t28 H21 =>
 vF (loadAt 67 t28) (fun t29 H22 =>
 vF (sliceAt 67 t29 (some (.int .i64 1)) none none) (fun t30 H23 =>
 vF (nilS s0) (fun t31 H24 =>
 vF (fieldAt 144 t31 1) (fun t32 H25 =>
 vF (storeS 67 t32 t30) (fun _ H26 =>
 JoinN 1 (fun (k:VP) H27 =>
 vF (fieldAt 139 f4 0) (fun t33 H28 =>
 vF (loadAt 137 t33) (fun t34 H29 =>
 JoinN 1 (fun (k_1:VP) H30 =>
 vF (vk .eql 137 34 .i64 1 t34) (fun t36 H31 =>
 vD t36 (
 k_1 (.int .i64 5) H31) (
 vF (vk .eql 137 34 .i64 2 t34) (fun t38 H32 =>
 vD t38 (
 k_1 (.int .i64 6) H32) (
 k_1 (.int .i64 0) H32)) H31)) H30)
 (fun e5 H33 =>
 k e5 H33) H29 ⟨⟩ ⟨⟩) H28) H27)
 (fun e5_1 H34 =>
 vG (fieldAt 139 f4 1) (fun t40 _ =>
 vG (loadAt 3 t40) (fun t41 _ =>
 vG (max_ #[3,3] 3 #[(.int .i64 0),t41]) (fun t42 _ =>
 R (.tuple #[e5_1,t42]) H34) #[]) H34) #[]) H26 ⟨⟩ ⟨⟩) H25) H24) H23) H22) H21) H20) H19) H18) H17) H16) H15) H14) H13) H12)) H11) H10) H9) H8) H7) H6) H5) H4) H3) H2) H1) h

theorem n81_calls{s0:Value}{R:VP}{h:Heap}(H:n81 s0 R h):CallsH Tryz.prog 81 #[s0] h R ⟨⟩ :=
 callsH_of_eq Tryz.follow (.n none .l (.n none .l (.n none .l (.n none .l (.n none .l (.n none .l (.n (some [6]) (.n none .l (.n (some [6]) .l .l)) .l))))))) Tryz.func81 kR kR kR H

def n82(f0 size1:Value)(R:VP)(h:Heap):Prop :=
 vF (nilS f0) (fun t7 H1 =>
 vF (fieldAt 97 t7 2) (fun t8 H2 =>
 vF (loadAt 52 t8) (fun t9 H3 =>
 vF (len_ #[52] 3 #[t9]) (fun t10 H4 =>
 vF (vt .sub 2 5 10 size1 t10) (fun t11 H5 =>
 vF (vk .gtr 2 12 .i64 0 t11) (fun t13 H6 =>
 vD t13 (
 vF (nilS f0) (fun t16 H7 =>
 vF (fieldAt 97 t16 2) (fun t17 H8 =>
 vF (loadAt 52 t17) (fun t18 H9 =>
 vF (append_ #[52,2] 52 #[t18,t11]) (fun t20 H10 =>
 vF (nilS f0) (fun t21 H11 =>
 vF (fieldAt 97 t21 2) (fun t22 H12 =>
 vF (storeS 52 t22 t20) (fun _ H13 =>
 vF (nilS f0) (fun t25 H14 =>
 vF (fieldAt 97 t25 0) (fun t26 H15 =>
 vF (loadAt 52 t26) (fun t27 H16 =>
 vF (append_ #[52,2] 52 #[t27,t11]) (fun t29 H17 =>
 vF (nilS f0) (fun t30 H18 =>
 vF (fieldAt 97 t30 0) (fun t31 H19 =>
 vF (storeS 52 t31 t29) (fun _ H20 =>
 R (.tuple #[]) H20) H19) H18) H17) H16) H15) H14) H13) H12) H11) H10) H9) H8) H7) H6) (
 R (.tuple #[]) H6)) H5) H4) H3) H2) H1) h

theorem n82_calls{f0 size1:Value}{R:VP}{h:Heap}(H:n82 f0 size1 R h):CallsH Tryz.prog 82 #[f0,size1] h R ⟨⟩ :=
 callsH_of_eq Tryz.follow .l Tryz.func82 kR kR kR H

def n83(s0:Value)(R:VP)(h:Heap):Prop :=
 vF (binS .eql 95 (.tmp 3) (.const (.slice none 0 0)) s0 (.slice none 0 0)) (fun t4 H1 =>
 vD t4 (
 R (.slice none 0 0) H1) (
 vF (buildSlice 95 0 #[]) (fun t5 H2 =>
 vF (append_ #[95,95] 95 #[t5,s0]) (fun t7 H3 =>
 R t7 H3) H2) H1)) h

theorem n83_calls{s0:Value}{R:VP}{h:Heap}(H:n83 s0 R h):CallsH Tryz.prog 83 #[s0] h R ⟨⟩ :=
 callsH_of_eq Tryz.follow .l Tryz.func83 kR kR kR H

def n84(at0 n1 t2:Value)(R:VP)(h:Heap):Prop :=
 vF (loadAt 52 t2) (fun t9 H1 =>
 vC 85 #[t9,at0,n1] (fun t12 H2 =>
 vF (extract t12 0) (fun t13 H3 =>
 vF (extract t12 1) (fun t14 H4 =>
 vF (convert 44 2 t13) (fun t16 H5 =>
 R t16 H5) H4) H3) H2) H1) h

theorem n84_calls{at0 n1 t2:Value}{R:VP}{h:Heap}(H:n84 at0 n1 t2 R h):CallsH Tryz.prog 84 #[at0,n1,t2] h R ⟨⟩ :=
 callsH_of_eq Tryz.follow .l Tryz.func84 kR kR kR H

def n85(b0 at1 n2:Value)(R:VP)(h:Heap):Prop :=
 vF (vk .lss 3 11 .i64 1 n2) (fun t12 H1 =>
 vJ t12 false (vV n2) (fun t14 H3 =>
 vJ t12 false (vF (vk .gtr 3 14 .i64 8 t14)) (fun t15 H5 =>
 vF (pickS t12 (.bool true) t15) (fun t16 H6 =>
 vD t16 (
 R (.tuple #[(.int .u64 0),(.int .i64 2)]) H6) (
 vC 125 #[b0,at1,n2] (fun t21 H7 =>
 vF (Op.unary .not t21) (fun t22 H8 =>
 vD t22 (
 R (.tuple #[(.int .u64 0),(.int .i64 4)]) H8) (
 vF (vk .sub 3 23 .i64 1 n2) (fun t24 H9 =>
 LoopC 2 (fun (X:Value->VP)=>fun x8 i9 H10 =>
 vF (vk .geq 3 25 .i64 0 i9) (fun t26 H11 =>
 vD t26 (
 vF (vk .shl 44 29 .u64 8 x8) (fun t30 H12 =>
 vF (vt .add 3 33 34 at1 i9) (fun t35 H13 =>
 vF (indexAt 52 b0 t35) (fun t36 H14 =>
 vF (loadAt 5 t36) (fun t37 H15 =>
 vF (convert 5 44 t37) (fun t38 H16 =>
 vF (vt .or 44 31 38 t30 t38) (fun t39 H17 =>
 vF (vk .sub 3 27 .i64 1 i9) (fun t28 H18 =>
 X t39 t28 H18) H17) H16) H15) H14) H13) H12) H11) (
 R (.tuple #[x8,(.int .i64 0)]) H11)) H10) [(.int .u64 0),t24] H9 ⟨⟩) H8)) H7) H6)) H5) H3) H1) h

theorem n85_calls{b0 at1 n2:Value}{R:VP}{h:Heap}(H:n85 b0 at1 n2 R h):CallsH Tryz.prog 85 #[b0,at1,n2] h R ⟨⟩ :=
 callsH_of_eq Tryz.follow (.n none .l (.n none .l (.n none .l (.n none (.n none .l (.n none (.n (some [9,10]) .l .l) .l)) .l)))) Tryz.func85 kR kR kR H

def n86(b0 at1 most2:Value)(R:VP)(h:Heap):Prop :=
 vC 126 #[b0,at1,most2] (fun t17 H1 =>
 vF (vk .neq 31 18 .i64 0 t17) (fun t19 H2 =>
 vD t19 (
 R (.tuple #[(str []),t17]) H2) (
 vC 85 #[b0,at1,(.int .i64 4)] (fun t24 H3 =>
 vF (extract t24 0) (fun t25 H4 =>
 vF (extract t24 1) (fun t26 H5 =>
 vF (convert 3 44 most2) (fun t29 H6 =>
 vF (vt .gtr 44 27 29 t25 t29) (fun t30 H7 =>
 vD t30 (
 R (.tuple #[(str []),(.int .i64 110)]) H7) (
 vF (vk .add 3 31 .i64 4 at1) (fun t32 H8 =>
 vF (convert 44 3 t25) (fun t34 H9 =>
 vF (vt .add 3 32 34 t32 t34) (fun t35 H10 =>
 vF (vk .add 3 39 .i64 4 at1) (fun t40 H11 =>
 vF (vt .add 3 40 41 t40 most2) (fun t42 H12 =>
 vC 127 #[b0,t35,t42] (fun t43 H13 =>
 vF (extract t43 0) (fun t44 H14 =>
 vF (extract t43 1) (fun t45 H15 =>
 vF (Op.unary .not t44) (fun t47 H16 =>
 vD t47 (
 R (.tuple #[(str []),(.int .i64 110)]) H16) (
 vF (vk .add 3 49 .i64 4 at1) (fun t50 H17 =>
 vF (sliceAt 52 b0 (some t50) (some t35) none) (fun t52 H18 =>
 vF (convert 52 9 t52) (fun t53 H19 =>
 R (.tuple #[t53,(.int .i64 0)]) H19) H18) H17) H16)) H15) H14) H13) H12) H11) H10) H9) H8) H7)) H6) H5) H4) H3) H2)) H1) h

theorem n86_calls{b0 at1 most2:Value}{R:VP}{h:Heap}(H:n86 b0 at1 most2 R h):CallsH Tryz.prog 86 #[b0,at1,most2] h R ⟨⟩ :=
 callsH_of_eq Tryz.follow .l Tryz.func86 kR kR kR H

def n87(h0:Value)(R:VP)(h:Heap):Prop :=
 vF (box 84 h0) (fun h1 H1 =>
 vF (loadAt 84 h1) (fun t7 H2 =>
 vC 128 #[t7] (fun t8 H3 =>
 vF (vk .neq 31 8 .i64 0 t8) (fun t9 H4 =>
 vD t9 (
 R (.tuple #[(.slice none 0 0),(.int .i64 2)]) H4) (
 vF (makeSlice 52 (.int .i64 512) (.int .i64 512)) (fun t10 H5 =>
 vF (copy_ #[52,9] 3 #[t10,(str [80,65,76,49])]) (fun t12 H6 =>
 vF (loadAt 84 h1) (fun t13 H7 =>
 vC 129 #[t13] (fun t14 H8 =>
 vF (len_ #[197] 3 #[t14]) (fun t15 H9 =>
 LoopC 1 (fun (X:VP)=>fun t16 H10 =>
 vF (vt .lss 3 16 15 t16 t15) (fun t17 H11 =>
 vD t17 (
 vF (indexAt 197 t14 t16) (fun t18 H12 =>
 vF (loadAt 200 t18) (fun t19 H13 =>
 vF (alloc 200 true undef) (fun f6 H14 =>
 vF (storeS 200 f6 t19) (fun _ H15 =>
 vF (fieldAt 200 f6 0) (fun t21 H16 =>
 vF (loadAt 3 t21) (fun t22 H17 =>
 vF (fieldAt 200 f6 1) (fun t23 H18 =>
 vF (loadAt 3 t23) (fun t24 H19 =>
 vF (fieldAt 200 f6 2) (fun t25 H20 =>
 vF (loadAt 44 t25) (fun t26 H21 =>
 vC 101 #[t10,t22,t24,t26] (fun t27 H22 =>
 vF (vk .add 3 16 .i64 1 t16) (fun t28 H23 =>
 X t28 H23) H22) H21) H20) H19) H18) H17) H16) H15) H14) H13) H12) H11) (
 vF (fieldAt 84 h1 14) (fun t30 H24 =>
 vF (loadAt 9 t30) (fun t31 H25 =>
 vC 130 #[t10,(.int .i64 84),(.int .i64 64),t31] (fun t32 H26 =>
 R (.tuple #[t10,(.int .i64 0)]) H26) H25) H24) H11)) H10) [(.int .i64 0)] H9 ⟨⟩) H8) H7) H6) H5) H4)) H3) H2) H1) h

theorem n87_calls{h0:Value}{R:VP}{h:Heap}(H:n87 h0 R h):CallsH Tryz.prog 87 #[h0] h R ⟨⟩ :=
 callsH_of_eq Tryz.follow (.n none .l (.n none .l (.n none .l (.n none .l (.n none (.n none .l (.n none (.n (some [17]) .l .l) .l)) .l))))) Tryz.func87 kR kR kR H

def n88(a0 b1:Value)(R:VP)(h:Heap):Prop :=
 vF (convert 52 9 a0) (fun t6 H1 =>
 vF (convert 52 9 b1) (fun t8 H2 =>
 vF (vt .eql 9 6 8 t6 t8) (fun t9 H3 =>
 R t9 H3) H2) H1) h

theorem n88_calls{a0 b1:Value}{R:VP}{h:Heap}(H:n88 a0 b1 R h):CallsH Tryz.prog 88 #[a0,b1] h R ⟨⟩ :=
 callsH_of_eq Tryz.follow .l Tryz.func88 kR kR kR H

def n89(h0 tell1:Value)(R:VP)(h:Heap):Prop :=
 vF (box 84 h0) (fun h2 H1 =>
 vF (loadAt 84 h2) (fun t5 H2 =>
 vC 128 #[t5] (fun t6 H3 =>
 vF (vk .neq 31 6 .i64 0 t6) (fun t7 H4 =>
 vD t7 (
 R (.int .i64 0) H4) (
 vF (fieldAt 84 h2 0) (fun t9 H5 =>
 vF (loadAt 3 t9) (fun t10 H6 =>
 vF (binS .shl 2 (.const (.int .i64 1)) (.tmp 10) (.int .i64 1) t10) (fun t11 H7 =>
 InvokeH Tryz.prog tell1 #[t11] H7 (fun t12 H8 =>
 R t12 H8) ⟨⟩) H6) H5) H4)) H3) H2) H1) h

theorem n89_calls{h0 tell1:Value}{R:VP}{h:Heap}(H:n89 h0 tell1 R h):CallsH Tryz.prog 89 #[h0,tell1] h R ⟨⟩ :=
 callsH_of_eq Tryz.follow .l Tryz.func89 kR kR kR H

def n90(c0:Value)(R:VP)(h:Heap):Prop :=
 R c0 h

theorem n90_calls{c0:Value}{R:VP}{h:Heap}(H:n90 c0 R h):CallsH Tryz.prog 90 #[c0] h R ⟨⟩ :=
 callsH_of_eq Tryz.follow .l Tryz.func90 kR kR kR H

def n91(r0 i1:Value)(R:VP)(h:Heap):Prop :=
 vF (nilS r0) (fun t14 H1 =>
 vF (fieldAt 89 t14 2) (fun t15 H2 =>
 vF (fieldAt 84 t15 6) (fun t16 H3 =>
 vF (loadAt 2 t16) (fun t17 H4 =>
 vF (binS .mul 2 (.const (.int .i64 8)) (.tmp 18) (.int .i64 8) i1) (fun t19 H5 =>
 vF (vt .add 2 17 19 t17 t19) (fun t20 H6 =>
 vC 92 #[r0,t20,(.int .i64 8)] (fun t21 H7 =>
 vF (extract t21 0) (fun t22 H8 =>
 vF (extract t21 1) (fun t23 H9 =>
 vF (vk .neq 31 24 .i64 0 t23) (fun t25 H10 =>
 vD t25 (
 R (.tuple #[(.int .i64 0),t23]) H10) (
 vC 85 #[t22,(.int .i64 0),(.int .i64 8)] (fun t29 H11 =>
 vF (extract t29 0) (fun t30 H12 =>
 vF (extract t29 1) (fun t31 H13 =>
 vF (vk .eql 44 32 .u64 0 t30) (fun t33 H14 =>
 vD t33 (
 R (.tuple #[(.int .i64 0),(.int .i64 0)]) H14) (
 vG (nilS r0) (fun t36 _ =>
 vG (fieldAt 89 t36 0) (fun t37 _ =>
 vG (loadAt 27 t37) (fun t38 _ =>
 vG (nilS r0) (fun t40 _ =>
 vG (fieldAt 89 t40 1) (fun t41 _ =>
 vG (loadAt 9 t41) (fun t42 _ =>
 vC 11 #[t38,t42] (fun t43 H15 =>
 vG (extract t43 0) (fun t44 _ =>
 vG (extract t43 1) (fun t45 _ =>
 vF (vk .neq 31 46 .i64 0 t45) (fun t47 H16 =>
 vD t47 (
 R (.tuple #[(.int .i64 0),t45]) H16) (
 vF (vk .gtr 44 49 .u64 268435456 t30) (fun t50 H17 =>
 vJ t50 false (vV t30) (fun t52 H19 =>
 vJ t50 false (vF (convert 44 2 t52)) (fun t53 H21 =>
 vJ t50 false (vV r0) (fun t54 H23 =>
 vJ t50 false (vF (nilS t54)) (fun t55 H25 =>
 vJ t50 false (vF (fieldAt 89 t55 3)) (fun t56 H27 =>
 vJ t50 false (vF (loadAt 2 t56)) (fun t57 H29 =>
 vJ t50 false (vF (vt .rem 2 53 57 t53 t57)) (fun t58 H31 =>
 vJ t50 false (vF (vk .neq 2 58 .i64 0 t58)) (fun t59 H33 =>
 vF (pickS t50 (.bool true) t59) (fun t60 H34 =>
 vJ t60 false (vV t30) (fun t62 H36 =>
 vJ t60 false (vF (convert 44 2 t62)) (fun t63 H38 =>
 vJ t60 false (vV r0) (fun t64 H40 =>
 vJ t60 false (vF (nilS t64)) (fun t65 H42 =>
 vJ t60 false (vF (fieldAt 89 t65 3)) (fun t66 H44 =>
 vJ t60 false (vF (loadAt 2 t66)) (fun t67 H46 =>
 vJ t60 false (vF (vt .add 2 63 67 t63 t67)) (fun t68 H48 =>
 vJ t60 false (vV t44) (fun t69 H50 =>
 vJ t60 false (vF (vt .gtr 2 68 69 t68 t69)) (fun t70 H52 =>
 vF (pickS t60 (.bool true) t70) (fun t71 H53 =>
 vD t71 (
 R (.tuple #[(.int .i64 0),(.int .i64 9)]) H53) (
 vF (convert 44 2 t30) (fun t73 H54 =>
 R (.tuple #[t73,(.int .i64 0)]) H54) H53)) H52) H50) H48) H46) H44) H42) H40) H38) H36) H34) H33) H31) H29) H27) H25) H23) H21) H19) H17) H16)) H15) #[]) #[]) H14) H14) #[]) #[]) H14) #[]) #[])) H13) H12) H11) H10)) H9) H8) H7) H6) H5) H4) H3) H2) H1) h

theorem n91_calls{r0 i1:Value}{R:VP}{h:Heap}(H:n91 r0 i1 R h):CallsH Tryz.prog 91 #[r0,i1] h R ⟨⟩ :=
 callsH_of_eq Tryz.follow .l Tryz.func91 kR kR kR H

def n92(r0 at1 n2:Value)(R:VP)(h:Heap):Prop :=
 vG (nilS r0) (fun t12 _ =>
 vG (fieldAt 89 t12 0) (fun t13 _ =>
 vG (loadAt 27 t13) (fun t14 _ =>
 vG (nilS r0) (fun t16 _ =>
 vG (fieldAt 89 t16 1) (fun t17 _ =>
 vG (loadAt 9 t17) (fun t18 _ =>
 vC 33 #[t14,t18,at1,n2] (fun t21 H1 =>
 vG (extract t21 0) (fun t22 _ =>
 vG (extract t21 1) (fun t23 _ =>
 vF (vk .eql 31 25 .i64 4 t23) (fun t26 H2 =>
 vJ t26 false (vV t23) (fun t28 H4 =>
 vJ t26 false (vF (vk .eql 31 28 .i64 0 t28)) (fun t29 H6 =>
 vJ t26 false (vV t29) (fun t30 H8 =>
 vJ t30 true (vV t22) (fun t31 H10 =>
 vJ t30 true (vF (len_ #[52] 3 #[t31])) (fun t32 H12 =>
 vJ t30 true (vV n2) (fun t33 H14 =>
 vJ t30 true (vF (vt .lss 3 32 33 t32 t33)) (fun t34 H16 =>
 vJ t26 false (vF (pickS t30 t34 (.bool false))) (fun t35 H18 =>
 vF (pickS t26 (.bool true) t35) (fun t36 H19 =>
 vD t36 (
 R (.tuple #[(.slice none 0 0),(.int .i64 9)]) H19) (
 vF (vk .neq 31 38 .i64 0 t23) (fun t39 H20 =>
 vD t39 (
 R (.tuple #[(.slice none 0 0),t23]) H20) (
 R (.tuple #[t22,(.int .i64 0)]) H20)) H19)) H18) H16) H14) H12) H10) H8) H6) H4) H2) H1) #[]) #[]) h) h) #[]) #[]) h) #[]) #[]

theorem n92_calls{r0 at1 n2:Value}{R:VP}{h:Heap}(H:n92 r0 at1 n2 R h):CallsH Tryz.prog 92 #[r0,at1,n2] h R ⟨⟩ :=
 callsH_of_eq Tryz.follow .l Tryz.func92 kR kR kR H

end Go.Proofs.YtdccfkffabngjaaGreat
