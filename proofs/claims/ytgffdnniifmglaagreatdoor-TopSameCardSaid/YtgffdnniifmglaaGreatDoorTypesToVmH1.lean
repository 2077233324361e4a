/- A part of the proof: laws of a small machine of values, or what one function answers, proved against the model; no conditions beyond those in each theorem. -/
import Derived.Test.YtgffdnniifmglaaGreatDoorProg
import Derived.Test.YtgffdnniifmglaaGreatDoorVmYToKh3
import Derived.ProofKit
set_option linter.unusedVariables false
set_option linter.unusedSimpArgs false
set_option linter.unusedSectionVars false
set_option maxRecDepth 20000
set_option maxHeartbeats 8000000
section
namespace Go.Vm.Ty
open Go.Proofs
set_option maxRecDepth 100000
theorem zN:aL Tryz.prog 2=some false:=by kernel_rfl
theorem Sk:ar Tryz.prog 3=some 1:=by kernel_rfl
theorem PH:ba Tryz.prog 3=some [.i64 0]:=by kernel_rfl
theorem RF:aL Tryz.prog 3=some false:=by kernel_rfl
theorem Sl:ar Tryz.prog 4=some 1:=by kernel_rfl
theorem zero4:ba Tryz.prog 4=some [.bool false]:=by kernel_rfl
theorem RG:aL Tryz.prog 4=some false:=by kernel_rfl
theorem Sm:ar Tryz.prog 5=some 1:=by kernel_rfl
theorem Sn:fc Tryz.prog 5=some 1:=by kernel_rfl
theorem PI:ba Tryz.prog 5=some [.u8 0#8]:=by kernel_rfl
theorem RH:aL Tryz.prog 5=some false:=by kernel_rfl
theorem So:ar Tryz.prog 9=some 1:=by kernel_rfl
theorem Sp:fc Tryz.prog 9=some 16:=by kernel_rfl
theorem PJ:ba Tryz.prog 9=some [.str []]:=by kernel_rfl
theorem PK:aY Tryz.prog 9=none:=by kernel_rfl
theorem RI:aL Tryz.prog 9=some false:=by kernel_rfl
theorem PL:dI Tryz.prog 22=some 3:=by kernel_rfl
theorem RJ:ar Tryz.prog 27=some 1:=by kernel_rfl
theorem PM:aL Tryz.prog 27=some false:=by kernel_rfl
theorem RK:ar Tryz.prog 29=some 7:=by kernel_rfl
theorem Nx:ba Tryz.prog 29=some [.i64 0,.i64 0,.i64 0,.i64 0,.u32 0#32,.u32 0#32,.str []]:=by kernel_rfl
theorem Ny:aY Tryz.prog 29=none:=by kernel_rfl
theorem PN:aL Tryz.prog 29=some true:=by kernel_rfl
theorem Km:aq Tryz.prog 29 0=some (0,3):=by kernel_rfl
theorem Kn:aq Tryz.prog 29 1=some (1,3):=by kernel_rfl
theorem Ko:aq Tryz.prog 29 2=some (2,3):=by kernel_rfl
theorem Kp:aq Tryz.prog 29 3=some (3,3):=by kernel_rfl
theorem Kq:aq Tryz.prog 29 4=some (4,27):=by kernel_rfl
theorem Kr:aq Tryz.prog 29 5=some (5,27):=by kernel_rfl
theorem Ks:aq Tryz.prog 29 6=some (6,9):=by kernel_rfl
theorem PO:bq Tryz.prog 29=some ([.i64 0,.i64 0,.i64 0,.i64 0,.u32 0#32,.u32 0#32,.str []],.inl [(0,1),(1,1),(2,1),(3,1),(4,1),(5,1),(6,1)]):=by kernel_rfl
theorem RL:ar Tryz.prog 30=some 1:=by kernel_rfl
theorem PP:aL Tryz.prog 30=some false:=by kernel_rfl
theorem RM:ar Tryz.prog 34=some 3:=by kernel_rfl
theorem RN:fc Tryz.prog 34=some 24:=by kernel_rfl
theorem Nz:ba Tryz.prog 34=some [.u32 0#32,.u32 0#32,.str []]:=by kernel_rfl
theorem NA:aY Tryz.prog 34=none:=by kernel_rfl
theorem PQ:aL Tryz.prog 34=some true:=by kernel_rfl
theorem Kt:aq Tryz.prog 34 0=some (0,27):=by kernel_rfl
theorem Ku:aq Tryz.prog 34 1=some (1,27):=by kernel_rfl
theorem Kv:aq Tryz.prog 34 2=some (2,9):=by kernel_rfl
theorem PR:bq Tryz.prog 34=some ([.u32 0#32,.u32 0#32,.str []],.inl [(0,1),(1,1),(2,1)]):=by kernel_rfl
theorem RO:ar Tryz.prog 35=some 1:=by kernel_rfl
theorem PS:aL Tryz.prog 35=some false:=by kernel_rfl
theorem PT:dI Tryz.prog 35=some 34:=by kernel_rfl
theorem PU:dI Tryz.prog 37=some 43:=by kernel_rfl
theorem RP:ar Tryz.prog 42=some 3:=by kernel_rfl
theorem RQ:fc Tryz.prog 42=some 32:=by kernel_rfl
theorem NB:ba Tryz.prog 42=some [.i64 0,.u32 0#32,.str []]:=by kernel_rfl
theorem NC:aY Tryz.prog 42=none:=by kernel_rfl
theorem PV:aL Tryz.prog 42=some true:=by kernel_rfl
theorem PW:bq Tryz.prog 42=some ([.i64 0,.u32 0#32,.str []],.inl [(0,1),(1,1),(2,1)]):=by kernel_rfl
theorem RR:ar Tryz.prog 43=some 1:=by kernel_rfl
theorem RS:fc Tryz.prog 43=some 24:=by kernel_rfl
theorem ND:ba Tryz.prog 43=some [.nilSlice]:=by kernel_rfl
theorem PX:aL Tryz.prog 43=some false:=by kernel_rfl
theorem PY:dI Tryz.prog 43=some 42:=by kernel_rfl
theorem RT:ar Tryz.prog 48=some 1:=by kernel_rfl
theorem PZ:aL Tryz.prog 48=some false:=by kernel_rfl
theorem P0:dI Tryz.prog 48=some 51:=by kernel_rfl
theorem NE:aY Tryz.prog 50=none:=by kernel_rfl
theorem Kw:aq Tryz.prog 50 0=some (0,48):=by kernel_rfl
theorem Kx:aq Tryz.prog 50 1=some (1,35):=by kernel_rfl
theorem P1:bq Tryz.prog 50=some ([.nilSlice,.nilSlice],.inl [(0,1),(1,1)]):=by kernel_rfl
theorem RU:ar Tryz.prog 51=some 1:=by kernel_rfl
theorem RV:fc Tryz.prog 51=some 8:=by kernel_rfl
theorem NF:ba Tryz.prog 51=some [.nilPtr]:=by kernel_rfl
theorem P2:aL Tryz.prog 51=some false:=by kernel_rfl
theorem RW:ar Tryz.prog 52=some 1:=by kernel_rfl
theorem P3:aL Tryz.prog 52=some false:=by kernel_rfl
theorem NG:aY Tryz.prog 54=none:=by kernel_rfl
theorem Ky:aq Tryz.prog 54 0=some (0,52):=by kernel_rfl
theorem Kz:aq Tryz.prog 54 1=some (1,43):=by kernel_rfl
theorem P4:bq Tryz.prog 54=some ([.nilPtr,.nilSlice],.inl [(0,1),(1,1)]):=by kernel_rfl
theorem RX:ar Tryz.prog 59=some 1:=by kernel_rfl
theorem P5:aL Tryz.prog 59=some false:=by kernel_rfl
theorem P6:dI Tryz.prog 59=some 9:=by kernel_rfl
theorem P7:dI Tryz.prog 62=some 5:=by kernel_rfl
theorem P8:dI Tryz.prog 64=some 72:=by kernel_rfl
theorem RY:ar Tryz.prog 69=some 2:=by kernel_rfl
theorem NH:ba Tryz.prog 69=some [.u32 0#32,.i64 0]:=by kernel_rfl
theorem NI:aY Tryz.prog 69=none:=by kernel_rfl
theorem P9:aL Tryz.prog 69=some true:=by kernel_rfl
theorem KA:aq Tryz.prog 69 0=some (0,27):=by kernel_rfl
theorem KB:aq Tryz.prog 69 1=some (1,3):=by kernel_rfl
theorem Qa:bq Tryz.prog 69=some ([.u32 0#32,.i64 0],.inl [(0,1),(1,1)]):=by kernel_rfl
theorem RZ:ar Tryz.prog 70=some 1:=by kernel_rfl
theorem Qb:aL Tryz.prog 70=some false:=by kernel_rfl
theorem Qc:dI Tryz.prog 70=some 69:=by kernel_rfl
theorem R0:ar Tryz.prog 72=some 4:=by kernel_rfl
theorem R1:fc Tryz.prog 72=some 64:=by kernel_rfl
theorem NJ:ba Tryz.prog 72=some [.str [],.str [],.u32 0#32,.nilSlice]:=by kernel_rfl
theorem NK:aY Tryz.prog 72=none:=by kernel_rfl
theorem Qd:aL Tryz.prog 72=some true:=by kernel_rfl
theorem KC:aq Tryz.prog 72 0=some (0,9):=by kernel_rfl
theorem KD:aq Tryz.prog 72 1=some (1,9):=by kernel_rfl
theorem KE:aq Tryz.prog 72 2=some (2,27):=by kernel_rfl
theorem KF:aq Tryz.prog 72 3=some (3,70):=by kernel_rfl
theorem Qe:bq Tryz.prog 72=some ([.str [],.str [],.u32 0#32,.nilSlice],.inl [(0,1),(1,1),(2,1),(3,1)]):=by kernel_rfl
theorem R2:ar Tryz.prog 78=some 1:=by kernel_rfl
theorem NL:ba Tryz.prog 78=some [.u64 0#64]:=by kernel_rfl
theorem Qf:aL Tryz.prog 78=some false:=by kernel_rfl
theorem R3:ar Tryz.prog 79=some 1:=by kernel_rfl
theorem Qg:aL Tryz.prog 79=some false:=by kernel_rfl
theorem Qh:dI Tryz.prog 79=some 89:=by kernel_rfl
theorem R4:ar Tryz.prog 80=some 1:=by kernel_rfl
theorem Qi:aL Tryz.prog 80=some false:=by kernel_rfl
theorem R5:ar Tryz.prog 81=some 1:=by kernel_rfl
theorem Qj:aL Tryz.prog 81=some false:=by kernel_rfl
theorem NM:aY Tryz.prog 83=none:=by kernel_rfl
theorem KG:aq Tryz.prog 83 0=some (0,27):=by kernel_rfl
theorem KH:aq Tryz.prog 83 1=some (1,9):=by kernel_rfl
theorem KI:aq Tryz.prog 83 2=some (2,9):=by kernel_rfl
theorem KJ:aq Tryz.prog 83 3=some (3,9):=by kernel_rfl
theorem KK:aq Tryz.prog 83 4=some (4,3):=by kernel_rfl
theorem KL:aq Tryz.prog 83 5=some (5,78):=by kernel_rfl
theorem KM:aq Tryz.prog 83 6=some (6,9):=by kernel_rfl
theorem KN:aq Tryz.prog 83 7=some (7,27):=by kernel_rfl
theorem KO:aq Tryz.prog 83 8=some (8,3):=by kernel_rfl
theorem KP:aq Tryz.prog 83 9=some (9,3):=by kernel_rfl
theorem Hv:aq Tryz.prog 83 10=some (10,4):=by kernel_rfl
theorem Hw:aq Tryz.prog 83 11=some (11,79):=by kernel_rfl
theorem Hx:aq Tryz.prog 83 12=some (12,80):=by kernel_rfl
theorem Hy:aq Tryz.prog 83 13=some (13,81):=by kernel_rfl
theorem Hz:aq Tryz.prog 83 14=some (14,35):=by kernel_rfl
theorem HA:aq Tryz.prog 83 15=some (15,43):=by kernel_rfl
theorem Qk:bq Tryz.prog 83=some ([.u32 0#32,.str [],.str [],.str [],.i64 0,.u64 0#64,.str [],.u32 0#32,.i64 0,.i64 0,.bool false,.nilSlice,.nilPtr,.nilPtr,.nilSlice,.nilSlice],.inl [(0,1),(1,1),(2,1),(3,1),(4,1),(5,1),(6,1),(7,1),(8,1),(9,1),(10,1),(11,1),(12,1),(13,1),(14,1),(15,1)]):=by kernel_rfl
theorem R6:ar Tryz.prog 89=some 1:=by kernel_rfl
theorem R7:fc Tryz.prog 89=some 8:=by kernel_rfl
theorem NO:ba Tryz.prog 89=some [.nilPtr]:=by kernel_rfl
theorem Ql:aL Tryz.prog 89=some false:=by kernel_rfl
theorem R8:ar Tryz.prog 92=some 1:=by kernel_rfl
theorem Qm:aL Tryz.prog 92=some false:=by kernel_rfl
theorem Sa:ar Tryz.prog 95=some 2:=by kernel_rfl
theorem NP:ba Tryz.prog 95=some [.i64 0,.i64 0]:=by kernel_rfl
theorem NQ:aY Tryz.prog 95=none:=by kernel_rfl
theorem Qn:aL Tryz.prog 95=some true:=by kernel_rfl
theorem KQ:aq Tryz.prog 95 0=some (0,3):=by kernel_rfl
theorem KR:aq Tryz.prog 95 1=some (1,3):=by kernel_rfl
theorem Qo:bq Tryz.prog 95=some ([.i64 0,.i64 0],.inl [(0,1),(1,1)]):=by kernel_rfl
theorem Sb:ar Tryz.prog 96=some 1:=by kernel_rfl
theorem Qp:aL Tryz.prog 96=some false:=by kernel_rfl
theorem Sc:ar Tryz.prog 97=some 1:=by kernel_rfl
theorem NR:ba Tryz.prog 97=some [.nilPtr]:=by kernel_rfl
theorem Qq:aL Tryz.prog 97=some false:=by kernel_rfl
theorem NS:aY Tryz.prog 99=none:=by kernel_rfl
theorem KS:aq Tryz.prog 99 0=some (0,52):=by kernel_rfl
theorem KT:aq Tryz.prog 99 1=some (1,92):=by kernel_rfl
theorem KU:aq Tryz.prog 99 2=some (2,3):=by kernel_rfl
theorem KV:aq Tryz.prog 99 3=some (3,9):=by kernel_rfl
theorem KW:aq Tryz.prog 99 4=some (4,9):=by kernel_rfl
theorem KX:aq Tryz.prog 99 5=some (5,27):=by kernel_rfl
theorem KY:aq Tryz.prog 99 6=some (6,3):=by kernel_rfl
theorem KZ:aq Tryz.prog 99 7=some (7,3):=by kernel_rfl
theorem La:aq Tryz.prog 99 8=some (8,4):=by kernel_rfl
theorem Lb:aq Tryz.prog 99 9=some (9,95):=by kernel_rfl
theorem HB:aq Tryz.prog 99 10=some (11,9):=by kernel_rfl
theorem HC:aq Tryz.prog 99 11=some (12,3):=by kernel_rfl
theorem HD:aq Tryz.prog 99 12=some (13,59):=by kernel_rfl
theorem HE:aq Tryz.prog 99 13=some (14,96):=by kernel_rfl
theorem HF:aq Tryz.prog 99 14=some (15,27):=by kernel_rfl
theorem HG:aq Tryz.prog 99 15=some (16,9):=by kernel_rfl
theorem HH:aq Tryz.prog 99 16=some (17,97):=by kernel_rfl
theorem HI:aq Tryz.prog 99 17=some (18,97):=by kernel_rfl
theorem HJ:aq Tryz.prog 99 18=some (19,97):=by kernel_rfl
theorem Qr:bq Tryz.prog 99=some ([.nilPtr,.nilPtr,.i64 0,.str [],.str [],.u32 0#32,.i64 0,.i64 0,.bool false,.i64 0,.i64 0,.str [],.i64 0,.nilSlice,.nilPtr,.u32 0#32,.str [],.nilPtr,.nilPtr,.nilPtr],.inl [(0,1),(1,1),(2,1),(3,1),(4,1),(5,1),(6,1),(7,1),(8,1),(9,2),(11,1),(12,1),(13,1),(14,1),(15,1),(16,1),(17,1),(18,1),(19,1)]):=by kernel_rfl
theorem Qs:ar Tryz.prog 125=some 1:=by kernel_rfl
theorem NT:aL Tryz.prog 125=some false:=by kernel_rfl
theorem Qt:ar Tryz.prog 126=some 2:=by kernel_rfl
theorem Qu:ar Tryz.prog 128=some 4:=by kernel_rfl
theorem Lc:aY Tryz.prog 128=none:=by kernel_rfl
theorem HK:aq Tryz.prog 128 0=some (0,126):=by kernel_rfl
theorem HL:aq Tryz.prog 128 1=some (2,4):=by kernel_rfl
theorem HM:aq Tryz.prog 128 2=some (3,3):=by kernel_rfl
theorem NU:bq Tryz.prog 128=some ([.nilPtr,.nilPtr,.bool false,.i64 0],.inl [(0,2),(2,1),(3,1)]):=by kernel_rfl
theorem Ld:aY Tryz.prog 130=none:=by kernel_rfl
theorem HN:aq Tryz.prog 130 0=some (0,128):=by kernel_rfl
theorem HO:aq Tryz.prog 130 1=some (4,3):=by kernel_rfl
theorem NV:bq Tryz.prog 130=some ([.nilPtr,.nilPtr,.bool false,.i64 0,.i64 0],.inl [(0,4),(4,1)]):=by kernel_rfl
theorem Le:aY Tryz.prog 133=none:=by kernel_rfl
theorem HP:aq Tryz.prog 133 0=some (0,3):=by kernel_rfl
theorem HQ:aq Tryz.prog 133 1=some (1,131):=by kernel_rfl
theorem NW:bq Tryz.prog 133=some ([.i64 0,.junk],.inl [(0,1),(1,1)]):=by kernel_rfl
theorem Qv:ar Tryz.prog 136=some 5:=by kernel_rfl
theorem Lf:aY Tryz.prog 136=none:=by kernel_rfl
theorem HR:aq Tryz.prog 136 0=some (0,4):=by kernel_rfl
theorem HS:aq Tryz.prog 136 1=some (1,3):=by kernel_rfl
theorem HT:aq Tryz.prog 136 2=some (2,3):=by kernel_rfl
theorem HU:aq Tryz.prog 136 3=some (3,4):=by kernel_rfl
theorem HV:aq Tryz.prog 136 4=some (4,3):=by kernel_rfl
theorem NX:bq Tryz.prog 136=some ([.bool false,.i64 0,.i64 0,.bool false,.i64 0],.inl [(0,1),(1,1),(2,1),(3,1),(4,1)]):=by kernel_rfl
theorem Qw:ar Tryz.prog 138=some 1:=by kernel_rfl
theorem NY:aL Tryz.prog 138=some false:=by kernel_rfl
theorem Qx:ar Tryz.prog 140=some 4:=by kernel_rfl
theorem Lg:aY Tryz.prog 140=some ⟨[],0⟩:=by kernel_rfl
theorem HW:aq Tryz.prog 140 0=some (0,138):=by kernel_rfl
theorem HX:aq Tryz.prog 140 1=some (1,3):=by kernel_rfl
theorem HY:aq Tryz.prog 140 2=some (2,27):=by kernel_rfl
theorem HZ:aq Tryz.prog 140 3=some (3,27):=by kernel_rfl
theorem NZ:bq Tryz.prog 140=some ([.nilPtr,.i64 0,.u32 0#32,.u32 0#32],.inl [(0,1),(1,1),(2,1),(3,1)]):=by kernel_rfl
theorem Qy:ar Tryz.prog 145=some 1:=by kernel_rfl
theorem N0:aL Tryz.prog 145=some false:=by kernel_rfl
theorem Qz:ar Tryz.prog 146=some 5:=by kernel_rfl
theorem Lh:ba Tryz.prog 146=some [.nilFn,.nilFn,.nilFn,.nilFn,.nilFn]:=by kernel_rfl
theorem Li:aY Tryz.prog 146=none:=by kernel_rfl
theorem N4:bq Tryz.prog 146=some ([.nilFn,.nilFn,.nilFn,.nilFn,.nilFn],.inr 1):=by kernel_rfl
theorem Lj:ba Tryz.prog 148=some [.u8 0#8,.u8 0#8,.u8 0#8,.u8 0#8,.u8 0#8,.u8 0#8,.u8 0#8,.u8 0#8,.u8 0#8,.u8 0#8,.u8 0#8,.u8 0#8,.u8 0#8,.u8 0#8,.u8 0#8,.u8 0#8,.u8 0#8,.u8 0#8,.u8 0#8,.u8 0#8,.u8 0#8,.u8 0#8,.u8 0#8,.u8 0#8,.u8 0#8,.u8 0#8,.u8 0#8,.u8 0#8,.u8 0#8,.u8 0#8,.u8 0#8,.u8 0#8,.u8 0#8,.u8 0#8,.u8 0#8,.u8 0#8,.u8 0#8,.u8 0#8,.u8 0#8,.u8 0#8,.u8 0#8,.u8 0#8,.u8 0#8,.u8 0#8,.u8 0#8,.u8 0#8,.u8 0#8,.u8 0#8,.u8 0#8,.u8 0#8,.u8 0#8,.u8 0#8,.u8 0#8,.u8 0#8,.u8 0#8,.u8 0#8,.u8 0#8,.u8 0#8,.u8 0#8,.u8 0#8,.u8 0#8,.u8 0#8,.u8 0#8,.u8 0#8]:=by kernel_rfl
theorem Lk:aY Tryz.prog 148=none:=by kernel_rfl
theorem Ll:ba Tryz.prog 149=some [.u64 0#64,.u64 0#64,.u64 0#64,.u64 0#64,.u64 0#64]:=by kernel_rfl
theorem Lm:aY Tryz.prog 149=none:=by kernel_rfl
theorem QA:ar Tryz.prog 150=some 5:=by kernel_rfl
theorem Ln:ba Tryz.prog 150=some [.u64 0#64,.u64 0#64,.u64 0#64,.u64 0#64,.u64 0#64]:=by kernel_rfl
theorem Lo:aY Tryz.prog 150=none:=by kernel_rfl
theorem N5:aL Tryz.prog 150=some true:=by kernel_rfl
theorem N6:bq Tryz.prog 150=some ([.u64 0#64,.u64 0#64,.u64 0#64,.u64 0#64,.u64 0#64],.inr 1):=by kernel_rfl
theorem QB:ar Tryz.prog 162=some 1:=by kernel_rfl
theorem N7:aL Tryz.prog 162=some false:=by kernel_rfl
theorem QC:ar Tryz.prog 164=some 2:=by kernel_rfl
theorem Lq:ba Tryz.prog 164=some [.str [],.str []]:=by kernel_rfl
theorem Lr:aY Tryz.prog 164=none:=by kernel_rfl
theorem N8:aL Tryz.prog 164=some true:=by kernel_rfl
theorem Ia:aq Tryz.prog 164 0=some (0,9):=by kernel_rfl
theorem Ib:aq Tryz.prog 164 1=some (1,9):=by kernel_rfl
theorem N9:bq Tryz.prog 164=some ([.str [],.str []],.inl [(0,1),(1,1)]):=by kernel_rfl
theorem Ls:aY Tryz.prog 166=none:=by kernel_rfl
theorem Ic:aq Tryz.prog 166 0=some (0,162):=by kernel_rfl
theorem Id:aq Tryz.prog 166 1=some (1,164):=by kernel_rfl
theorem Ie:aq Tryz.prog 166 2=some (3,3):=by kernel_rfl
theorem If:aq Tryz.prog 166 3=some (4,3):=by kernel_rfl
theorem Ig:aq Tryz.prog 166 4=some (5,3):=by kernel_rfl
theorem Ih:aq Tryz.prog 166 5=some (6,4):=by kernel_rfl
theorem Oa:bq Tryz.prog 166=some ([.nilPtr,.str [],.str [],.i64 0,.i64 0,.i64 0,.bool false],.inl [(0,1),(1,2),(3,1),(4,1),(5,1),(6,1)]):=by kernel_rfl
theorem QD:ar Tryz.prog 169=some 4:=by kernel_rfl
theorem Lt:ba Tryz.prog 169=some [.i64 0,.str [],.str [],.str []]:=by kernel_rfl
theorem Lu:aY Tryz.prog 169=none:=by kernel_rfl
theorem Ob:aL Tryz.prog 169=some true:=by kernel_rfl
theorem Ii:aq Tryz.prog 169 0=some (0,3):=by kernel_rfl
theorem Ij:aq Tryz.prog 169 1=some (1,9):=by kernel_rfl
theorem Ik:aq Tryz.prog 169 2=some (2,9):=by kernel_rfl
theorem Il:aq Tryz.prog 169 3=some (3,9):=by kernel_rfl
theorem Oc:bq Tryz.prog 169=some ([.i64 0,.str [],.str [],.str []],.inl [(0,1),(1,1),(2,1),(3,1)]):=by kernel_rfl
theorem QE:ar Tryz.prog 179=some 6:=by kernel_rfl
theorem Lv:ba Tryz.prog 179=some [.i64 0,.u32 0#32,.str [],.i64 0,.i64 0,.i64 0]:=by kernel_rfl
theorem Lw:aY Tryz.prog 179=none:=by kernel_rfl
theorem Od:aL Tryz.prog 179=some true:=by kernel_rfl
theorem Im:aq Tryz.prog 179 0=some (0,3):=by kernel_rfl
theorem In:aq Tryz.prog 179 1=some (1,27):=by kernel_rfl
theorem Io:aq Tryz.prog 179 2=some (2,9):=by kernel_rfl
theorem Ip:aq Tryz.prog 179 3=some (3,95):=by kernel_rfl
theorem Iq:aq Tryz.prog 179 4=some (5,3):=by kernel_rfl
theorem Oe:bq Tryz.prog 179=some ([.i64 0,.u32 0#32,.str [],.i64 0,.i64 0,.i64 0],.inl [(0,1),(1,1),(2,1),(3,2),(5,1)]):=by kernel_rfl
theorem Og:dI Tryz.prog 191=some 97:=by kernel_rfl
theorem QF:ar Tryz.prog 194=some 8:=by kernel_rfl
theorem Lx:ba Tryz.prog 194=some [.u32 0#32,.u32 0#32,.u32 0#32,.u32 0#32,.u32 0#32,.u32 0#32,.u32 0#32,.u32 0#32]:=by kernel_rfl
theorem Ly:aY Tryz.prog 194=none:=by kernel_rfl
theorem Oh:aL Tryz.prog 194=some true:=by kernel_rfl
theorem Oi:bq Tryz.prog 194=some ([.u32 0#32,.u32 0#32,.u32 0#32,.u32 0#32,.u32 0#32,.u32 0#32,.u32 0#32,.u32 0#32],.inr 1):=by kernel_rfl
theorem Lz:ba Tryz.prog 199=some [.u64 0#64,.u64 0#64,.u64 0#64,.u64 0#64]:=by kernel_rfl
theorem LA:aY Tryz.prog 199=none:=by kernel_rfl
theorem Oj:bq Tryz.prog 199=some ([.u64 0#64,.u64 0#64,.u64 0#64,.u64 0#64],.inr 1):=by kernel_rfl
theorem QG:ar Tryz.prog 201=some 2:=by kernel_rfl
theorem LB:ba Tryz.prog 201=some [.u64 0#64,.u64 0#64]:=by kernel_rfl
theorem LC:aY Tryz.prog 201=none:=by kernel_rfl
theorem Ok:aL Tryz.prog 201=some true:=by kernel_rfl
theorem Ir:aq Tryz.prog 201 0=some (0,78):=by kernel_rfl
theorem Iu:aq Tryz.prog 201 1=some (1,78):=by kernel_rfl
theorem Ol:bq Tryz.prog 201=some ([.u64 0#64,.u64 0#64],.inl [(0,1),(1,1)]):=by kernel_rfl
theorem QH:ar Tryz.prog 202=some 10:=by kernel_rfl
theorem LD:ba Tryz.prog 202=some [.u64 0#64,.u64 0#64,.u64 0#64,.u64 0#64,.u64 0#64,.u64 0#64,.u64 0#64,.u64 0#64,.u64 0#64,.u64 0#64]:=by kernel_rfl
theorem LE:aY Tryz.prog 202=none:=by kernel_rfl
theorem Om:aL Tryz.prog 202=some true:=by kernel_rfl
theorem On:dI Tryz.prog 205=some 78:=by kernel_rfl
theorem QI:ar Tryz.prog 210=some 1:=by kernel_rfl
theorem Oo:aL Tryz.prog 210=some false:=by kernel_rfl
theorem QJ:ar Tryz.prog 218=some 1:=by kernel_rfl
theorem Oq:aL Tryz.prog 218=some false:=by kernel_rfl
theorem LF:aY Tryz.prog 220=none:=by kernel_rfl
theorem Iv:aq Tryz.prog 220 0=some (0,218):=by kernel_rfl
theorem Iw:aq Tryz.prog 220 1=some (1,30):=by kernel_rfl
theorem Ot:bq Tryz.prog 220=some ([.nilPtr,.i64 0],.inl [(0,1),(1,1)]):=by kernel_rfl
theorem QK:ar Tryz.prog 222=some 5:=by kernel_rfl
theorem LG:ba Tryz.prog 222=some [.nilIface,.str [],.str [],.str [],.u64 0#64]:=by kernel_rfl
theorem LH:aY Tryz.prog 222=none:=by kernel_rfl
theorem Ou:aL Tryz.prog 222=some true:=by kernel_rfl
theorem Ix:aq Tryz.prog 222 0=some (0,210):=by kernel_rfl
theorem Iy:aq Tryz.prog 222 1=some (1,9):=by kernel_rfl
theorem Iz:aq Tryz.prog 222 2=some (2,9):=by kernel_rfl
theorem IA:aq Tryz.prog 222 3=some (3,9):=by kernel_rfl
theorem IB:aq Tryz.prog 222 4=some (4,78):=by kernel_rfl
theorem Ov:bq Tryz.prog 222=some ([.nilIface,.str [],.str [],.str [],.u64 0#64],.inl [(0,1),(1,1),(2,1),(3,1),(4,1)]):=by kernel_rfl
theorem LI:aY Tryz.prog 224=none:=by kernel_rfl
theorem IC:aq Tryz.prog 224 0=some (0,222):=by kernel_rfl
theorem ID:aq Tryz.prog 224 1=some (5,169):=by kernel_rfl
theorem IE:aq Tryz.prog 224 2=some (9,9):=by kernel_rfl
theorem IF:aq Tryz.prog 224 3=some (10,27):=by kernel_rfl
theorem Ow:bq Tryz.prog 224=some ([.nilIface,.str [],.str [],.str [],.u64 0#64,.i64 0,.str [],.str [],.str [],.str [],.u32 0#32],.inl [(0,5),(5,4),(9,1),(10,1)]):=by kernel_rfl
theorem LJ:aY Tryz.prog 235=none:=by kernel_rfl
theorem IG:aq Tryz.prog 235 0=some (0,222):=by kernel_rfl
theorem IH:aq Tryz.prog 235 1=some (5,3):=by kernel_rfl
theorem II:aq Tryz.prog 235 2=some (6,27):=by kernel_rfl
theorem IJ:aq Tryz.prog 235 3=some (7,9):=by kernel_rfl
theorem IK:aq Tryz.prog 235 4=some (8,9):=by kernel_rfl
theorem Ox:bq Tryz.prog 235=some ([.nilIface,.str [],.str [],.str [],.u64 0#64,.i64 0,.u32 0#32,.str [],.str []],.inl [(0,5),(5,1),(6,1),(7,1),(8,1)]):=by kernel_rfl
theorem LK:ba Tryz.prog 243=some [.u32 0#32,.u32 0#32,.u32 0#32,.u32 0#32,.u32 0#32,.u32 0#32,.u32 0#32,.u32 0#32,.u32 0#32,.u32 0#32,.u32 0#32,.u32 0#32,.u32 0#32,.u32 0#32,.u32 0#32,.u32 0#32]:=by kernel_rfl
theorem LL:aY Tryz.prog 243=none:=by kernel_rfl
theorem LM:ba Tryz.prog 244=some [.u32 0#32,.u32 0#32,.u32 0#32,.u32 0#32,.u32 0#32,.u32 0#32,.u32 0#32,.u32 0#32,.u32 0#32,.u32 0#32,.u32 0#32,.u32 0#32,.u32 0#32,.u32 0#32,.u32 0#32,.u32 0#32]:=by kernel_rfl
theorem LN:aY Tryz.prog 244=none:=by kernel_rfl
theorem Oy:dI Tryz.prog 245=some 27:=by kernel_rfl
theorem QL:ar Tryz.prog 246=some 4:=by kernel_rfl
theorem LO:ba Tryz.prog 246=some [.i64 0,.i64 0,.i64 0,.i64 0]:=by kernel_rfl
theorem LP:aY Tryz.prog 246=none:=by kernel_rfl
theorem Oz:aL Tryz.prog 246=some true:=by kernel_rfl
theorem OA:bq Tryz.prog 246=some ([.i64 0,.i64 0,.i64 0,.i64 0],.inr 1):=by kernel_rfl
theorem QM:ar Tryz.prog 247=some 32:=by kernel_rfl
theorem LQ:ba Tryz.prog 247=some [.i64 0,.i64 0,.i64 0,.i64 0,.i64 0,.i64 0,.i64 0,.i64 0,.i64 0,.i64 0,.i64 0,.i64 0,.i64 0,.i64 0,.i64 0,.i64 0,.i64 0,.i64 0,.i64 0,.i64 0,.i64 0,.i64 0,.i64 0,.i64 0,.i64 0,.i64 0,.i64 0,.i64 0,.i64 0,.i64 0,.i64 0,.i64 0]:=by kernel_rfl
theorem LR:aY Tryz.prog 247=none:=by kernel_rfl
theorem OB:aL Tryz.prog 247=some true:=by kernel_rfl
theorem OC:bq Tryz.prog 247=some ([.i64 0,.i64 0,.i64 0,.i64 0,.i64 0,.i64 0,.i64 0,.i64 0,.i64 0,.i64 0,.i64 0,.i64 0,.i64 0,.i64 0,.i64 0,.i64 0,.i64 0,.i64 0,.i64 0,.i64 0,.i64 0,.i64 0,.i64 0,.i64 0,.i64 0,.i64 0,.i64 0,.i64 0,.i64 0,.i64 0,.i64 0,.i64 0],.inr 4):=by kernel_rfl
theorem QN:ar Tryz.prog 248=some 16:=by kernel_rfl
theorem LS:ba Tryz.prog 248=some [.u8 0#8,.u8 0#8,.u8 0#8,.u8 0#8,.u8 0#8,.u8 0#8,.u8 0#8,.u8 0#8,.u8 0#8,.u8 0#8,.u8 0#8,.u8 0#8,.u8 0#8,.u8 0#8,.u8 0#8,.u8 0#8]:=by kernel_rfl
theorem LT:aY Tryz.prog 248=none:=by kernel_rfl
theorem OD:aL Tryz.prog 248=some true:=by kernel_rfl
theorem OE:bq Tryz.prog 248=some ([.u8 0#8,.u8 0#8,.u8 0#8,.u8 0#8,.u8 0#8,.u8 0#8,.u8 0#8,.u8 0#8,.u8 0#8,.u8 0#8,.u8 0#8,.u8 0#8,.u8 0#8,.u8 0#8,.u8 0#8,.u8 0#8],.inr 1):=by kernel_rfl
theorem QO:ar Tryz.prog 249=some 160:=by kernel_rfl
theorem LU:ba Tryz.prog 249=some (List.replicate 160 (.u8 0#8)):=by kernel_rfl
theorem LV:aY Tryz.prog 249=none:=by kernel_rfl
theorem OF:aL Tryz.prog 249=some true:=by kernel_rfl
theorem OG:bq Tryz.prog 249=some ((List.replicate 160 (.u8 0#8)),.inr 16):=by kernel_rfl
theorem QP:ar Tryz.prog 252=some 8:=by kernel_rfl
theorem LW:ba Tryz.prog 252=some [.u32 0#32,.u32 0#32,.u32 0#32,.u32 0#32,.u32 0#32,.u32 0#32,.u32 0#32,.u32 0#32]:=by kernel_rfl
theorem LX:aY Tryz.prog 252=none:=by kernel_rfl
theorem OH:aL Tryz.prog 252=some true:=by kernel_rfl
theorem OI:bq Tryz.prog 252=some ([.u32 0#32,.u32 0#32,.u32 0#32,.u32 0#32,.u32 0#32,.u32 0#32,.u32 0#32,.u32 0#32],.inr 1):=by kernel_rfl
theorem LY:aY Tryz.prog 255=none:=by kernel_rfl
theorem IL:aq Tryz.prog 255 0=some (0,252):=by kernel_rfl
theorem IM:aq Tryz.prog 255 1=some (8,9):=by kernel_rfl
theorem IN:aq Tryz.prog 255 2=some (9,78):=by kernel_rfl
theorem OJ:bq Tryz.prog 255=some ([.u32 0#32,.u32 0#32,.u32 0#32,.u32 0#32,.u32 0#32,.u32 0#32,.u32 0#32,.u32 0#32,.str [],.u64 0#64],.inl [(0,8),(8,1),(9,1)]):=by kernel_rfl
theorem LZ:aY Tryz.prog 258=none:=by kernel_rfl
theorem OK:bq Tryz.prog 258=some ([],.inl []):=by kernel_rfl
theorem L0:aY Tryz.prog 259=none:=by kernel_rfl
theorem OL:bq Tryz.prog 259=some ([],.inl []):=by kernel_rfl
theorem QQ:ar Tryz.prog 268=some 64:=by kernel_rfl
theorem L3:ba Tryz.prog 268=some [.u32 0#32,.u32 0#32,.u32 0#32,.u32 0#32,.u32 0#32,.u32 0#32,.u32 0#32,.u32 0#32,.u32 0#32,.u32 0#32,.u32 0#32,.u32 0#32,.u32 0#32,.u32 0#32,.u32 0#32,.u32 0#32,.u32 0#32,.u32 0#32,.u32 0#32,.u32 0#32,.u32 0#32,.u32 0#32,.u32 0#32,.u32 0#32,.u32 0#32,.u32 0#32,.u32 0#32,.u32 0#32,.u32 0#32,.u32 0#32,.u32 0#32,.u32 0#32,.u32 0#32,.u32 0#32,.u32 0#32,.u32 0#32,.u32 0#32,.u32 0#32,.u32 0#32,.u32 0#32,.u32 0#32,.u32 0#32,.u32 0#32,.u32 0#32,.u32 0#32,.u32 0#32,.u32 0#32,.u32 0#32,.u32 0#32,.u32 0#32,.u32 0#32,.u32 0#32,.u32 0#32,.u32 0#32,.u32 0#32,.u32 0#32,.u32 0#32,.u32 0#32,.u32 0#32,.u32 0#32,.u32 0#32,.u32 0#32,.u32 0#32,.u32 0#32]:=by kernel_rfl
theorem L5:aY Tryz.prog 268=none:=by kernel_rfl
theorem OM:aL Tryz.prog 268=some true:=by kernel_rfl
theorem ON:bq Tryz.prog 268=some ([.u32 0#32,.u32 0#32,.u32 0#32,.u32 0#32,.u32 0#32,.u32 0#32,.u32 0#32,.u32 0#32,.u32 0#32,.u32 0#32,.u32 0#32,.u32 0#32,.u32 0#32,.u32 0#32,.u32 0#32,.u32 0#32,.u32 0#32,.u32 0#32,.u32 0#32,.u32 0#32,.u32 0#32,.u32 0#32,.u32 0#32,.u32 0#32,.u32 0#32,.u32 0#32,.u32 0#32,.u32 0#32,.u32 0#32,.u32 0#32,.u32 0#32,.u32 0#32,.u32 0#32,.u32 0#32,.u32 0#32,.u32 0#32,.u32 0#32,.u32 0#32,.u32 0#32,.u32 0#32,.u32 0#32,.u32 0#32,.u32 0#32,.u32 0#32,.u32 0#32,.u32 0#32,.u32 0#32,.u32 0#32,.u32 0#32,.u32 0#32,.u32 0#32,.u32 0#32,.u32 0#32,.u32 0#32,.u32 0#32,.u32 0#32,.u32 0#32,.u32 0#32,.u32 0#32,.u32 0#32,.u32 0#32,.u32 0#32,.u32 0#32,.u32 0#32],.inr 1):=by kernel_rfl
theorem L6:aY Tryz.prog 277=none:=by kernel_rfl
theorem jb:aq Tryz.prog 277 0=some (0,3):=by kernel_rfl
theorem IP:aq Tryz.prog 277 1=some (1,78):=by kernel_rfl
theorem OO:bq Tryz.prog 277=some ([.i64 0,.u64 0#64],.inl [(0,1),(1,1)]):=by kernel_rfl
theorem QR:ar Tryz.prog 285=some 16:=by kernel_rfl
theorem L7:ba Tryz.prog 285=some [.u32 0#32,.u32 0#32,.u32 0#32,.u32 0#32,.u32 0#32,.u32 0#32,.u32 0#32,.u32 0#32,.u32 0#32,.u32 0#32,.u32 0#32,.u32 0#32,.u32 0#32,.u32 0#32,.u32 0#32,.u32 0#32]:=by kernel_rfl
theorem L8:aY Tryz.prog 285=none:=by kernel_rfl
theorem OP:aL Tryz.prog 285=some true:=by kernel_rfl
theorem OQ:bq Tryz.prog 285=some ([.u32 0#32,.u32 0#32,.u32 0#32,.u32 0#32,.u32 0#32,.u32 0#32,.u32 0#32,.u32 0#32,.u32 0#32,.u32 0#32,.u32 0#32,.u32 0#32,.u32 0#32,.u32 0#32,.u32 0#32,.u32 0#32],.inr 1):=by kernel_rfl
theorem QS:ar Tryz.prog 297=some 2:=by kernel_rfl
theorem L9:ba Tryz.prog 297=some [.u64 0#64,.u64 0#64]:=by kernel_rfl
theorem Ma:aY Tryz.prog 297=none:=by kernel_rfl
theorem OR:aL Tryz.prog 297=some true:=by kernel_rfl
theorem OS:bq Tryz.prog 297=some ([.u64 0#64,.u64 0#64],.inr 1):=by kernel_rfl
theorem QT:ar Tryz.prog 299=some 3:=by kernel_rfl
theorem Mb:ba Tryz.prog 299=some [.u64 0#64,.u64 0#64,.u64 0#64]:=by kernel_rfl
theorem Mc:aY Tryz.prog 299=none:=by kernel_rfl
theorem OT:aL Tryz.prog 299=some true:=by kernel_rfl
theorem OU:bq Tryz.prog 299=some ([.u64 0#64,.u64 0#64,.u64 0#64],.inr 1):=by kernel_rfl
theorem QU:ar Tryz.prog 304=some 2:=by kernel_rfl
theorem Md:ba Tryz.prog 304=some [.i64 0,.i64 0]:=by kernel_rfl
theorem Me:aY Tryz.prog 304=none:=by kernel_rfl
theorem OV:aL Tryz.prog 304=some true:=by kernel_rfl
theorem OW:bq Tryz.prog 304=some ([.i64 0,.i64 0],.inr 1):=by kernel_rfl
theorem OX:bq Tryz.prog 305=some ([.i64 0,.i64 0,.i64 0,.i64 0],.inr 2):=by kernel_rfl
theorem QV:ar Tryz.prog 306=some 256:=by kernel_rfl
theorem QW:ar Tryz.prog 327=some 1:=by kernel_rfl
theorem OY:aL Tryz.prog 327=some false:=by kernel_rfl
theorem QX:ar Tryz.prog 330=some 2:=by kernel_rfl
theorem Mf:ba Tryz.prog 330=some [.nilPtr,.str []]:=by kernel_rfl
theorem Mg:aY Tryz.prog 330=none:=by kernel_rfl
theorem OZ:aL Tryz.prog 330=some true:=by kernel_rfl
theorem IQ:aq Tryz.prog 330 0=some (0,327):=by kernel_rfl
theorem IR:aq Tryz.prog 330 1=some (1,9):=by kernel_rfl
theorem O0:bq Tryz.prog 330=some ([.nilPtr,.str []],.inl [(0,1),(1,1)]):=by kernel_rfl
theorem QY:ar Tryz.prog 332=some 1:=by kernel_rfl
theorem O1:aL Tryz.prog 332=some false:=by kernel_rfl
theorem Mh:aY Tryz.prog 335=none:=by kernel_rfl
theorem IS:aq Tryz.prog 335 0=some (0,332):=by kernel_rfl
theorem IT:aq Tryz.prog 335 1=some (1,9):=by kernel_rfl
theorem O2:bq Tryz.prog 335=some ([.nilPtr,.str []],.inl [(0,1),(1,1)]):=by kernel_rfl
theorem Mi:aY Tryz.prog 337=none:=by kernel_rfl
theorem IU:aq Tryz.prog 337 0=some (0,306):=by kernel_rfl
theorem IV:aq Tryz.prog 337 1=some (256,306):=by kernel_rfl
theorem O3:bq Tryz.prog 337=some ((List.replicate 512 (.u8 0#8)),.inl [(0,256),(256,256)]):=by kernel_rfl
theorem QZ:ar Tryz.prog 339=some 4:=by kernel_rfl
theorem Mj:ba Tryz.prog 339=some [.u8 0#8,.u8 0#8,.u8 0#8,.u8 0#8]:=by kernel_rfl
theorem Mk:aY Tryz.prog 339=none:=by kernel_rfl
theorem O4:aL Tryz.prog 339=some true:=by kernel_rfl
theorem O5:ny Tryz.prog 339=some (4,5):=by kernel_rfl
theorem O6:bq Tryz.prog 339=some ([.u8 0#8,.u8 0#8,.u8 0#8,.u8 0#8],.inr 1):=by kernel_rfl
theorem Q0:ar Tryz.prog 342=some 2:=by kernel_rfl
theorem Ml:ba Tryz.prog 342=some [.u64 0#64,.u64 0#64]:=by kernel_rfl
theorem Mm:aY Tryz.prog 342=none:=by kernel_rfl
theorem O7:aL Tryz.prog 342=some true:=by kernel_rfl
theorem IW:aq Tryz.prog 342 0=some (0,78):=by kernel_rfl
theorem IX:aq Tryz.prog 342 1=some (1,78):=by kernel_rfl
theorem O8:bq Tryz.prog 342=some ([.u64 0#64,.u64 0#64],.inl [(0,1),(1,1)]):=by kernel_rfl
theorem Q1:ar Tryz.prog 345=some 16:=by kernel_rfl
theorem Mn:ba Tryz.prog 345=some [.u8 0#8,.u8 0#8,.u8 0#8,.u8 0#8,.u8 0#8,.u8 0#8,.u8 0#8,.u8 0#8,.u8 0#8,.u8 0#8,.u8 0#8,.u8 0#8,.u8 0#8,.u8 0#8,.u8 0#8,.u8 0#8]:=by kernel_rfl
theorem Mo:aY Tryz.prog 345=none:=by kernel_rfl
theorem O9:aL Tryz.prog 345=some true:=by kernel_rfl
theorem Pa:ny Tryz.prog 345=some (16,5):=by kernel_rfl
theorem Q3:mL Tryz.prog 34=some [27,27,9]:=by kernel_rfl
theorem Q4:mL Tryz.prog 42=some [3,27,9]:=by kernel_rfl
attribute [go_sem] zN Sk
attribute [go_sem] PH RF Sl zero4 RG Sm Sn PI
attribute [go_sem] RH
attribute [go_sem] So Sp PJ PK RI
attribute [go_sem] PL
attribute [go_sem] RJ
attribute [go_sem] PM
attribute [go_sem] RK Nx Ny PN Km Kn Ko Kp Kq
attribute [go_sem] Kr Ks PO RL PP
attribute [go_sem] RM RN Nz NA PQ Kt Ku Kv PR
attribute [go_sem] RO PS PT
attribute [go_sem] PU
attribute [go_sem] RP RQ NB NC PV PW RR RS ND
attribute [go_sem] PX PY
attribute [go_sem] RT PZ P0
attribute [go_sem] NE
attribute [go_sem] Kw Kx P1 RU RV NF P2 RW
attribute [go_sem] P3
attribute [go_sem] NG Ky Kz P4
attribute [go_sem] RX P5 P6
attribute [go_sem] P7
attribute [go_sem] P8
attribute [go_sem] RY NH NI P9 KA KB Qa RZ
attribute [go_sem] Qb Qc
attribute [go_sem] R0 R1 NJ NK Qd KC KD KE KF Qe
attribute [go_sem] R2 NL Qf R3
attribute [go_sem] Qg Qh R4 Qi R5
attribute [go_sem] Qj
attribute [go_sem] NM KG KH KI KJ KK KL
attribute [go_sem] KM KN KO KP Hv Hw Hx Hy Hz HA Qk
attribute [go_sem] R6 R7 NO Ql
attribute [go_sem] R8 Qm
attribute [go_sem] Sa NP
attribute [go_sem] NQ Qn KQ KR Qo Sb Qp Sc
attribute [go_sem] NR Qq
attribute [go_sem] NS KS KT KU
attribute [go_sem] KV KW KX KY KZ La Lb HB HC HD HE HF
attribute [go_sem] HG HH HI HJ Qr
attribute [go_sem] Qs NT Qt
attribute [go_sem] Qu
attribute [go_sem] Lc HK HL HM NU
attribute [go_sem] Ld HN HO NV
attribute [go_sem] Le
attribute [go_sem] HP HQ NW
attribute [go_sem] Qv Lf
attribute [go_sem] HR HS HT HU HV NX Qw
attribute [go_sem] NY
attribute [go_sem] Qx Lg HW HX HY HZ NZ
attribute [go_sem] Qy N0 Qz Lh Li
attribute [go_sem] N4 Lj Lk
attribute [go_sem] Ll Lm QA
attribute [go_sem] Ln Lo N5 N6
attribute [go_sem] QB
attribute [go_sem] N7 QC
attribute [go_sem] Lq Lr N8 Ia Ib N9
attribute [go_sem] Ls Ic
attribute [go_sem] Id Ie If Ig Ih Oa
attribute [go_sem] QD Lt
attribute [go_sem] Lu Ob Ii Ij Ik Il Oc
attribute [go_sem] QE Lv Lw Od Im In Io Ip Iq Oe
attribute [go_sem] Og
attribute [go_sem] QF Lx
attribute [go_sem] Ly Oh Oi
attribute [go_sem] Lz LA Oj
attribute [go_sem] QG LB LC Ok Ir Iu Ol QH
attribute [go_sem] LD LE Om
attribute [go_sem] On
attribute [go_sem] QI Oo
attribute [go_sem] QJ
attribute [go_sem] Oq
attribute [go_sem] LF Iv Iw Ot
attribute [go_sem] QK LG LH Ou Ix
attribute [go_sem] Iy Iz IA IB Ov
attribute [go_sem] LI IC ID IE IF
attribute [go_sem] Ow
attribute [go_sem] LJ IG IH II
attribute [go_sem] IJ IK Ox
attribute [go_sem] LK LL
attribute [go_sem] LM LN Oy
attribute [go_sem] QL LO LP Oz OA QM LQ LR OB
attribute [go_sem] OC QN LS LT OD OE QO LU
attribute [go_sem] LV OF OG
attribute [go_sem] QP LW LX OH OI
attribute [go_sem] LY IL IM IN OJ
attribute [go_sem] LZ
attribute [go_sem] OK L0 OL
attribute [go_sem] QQ L3 L5 OM
attribute [go_sem] ON
attribute [go_sem] L6
attribute [go_sem] jb IP OO
attribute [go_sem] QR L7 L8 OP OQ
attribute [go_sem] QS L9 Ma OR
attribute [go_sem] OS QT Mb Mc
attribute [go_sem] OT OU
attribute [go_sem] QU
attribute [go_sem] Md Me OV OW
attribute [go_sem] OX QV
attribute [go_sem] QW OY
attribute [go_sem] QX Mf Mg OZ IQ
attribute [go_sem] IR O0 QY O1
attribute [go_sem] Mh IS IT O2
attribute [go_sem] Mi IU IV
attribute [go_sem] O3 QZ Mj Mk O4 O5
attribute [go_sem] O6
attribute [go_sem] Q0 Ml Mm O7 IW IX O8
attribute [go_sem] Q1 Mn Mo
attribute [go_sem] O9 Pa
attribute [go_sem] Q3 Q4
attribute [go_sem] Tryz.underlying0 Tryz.underlying1 Tryz.underlying2 Tryz.underlying3 Tryz.underlying4 Tryz.underlying5 Tryz.underlying6 Tryz.underlying7 Tryz.underlying8 Tryz.underlying9
attribute [go_sem] Tryz.underlying10 Tryz.underlying11 Tryz.underlying12 Tryz.underlying13 Tryz.underlying14 Tryz.underlying15 Tryz.underlying16 Tryz.underlying17 Tryz.underlying18 Tryz.underlying19
attribute [go_sem] Tryz.underlying20 Tryz.underlying21 Tryz.underlying22 Tryz.underlying23 Tryz.underlying24 Tryz.underlying25 Tryz.underlying26 Tryz.underlying27 Tryz.underlying28 Tryz.underlying29
attribute [go_sem] Tryz.underlying30 Tryz.underlying31 Tryz.underlying32 Tryz.underlying33 Tryz.underlying34 Tryz.underlying35 Tryz.underlying36 Tryz.underlying37 Tryz.underlying38 Tryz.underlying39
attribute [go_sem] Tryz.underlying40 Tryz.underlying41 Tryz.underlying42 Tryz.underlying43 Tryz.underlying44 Tryz.underlying45 Tryz.underlying46 Tryz.underlying47 Tryz.underlying48 Tryz.underlying49
attribute [go_sem] Tryz.underlying50 Tryz.underlying51 Tryz.underlying52 Tryz.underlying53 Tryz.underlying54 Tryz.underlying55 Tryz.underlying56 Tryz.underlying57 Tryz.underlying58 Tryz.underlying59
attribute [go_sem] Tryz.underlying60 Tryz.underlying61 Tryz.underlying62 Tryz.underlying63 Tryz.underlying64 Tryz.underlying65 Tryz.underlying66 Tryz.underlying67 Tryz.underlying68 Tryz.underlying69
attribute [go_sem] Tryz.underlying70 Tryz.underlying71 Tryz.underlying72 Tryz.underlying73 Tryz.underlying74 Tryz.underlying75 Tryz.underlying76 Tryz.underlying77 Tryz.underlying78 Tryz.underlying79
attribute [go_sem] Tryz.underlying80 Tryz.underlying81 Tryz.underlying82 Tryz.underlying83 Tryz.underlying84 Tryz.underlying85 Tryz.underlying86 Tryz.underlying87 Tryz.underlying88 Tryz.underlying89
attribute [go_sem] Tryz.underlying90 Tryz.underlying91 Tryz.underlying92 Tryz.underlying93 Tryz.underlying94 Tryz.underlying95 Tryz.underlying96 Tryz.underlying97 Tryz.underlying98 Tryz.underlying99
attribute [go_sem] Tryz.underlying100 Tryz.underlying101 Tryz.underlying102 Tryz.underlying103 Tryz.underlying104 Tryz.underlying105 Tryz.underlying106 Tryz.underlying107 Tryz.underlying108 Tryz.underlying109
attribute [go_sem] Tryz.underlying110 Tryz.underlying111 Tryz.underlying112 Tryz.underlying113 Tryz.underlying114 Tryz.underlying115 Tryz.underlying116 Tryz.underlying117 Tryz.underlying118 Tryz.underlying119
attribute [go_sem] Tryz.underlying120 Tryz.underlying121 Tryz.underlying122 Tryz.underlying123 Tryz.underlying124 Tryz.underlying125 Tryz.underlying126 Tryz.underlying127 Tryz.underlying128 Tryz.underlying129
attribute [go_sem] Tryz.underlying130 Tryz.underlying131 Tryz.underlying132 Tryz.underlying133 Tryz.underlying134 Tryz.underlying135 Tryz.underlying136 Tryz.underlying137 Tryz.underlying138 Tryz.underlying139
attribute [go_sem] Tryz.underlying140 Tryz.underlying141 Tryz.underlying142 Tryz.underlying143 Tryz.underlying144 Tryz.underlying145 Tryz.underlying146 Tryz.underlying147 Tryz.underlying148 Tryz.underlying149
attribute [go_sem] Tryz.underlying150 Tryz.underlying151 Tryz.underlying152 Tryz.underlying153 Tryz.underlying154 Tryz.underlying155 Tryz.underlying156 Tryz.underlying157 Tryz.underlying158 Tryz.underlying159
attribute [go_sem] Tryz.underlying160 Tryz.underlying161 Tryz.underlying162 Tryz.underlying163 Tryz.underlying164 Tryz.underlying165 Tryz.underlying166 Tryz.underlying167 Tryz.underlying168 Tryz.underlying169
attribute [go_sem] Tryz.underlying170 Tryz.underlying171 Tryz.underlying172 Tryz.underlying173 Tryz.underlying174 Tryz.underlying175 Tryz.underlying176 Tryz.underlying177 Tryz.underlying178 Tryz.underlying179
attribute [go_sem] Tryz.underlying180 Tryz.underlying181 Tryz.underlying182 Tryz.underlying183 Tryz.underlying184 Tryz.underlying185 Tryz.underlying186 Tryz.underlying187 Tryz.underlying188 Tryz.underlying189
attribute [go_sem] Tryz.underlying190 Tryz.underlying191 Tryz.underlying192 Tryz.underlying193 Tryz.underlying194 Tryz.underlying195 Tryz.underlying196 Tryz.underlying197 Tryz.underlying198 Tryz.underlying199
attribute [go_sem] Tryz.underlying200 Tryz.underlying201 Tryz.underlying202 Tryz.underlying203 Tryz.underlying204 Tryz.underlying205 Tryz.underlying206 Tryz.underlying207 Tryz.underlying208 Tryz.underlying209
attribute [go_sem] Tryz.underlying210 Tryz.underlying211 Tryz.underlying212 Tryz.underlying213 Tryz.underlying214 Tryz.underlying215 Tryz.underlying216 Tryz.underlying217 Tryz.underlying218 Tryz.underlying219
attribute [go_sem] Tryz.underlying220 Tryz.underlying221 Tryz.underlying222 Tryz.underlying223 Tryz.underlying224 Tryz.underlying225 Tryz.underlying226 Tryz.underlying227 Tryz.underlying228 Tryz.underlying229
attribute [go_sem] Tryz.underlying230 Tryz.underlying231 Tryz.underlying232 Tryz.underlying233 Tryz.underlying234 Tryz.underlying235 Tryz.underlying236 Tryz.underlying237 Tryz.underlying238 Tryz.underlying239
attribute [go_sem] Tryz.underlying240 Tryz.underlying241 Tryz.underlying242 Tryz.underlying243 Tryz.underlying244 Tryz.underlying245 Tryz.underlying246 Tryz.underlying247 Tryz.underlying248 Tryz.underlying249
attribute [go_sem] Tryz.underlying250 Tryz.underlying251 Tryz.underlying252 Tryz.underlying253 Tryz.underlying254 Tryz.underlying255 Tryz.underlying256 Tryz.underlying257 Tryz.underlying258 Tryz.underlying259
attribute [go_sem] Tryz.underlying260 Tryz.underlying261 Tryz.underlying262 Tryz.underlying263 Tryz.underlying264 Tryz.underlying265 Tryz.underlying266 Tryz.underlying267 Tryz.underlying268 Tryz.underlying269
attribute [go_sem] Tryz.underlying270 Tryz.underlying271 Tryz.underlying272 Tryz.underlying273 Tryz.underlying274 Tryz.underlying275 Tryz.underlying276 Tryz.underlying277 Tryz.underlying278 Tryz.underlying279
attribute [go_sem] Tryz.underlying280 Tryz.underlying281 Tryz.underlying282 Tryz.underlying283 Tryz.underlying284 Tryz.underlying285 Tryz.underlying286 Tryz.underlying287 Tryz.underlying288 Tryz.underlying289
attribute [go_sem] Tryz.underlying290 Tryz.underlying291 Tryz.underlying292 Tryz.underlying293 Tryz.underlying294 Tryz.underlying295 Tryz.underlying296 Tryz.underlying297 Tryz.underlying298 Tryz.underlying299
attribute [go_sem] Tryz.underlying300 Tryz.underlying301 Tryz.underlying302 Tryz.underlying303 Tryz.underlying304 Tryz.underlying305 Tryz.underlying306 Tryz.underlying307 Tryz.underlying308 Tryz.underlying309
attribute [go_sem] Tryz.underlying310 Tryz.underlying311 Tryz.underlying312 Tryz.underlying313 Tryz.underlying314 Tryz.underlying315 Tryz.underlying316 Tryz.underlying317 Tryz.underlying318 Tryz.underlying319
attribute [go_sem] Tryz.underlying320 Tryz.underlying321 Tryz.underlying322 Tryz.underlying323 Tryz.underlying324 Tryz.underlying325 Tryz.underlying326 Tryz.underlying327 Tryz.underlying328 Tryz.underlying329
attribute [go_sem] Tryz.underlying330 Tryz.underlying331 Tryz.underlying332 Tryz.underlying333 Tryz.underlying334 Tryz.underlying335 Tryz.underlying336 Tryz.underlying337 Tryz.underlying338 Tryz.underlying339
attribute [go_sem] Tryz.underlying340 Tryz.underlying341 Tryz.underlying342 Tryz.underlying343 Tryz.underlying344 Tryz.underlying345 Tryz.underlying346 Tryz.underlying347 Tryz.underlying348 Tryz.underlying349
attribute [go_sem] Tryz.underlying350 Tryz.underlying351
attribute [go_sem] Tryz.results3 Tryz.ntmps3 Tryz.results4 Tryz.ntmps4 Tryz.results5 Tryz.ntmps5 Tryz.results6 Tryz.ntmps6 Tryz.results7 Tryz.ntmps7 Tryz.results8 Tryz.ntmps8 Tryz.results9 Tryz.ntmps9 Tryz.results10 Tryz.ntmps10 Tryz.results11 Tryz.ntmps11 Tryz.results12 Tryz.ntmps12
attribute [go_sem] Tryz.results13 Tryz.ntmps13 Tryz.results14 Tryz.ntmps14 Tryz.results15 Tryz.ntmps15 Tryz.results16 Tryz.ntmps16 Tryz.results17 Tryz.ntmps17 Tryz.results18 Tryz.ntmps18 Tryz.results19 Tryz.ntmps19 Tryz.results20 Tryz.ntmps20 Tryz.results21 Tryz.ntmps21 Tryz.results22 Tryz.ntmps22
attribute [go_sem] Tryz.results23 Tryz.ntmps23 Tryz.results24 Tryz.ntmps24 Tryz.results25 Tryz.ntmps25 Tryz.results26 Tryz.ntmps26 Tryz.results27 Tryz.ntmps27 Tryz.results28 Tryz.ntmps28 Tryz.results29 Tryz.ntmps29 Tryz.results30 Tryz.ntmps30 Tryz.results31 Tryz.ntmps31 Tryz.results32 Tryz.ntmps32
attribute [go_sem] Tryz.results33 Tryz.ntmps33 Tryz.results34 Tryz.ntmps34 Tryz.results35 Tryz.ntmps35 Tryz.results36 Tryz.ntmps36 Tryz.results37 Tryz.ntmps37 Tryz.results38 Tryz.ntmps38 Tryz.results39 Tryz.ntmps39 Tryz.results40 Tryz.ntmps40 Tryz.results41 Tryz.ntmps41 Tryz.results42 Tryz.ntmps42
attribute [go_sem] Tryz.results43 Tryz.ntmps43 Tryz.results44 Tryz.ntmps44 Tryz.results45 Tryz.ntmps45 Tryz.results46 Tryz.ntmps46 Tryz.results47 Tryz.ntmps47 Tryz.results48 Tryz.ntmps48 Tryz.results49 Tryz.ntmps49 Tryz.results50 Tryz.ntmps50 Tryz.results51 Tryz.ntmps51 Tryz.results52 Tryz.ntmps52
attribute [go_sem] Tryz.results53 Tryz.ntmps53 Tryz.results54 Tryz.ntmps54 Tryz.results55 Tryz.ntmps55 Tryz.results56 Tryz.ntmps56 Tryz.results57 Tryz.ntmps57 Tryz.results58 Tryz.ntmps58 Tryz.results59 Tryz.ntmps59 Tryz.results60 Tryz.ntmps60 Tryz.results61 Tryz.ntmps61 Tryz.results62 Tryz.ntmps62
attribute [go_sem] Tryz.results63 Tryz.ntmps63 Tryz.results64 Tryz.ntmps64 Tryz.results65 Tryz.ntmps65 Tryz.results66 Tryz.ntmps66 Tryz.results67 Tryz.ntmps67 Tryz.results68 Tryz.ntmps68 Tryz.results69 Tryz.ntmps69 Tryz.results70 Tryz.ntmps70 Tryz.results71 Tryz.ntmps71 Tryz.results72 Tryz.ntmps72
attribute [go_sem] Tryz.results73 Tryz.ntmps73 Tryz.results74 Tryz.ntmps74 Tryz.results75 Tryz.ntmps75 Tryz.results76 Tryz.ntmps76 Tryz.results77 Tryz.ntmps77 Tryz.results78 Tryz.ntmps78 Tryz.results79 Tryz.ntmps79 Tryz.results80 Tryz.ntmps80 Tryz.results81 Tryz.ntmps81 Tryz.results82 Tryz.ntmps82
attribute [go_sem] Tryz.results83 Tryz.ntmps83 Tryz.results84 Tryz.ntmps84 Tryz.results85 Tryz.ntmps85 Tryz.results86 Tryz.ntmps86 Tryz.results87 Tryz.ntmps87 Tryz.results88 Tryz.ntmps88 Tryz.results89 Tryz.ntmps89 Tryz.results90 Tryz.ntmps90 Tryz.results91 Tryz.ntmps91 Tryz.results92 Tryz.ntmps92
attribute [go_sem] Tryz.results93 Tryz.ntmps93 Tryz.results94 Tryz.ntmps94 Tryz.results95 Tryz.ntmps95 Tryz.results96 Tryz.ntmps96 Tryz.results97 Tryz.ntmps97 Tryz.results98 Tryz.ntmps98 Tryz.results99 Tryz.ntmps99 Tryz.results100 Tryz.ntmps100 Tryz.results101 Tryz.ntmps101 Tryz.results102 Tryz.ntmps102
attribute [go_sem] Tryz.results103 Tryz.ntmps103 Tryz.results104 Tryz.ntmps104 Tryz.results105 Tryz.ntmps105 Tryz.results106 Tryz.ntmps106 Tryz.results107 Tryz.ntmps107 Tryz.results108 Tryz.ntmps108 Tryz.results109 Tryz.ntmps109 Tryz.results110 Tryz.ntmps110 Tryz.results111 Tryz.ntmps111 Tryz.results112 Tryz.ntmps112
attribute [go_sem] Tryz.results113 Tryz.ntmps113 Tryz.results114 Tryz.ntmps114 Tryz.results115 Tryz.ntmps115 Tryz.results116 Tryz.ntmps116 Tryz.results117 Tryz.ntmps117 Tryz.results118 Tryz.ntmps118 Tryz.results119 Tryz.ntmps119 Tryz.results120 Tryz.ntmps120 Tryz.results121 Tryz.ntmps121 Tryz.results122 Tryz.ntmps122
attribute [go_sem] Tryz.results123 Tryz.ntmps123 Tryz.results124 Tryz.ntmps124 Tryz.results125 Tryz.ntmps125 Tryz.results126 Tryz.ntmps126 Tryz.results127 Tryz.ntmps127 Tryz.results128 Tryz.ntmps128 Tryz.results129 Tryz.ntmps129 Tryz.results130 Tryz.ntmps130 Tryz.results131 Tryz.ntmps131 Tryz.results132 Tryz.ntmps132
attribute [go_sem] Tryz.results133 Tryz.ntmps133 Tryz.results134 Tryz.ntmps134 Tryz.results135 Tryz.ntmps135 Tryz.results136 Tryz.ntmps136 Tryz.results137 Tryz.ntmps137 Tryz.results138 Tryz.ntmps138 Tryz.results139 Tryz.ntmps139 Tryz.results140 Tryz.ntmps140 Tryz.results141 Tryz.ntmps141 Tryz.results142 Tryz.ntmps142
attribute [go_sem] Tryz.results143 Tryz.ntmps143 Tryz.results144 Tryz.ntmps144 Tryz.results145 Tryz.ntmps145 Tryz.results146 Tryz.ntmps146 Tryz.results147 Tryz.ntmps147 Tryz.results148 Tryz.ntmps148 Tryz.results149 Tryz.ntmps149 Tryz.results150 Tryz.ntmps150 Tryz.results151 Tryz.ntmps151 Tryz.results152 Tryz.ntmps152
attribute [go_sem] Tryz.results153 Tryz.ntmps153 Tryz.results154 Tryz.ntmps154 Tryz.results155 Tryz.ntmps155 Tryz.results156 Tryz.ntmps156 Tryz.results157 Tryz.ntmps157 Tryz.results158 Tryz.ntmps158 Tryz.results159 Tryz.ntmps159 Tryz.results160 Tryz.ntmps160 Tryz.results161 Tryz.ntmps161 Tryz.results162 Tryz.ntmps162
attribute [go_sem] Tryz.results163 Tryz.ntmps163 Tryz.results164 Tryz.ntmps164 Tryz.results165 Tryz.ntmps165 Tryz.results166 Tryz.ntmps166 Tryz.results167 Tryz.ntmps167 Tryz.results168 Tryz.ntmps168 Tryz.results169 Tryz.ntmps169 Tryz.results170 Tryz.ntmps170 Tryz.results171 Tryz.ntmps171 Tryz.results172 Tryz.ntmps172
attribute [go_sem] Tryz.results173 Tryz.ntmps173 Tryz.results174 Tryz.ntmps174 Tryz.results175 Tryz.ntmps175 Tryz.results176 Tryz.ntmps176 Tryz.results177 Tryz.ntmps177 Tryz.results178 Tryz.ntmps178 Tryz.results179 Tryz.ntmps179 Tryz.results180 Tryz.ntmps180 Tryz.results181 Tryz.ntmps181 Tryz.results182 Tryz.ntmps182
attribute [go_sem] Tryz.results183 Tryz.ntmps183 Tryz.results184 Tryz.ntmps184 Tryz.results185 Tryz.ntmps185 Tryz.results186 Tryz.ntmps186 Tryz.results187 Tryz.ntmps187 Tryz.results188 Tryz.ntmps188 Tryz.results189 Tryz.ntmps189 Tryz.results190 Tryz.ntmps190 Tryz.results191 Tryz.ntmps191 Tryz.results192 Tryz.ntmps192
attribute [go_sem] Tryz.results193 Tryz.ntmps193 Tryz.results194 Tryz.ntmps194 Tryz.results195 Tryz.ntmps195 Tryz.results196 Tryz.ntmps196 Tryz.results197 Tryz.ntmps197 Tryz.results198 Tryz.ntmps198 Tryz.results199 Tryz.ntmps199 Tryz.results200 Tryz.ntmps200 Tryz.results201 Tryz.ntmps201 Tryz.results202 Tryz.ntmps202
attribute [go_sem] Tryz.results203 Tryz.ntmps203 Tryz.results204 Tryz.ntmps204 Tryz.results205 Tryz.ntmps205 Tryz.results206 Tryz.ntmps206 Tryz.results207 Tryz.ntmps207 Tryz.results208 Tryz.ntmps208 Tryz.results209 Tryz.ntmps209 Tryz.results210 Tryz.ntmps210 Tryz.results211 Tryz.ntmps211 Tryz.results212 Tryz.ntmps212
attribute [go_sem] Tryz.results213 Tryz.ntmps213 Tryz.results214 Tryz.ntmps214 Tryz.results215 Tryz.ntmps215 Tryz.results216 Tryz.ntmps216 Tryz.results217 Tryz.ntmps217 Tryz.results218 Tryz.ntmps218 Tryz.results219 Tryz.ntmps219 Tryz.results220 Tryz.ntmps220 Tryz.results221 Tryz.ntmps221 Tryz.results222 Tryz.ntmps222
attribute [go_sem] Tryz.results223 Tryz.ntmps223 Tryz.results224 Tryz.ntmps224 Tryz.results225 Tryz.ntmps225 Tryz.results226 Tryz.ntmps226 Tryz.results227 Tryz.ntmps227 Tryz.results228 Tryz.ntmps228 Tryz.results229 Tryz.ntmps229 Tryz.results230 Tryz.ntmps230 Tryz.results231 Tryz.ntmps231 Tryz.results232 Tryz.ntmps232
attribute [go_sem] Tryz.results233 Tryz.ntmps233 Tryz.results234 Tryz.ntmps234 Tryz.results235 Tryz.ntmps235 Tryz.results236 Tryz.ntmps236 Tryz.results237 Tryz.ntmps237 Tryz.results238 Tryz.ntmps238 Tryz.results239 Tryz.ntmps239 Tryz.results240 Tryz.ntmps240 Tryz.results241 Tryz.ntmps241 Tryz.results242 Tryz.ntmps242
attribute [go_sem] Tryz.results243 Tryz.ntmps243 Tryz.results244 Tryz.ntmps244 Tryz.results245 Tryz.ntmps245 Tryz.results246 Tryz.ntmps246 Tryz.results247 Tryz.ntmps247 Tryz.results248 Tryz.ntmps248 Tryz.results249 Tryz.ntmps249 Tryz.results250 Tryz.ntmps250 Tryz.results251 Tryz.ntmps251 Tryz.results252 Tryz.ntmps252
attribute [go_sem] Tryz.results253 Tryz.ntmps253 Tryz.results254 Tryz.ntmps254 Tryz.results255 Tryz.ntmps255 Tryz.results256 Tryz.ntmps256 Tryz.results257 Tryz.ntmps257 Tryz.results258 Tryz.ntmps258 Tryz.results259 Tryz.ntmps259 Tryz.results260 Tryz.ntmps260 Tryz.results261 Tryz.ntmps261 Tryz.results262 Tryz.ntmps262
attribute [go_sem] Tryz.results263 Tryz.ntmps263 Tryz.results264 Tryz.ntmps264 Tryz.results265 Tryz.ntmps265 Tryz.results266 Tryz.ntmps266 Tryz.results267 Tryz.ntmps267 Tryz.results268 Tryz.ntmps268
end Go.Vm.Ty
namespace Go.Vm
theorem aI {a b:Prop}(k:b)(h:a:=by first|omega |trivial):a∧b:=⟨h,k⟩
theorem aJ {a b:Prop}(k:b)(h:a:=by first|omega |kernel_rfl|trivial):a∧b:=⟨h,k⟩
end Go.Vm
end
section
namespace Go.Vm
section
theorem vO:∀ (l:List String),(l.all fun o=>!("cut".toList==o.toList))=true→∀ r,stripLifts l ("cut".toList::r)=([], "cut".toList::r)
 |[],_,r=>rfl
 |o::os,h,r=>by
  rw[List.all_cons,Bool.and_eq_true] at h
  have h1:("cut".toList==o.toList)=false:=by simpa using h.1
  rw[stripLifts,h1,if_neg (by simp)]
  exact vO os h.2 r
theorem wT (r:List (List Char)):stripLifts liftWords ("cut".toList::r)=([], "cut".toList::r):=vO _ (by decide+kernel) r
section
variable {P:Program}{r:List (List Char)}
theorem Al (h:behindMainWord (wordsSigns P.initOrder.toList)= "cut".toList::r):P.headLifts=[]:=by
 unfold Program.headLifts;rw[h,wT];simp only[ite_self]
theorem CL (h:behindMainWord (wordsSigns P.initOrder.toList)= "cut".toList::r):P.make=some .cut:=by
 unfold Program.make;rw[h]
 have e1:("cut".toList== "gc".toList)=false:=by decide+kernel
 have e2:("cut".toList== "spec".toList)=false:=by decide+kernel
 simp only[e1,e2,beq_self_eq_true,Bool.or_self,Bool.true_or,↓reduceIte,Bool.false_eq_true]
theorem BL (h:behindMainWord (wordsSigns P.initOrder.toList)= "cut".toList::r):P.liftsFinal=false:=by
 unfold Program.liftsFinal;rw[h,Al h]
 have e1:("cut".toList== "carried".toList)=false:=by decide+kernel
 simp only[List.head?_cons,Option.some_beq_some,e1,Bool.false_and,List.contains_nil,Bool.or_self]
theorem BM (h:behindMainWord (wordsSigns P.initOrder.toList)= "cut".toList::r)(h1:P.laysLater=false)(h2:P.bearsReflect=false)(h3:P.doorFits []=true):P.mayEnter=true:=by
 unfold Program.mayEnter;rw[h]
 simp only[wT,h1,h2,h3,List.head?_cons,beq_self_eq_true,Bool.not_false,Bool.or_true,Bool.and_self,Bool.and_true,List.contains_nil]
end
theorem IY {P:Program}{f:FuncId}{fn:Func}{s:ChangeSpec}{c:OpenClaim}
  (a1:c.wf (OpenSpec.ofChange s)=true) (a2:laidOutB P=true) (a3:mapsRowed P=true) (a4:fn.params.all (P.readableRec ·)=true) (a5:namedTie P c.named s.vars=true)
  (a6:(c.stops==[])=true) (a7:(P.stops==[])=true) (a8:(c.knobs==[])=true) (a9:(P.stopKnobs==[])=true)
  (b1:(c.inPlace==P.inPlace f)=true) (b2:(c.unfollowed==P.unfollowed f)=true) (b3:(c.recurses==P.recurses f)=true) (b4:(c.named==P.varsNamed f)=true)
  (rest:((c.maps==(fn.params.toList++s.plain.varTypes P).any (P.mapsRec ·))&&(c.ifaces==(fn.params.toList++s.plain.varTypes P).any (P.ifacesRec ·))&&(c.mapsOut==P.mapsAmong fn.resultTypes.toList)&&
   (c.loops==(fn.params.toList++s.plain.varTypes P).any (P.loopsFrom ·))&&(c.wideKeys==(fn.params.toList++s.plain.varTypes P++fn.resultTypes.toList).any (P.wideKeysFrom ·))&&
   s.vars.all (P.varReadable ·)&&fn.resultTypes.all (fun t=>P.readableRec t&&decide (t<P.types.size))&&(c.ifacesOut==fn.resultTypes.toList.any (P.ifacesRec ·))&&(c.loopsOut==fn.resultTypes.toList.any (P.loopsFrom ·)))=true)
  (d1:(c.plainKeys==P.plainKeys)=true) (d2:c.shortTexts.isNone=true) (d3:P.stopsHeard=true) (d4:P.mayEnter=true) (d5:(c.lifted==P.liftsFinal)=true) (d6:(P.make==some c.make)=true)
  (e1:(c.kinds==(if c.domain.isEmpty then[] else fn.params.toList.map fun t=>match P.underlying t with|some (.int k)=>some k|_=>none))=true) (e2:(c.pinned==c.pinnedBy)=true)
  (e3:(c.veiled==(fn.params.toList++s.plain.varTypes P++fn.resultTypes.toList).any (P.veiledRec ·))=true) (e4:c.veiledFits P fn.params.toList (fn.params.toList++s.plain.varTypes P++fn.resultTypes.toList)=true):
  joinedFacts P f fn s c=true:=by
 simp only[Bool.and_eq_true] at rest
 obtain⟨⟨⟨⟨⟨⟨⟨⟨r1,r2⟩,r3⟩,r4⟩,r5⟩,r6⟩,r7⟩,r8⟩,r9⟩:=rest
 unfold joinedFacts
 simp only[a1,a2,a3,a4,a5,a6,a7,a8,a9,b1,b2,b3,b4,r1,r2,r3,r4,r5,r6,r7,r8,r9,d1,d2,d3,d4,d5,d6,e2,e3,e4,Bool.and_self,Bool.true_and,Bool.and_true]
 exact e1
end
end Go.Vm
end
