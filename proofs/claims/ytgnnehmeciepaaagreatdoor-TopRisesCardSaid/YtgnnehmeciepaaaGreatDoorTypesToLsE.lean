/- Proved: laws of a machine of values, or what a function answers; no conditions but each theorem's own. -/
import Derived.Test.YtgnnehmeciepaaaGreatDoorProg
import Derived.Test.YtgnnehmeciepaaaGreatDoorVmYToNum
set_option linter.unusedVariables false
set_option linter.unusedSimpArgs false
set_option linter.unusedSectionVars false
set_option maxRecDepth 20000
set_option maxHeartbeats 8000000
section
namespace Go.Vm.Ty
open Go.Proofs
set_option maxRecDepth 100000
theorem sz3:al Tryz.prog 3=some 1:=by kernel_rfl
theorem zero3:aG Tryz.prog 3=some [.i64 0]:=by kernel_rfl
theorem mark3:aL Tryz.prog 3=none:=by kernel_rfl
theorem row3:aF Tryz.prog 3=some false:=by kernel_rfl
theorem sz4:al Tryz.prog 4=some 1:=by kernel_rfl
theorem zero4:aG Tryz.prog 4=some [.bool false]:=by kernel_rfl
theorem row4:aF Tryz.prog 4=some false:=by kernel_rfl
theorem sz5:al Tryz.prog 5=some 1:=by kernel_rfl
theorem by5:aK Tryz.prog 5=some 1:=by kernel_rfl
theorem zero5:aG Tryz.prog 5=some [.u8 0#8]:=by kernel_rfl
theorem row5:aF Tryz.prog 5=some false:=by kernel_rfl
theorem sz9:al Tryz.prog 9=some 1:=by kernel_rfl
theorem by9:aK Tryz.prog 9=some 16:=by kernel_rfl
theorem zero9:aG Tryz.prog 9=some [.str []]:=by kernel_rfl
theorem mark9:aL Tryz.prog 9=none:=by kernel_rfl
theorem row9:aF Tryz.prog 9=some false:=by kernel_rfl
theorem sz22:al Tryz.prog 22=some 1:=by kernel_rfl
theorem row22:aF Tryz.prog 22=some false:=by kernel_rfl
theorem TQ:eX Tryz.prog 22=some 9:=by kernel_rfl
theorem TR:eX Tryz.prog 23=some 3:=by kernel_rfl
theorem sz25:al Tryz.prog 25=some 1:=by kernel_rfl
theorem zero25:aG Tryz.prog 25=some [.nilPtr]:=by kernel_rfl
theorem mark25:aL Tryz.prog 25=none:=by kernel_rfl
theorem row25:aF Tryz.prog 25=some false:=by kernel_rfl
theorem sz29:al Tryz.prog 29=some 1:=by kernel_rfl
theorem row29:aF Tryz.prog 29=some false:=by kernel_rfl
theorem sz31:al Tryz.prog 31=some 1:=by kernel_rfl
theorem row31:aF Tryz.prog 31=some false:=by kernel_rfl
theorem sz34:al Tryz.prog 34=some 7:=by kernel_rfl
theorem mark34:aL Tryz.prog 34=none:=by kernel_rfl
theorem row34:aF Tryz.prog 34=some true:=by kernel_rfl
theorem Ps:aw Tryz.prog 34 0=some (0,3):=by kernel_rfl
theorem Pu:aw Tryz.prog 34 1=some (1,3):=by kernel_rfl
theorem Px:aw Tryz.prog 34 4=some (4,31):=by kernel_rfl
theorem Py:aw Tryz.prog 34 5=some (5,31):=by kernel_rfl
theorem Pz:aw Tryz.prog 34 6=some (6,9):=by kernel_rfl
theorem TS:aX Tryz.prog 34=some ([.i64 0,.i64 0,.i64 0,.i64 0,.u32 0#32,.u32 0#32,.str []],.inl [(0,1),(1,1),(2,1),(3,1),(4,1),(5,1),(6,1)]):=by kernel_rfl
theorem sz39:al Tryz.prog 39=some 1:=by kernel_rfl
theorem row39:aF Tryz.prog 39=some false:=by kernel_rfl
theorem TT:eX Tryz.prog 39=some 60:=by kernel_rfl
theorem sz44:al Tryz.prog 44=some 1:=by kernel_rfl
theorem row44:aF Tryz.prog 44=some false:=by kernel_rfl
theorem TU:eX Tryz.prog 44=some 48:=by kernel_rfl
theorem sz45:al Tryz.prog 45=some 1:=by kernel_rfl
theorem row45:aF Tryz.prog 45=some false:=by kernel_rfl
theorem TV:eX Tryz.prog 45=some 54:=by kernel_rfl
theorem mark47:aL Tryz.prog 47=none:=by kernel_rfl
theorem PA:aw Tryz.prog 47 0=some (0,44):=by kernel_rfl
theorem PB:aw Tryz.prog 47 1=some (1,45):=by kernel_rfl
theorem TW:aX Tryz.prog 47=some ([.nilSlice,.nilSlice],.inl [(0,1),(1,1)]):=by kernel_rfl
theorem sz48:al Tryz.prog 48=some 1:=by kernel_rfl
theorem by48:aK Tryz.prog 48=some 8:=by kernel_rfl
theorem zero48:aG Tryz.prog 48=some [.nilPtr]:=by kernel_rfl
theorem row48:aF Tryz.prog 48=some false:=by kernel_rfl
theorem sz50:al Tryz.prog 50=some 1:=by kernel_rfl
theorem row50:aF Tryz.prog 50=some false:=by kernel_rfl
theorem mark52:aL Tryz.prog 52=none:=by kernel_rfl
theorem PC:aw Tryz.prog 52 0=some (0,50):=by kernel_rfl
theorem PD:aw Tryz.prog 52 1=some (1,39):=by kernel_rfl
theorem TX:aX Tryz.prog 52=some ([.nilPtr,.nilSlice],.inl [(0,1),(1,1)]):=by kernel_rfl
theorem sz54:al Tryz.prog 54=some 3:=by kernel_rfl
theorem by54:aK Tryz.prog 54=some 24:=by kernel_rfl
theorem zero54:aG Tryz.prog 54=some [.u32 0#32,.u32 0#32,.str []]:=by kernel_rfl
theorem mark54:aL Tryz.prog 54=none:=by kernel_rfl
theorem row54:aF Tryz.prog 54=some true:=by kernel_rfl
theorem PE:aw Tryz.prog 54 0=some (0,31):=by kernel_rfl
theorem PF:aw Tryz.prog 54 1=some (1,31):=by kernel_rfl
theorem PG:aw Tryz.prog 54 2=some (2,9):=by kernel_rfl
theorem TY:aX Tryz.prog 54=some ([.u32 0#32,.u32 0#32,.str []],.inl [(0,1),(1,1),(2,1)]):=by kernel_rfl
theorem sz60:al Tryz.prog 60=some 3:=by kernel_rfl
theorem by60:aK Tryz.prog 60=some 32:=by kernel_rfl
theorem zero60:aG Tryz.prog 60=some [.i64 0,.u32 0#32,.str []]:=by kernel_rfl
theorem TZ:aX Tryz.prog 60=some ([.i64 0,.u32 0#32,.str []],.inl [(0,1),(1,1),(2,1)]):=by kernel_rfl
theorem T0:eX Tryz.prog 63=some 5:=by kernel_rfl
theorem T1:eX Tryz.prog 65=some 72:=by kernel_rfl
theorem sz69:al Tryz.prog 69=some 2:=by kernel_rfl
theorem zero69:aG Tryz.prog 69=some [.u32 0#32,.i64 0]:=by kernel_rfl
theorem mark69:aL Tryz.prog 69=none:=by kernel_rfl
theorem row69:aF Tryz.prog 69=some true:=by kernel_rfl
theorem PK:aw Tryz.prog 69 0=some (0,31):=by kernel_rfl
theorem PL:aw Tryz.prog 69 1=some (1,3):=by kernel_rfl
theorem T2:aX Tryz.prog 69=some ([.u32 0#32,.i64 0],.inl [(0,1),(1,1)]):=by kernel_rfl
theorem sz70:al Tryz.prog 70=some 1:=by kernel_rfl
theorem row70:aF Tryz.prog 70=some false:=by kernel_rfl
theorem T3:eX Tryz.prog 70=some 69:=by kernel_rfl
theorem sz72:al Tryz.prog 72=some 4:=by kernel_rfl
theorem by72:aK Tryz.prog 72=some 64:=by kernel_rfl
theorem zero72:aG Tryz.prog 72=some [.str [],.str [],.u32 0#32,.nilSlice]:=by kernel_rfl
theorem mark72:aL Tryz.prog 72=none:=by kernel_rfl
theorem row72:aF Tryz.prog 72=some true:=by kernel_rfl
theorem PM:aw Tryz.prog 72 0=some (0,9):=by kernel_rfl
theorem PN:aw Tryz.prog 72 1=some (1,9):=by kernel_rfl
theorem PO:aw Tryz.prog 72 2=some (2,31):=by kernel_rfl
theorem PP:aw Tryz.prog 72 3=some (3,70):=by kernel_rfl
theorem T4:aX Tryz.prog 72=some ([.str [],.str [],.u32 0#32,.nilSlice],.inl [(0,1),(1,1),(2,1),(3,1)]):=by kernel_rfl
theorem sz78:al Tryz.prog 78=some 1:=by kernel_rfl
theorem zero78:aG Tryz.prog 78=some [.u64 0#64]:=by kernel_rfl
theorem row78:aF Tryz.prog 78=some false:=by kernel_rfl
theorem sz79:al Tryz.prog 79=some 1:=by kernel_rfl
theorem row79:aF Tryz.prog 79=some false:=by kernel_rfl
theorem T5:eX Tryz.prog 79=some 85:=by kernel_rfl
theorem sz80:al Tryz.prog 80=some 1:=by kernel_rfl
theorem row80:aF Tryz.prog 80=some false:=by kernel_rfl
theorem sz81:al Tryz.prog 81=some 1:=by kernel_rfl
theorem row81:aF Tryz.prog 81=some false:=by kernel_rfl
theorem mark83:aL Tryz.prog 83=none:=by kernel_rfl
theorem PQ:aw Tryz.prog 83 0=some (0,31):=by kernel_rfl
theorem PR:aw Tryz.prog 83 1=some (1,9):=by kernel_rfl
theorem PT:aw Tryz.prog 83 2=some (2,9):=by kernel_rfl
theorem PU:aw Tryz.prog 83 3=some (3,9):=by kernel_rfl
theorem PV:aw Tryz.prog 83 4=some (4,3):=by kernel_rfl
theorem PW:aw Tryz.prog 83 5=some (5,78):=by kernel_rfl
theorem PX:aw Tryz.prog 83 6=some (6,9):=by kernel_rfl
theorem PY:aw Tryz.prog 83 7=some (7,31):=by kernel_rfl
theorem PZ:aw Tryz.prog 83 8=some (8,3):=by kernel_rfl
theorem P0:aw Tryz.prog 83 9=some (9,3):=by kernel_rfl
theorem L0:aw Tryz.prog 83 10=some (10,4):=by kernel_rfl
theorem L1:aw Tryz.prog 83 11=some (11,79):=by kernel_rfl
theorem L2:aw Tryz.prog 83 12=some (12,80):=by kernel_rfl
theorem L3:aw Tryz.prog 83 13=some (13,81):=by kernel_rfl
theorem L5:aw Tryz.prog 83 14=some (14,45):=by kernel_rfl
theorem L6:aw Tryz.prog 83 15=some (15,39):=by kernel_rfl
theorem T6:aX Tryz.prog 83=some ([.u32 0#32,.str [],.str [],.str [],.i64 0,.u64 0#64,.str [],.u32 0#32,.i64 0,.i64 0,.bool false,.nilSlice,.nilPtr,.nilPtr,.nilSlice,.nilSlice],.inl [(0,1),(1,1),(2,1),(3,1),(4,1),(5,1),(6,1),(7,1),(8,1),(9,1),(10,1),(11,1),(12,1),(13,1),(14,1),(15,1)]):=by kernel_rfl
theorem sz85:al Tryz.prog 85=some 1:=by kernel_rfl
theorem by85:aK Tryz.prog 85=some 8:=by kernel_rfl
theorem zero85:aG Tryz.prog 85=some [.nilPtr]:=by kernel_rfl
theorem row85:aF Tryz.prog 85=some false:=by kernel_rfl
theorem sz87:al Tryz.prog 87=some 1:=by kernel_rfl
theorem row87:aF Tryz.prog 87=some false:=by kernel_rfl
theorem sz89:al Tryz.prog 89=some 2:=by kernel_rfl
theorem zero89:aG Tryz.prog 89=some [.i64 0,.i64 0]:=by kernel_rfl
theorem mark89:aL Tryz.prog 89=none:=by kernel_rfl
theorem row89:aF Tryz.prog 89=some true:=by kernel_rfl
theorem P1:aw Tryz.prog 89 0=some (0,3):=by kernel_rfl
theorem P2:aw Tryz.prog 89 1=some (1,3):=by kernel_rfl
theorem T7:aX Tryz.prog 89=some ([.i64 0,.i64 0],.inl [(0,1),(1,1)]):=by kernel_rfl
theorem sz90:al Tryz.prog 90=some 1:=by kernel_rfl
theorem row90:aF Tryz.prog 90=some false:=by kernel_rfl
theorem sz91:al Tryz.prog 91=some 1:=by kernel_rfl
theorem zero91:aG Tryz.prog 91=some [.nilPtr]:=by kernel_rfl
theorem row91:aF Tryz.prog 91=some false:=by kernel_rfl
theorem mark93:aL Tryz.prog 93=none:=by kernel_rfl
theorem P3:aw Tryz.prog 93 0=some (0,50):=by kernel_rfl
theorem P4:aw Tryz.prog 93 1=some (1,87):=by kernel_rfl
theorem P5:aw Tryz.prog 93 2=some (2,3):=by kernel_rfl
theorem P6:aw Tryz.prog 93 3=some (3,9):=by kernel_rfl
theorem P7:aw Tryz.prog 93 4=some (4,9):=by kernel_rfl
theorem P8:aw Tryz.prog 93 5=some (5,31):=by kernel_rfl
theorem P9:aw Tryz.prog 93 6=some (6,3):=by kernel_rfl
theorem Qa:aw Tryz.prog 93 7=some (7,3):=by kernel_rfl
theorem Qb:aw Tryz.prog 93 8=some (8,4):=by kernel_rfl
theorem Qc:aw Tryz.prog 93 9=some (9,89):=by kernel_rfl
theorem L7:aw Tryz.prog 93 10=some (11,9):=by kernel_rfl
theorem L8:aw Tryz.prog 93 11=some (12,3):=by kernel_rfl
theorem L9:aw Tryz.prog 93 12=some (13,22):=by kernel_rfl
theorem Ma:aw Tryz.prog 93 13=some (14,90):=by kernel_rfl
theorem Mb:aw Tryz.prog 93 14=some (15,31):=by kernel_rfl
theorem Mc:aw Tryz.prog 93 15=some (16,9):=by kernel_rfl
theorem Md:aw Tryz.prog 93 16=some (17,91):=by kernel_rfl
theorem Me:aw Tryz.prog 93 17=some (18,91):=by kernel_rfl
theorem Mf:aw Tryz.prog 93 18=some (19,91):=by kernel_rfl
theorem T8:aX Tryz.prog 93=some ([.nilPtr,.nilPtr,.i64 0,.str [],.str [],.u32 0#32,.i64 0,.i64 0,.bool false,.i64 0,.i64 0,.str [],.i64 0,.nilSlice,.nilPtr,.u32 0#32,.str [],.nilPtr,.nilPtr,.nilPtr],.inl [(0,1),(1,1),(2,1),(3,1),(4,1),(5,1),(6,1),(7,1),(8,1),(9,2),(11,1),(12,1),(13,1),(14,1),(15,1),(16,1),(17,1),(18,1),(19,1)]):=by kernel_rfl
theorem sz94:al Tryz.prog 94=some 1:=by kernel_rfl
theorem row94:aF Tryz.prog 94=some false:=by kernel_rfl
theorem sz96:al Tryz.prog 96=some 4:=by kernel_rfl
theorem mark96:aL Tryz.prog 96=some ⟨[],0⟩:=by kernel_rfl
theorem Qd:aw Tryz.prog 96 0=some (0,94):=by kernel_rfl
theorem Qe:aw Tryz.prog 96 1=some (1,3):=by kernel_rfl
theorem Qf:aw Tryz.prog 96 2=some (2,31):=by kernel_rfl
theorem Qg:aw Tryz.prog 96 3=some (3,31):=by kernel_rfl
theorem T9:aX Tryz.prog 96=some ([.nilPtr,.i64 0,.u32 0#32,.u32 0#32],.inl [(0,1),(1,1),(2,1),(3,1)]):=by kernel_rfl
theorem sz129:al Tryz.prog 129=some 1:=by kernel_rfl
theorem row129:aF Tryz.prog 129=some false:=by kernel_rfl
theorem sz130:al Tryz.prog 130=some 2:=by kernel_rfl
theorem sz132:al Tryz.prog 132=some 4:=by kernel_rfl
theorem mark132:aL Tryz.prog 132=none:=by kernel_rfl
theorem Mg:aw Tryz.prog 132 0=some (0,130):=by kernel_rfl
theorem Mh:aw Tryz.prog 132 1=some (2,4):=by kernel_rfl
theorem Mi:aw Tryz.prog 132 2=some (3,3):=by kernel_rfl
theorem Rr:aX Tryz.prog 132=some ([.nilPtr,.nilPtr,.bool false,.i64 0],.inl [(0,2),(2,1),(3,1)]):=by kernel_rfl
theorem mark134:aL Tryz.prog 134=none:=by kernel_rfl
theorem Mj:aw Tryz.prog 134 0=some (0,132):=by kernel_rfl
theorem Mk:aw Tryz.prog 134 1=some (4,3):=by kernel_rfl
theorem Rs:aX Tryz.prog 134=some ([.nilPtr,.nilPtr,.bool false,.i64 0,.i64 0],.inl [(0,4),(4,1)]):=by kernel_rfl
theorem mark137:aL Tryz.prog 137=none:=by kernel_rfl
theorem Ml:aw Tryz.prog 137 0=some (0,3):=by kernel_rfl
theorem Mm:aw Tryz.prog 137 1=some (1,135):=by kernel_rfl
theorem Rt:aX Tryz.prog 137=some ([.i64 0,.junk],.inl [(0,1),(1,1)]):=by kernel_rfl
theorem sz140:al Tryz.prog 140=some 5:=by kernel_rfl
theorem mark140:aL Tryz.prog 140=none:=by kernel_rfl
theorem Mn:aw Tryz.prog 140 0=some (0,4):=by kernel_rfl
theorem Mo:aw Tryz.prog 140 1=some (1,3):=by kernel_rfl
theorem Mp:aw Tryz.prog 140 2=some (2,3):=by kernel_rfl
theorem Mq:aw Tryz.prog 140 3=some (3,4):=by kernel_rfl
theorem Mr:aw Tryz.prog 140 4=some (4,3):=by kernel_rfl
theorem Ru:aX Tryz.prog 140=some ([.bool false,.i64 0,.i64 0,.bool false,.i64 0],.inl [(0,1),(1,1),(2,1),(3,1),(4,1)]):=by kernel_rfl
theorem sz145:al Tryz.prog 145=some 1:=by kernel_rfl
theorem row145:aF Tryz.prog 145=some false:=by kernel_rfl
theorem sz146:al Tryz.prog 146=some 5:=by kernel_rfl
theorem zero146:aG Tryz.prog 146=some [.nilFn,.nilFn,.nilFn,.nilFn,.nilFn]:=by kernel_rfl
theorem mark146:aL Tryz.prog 146=none:=by kernel_rfl
theorem Rw:aX Tryz.prog 146=some ([.nilFn,.nilFn,.nilFn,.nilFn,.nilFn],.inr 1):=by kernel_rfl
theorem zero148:aG Tryz.prog 148=some [.u8 0#8,.u8 0#8,.u8 0#8,.u8 0#8,.u8 0#8,.u8 0#8,.u8 0#8,.u8 0#8,.u8 0#8,.u8 0#8,.u8 0#8,.u8 0#8,.u8 0#8,.u8 0#8,.u8 0#8,.u8 0#8,.u8 0#8,.u8 0#8,.u8 0#8,.u8 0#8,.u8 0#8,.u8 0#8,.u8 0#8,.u8 0#8,.u8 0#8,.u8 0#8,.u8 0#8,.u8 0#8,.u8 0#8,.u8 0#8,.u8 0#8,.u8 0#8,.u8 0#8,.u8 0#8,.u8 0#8,.u8 0#8,.u8 0#8,.u8 0#8,.u8 0#8,.u8 0#8,.u8 0#8,.u8 0#8,.u8 0#8,.u8 0#8,.u8 0#8,.u8 0#8,.u8 0#8,.u8 0#8,.u8 0#8,.u8 0#8,.u8 0#8,.u8 0#8,.u8 0#8,.u8 0#8,.u8 0#8,.u8 0#8,.u8 0#8,.u8 0#8,.u8 0#8,.u8 0#8,.u8 0#8,.u8 0#8,.u8 0#8,.u8 0#8]:=by kernel_rfl
theorem mark148:aL Tryz.prog 148=none:=by kernel_rfl
theorem zero149:aG Tryz.prog 149=some [.u64 0#64,.u64 0#64,.u64 0#64,.u64 0#64,.u64 0#64]:=by kernel_rfl
theorem mark149:aL Tryz.prog 149=none:=by kernel_rfl
theorem sz150:al Tryz.prog 150=some 5:=by kernel_rfl
theorem zero150:aG Tryz.prog 150=some [.u64 0#64,.u64 0#64,.u64 0#64,.u64 0#64,.u64 0#64]:=by kernel_rfl
theorem mark150:aL Tryz.prog 150=none:=by kernel_rfl
theorem row150:aF Tryz.prog 150=some true:=by kernel_rfl
theorem RC:aX Tryz.prog 150=some ([.u64 0#64,.u64 0#64,.u64 0#64,.u64 0#64,.u64 0#64],.inr 1):=by kernel_rfl
theorem sz162:al Tryz.prog 162=some 1:=by kernel_rfl
theorem row162:aF Tryz.prog 162=some false:=by kernel_rfl
theorem sz164:al Tryz.prog 164=some 2:=by kernel_rfl
theorem zero164:aG Tryz.prog 164=some [.str [],.str []]:=by kernel_rfl
theorem mark164:aL Tryz.prog 164=none:=by kernel_rfl
theorem row164:aF Tryz.prog 164=some true:=by kernel_rfl
theorem Ms:aw Tryz.prog 164 0=some (0,9):=by kernel_rfl
theorem Mt:aw Tryz.prog 164 1=some (1,9):=by kernel_rfl
theorem RD:aX Tryz.prog 164=some ([.str [],.str []],.inl [(0,1),(1,1)]):=by kernel_rfl
theorem mark166:aL Tryz.prog 166=none:=by kernel_rfl
theorem Mu:aw Tryz.prog 166 0=some (0,162):=by kernel_rfl
theorem Mv:aw Tryz.prog 166 1=some (1,164):=by kernel_rfl
theorem Mw:aw Tryz.prog 166 2=some (3,3):=by kernel_rfl
theorem Mx:aw Tryz.prog 166 3=some (4,3):=by kernel_rfl
theorem My:aw Tryz.prog 166 4=some (5,3):=by kernel_rfl
theorem Mz:aw Tryz.prog 166 5=some (6,4):=by kernel_rfl
theorem RE:aX Tryz.prog 166=some ([.nilPtr,.str [],.str [],.i64 0,.i64 0,.i64 0,.bool false],.inl [(0,1),(1,2),(3,1),(4,1),(5,1),(6,1)]):=by kernel_rfl
theorem sz169:al Tryz.prog 169=some 4:=by kernel_rfl
theorem zero169:aG Tryz.prog 169=some [.i64 0,.str [],.str [],.str []]:=by kernel_rfl
theorem mark169:aL Tryz.prog 169=none:=by kernel_rfl
theorem row169:aF Tryz.prog 169=some true:=by kernel_rfl
theorem MA:aw Tryz.prog 169 0=some (0,3):=by kernel_rfl
theorem MB:aw Tryz.prog 169 1=some (1,9):=by kernel_rfl
theorem MC:aw Tryz.prog 169 2=some (2,9):=by kernel_rfl
theorem MD:aw Tryz.prog 169 3=some (3,9):=by kernel_rfl
theorem RF:aX Tryz.prog 169=some ([.i64 0,.str [],.str [],.str []],.inl [(0,1),(1,1),(2,1),(3,1)]):=by kernel_rfl
theorem sz179:al Tryz.prog 179=some 6:=by kernel_rfl
theorem zero179:aG Tryz.prog 179=some [.i64 0,.u32 0#32,.str [],.i64 0,.i64 0,.i64 0]:=by kernel_rfl
theorem mark179:aL Tryz.prog 179=none:=by kernel_rfl
theorem row179:aF Tryz.prog 179=some true:=by kernel_rfl
theorem ME:aw Tryz.prog 179 0=some (0,3):=by kernel_rfl
theorem MF:aw Tryz.prog 179 1=some (1,31):=by kernel_rfl
theorem MG:aw Tryz.prog 179 2=some (2,9):=by kernel_rfl
theorem MH:aw Tryz.prog 179 3=some (3,89):=by kernel_rfl
theorem MI:aw Tryz.prog 179 4=some (5,3):=by kernel_rfl
theorem RG:aX Tryz.prog 179=some ([.i64 0,.u32 0#32,.str [],.i64 0,.i64 0,.i64 0],.inl [(0,1),(1,1),(2,1),(3,2),(5,1)]):=by kernel_rfl
theorem RH:eX Tryz.prog 191=some 91:=by kernel_rfl
theorem sz194:al Tryz.prog 194=some 8:=by kernel_rfl
theorem zero194:aG Tryz.prog 194=some [.u32 0#32,.u32 0#32,.u32 0#32,.u32 0#32,.u32 0#32,.u32 0#32,.u32 0#32,.u32 0#32]:=by kernel_rfl
theorem mark194:aL Tryz.prog 194=none:=by kernel_rfl
theorem row194:aF Tryz.prog 194=some true:=by kernel_rfl
theorem RJ:aX Tryz.prog 194=some ([.u32 0#32,.u32 0#32,.u32 0#32,.u32 0#32,.u32 0#32,.u32 0#32,.u32 0#32,.u32 0#32],.inr 1):=by kernel_rfl
theorem zero199:aG Tryz.prog 199=some [.u64 0#64,.u64 0#64,.u64 0#64,.u64 0#64]:=by kernel_rfl
theorem mark199:aL Tryz.prog 199=none:=by kernel_rfl
theorem RM:aX Tryz.prog 199=some ([.u64 0#64,.u64 0#64,.u64 0#64,.u64 0#64],.inr 1):=by kernel_rfl
theorem sz201:al Tryz.prog 201=some 2:=by kernel_rfl
theorem zero201:aG Tryz.prog 201=some [.u64 0#64,.u64 0#64]:=by kernel_rfl
theorem mark201:aL Tryz.prog 201=none:=by kernel_rfl
theorem row201:aF Tryz.prog 201=some true:=by kernel_rfl
theorem MJ:aw Tryz.prog 201 0=some (0,78):=by kernel_rfl
theorem MK:aw Tryz.prog 201 1=some (1,78):=by kernel_rfl
theorem RN:aX Tryz.prog 201=some ([.u64 0#64,.u64 0#64],.inl [(0,1),(1,1)]):=by kernel_rfl
theorem sz202:al Tryz.prog 202=some 10:=by kernel_rfl
theorem zero202:aG Tryz.prog 202=some [.u64 0#64,.u64 0#64,.u64 0#64,.u64 0#64,.u64 0#64,.u64 0#64,.u64 0#64,.u64 0#64,.u64 0#64,.u64 0#64]:=by kernel_rfl
theorem mark202:aL Tryz.prog 202=none:=by kernel_rfl
theorem row202:aF Tryz.prog 202=some true:=by kernel_rfl
theorem RQ:eX Tryz.prog 205=some 78:=by kernel_rfl
theorem sz210:al Tryz.prog 210=some 1:=by kernel_rfl
theorem row210:aF Tryz.prog 210=some false:=by kernel_rfl
theorem sz218:al Tryz.prog 218=some 1:=by kernel_rfl
theorem row218:aF Tryz.prog 218=some false:=by kernel_rfl
theorem mark220:aL Tryz.prog 220=none:=by kernel_rfl
theorem ML:aw Tryz.prog 220 0=some (0,218):=by kernel_rfl
theorem MM:aw Tryz.prog 220 1=some (1,29):=by kernel_rfl
theorem RR:aX Tryz.prog 220=some ([.nilPtr,.i64 0],.inl [(0,1),(1,1)]):=by kernel_rfl
theorem sz222:al Tryz.prog 222=some 5:=by kernel_rfl
theorem zero222:aG Tryz.prog 222=some [.nilIface,.str [],.str [],.str [],.u64 0#64]:=by kernel_rfl
theorem mark222:aL Tryz.prog 222=none:=by kernel_rfl
theorem row222:aF Tryz.prog 222=some true:=by kernel_rfl
theorem MN:aw Tryz.prog 222 0=some (0,210):=by kernel_rfl
theorem MO:aw Tryz.prog 222 1=some (1,9):=by kernel_rfl
theorem MP:aw Tryz.prog 222 2=some (2,9):=by kernel_rfl
theorem MQ:aw Tryz.prog 222 3=some (3,9):=by kernel_rfl
theorem MR:aw Tryz.prog 222 4=some (4,78):=by kernel_rfl
theorem RS:aX Tryz.prog 222=some ([.nilIface,.str [],.str [],.str [],.u64 0#64],.inl [(0,1),(1,1),(2,1),(3,1),(4,1)]):=by kernel_rfl
theorem mark224:aL Tryz.prog 224=none:=by kernel_rfl
theorem MS:aw Tryz.prog 224 0=some (0,222):=by kernel_rfl
theorem MT:aw Tryz.prog 224 1=some (5,169):=by kernel_rfl
theorem MU:aw Tryz.prog 224 2=some (9,9):=by kernel_rfl
theorem MV:aw Tryz.prog 224 3=some (10,31):=by kernel_rfl
theorem RT:aX Tryz.prog 224=some ([.nilIface,.str [],.str [],.str [],.u64 0#64,.i64 0,.str [],.str [],.str [],.str [],.u32 0#32],.inl [(0,5),(5,4),(9,1),(10,1)]):=by kernel_rfl
theorem mark235:aL Tryz.prog 235=none:=by kernel_rfl
theorem MW:aw Tryz.prog 235 0=some (0,222):=by kernel_rfl
theorem MX:aw Tryz.prog 235 1=some (5,3):=by kernel_rfl
theorem MY:aw Tryz.prog 235 2=some (6,31):=by kernel_rfl
theorem MZ:aw Tryz.prog 235 3=some (7,9):=by kernel_rfl
theorem M0:aw Tryz.prog 235 4=some (8,9):=by kernel_rfl
theorem RU:aX Tryz.prog 235=some ([.nilIface,.str [],.str [],.str [],.u64 0#64,.i64 0,.u32 0#32,.str [],.str []],.inl [(0,5),(5,1),(6,1),(7,1),(8,1)]):=by kernel_rfl
theorem zero242:aG Tryz.prog 242=some [.u32 0#32,.u32 0#32,.u32 0#32,.u32 0#32,.u32 0#32,.u32 0#32,.u32 0#32,.u32 0#32,.u32 0#32,.u32 0#32,.u32 0#32,.u32 0#32,.u32 0#32,.u32 0#32,.u32 0#32,.u32 0#32]:=by kernel_rfl
theorem mark242:aL Tryz.prog 242=none:=by kernel_rfl
theorem zero243:aG Tryz.prog 243=some [.u32 0#32,.u32 0#32,.u32 0#32,.u32 0#32,.u32 0#32,.u32 0#32,.u32 0#32,.u32 0#32,.u32 0#32,.u32 0#32,.u32 0#32,.u32 0#32,.u32 0#32,.u32 0#32,.u32 0#32,.u32 0#32]:=by kernel_rfl
theorem mark243:aL Tryz.prog 243=none:=by kernel_rfl
theorem RZ:eX Tryz.prog 244=some 31:=by kernel_rfl
theorem sz245:al Tryz.prog 245=some 4:=by kernel_rfl
theorem zero245:aG Tryz.prog 245=some [.i64 0,.i64 0,.i64 0,.i64 0]:=by kernel_rfl
theorem mark245:aL Tryz.prog 245=none:=by kernel_rfl
theorem row245:aF Tryz.prog 245=some true:=by kernel_rfl
theorem R1:aX Tryz.prog 245=some ([.i64 0,.i64 0,.i64 0,.i64 0],.inr 1):=by kernel_rfl
theorem sz246:al Tryz.prog 246=some 32:=by kernel_rfl
theorem zero246:aG Tryz.prog 246=some [.i64 0,.i64 0,.i64 0,.i64 0,.i64 0,.i64 0,.i64 0,.i64 0,.i64 0,.i64 0,.i64 0,.i64 0,.i64 0,.i64 0,.i64 0,.i64 0,.i64 0,.i64 0,.i64 0,.i64 0,.i64 0,.i64 0,.i64 0,.i64 0,.i64 0,.i64 0,.i64 0,.i64 0,.i64 0,.i64 0,.i64 0,.i64 0]:=by kernel_rfl
theorem mark246:aL Tryz.prog 246=none:=by kernel_rfl
theorem row246:aF Tryz.prog 246=some true:=by kernel_rfl
theorem R3:aX Tryz.prog 246=some ([.i64 0,.i64 0,.i64 0,.i64 0,.i64 0,.i64 0,.i64 0,.i64 0,.i64 0,.i64 0,.i64 0,.i64 0,.i64 0,.i64 0,.i64 0,.i64 0,.i64 0,.i64 0,.i64 0,.i64 0,.i64 0,.i64 0,.i64 0,.i64 0,.i64 0,.i64 0,.i64 0,.i64 0,.i64 0,.i64 0,.i64 0,.i64 0],.inr 4):=by kernel_rfl
theorem sz247:al Tryz.prog 247=some 16:=by kernel_rfl
theorem zero247:aG Tryz.prog 247=some [.u8 0#8,.u8 0#8,.u8 0#8,.u8 0#8,.u8 0#8,.u8 0#8,.u8 0#8,.u8 0#8,.u8 0#8,.u8 0#8,.u8 0#8,.u8 0#8,.u8 0#8,.u8 0#8,.u8 0#8,.u8 0#8]:=by kernel_rfl
theorem mark247:aL Tryz.prog 247=none:=by kernel_rfl
theorem row247:aF Tryz.prog 247=some true:=by kernel_rfl
theorem R5:aX Tryz.prog 247=some ([.u8 0#8,.u8 0#8,.u8 0#8,.u8 0#8,.u8 0#8,.u8 0#8,.u8 0#8,.u8 0#8,.u8 0#8,.u8 0#8,.u8 0#8,.u8 0#8,.u8 0#8,.u8 0#8,.u8 0#8,.u8 0#8],.inr 1):=by kernel_rfl
theorem sz248:al Tryz.prog 248=some 160:=by kernel_rfl
theorem zero248:aG Tryz.prog 248=some (List.replicate 160 (.u8 0#8)):=by kernel_rfl
theorem mark248:aL Tryz.prog 248=none:=by kernel_rfl
theorem row248:aF Tryz.prog 248=some true:=by kernel_rfl
theorem R7:aX Tryz.prog 248=some ((List.replicate 160 (.u8 0#8)),.inr 16):=by kernel_rfl
theorem sz251:al Tryz.prog 251=some 8:=by kernel_rfl
theorem zero251:aG Tryz.prog 251=some [.u32 0#32,.u32 0#32,.u32 0#32,.u32 0#32,.u32 0#32,.u32 0#32,.u32 0#32,.u32 0#32]:=by kernel_rfl
theorem mark251:aL Tryz.prog 251=none:=by kernel_rfl
theorem row251:aF Tryz.prog 251=some true:=by kernel_rfl
theorem Sa:aX Tryz.prog 251=some ([.u32 0#32,.u32 0#32,.u32 0#32,.u32 0#32,.u32 0#32,.u32 0#32,.u32 0#32,.u32 0#32],.inr 1):=by kernel_rfl
theorem mark254:aL Tryz.prog 254=none:=by kernel_rfl
theorem M1:aw Tryz.prog 254 0=some (0,251):=by kernel_rfl
theorem M4:aw Tryz.prog 254 1=some (8,9):=by kernel_rfl
theorem M5:aw Tryz.prog 254 2=some (9,78):=by kernel_rfl
theorem Sb:aX Tryz.prog 254=some ([.u32 0#32,.u32 0#32,.u32 0#32,.u32 0#32,.u32 0#32,.u32 0#32,.u32 0#32,.u32 0#32,.str [],.u64 0#64],.inl [(0,8),(8,1),(9,1)]):=by kernel_rfl
theorem mark257:aL Tryz.prog 257=none:=by kernel_rfl
theorem Sc:aX Tryz.prog 257=some ([],.inl []):=by kernel_rfl
theorem mark258:aL Tryz.prog 258=none:=by kernel_rfl
theorem Sd:aX Tryz.prog 258=some ([],.inl []):=by kernel_rfl
theorem sz267:al Tryz.prog 267=some 64:=by kernel_rfl
theorem zero267:aG Tryz.prog 267=some [.u32 0#32,.u32 0#32,.u32 0#32,.u32 0#32,.u32 0#32,.u32 0#32,.u32 0#32,.u32 0#32,.u32 0#32,.u32 0#32,.u32 0#32,.u32 0#32,.u32 0#32,.u32 0#32,.u32 0#32,.u32 0#32,.u32 0#32,.u32 0#32,.u32 0#32,.u32 0#32,.u32 0#32,.u32 0#32,.u32 0#32,.u32 0#32,.u32 0#32,.u32 0#32,.u32 0#32,.u32 0#32,.u32 0#32,.u32 0#32,.u32 0#32,.u32 0#32,.u32 0#32,.u32 0#32,.u32 0#32,.u32 0#32,.u32 0#32,.u32 0#32,.u32 0#32,.u32 0#32,.u32 0#32,.u32 0#32,.u32 0#32,.u32 0#32,.u32 0#32,.u32 0#32,.u32 0#32,.u32 0#32,.u32 0#32,.u32 0#32,.u32 0#32,.u32 0#32,.u32 0#32,.u32 0#32,.u32 0#32,.u32 0#32,.u32 0#32,.u32 0#32,.u32 0#32,.u32 0#32,.u32 0#32,.u32 0#32,.u32 0#32,.u32 0#32]:=by kernel_rfl
theorem mark267:aL Tryz.prog 267=none:=by kernel_rfl
theorem row267:aF Tryz.prog 267=some true:=by kernel_rfl
theorem Sf:aX Tryz.prog 267=some ([.u32 0#32,.u32 0#32,.u32 0#32,.u32 0#32,.u32 0#32,.u32 0#32,.u32 0#32,.u32 0#32,.u32 0#32,.u32 0#32,.u32 0#32,.u32 0#32,.u32 0#32,.u32 0#32,.u32 0#32,.u32 0#32,.u32 0#32,.u32 0#32,.u32 0#32,.u32 0#32,.u32 0#32,.u32 0#32,.u32 0#32,.u32 0#32,.u32 0#32,.u32 0#32,.u32 0#32,.u32 0#32,.u32 0#32,.u32 0#32,.u32 0#32,.u32 0#32,.u32 0#32,.u32 0#32,.u32 0#32,.u32 0#32,.u32 0#32,.u32 0#32,.u32 0#32,.u32 0#32,.u32 0#32,.u32 0#32,.u32 0#32,.u32 0#32,.u32 0#32,.u32 0#32,.u32 0#32,.u32 0#32,.u32 0#32,.u32 0#32,.u32 0#32,.u32 0#32,.u32 0#32,.u32 0#32,.u32 0#32,.u32 0#32,.u32 0#32,.u32 0#32,.u32 0#32,.u32 0#32,.u32 0#32,.u32 0#32,.u32 0#32,.u32 0#32],.inr 1):=by kernel_rfl
theorem mark276:aL Tryz.prog 276=none:=by kernel_rfl
theorem M6:aw Tryz.prog 276 0=some (0,3):=by kernel_rfl
theorem M9:aw Tryz.prog 276 1=some (1,78):=by kernel_rfl
theorem Sg:aX Tryz.prog 276=some ([.i64 0,.u64 0#64],.inl [(0,1),(1,1)]):=by kernel_rfl
theorem sz284:al Tryz.prog 284=some 16:=by kernel_rfl
theorem zero284:aG Tryz.prog 284=some [.u32 0#32,.u32 0#32,.u32 0#32,.u32 0#32,.u32 0#32,.u32 0#32,.u32 0#32,.u32 0#32,.u32 0#32,.u32 0#32,.u32 0#32,.u32 0#32,.u32 0#32,.u32 0#32,.u32 0#32,.u32 0#32]:=by kernel_rfl
theorem mark284:aL Tryz.prog 284=none:=by kernel_rfl
theorem row284:aF Tryz.prog 284=some true:=by kernel_rfl
theorem Si:aX Tryz.prog 284=some ([.u32 0#32,.u32 0#32,.u32 0#32,.u32 0#32,.u32 0#32,.u32 0#32,.u32 0#32,.u32 0#32,.u32 0#32,.u32 0#32,.u32 0#32,.u32 0#32,.u32 0#32,.u32 0#32,.u32 0#32,.u32 0#32],.inr 1):=by kernel_rfl
theorem sz296:al Tryz.prog 296=some 2:=by kernel_rfl
theorem zero296:aG Tryz.prog 296=some [.u64 0#64,.u64 0#64]:=by kernel_rfl
theorem mark296:aL Tryz.prog 296=none:=by kernel_rfl
theorem row296:aF Tryz.prog 296=some true:=by kernel_rfl
theorem Sk:aX Tryz.prog 296=some ([.u64 0#64,.u64 0#64],.inr 1):=by kernel_rfl
theorem sz298:al Tryz.prog 298=some 3:=by kernel_rfl
theorem zero298:aG Tryz.prog 298=some [.u64 0#64,.u64 0#64,.u64 0#64]:=by kernel_rfl
theorem mark298:aL Tryz.prog 298=none:=by kernel_rfl
theorem row298:aF Tryz.prog 298=some true:=by kernel_rfl
theorem Sm:aX Tryz.prog 298=some ([.u64 0#64,.u64 0#64,.u64 0#64],.inr 1):=by kernel_rfl
theorem sz303:al Tryz.prog 303=some 2:=by kernel_rfl
theorem zero303:aG Tryz.prog 303=some [.i64 0,.i64 0]:=by kernel_rfl
theorem mark303:aL Tryz.prog 303=none:=by kernel_rfl
theorem row303:aF Tryz.prog 303=some true:=by kernel_rfl
theorem Sp:aX Tryz.prog 303=some ([.i64 0,.i64 0],.inr 1):=by kernel_rfl
theorem Sr:aX Tryz.prog 304=some ([.i64 0,.i64 0,.i64 0,.i64 0],.inr 2):=by kernel_rfl
theorem sz305:al Tryz.prog 305=some 256:=by kernel_rfl
theorem sz326:al Tryz.prog 326=some 1:=by kernel_rfl
theorem row326:aF Tryz.prog 326=some false:=by kernel_rfl
theorem sz329:al Tryz.prog 329=some 2:=by kernel_rfl
theorem zero329:aG Tryz.prog 329=some [.nilPtr,.str []]:=by kernel_rfl
theorem mark329:aL Tryz.prog 329=none:=by kernel_rfl
theorem row329:aF Tryz.prog 329=some true:=by kernel_rfl
theorem Na:aw Tryz.prog 329 0=some (0,326):=by kernel_rfl
theorem Nb:aw Tryz.prog 329 1=some (1,9):=by kernel_rfl
theorem Sv:aX Tryz.prog 329=some ([.nilPtr,.str []],.inl [(0,1),(1,1)]):=by kernel_rfl
theorem sz330:al Tryz.prog 330=some 1:=by kernel_rfl
theorem row330:aF Tryz.prog 330=some false:=by kernel_rfl
theorem mark333:aL Tryz.prog 333=none:=by kernel_rfl
theorem Nc:aw Tryz.prog 333 0=some (0,330):=by kernel_rfl
theorem Nd:aw Tryz.prog 333 1=some (1,9):=by kernel_rfl
theorem Sw:aX Tryz.prog 333=some ([.nilPtr,.str []],.inl [(0,1),(1,1)]):=by kernel_rfl
theorem mark335:aL Tryz.prog 335=none:=by kernel_rfl
theorem Nf:aw Tryz.prog 335 0=some (0,305):=by kernel_rfl
theorem Ng:aw Tryz.prog 335 1=some (256,305):=by kernel_rfl
theorem Sx:aX Tryz.prog 335=some ((List.replicate 512 (.u8 0#8)),.inl [(0,256),(256,256)]):=by kernel_rfl
theorem sz337:al Tryz.prog 337=some 4:=by kernel_rfl
theorem zero337:aG Tryz.prog 337=some [.u8 0#8,.u8 0#8,.u8 0#8,.u8 0#8]:=by kernel_rfl
theorem mark337:aL Tryz.prog 337=none:=by kernel_rfl
theorem row337:aF Tryz.prog 337=some true:=by kernel_rfl
theorem Sy:cS Tryz.prog 337=some (4,5):=by kernel_rfl
theorem Sz:aX Tryz.prog 337=some ([.u8 0#8,.u8 0#8,.u8 0#8,.u8 0#8],.inr 1):=by kernel_rfl
theorem sz340:al Tryz.prog 340=some 2:=by kernel_rfl
theorem zero340:aG Tryz.prog 340=some [.u64 0#64,.u64 0#64]:=by kernel_rfl
theorem mark340:aL Tryz.prog 340=none:=by kernel_rfl
theorem row340:aF Tryz.prog 340=some true:=by kernel_rfl
theorem Nh:aw Tryz.prog 340 0=some (0,78):=by kernel_rfl
theorem Ni:aw Tryz.prog 340 1=some (1,78):=by kernel_rfl
theorem SA:aX Tryz.prog 340=some ([.u64 0#64,.u64 0#64],.inl [(0,1),(1,1)]):=by kernel_rfl
theorem sz343:al Tryz.prog 343=some 16:=by kernel_rfl
theorem zero343:aG Tryz.prog 343=some [.u8 0#8,.u8 0#8,.u8 0#8,.u8 0#8,.u8 0#8,.u8 0#8,.u8 0#8,.u8 0#8,.u8 0#8,.u8 0#8,.u8 0#8,.u8 0#8,.u8 0#8,.u8 0#8,.u8 0#8,.u8 0#8]:=by kernel_rfl
theorem mark343:aL Tryz.prog 343=none:=by kernel_rfl
theorem row343:aF Tryz.prog 343=some true:=by kernel_rfl
theorem SB:cS Tryz.prog 343=some (16,5):=by kernel_rfl
attribute [go_sem] sz3 zero3 mark3 row3 sz4 zero4 row4 sz5 by5 zero5 row5 sz9 by9 zero9 mark9 row9 sz22 row22 TQ TR sz25 zero25 mark25 row25 sz29 row29 sz31 row31 sz34 mark34 row34 Ps Pu Px Py Pz TS sz39 row39 TT sz44 row44 TU sz45 row45 TV mark47 PA PB TW sz48 by48 zero48 row48 sz50 row50 mark52 PC PD TX sz54 by54 zero54 mark54 row54 PE PF PG TY sz60 by60 zero60 TZ T0 T1 sz69 zero69 mark69 row69 PK PL T2 sz70 row70 T3 sz72 by72 zero72 mark72 row72 PM PN PO PP T4 sz78 zero78 row78 sz79 row79 T5 sz80 row80 sz81 row81 mark83 PQ PR PT PU PV PW PX PY PZ P0 L0 L1 L2 L3 L5 L6 T6 sz85 by85 zero85 row85 sz87 row87 sz89 zero89 mark89 row89 P1 P2 T7 sz90 row90 sz91 zero91 row91 mark93 P3 P4 P5 P6 P7 P8 P9 Qa Qb Qc L7 L8 L9 Ma Mb Mc Md Me Mf T8 sz94 row94 sz96 mark96 Qd Qe Qf Qg T9 sz129 row129 sz130 sz132 mark132 Mg Mh Mi Rr mark134 Mj Mk Rs mark137 Ml Mm Rt sz140 mark140 Mn Mo Mp Mq Mr Ru sz145 row145 sz146 zero146 mark146 Rw zero148 mark148 zero149 mark149 sz150 zero150 mark150 row150 RC sz162 row162 sz164 zero164 mark164 row164 Ms Mt RD mark166 Mu Mv Mw Mx My Mz RE sz169 zero169 mark169 row169 MA MB MC MD RF sz179 zero179 mark179 row179 ME MF MG MH MI RG RH sz194 zero194 mark194 row194 RJ zero199 mark199 RM sz201 zero201 mark201 row201 MJ MK RN sz202 zero202 mark202 row202 RQ sz210 row210 sz218 row218 mark220 ML MM RR sz222 zero222 mark222 row222 MN MO MP MQ MR RS mark224 MS MT MU MV RT mark235 MW MX MY MZ M0 RU zero242 mark242 zero243 mark243 RZ sz245 zero245 mark245 row245 R1 sz246 zero246 mark246 row246 R3 sz247 zero247 mark247 row247 R5 sz248 zero248 mark248 row248 R7 sz251 zero251 mark251 row251 Sa mark254 M1 M4 M5 Sb mark257 Sc mark258 Sd sz267 zero267 mark267 row267 Sf mark276 M6 M9 Sg sz284 zero284 mark284 row284 Si sz296 zero296 mark296 row296 Sk sz298 zero298 mark298 row298 Sm sz303 zero303 mark303 row303 Sp Sr sz305 sz326 row326 sz329 zero329 mark329 row329 Na Nb Sv sz330 row330 mark333 Nc Nd Sw mark335 Nf Ng Sx sz337 zero337 mark337 row337 Sy Sz sz340 zero340 mark340 row340 Nh Ni SA sz343 zero343 mark343 row343 SB Tryz.underlying0 Tryz.underlying3 Tryz.underlying4 Tryz.underlying5 Tryz.underlying9 Tryz.underlying20 Tryz.underlying22 Tryz.underlying23 Tryz.underlying24 Tryz.underlying25 Tryz.underlying29 Tryz.underlying31 Tryz.underlying32 Tryz.underlying34 Tryz.underlying39 Tryz.underlying44 Tryz.underlying45 Tryz.underlying47 Tryz.underlying48 Tryz.underlying50 Tryz.underlying52 Tryz.underlying54 Tryz.underlying60 Tryz.underlying63 Tryz.underlying65 Tryz.underlying69 Tryz.underlying70 Tryz.underlying72 Tryz.underlying78 Tryz.underlying79 Tryz.underlying80 Tryz.underlying81 Tryz.underlying83 Tryz.underlying85 Tryz.underlying87 Tryz.underlying89 Tryz.underlying90 Tryz.underlying91 Tryz.underlying93 Tryz.underlying94 Tryz.underlying96 Tryz.underlying117 Tryz.underlying120 Tryz.underlying122 Tryz.underlying125 Tryz.underlying126 Tryz.underlying129 Tryz.underlying130 Tryz.underlying132 Tryz.underlying134 Tryz.underlying135 Tryz.underlying137 Tryz.underlying140 Tryz.underlying145 Tryz.underlying146 Tryz.underlying148 Tryz.underlying149 Tryz.underlying150 Tryz.underlying156 Tryz.underlying158 Tryz.underlying160 Tryz.underlying162 Tryz.underlying164 Tryz.underlying166 Tryz.underlying169 Tryz.underlying179 Tryz.underlying191 Tryz.underlying194 Tryz.underlying199 Tryz.underlying201 Tryz.underlying202 Tryz.underlying205 Tryz.underlying206 Tryz.underlying210 Tryz.underlying218 Tryz.underlying220 Tryz.underlying222 Tryz.underlying224 Tryz.underlying235 Tryz.underlying242 Tryz.underlying243 Tryz.underlying244 Tryz.underlying245 Tryz.underlying246 Tryz.underlying247 Tryz.underlying248 Tryz.underlying251 Tryz.underlying254 Tryz.underlying257 Tryz.underlying258 Tryz.underlying267 Tryz.underlying276 Tryz.underlying284 Tryz.underlying296 Tryz.underlying298 Tryz.underlying303 Tryz.underlying304 Tryz.underlying305 Tryz.underlying326 Tryz.underlying329 Tryz.underlying330 Tryz.underlying333 Tryz.underlying335 Tryz.underlying337 Tryz.underlying340 Tryz.underlying343 Tryz.results3 Tryz.ntmps3 Tryz.results4 Tryz.ntmps4 Tryz.results5 Tryz.ntmps5 Tryz.results6 Tryz.ntmps6 Tryz.results7 Tryz.ntmps7 Tryz.results8 Tryz.ntmps8 Tryz.results9 Tryz.ntmps9 Tryz.results10 Tryz.ntmps10 Tryz.results11 Tryz.ntmps11 Tryz.results12 Tryz.ntmps12 Tryz.results13 Tryz.ntmps13 Tryz.results14 Tryz.ntmps14 Tryz.results15 Tryz.ntmps15 Tryz.results16 Tryz.ntmps16 Tryz.results17 Tryz.ntmps17 Tryz.results18 Tryz.ntmps18 Tryz.results19 Tryz.ntmps19 Tryz.results20 Tryz.ntmps20 Tryz.results21 Tryz.ntmps21 Tryz.results22 Tryz.ntmps22 Tryz.results23 Tryz.ntmps23 Tryz.results24 Tryz.ntmps24 Tryz.results25 Tryz.ntmps25 Tryz.results26 Tryz.ntmps26 Tryz.results27 Tryz.ntmps27 Tryz.results28 Tryz.ntmps28 Tryz.results29 Tryz.ntmps29 Tryz.results30 Tryz.ntmps30 Tryz.results31 Tryz.ntmps31 Tryz.results32 Tryz.ntmps32 Tryz.results33 Tryz.ntmps33 Tryz.results34 Tryz.ntmps34 Tryz.results35 Tryz.ntmps35 Tryz.results36 Tryz.ntmps36 Tryz.results37 Tryz.ntmps37 Tryz.results38 Tryz.ntmps38 Tryz.results39 Tryz.ntmps39 Tryz.results40 Tryz.ntmps40 Tryz.results41 Tryz.ntmps41 Tryz.results42 Tryz.ntmps42 Tryz.results43 Tryz.ntmps43 Tryz.results44 Tryz.ntmps44 Tryz.results45 Tryz.ntmps45 Tryz.results46 Tryz.ntmps46 Tryz.results47 Tryz.ntmps47 Tryz.results48 Tryz.ntmps48 Tryz.results49 Tryz.ntmps49 Tryz.results50 Tryz.ntmps50 Tryz.results51 Tryz.ntmps51 Tryz.results52 Tryz.ntmps52 Tryz.results53 Tryz.ntmps53 Tryz.results54 Tryz.ntmps54 Tryz.results55 Tryz.ntmps55 Tryz.results56 Tryz.ntmps56 Tryz.results57 Tryz.ntmps57 Tryz.results58 Tryz.ntmps58 Tryz.results59 Tryz.ntmps59 Tryz.results60 Tryz.ntmps60 Tryz.results61 Tryz.ntmps61 Tryz.results62 Tryz.ntmps62 Tryz.results63 Tryz.ntmps63 Tryz.results64 Tryz.ntmps64 Tryz.results65 Tryz.ntmps65 Tryz.results66 Tryz.ntmps66 Tryz.results67 Tryz.ntmps67 Tryz.results68 Tryz.ntmps68 Tryz.results69 Tryz.ntmps69 Tryz.results70 Tryz.ntmps70 Tryz.results71 Tryz.ntmps71 Tryz.results72 Tryz.ntmps72 Tryz.results73 Tryz.ntmps73 Tryz.results74 Tryz.ntmps74 Tryz.results75 Tryz.ntmps75 Tryz.results76 Tryz.ntmps76 Tryz.results77 Tryz.ntmps77 Tryz.results78 Tryz.ntmps78 Tryz.results79 Tryz.ntmps79 Tryz.results80 Tryz.ntmps80 Tryz.results81 Tryz.ntmps81 Tryz.results82 Tryz.ntmps82 Tryz.results83 Tryz.ntmps83 Tryz.results84 Tryz.ntmps84 Tryz.results85 Tryz.ntmps85 Tryz.results86 Tryz.ntmps86 Tryz.results87 Tryz.ntmps87 Tryz.results88 Tryz.ntmps88 Tryz.results89 Tryz.ntmps89 Tryz.results90 Tryz.ntmps90 Tryz.results91 Tryz.ntmps91 Tryz.results92 Tryz.ntmps92 Tryz.results93 Tryz.ntmps93 Tryz.results94 Tryz.ntmps94 Tryz.results95 Tryz.ntmps95 Tryz.results96 Tryz.ntmps96 Tryz.results97 Tryz.ntmps97 Tryz.results98 Tryz.ntmps98 Tryz.results99 Tryz.ntmps99 Tryz.results100 Tryz.ntmps100 Tryz.results101 Tryz.ntmps101 Tryz.results102 Tryz.ntmps102 Tryz.results103 Tryz.ntmps103 Tryz.results104 Tryz.ntmps104 Tryz.results105 Tryz.ntmps105 Tryz.results106 Tryz.ntmps106 Tryz.results107 Tryz.ntmps107 Tryz.results108 Tryz.ntmps108 Tryz.results109 Tryz.ntmps109 Tryz.results110 Tryz.ntmps110 Tryz.results111 Tryz.ntmps111 Tryz.results112 Tryz.ntmps112 Tryz.results113 Tryz.ntmps113 Tryz.results114 Tryz.ntmps114 Tryz.results115 Tryz.ntmps115 Tryz.results116 Tryz.ntmps116 Tryz.results117 Tryz.ntmps117 Tryz.results118 Tryz.ntmps118 Tryz.results119 Tryz.ntmps119 Tryz.results120 Tryz.ntmps120 Tryz.results121 Tryz.ntmps121 Tryz.results122 Tryz.ntmps122 Tryz.results123 Tryz.ntmps123 Tryz.results124 Tryz.ntmps124 Tryz.results125 Tryz.ntmps125 Tryz.results126 Tryz.ntmps126 Tryz.results127 Tryz.ntmps127 Tryz.results128 Tryz.ntmps128 Tryz.results129 Tryz.ntmps129 Tryz.results130 Tryz.ntmps130 Tryz.results131 Tryz.ntmps131 Tryz.results132 Tryz.ntmps132 Tryz.results133 Tryz.ntmps133 Tryz.results134 Tryz.ntmps134 Tryz.results135 Tryz.ntmps135 Tryz.results136 Tryz.ntmps136 Tryz.results137 Tryz.ntmps137 Tryz.results138 Tryz.ntmps138 Tryz.results139 Tryz.ntmps139 Tryz.results140 Tryz.ntmps140 Tryz.results141 Tryz.ntmps141 Tryz.results142 Tryz.ntmps142 Tryz.results143 Tryz.ntmps143 Tryz.results144 Tryz.ntmps144 Tryz.results145 Tryz.ntmps145 Tryz.results146 Tryz.ntmps146 Tryz.results147 Tryz.ntmps147 Tryz.results148 Tryz.ntmps148 Tryz.results149 Tryz.ntmps149 Tryz.results150 Tryz.ntmps150 Tryz.results151 Tryz.ntmps151 Tryz.results152 Tryz.ntmps152 Tryz.results153 Tryz.ntmps153 Tryz.results154 Tryz.ntmps154 Tryz.results155 Tryz.ntmps155 Tryz.results156 Tryz.ntmps156 Tryz.results157 Tryz.ntmps157 Tryz.results158 Tryz.ntmps158 Tryz.results159 Tryz.ntmps159 Tryz.results160 Tryz.ntmps160 Tryz.results161 Tryz.ntmps161 Tryz.results162 Tryz.ntmps162 Tryz.results163 Tryz.ntmps163 Tryz.results164 Tryz.ntmps164 Tryz.results165 Tryz.ntmps165 Tryz.results166 Tryz.ntmps166 Tryz.results167 Tryz.ntmps167 Tryz.results168 Tryz.ntmps168 Tryz.results169 Tryz.ntmps169 Tryz.results170 Tryz.ntmps170 Tryz.results171 Tryz.ntmps171 Tryz.results172 Tryz.ntmps172 Tryz.results173 Tryz.ntmps173 Tryz.results174 Tryz.ntmps174 Tryz.results175 Tryz.ntmps175 Tryz.results176 Tryz.ntmps176 Tryz.results177 Tryz.ntmps177 Tryz.results178 Tryz.ntmps178 Tryz.results179 Tryz.ntmps179 Tryz.results180 Tryz.ntmps180 Tryz.results181 Tryz.ntmps181 Tryz.results182 Tryz.ntmps182 Tryz.results183 Tryz.ntmps183 Tryz.results184 Tryz.ntmps184 Tryz.results185 Tryz.ntmps185 Tryz.results186 Tryz.ntmps186 Tryz.results187 Tryz.ntmps187 Tryz.results188 Tryz.ntmps188 Tryz.results189 Tryz.ntmps189 Tryz.results190 Tryz.ntmps190 Tryz.results191 Tryz.ntmps191 Tryz.results192 Tryz.ntmps192 Tryz.results193 Tryz.ntmps193 Tryz.results194 Tryz.ntmps194 Tryz.results195 Tryz.ntmps195 Tryz.results196 Tryz.ntmps196 Tryz.results197 Tryz.ntmps197 Tryz.results198 Tryz.ntmps198 Tryz.results199 Tryz.ntmps199 Tryz.results200 Tryz.ntmps200 Tryz.results201 Tryz.ntmps201 Tryz.results202 Tryz.ntmps202 Tryz.results203 Tryz.ntmps203 Tryz.results204 Tryz.ntmps204 Tryz.results205 Tryz.ntmps205 Tryz.results206 Tryz.ntmps206 Tryz.results207 Tryz.ntmps207 Tryz.results208 Tryz.ntmps208 Tryz.results209 Tryz.ntmps209 Tryz.results210 Tryz.ntmps210 Tryz.results211 Tryz.ntmps211 Tryz.results212 Tryz.ntmps212 Tryz.results213 Tryz.ntmps213 Tryz.results214 Tryz.ntmps214 Tryz.results215 Tryz.ntmps215 Tryz.results216 Tryz.ntmps216 Tryz.results217 Tryz.ntmps217 Tryz.results218 Tryz.ntmps218 Tryz.results219 Tryz.ntmps219 Tryz.results220 Tryz.ntmps220 Tryz.results221 Tryz.ntmps221 Tryz.results222 Tryz.ntmps222 Tryz.results223 Tryz.ntmps223 Tryz.results224 Tryz.ntmps224 Tryz.results225 Tryz.ntmps225 Tryz.results226 Tryz.ntmps226 Tryz.results227 Tryz.ntmps227 Tryz.results228 Tryz.ntmps228 Tryz.results229 Tryz.ntmps229 Tryz.results230 Tryz.ntmps230 Tryz.results231 Tryz.ntmps231 Tryz.results232 Tryz.ntmps232 Tryz.results233 Tryz.ntmps233 Tryz.results234 Tryz.ntmps234 Tryz.results235 Tryz.ntmps235 Tryz.results236 Tryz.ntmps236 Tryz.results237 Tryz.ntmps237 Tryz.results238 Tryz.ntmps238 Tryz.results239 Tryz.ntmps239 Tryz.results240 Tryz.ntmps240 Tryz.results241 Tryz.ntmps241 Tryz.results242 Tryz.ntmps242 Tryz.results243 Tryz.ntmps243 Tryz.results244 Tryz.ntmps244 Tryz.results245 Tryz.ntmps245 Tryz.results246 Tryz.ntmps246 Tryz.results247 Tryz.ntmps247 Tryz.results248 Tryz.ntmps248 Tryz.results249 Tryz.ntmps249 Tryz.results250 Tryz.ntmps250 Tryz.results251 Tryz.ntmps251 Tryz.results252 Tryz.ntmps252 Tryz.results253 Tryz.ntmps253 Tryz.results254 Tryz.ntmps254 Tryz.results255 Tryz.ntmps255 Tryz.results256 Tryz.ntmps256 Tryz.results257 Tryz.ntmps257 Tryz.results258 Tryz.ntmps258 Tryz.results259 Tryz.ntmps259 Tryz.results260 Tryz.ntmps260 Tryz.results261 Tryz.ntmps261 Tryz.results262 Tryz.ntmps262 Tryz.results263 Tryz.ntmps263 Tryz.results264 Tryz.ntmps264 Tryz.results265 Tryz.ntmps265 Tryz.results266 Tryz.ntmps266 Tryz.results267 Tryz.ntmps267 Tryz.results268 Tryz.ntmps268 Tryz.results269 Tryz.ntmps269 Tryz.results270 Tryz.ntmps270 Tryz.results271 Tryz.ntmps271 Tryz.results272 Tryz.ntmps272
end Go.Vm.Ty
end
section
namespace Go.Vm
open Go.Proofs
theorem jn (s:List (BitVec 8))(h8:s.length≤8):ao Tryz.prog 147 [.str s] (.u64 (BitVec.ofNat 64 (be s))):=by
 have h8':¬ (8:Int)<(s.length:Int):=by omega
 refine aB (by kernel_rfl) (fn:=Tryz.f147) (by kernel_rfl) Tryz.func147 rfl (by show 1≤20;decide) (by simp[aa,V.low]) (by simp[V.low]) (ae ?_)
 simp only[go_sem,seval,Tryz.ntmps147,h8']
 refine bf (fun j st=>∃ i:Nat,i+j=s.length∧st=⟨[(0,.str s),(3,.u64 (BitVec.ofNat 64 (be (s.take i)))),(7,.i64 s.length),(8,.i64 i)],[]⟩) ?_ ?_
 ·exact bP (s.length) ⟨[(0,.str s),(3,.u64 (BitVec.ofNat 64 (be (s.take (0:Nat))))),(7,.i64 s.length),(8,.i64 (0:Nat))],[]⟩ (by simp[St.get,af,Rn]) rfl (fun _ _ h=>h) ⟨0,by omega,rfl⟩
 rintro j st ⟨i,hi,rfl⟩ _
 simp only[go_sem,seval]
 by_cases h0:i<s.length
 ·have h0':(i:Int)<(s.length:Int):=by omega
  have hl:=DB (s.take i)
  have hp:256^(s.take i).length≤256^7:=Nat.pow_le_pow_right (by omega) (by simp;omega)
  simp only[go_sem,seval,h0']
  refine⟨by omega,?_⟩
  refine bL (j-1) ⟨[(0,.str s),(3,.u64 (BitVec.ofNat 64 (be (s.take (i+1:Nat))))),(7,.i64 s.length),(8,.i64 (i+1:Nat))],[]⟩ (by omega) ?_ rfl (fun _ _ h=>h) ⟨i+1,by omega,rfl⟩
  have hw1:aj ((i:Int)+1)=((i+1:Nat):Int):=by rw[am (by omega) (by omega)];omega
  simp[St.get,af,hw1,nT h0,Cn]
  exact(Po (Nat.lt_of_lt_of_le hl hp) _).symm
 ·have h0':¬ (i:Int)<(s.length:Int):=by omega
  simp only[go_sem,seval,h0']
  rw[List.take_of_length_le (by omega)]
section
variable {K K0:Nat→Nat}{H H0:List (Option Blk)}{l na x0 x1 x k rn rd ra:Nat}{va v:V}{g:Option G3}{sg:List Nat}{d d1:List (Option Blk)}
theorem lJ (hC:CurL K0 H0 K H)(hL:LAt K H l na x0 x1 va g)(hx:x<H.length){i:Int}(hi:i=0∧x=x0∨i=1∧x=x1):
  ∃ v K' H',DoneL Tryz.prog 19 [.ptr l 0,.i64 i] K H v K' H'∧(v= .ptr x 0∧K'=K∧H'=H):=by
 have hgl:=hL.gl
 have hga:=hL.ga
 rcases hi with⟨rfl,rfl⟩|⟨rfl,rfl⟩
 ·refine dg (Post:=fun v K' H'=>v= .ptr x 0∧K'=K∧H'=H) (by kernel_rfl) (fn:=Tryz.f19) Tryz.func19 rfl (by show 2≤23;decide) (ae ?_)
  simp only[go_sem,seval,hgl,hga]
  repeat refine aI ?_
  exact EndL.of hC.start hx ⟨rfl,rfl,rfl⟩
 ·refine dg (Post:=fun v K' H'=>v= .ptr x 0∧K'=K∧H'=H) (by kernel_rfl) (fn:=Tryz.f19) Tryz.func19 rfl (by show 2≤23;decide) (ae ?_)
  simp only[go_sem,seval,hgl,hga]
  repeat refine aI ?_
  exact EndL.of hC.start hx ⟨rfl,rfl,rfl⟩
theorem Nj (hC:CurL K0 H0 K H)(hL:LAt K H l na x0 x1 va g)(hx0:x0<H.length):
  ∃ v K' H',DoneL Tryz.prog 15 [.ptr l 0,.agg [.i64 0,.i64 0,.i64 0,.i64 0,.u32 0#32,.u32 0#32,.str []]] K H v K' H'∧(v= .i64 1∧Kp (· ≠0) K H K' H'):=by
 have hJ:=hC.start.junk (vs:=[.i64 0,.i64 0,.i64 0,.i64 0,.u32 0#32,.u32 0#32,.str []]) (by simp[aa,V.low])
 have hk:=hC.kpJunk (X:=[bK [.i64 0,.i64 0,.i64 0,.i64 0,.u32 0#32,.u32 0#32,.str []]])
 have hL1:=hL.keep hk (by decide) (by decide) (by decide)
 have hll:=hJ.lt (b:=l) (by rw[hL1.kl];decide)
 refine dg (Post:=fun v K' H'=>v= .i64 1∧Kp (· ≠0) K H K' H') (by kernel_rfl) (fn:=Tryz.f15) Tryz.func15 rfl (by show 2≤84;decide) (ae ?_)
 simp only[go_sem,seval,cP]
 repeat refine aI ?_
 refine bx (lJ hJ hL1 (x:=x0) (by simp;omega) (.inl ⟨rfl,rfl⟩)) (by kernel_rfl) rfl (by simp[aa,V.low,(by simpa using hll)]) hJ.sane ?_
 rintro _ K1 H1 hC1 hl1 ⟨rfl,hK,hH⟩
 obtain rfl:=hK.symm
 subst hH
 simp only[go_sem,seval,cP]
 repeat refine aI ?_
 exact EndL.of hJ trivial ⟨rfl,hk⟩
end
section
variable {K K0:Nat→Nat}{H H0:List (Option Blk)}{l na x0 x1 x k rn rd ra:Nat}{va v0:V}{g:Option G3}{sg:List Nat}{d d1:List (Option Blk)}
theorem Bv (hC:CurL K0 H0 K H)(hL:LAt K H l na x0 x1 va g)(hN:NAt K H rn rd ra x sg v0 d k)(hr1:rn≠0∧rn≠rd)(hr3:ra≠0∧ra≠rd)(hr0:rd≠0){i:Int}(hi:i=0∧x=x0∨i=1∧x=x1)(B C:Int)(src dst:BitVec 32)(txt:List ac){e:Int}
  (hS:Stp Tryz.prog 26 [.ptr 0 0,.u32 src,.u32 dst,.str txt] d (.i64 e) d1):
  ∃ v K' H',DoneL Tryz.prog 15 [.ptr l 0,.agg [.i64 1,.i64 i,.i64 B,.i64 C,.u32 src,.u32 dst,.str txt]] K H v K' H'∧(v= .i64 e∧Kp (fun q=>q≠0∧q≠rd) K H K' H'∧∃ sg',NAt K' H' rn rd ra x sg' v0 d1 k):=by
 have hJ:=hC.start.junk (vs:=[.i64 1,.i64 i,.i64 B,.i64 C,.u32 src,.u32 dst,.str txt]) (by simp[aa,V.low])
 have hk:=hC.kpJunk (X:=[bK [.i64 1,.i64 i,.i64 B,.i64 C,.u32 src,.u32 dst,.str txt]])
 have hL1:=hL.keep hk (by decide) (by decide) (by decide)
 have hll:=hJ.lt (b:=l) (by rw[hL1.kl];decide)
 have hxl:=hC.lt (b:=x) (by rw[hN.kx];exact hr1.1)
 have hN1:=hN.keep hk hr1.1 hr0 hr3.1
 have hgx:=hN1.g
 have hl0:(H++[bK [.i64 1,.i64 i,.i64 B,.i64 C,.u32 src,.u32 dst,.str txt]]).length=H.length+1:=by simp
 refine dg (Post:=fun v K' H'=>v= .i64 e∧Kp (fun q=>q≠0∧q≠rd) K H K' H'∧∃ sg',NAt K' H' rn rd ra x sg' v0 d1 k) (by kernel_rfl) (fn:=Tryz.f15) Tryz.func15 rfl (by show 2≤84;decide) (ae ?_)
 simp only[go_sem,seval,cP]
 repeat refine aI ?_
 refine bx (lJ hJ hL1 (by simp;omega) hi) (by kernel_rfl) rfl (by simp[aa,V.low,(by simpa using hll)]) hJ.sane ?_
 rintro _ K1 H1 hC1 hl1 ⟨rfl,hK,hH⟩
 obtain rfl:=hK.symm
 subst hH
 simp only[go_sem,seval,cP,hgx]
 repeat refine aI ?_
 have hact:=cP (H:=H) (x:=bK [.i64 1,.i64 i,.i64 B,.i64 C,.u32 src,.u32 dst,.str txt])
 have hKN:K H.length=0:=hC.fresh _ (Nat.le_refl _)
 generalize (H++[bK [.i64 1,.i64 i,.i64 B,.i64 C,.u32 src,.u32 dst,.str txt]])=M at*
 refine nw hN1.e hS.spec hS.nxt (by kernel_rfl) rfl hS.low rfl ?_
 simp only[go_sem,seval]
 refine And.intro ?_ ?_
 ·have q1:=iO (K:=K) (r:=rd) (N:=M.length) (x:=x) (by rw[hN.kx];exact hr1.2) (by omega)
  have q2:=iO (K:=K) (r:=rd) (N:=M.length) (x:=H.length) (by rw[hKN];exact Ne.symm hr0) (by omega)
  have q3:=qg (K:=K) (r:=rd) (N:=M.length) (sg:=sg) hN1.ks hN1.e.lt
  have q4:=pZ (K:=K) (r:=rd) (N:=M.length) (sg:=sg) (n:=M.length) (k:=d1.length-sg.length) hN1.ks hN1.e.lt (Nat.le_refl _)
  refine jh (eZ K rd M.length) [([],[]),([],[]),([],[]),([0],[]),([],[]),([0],[]),([],[]),([0],[]),([],[]),([0],[]),([2],[1,2]),([],[])] (by kernel_rfl) (by simp only[jl,jm,aV,all_cons,jz,and_true,q1,q2,q3,q4])
 exact EndL.of (hJ.dev hN1.e hN1.ks hr0 hS.dv hS.le) trivial ⟨rfl,(hk.mono fun r h=>h.1).trans (hJ.kpDev hN1.ks),_,hN1.dev hJ hS.dv hS.le hr1 hr3⟩
end
section
variable {K K0:Nat→Nat}{H H0:List (Option Blk)}{l na x0 x1 x k k0 k1:Nat}{va v0 v1:V}{g:Option G3}{sg0 sg1:List Nat}{d0 d1 d0' d1':List (Option Blk)}
theorem JJ (hC:CurL K0 H0 K H)(hL:LAt K H l na x0 x1 va g):
  ∃ v K' H',DoneL Tryz.prog 19 [.ptr l 0,.i64 200] K H v K' H'∧(v= .nilPtr∧K'=K∧H'=H):=by
 have hgl:=hL.gl
 refine dg (Post:=fun v K' H'=>v= .nilPtr∧K'=K∧H'=H) (by kernel_rfl) (fn:=Tryz.f19) Tryz.func19 rfl (by show 2≤23;decide) (ae ?_)
 simp only[go_sem,seval,hgl]
 repeat refine aI ?_
 exact EndL.of hC.start trivial ⟨rfl,rfl,rfl⟩
theorem Bw (hC:CurL K0 H0 K H)(hL:LAt K H l na x0 x1 va g)(hN0:NAt K H 3 8 6 x0 sg0 v0 d0 k0)(hN1:NAt K H 4 9 7 x1 sg1 v1 d1 k1)
  (hS0:Stp Tryz.prog 28 [.ptr 0 0,.i64 200] d0 (.i64 0) d0') (hS1:Stp Tryz.prog 28 [.ptr 0 0,.i64 200] d1 (.i64 0) d1'):
  ∃ v K' H',DoneL Tryz.prog 15 [.ptr l 0,.agg [.i64 2,.i64 200,.i64 0,.i64 0,.u32 0#32,.u32 0#32,.str []]] K H v K' H'∧(v= .i64 0∧LAt K' H' l na x0 x1 va g∧(∃ sg',NAt K' H' 3 8 6 x0 sg' v0 d0' k0)∧∃ sg',NAt K' H' 4 9 7 x1 sg' v1 d1' k1):=by
 have hJ:=hC.start.junk (vs:=[.i64 2,.i64 200,.i64 0,.i64 0,.u32 0#32,.u32 0#32,.str []]) (by simp[aa,V.low])
 have hk:=hC.kpJunk (X:=[bK [.i64 2,.i64 200,.i64 0,.i64 0,.u32 0#32,.u32 0#32,.str []]])
 have hL1:=hL.keep hk (by decide) (by decide) (by decide)
 have hll:=hJ.lt (b:=l) (by rw[hL1.kl];decide)
 have hM0:=hN0.keep hk (by decide) (by decide) (by decide)
 have hM1:=hN1.keep hk (by decide) (by decide) (by decide)
 have hl0:(H++[bK [.i64 2,.i64 200,.i64 0,.i64 0,.u32 0#32,.u32 0#32,.str []]]).length=H.length+1:=by simp
 refine dg (Post:=fun v K' H'=>v= .i64 0∧LAt K' H' l na x0 x1 va g∧(∃ sg',NAt K' H' 3 8 6 x0 sg' v0 d0' k0)∧∃ sg',NAt K' H' 4 9 7 x1 sg' v1 d1' k1) (by kernel_rfl) (fn:=Tryz.f15) Tryz.func15 rfl (by show 2≤84;decide) (ae ?_)
 simp only[go_sem,seval,cP]
 repeat refine aI ?_
 refine bx (JJ hJ hL1) (by kernel_rfl) rfl (by simp[aa,V.low,(by simpa using hll)]) hJ.sane ?_
 rintro _ K1 H1 hC1 hl1 ⟨rfl,hK,hH⟩
 obtain rfl:=hK.symm
 subst hH
 have hact:=cP (H:=H) (x:=bK [.i64 2,.i64 200,.i64 0,.i64 0,.u32 0#32,.u32 0#32,.str []])
 have hKN:K H.length=0:=hC.fresh _ (Nat.le_refl _)
 generalize (H++[bK [.i64 2,.i64 200,.i64 0,.i64 0,.u32 0#32,.u32 0#32,.str []]])=M at*
 have hgl:=hL1.gl
 have hga:=hL1.ga
 have hx0:=hM0.g
 simp only[go_sem,seval,hact,hgl]
 repeat refine aI ?_
 refine aY 3 ?_
 simp only[go_sem,seval,hga,hx0,hact]
 repeat refine aI ?_
 refine nw hM0.e hS0.spec hS0.nxt (by kernel_rfl) rfl hS0.low rfl ?_
 simp only[go_sem,seval]
 refine And.intro ?_ ?_
 ·have q1:=iO (K:=K) (r:=8) (N:=M.length) (x:=x0) (by rw[hM0.kx];decide) (aM hx0)
  have q2:=iO (K:=K) (r:=8) (N:=M.length) (x:=H.length) (by rw[hKN];decide) (by omega)
  have q3:=qg (K:=K) (r:=8) (N:=M.length) (sg:=sg0) hM0.ks hM0.e.lt
  have q4:=pZ (K:=K) (r:=8) (N:=M.length) (sg:=sg0) (n:=M.length) (k:=d0'.length-sg0.length) hM0.ks hM0.e.lt (Nat.le_refl _)
  refine jh (eZ K 8 M.length) [([],[]),([],[]),([],[]),([0],[]),([],[]),([0],[]),([2],[1,2]),([],[])] (by kernel_rfl) (by simp only[jl,jm,aV,all_cons,jz,and_true,q1,q2,q3,q4])
 have hC2:=hJ.dev hM0.e hM0.ks (by decide) hS0.dv hS0.le
 have hk2:=hJ.kpDev (d':=d0') hM0.ks
 have hL2:=hL1.keep hk2 (by decide) (by decide) (by decide)
 have hP1:=hM1.keep hk2 (by decide) (by decide) (by decide)
 have hP0:=hM0.dev hJ hS0.dv hS0.le (by decide) (by decide)
 have hact2:ab (memH sg0 M d0') H.length=_:=(mD (by omega) fun hm=>by have :=hM0.ks _ hm;omega).trans hact
 have hKN2:d8 K M.length (memH sg0 M d0').length 8 H.length=0:=(kp (by omega)).trans hKN
 have hHM:H.length<(memH sg0 M d0').length:=aM hact2
 generalize memH sg0 M d0'=M2 at*
 generalize d8 K M.length M2.length 8=K2 at*
 have hgl2:=hL2.gl
 have hga2:=hL2.ga
 have hx1:=hP1.g
 simp only[go_sem,seval,hga2,hx1,hact2]
 repeat refine aI ?_
 refine nw hP1.e hS1.spec hS1.nxt (by kernel_rfl) rfl hS1.low rfl ?_
 simp only[go_sem,seval]
 refine And.intro ?_ ?_
 ·have q1:=iO (K:=K2) (r:=9) (N:=M2.length) (x:=x1) (by rw[hP1.kx];decide) (aM hx1)
  have q2:=iO (K:=K2) (r:=9) (N:=M2.length) (x:=H.length) (by rw[hKN2];decide) (by omega)
  have q3:=qg (K:=K2) (r:=9) (N:=M2.length) (sg:=sg1) hP1.ks hP1.e.lt
  have q4:=pZ (K:=K2) (r:=9) (N:=M2.length) (sg:=sg1) (n:=M2.length) (k:=d1'.length-sg1.length) hP1.ks hP1.e.lt (Nat.le_refl _)
  refine jh (eZ K2 9 M2.length) [([],[]),([],[]),([],[]),([0],[]),([],[]),([0],[]),([2],[1,2]),([],[])] (by kernel_rfl) (by simp only[jl,jm,aV,all_cons,jz,and_true,q1,q2,q3,q4])
 have hC3:=hC2.dev hP1.e hP1.ks (by decide) hS1.dv hS1.le
 have hk3:=hC2.kpDev (d':=d1') hP1.ks
 exact EndL.of hC3 trivial ⟨rfl,hL2.keep hk3 (by decide) (by decide) (by decide),⟨_,hP0.keep hk3 (by decide) (by decide) (by decide)⟩,_,hP1.dev hC2 hS1.dv hS1.le (by decide) (by decide)⟩
end
end Go.Vm
end
