/-
  A part of the proof of PrintNames: AbsEvS, S1, S2, S3, S4, S4b, S5, S6, S7, S9, S8, S10, S11, S12, SP0, S13, S14, S15.
-/
import Derived.Test.YtocbgffdpfiidaaGreatDoorP10
set_option linter.unusedSimpArgs false
set_option linter.unusedVariables false
set_option linter.defProp false
set_option maxHeartbeats 1000000
set_option maxRecDepth 100000
namespace Go.Proofs.YtocbgffdpfiidaaGreatDoor
open Go Go.Abs Go.Proofs
def evA:=And.intro (And.intro (And.intro (And.intro (And.intro (And.intro (And.intro (And.intro (And.intro (@PL)
 (@Us))
 (And.intro (@Zf)
 (@wZ)))
 (And.intro (And.intro (@Zl)
 (@acE))
 (And.intro (@Zh)
 (And.intro (@PK)
 (@Zk)))))
 (And.intro (And.intro (And.intro (@acC)
 (@wY))
 (And.intro (@Ze)
 (@Ur)))
 (And.intro (And.intro (@J7)
 (@Zj))
 (And.intro (@PJ)
 (And.intro (@acD)
 (@Zi))))))
 (And.intro (And.intro (And.intro (And.intro (@PI)
 (@Uu))
 (And.intro (@Zg)
 (@Ut)))
 (And.intro (And.intro (@Hc)
 (@J6))
 (And.intro (@av)
 (And.intro (@Fq)
 (@BC)))))
 (And.intro (And.intro (And.intro (@Ta)
 (@Ge))
 (And.intro (@Gd)
 (And.intro (@Option.bind_some.{0,0})
 (@Option.bind_none.{0,0}))))
 (And.intro (And.intro (@Option.map_some.{0,0})
 (@Option.map_none.{0,0}))
 (And.intro (@Bm)
 (And.intro (@beq_self_eq_true.{0})
 (@Bool.and_false)))))))
 (And.intro (And.intro (And.intro (And.intro (And.intro (@Bool.false_and)
 (@Bool.true_and))
 (And.intro (@Bool.and_true)
 (@Bool.or_true)))
 (And.intro (And.intro (@Bool.true_or)
 (@Bool.or_false))
 (And.intro (@Bool.false_or)
 (And.intro (@Bool.not_true)
 (@Bool.not_false)))))
 (And.intro (And.intro (And.intro (@decide_true)
 (@decide_false))
 (And.intro (@List.map_cons.{0,0})
 (@List.map_nil.{0,0})))
 (And.intro (And.intro (@List.all_cons.{0})
 (@List.all_nil.{0}))
 (And.intro (@List.length_cons.{0})
 (And.intro (@List.length_nil.{0})
 (@List.getElem?_cons_zero.{0}))))))
 (And.intro (And.intro (And.intro (And.intro (@List.getElem?_cons_succ.{0})
 (@List.nil_append.{0}))
 (And.intro (@List.append_nil.{0})
 (@List.cons_append.{0})))
 (And.intro (And.intro (@wrap64)
 (@su))
 (And.intro (@Is)
 (And.intro (@Ir)
 (@Option.some.injEq.{0})))))
 (And.intro (And.intro (And.intro (@Prod.mk.injEq.{0,0})
 (@Nat.zero_add))
 (And.intro (@List.drop_zero.{0})
 (And.intro (@Hn)
 (@P8))))
 (And.intro (And.intro (@dle)
 (@dlt))
 (And.intro (@List.take_succ_cons.{0})
 (And.intro (@List.take_zero.{0})
 (@List.drop_succ_cons.{0}))))))))
 (And.intro (And.intro (And.intro (And.intro (And.intro (And.intro (@Int.natCast_add)
 (@Int.cast_ofNat_Int))
 (And.intro (@List.set_cons_zero.{0})
 (@List.set_cons_succ.{0})))
 (And.intro (And.intro (@P5)
 (@ou))
 (And.intro (@P4)
 (And.intro (@KD)
 (@KA)))))
 (And.intro (And.intro (And.intro (@Ip)
 (@bR))
 (And.intro (@dF)
 (@KE)))
 (And.intro (And.intro (@Q5)
 (@Uf))
 (And.intro (@VA)
 (And.intro (@X3)
 (@X4))))))
 (And.intro (And.intro (And.intro (And.intro (@kq)
 (@J3))
 (And.intro (@List.length_map.{0,0})
 (@Vz)))
 (And.intro (And.intro (@ge_iff_le.{0})
 (@gt_iff_lt.{0}))
 (And.intro (@AV.int.injEq)
 (And.intro (@AV.str.injEq)
 (@AV.bool.injEq)))))
 (And.intro (And.intro (And.intro (@AV.slice.injEq)
 (@true_and))
 (And.intro (@and_true)
 (And.intro (@and_self)
 (@IF))))
 (And.intro (And.intro (@K1)
 (@K5))
 (And.intro (@K0)
 (And.intro (@BO)
 (@BN)))))))
 (And.intro (And.intro (And.intro (And.intro (And.intro (@zO)
 (@xt))
 (And.intro (@Fx)
 (@IG)))
 (And.intro (And.intro (@K4)
 (@IK))
 (And.intro (@IL)
 (And.intro (@K2)
 (@K3)))))
 (And.intro (And.intro (And.intro (@IH)
 (@IJ))
 (And.intro (@Fv)
 (@KZ)))
 (And.intro (And.intro (@Fy)
 (@zF))
 (And.intro (@BI)
 (And.intro (@BM)
 (@BH))))))
 (And.intro (And.intro (And.intro (And.intro (@vj)
 (@vi))
 (And.intro (@uj)
 (@sC)))
 (And.intro (And.intro (@xq)
 (@zG))
 (And.intro (@BL)
 (And.intro (@zK)
 (@zL)))))
 (And.intro (And.intro (And.intro (@BJ)
 (@BK))
 (And.intro (@zH)
 (And.intro (@zJ)
 (@xn))))
 (And.intro (And.intro (@BG)
 (@xr))
 (And.intro (@Qt)
 (And.intro (@V4)
 (@V8)))))))))
 (And.intro (And.intro (And.intro (And.intro (And.intro (And.intro (And.intro (@V3)
 (@IX))
 (And.intro (@IW)
 (@FM)))
 (And.intro (And.intro (@B6)
 (@Ll))
 (And.intro (@Qu)
 (And.intro (@V7)
 (@Qy)))))
 (And.intro (And.intro (And.intro (@Qz)
 (@V5))
 (And.intro (@V6)
 (@Qv)))
 (And.intro (And.intro (@Qx)
 (@Lj))
 (And.intro (@V2)
 (And.intro (@Lm)
 (@FP))))))
 (And.intro (And.intro (And.intro (And.intro (@I4)
 (@I8))
 (And.intro (@I3)
 (@zZ)))
 (And.intro (And.intro (@zY)
 (@xw))
 (And.intro (@vB)
 (And.intro (@Ch)
 (@FQ)))))
 (And.intro (And.intro (And.intro (@I7)
 (@FW))
 (And.intro (@FX)
 (And.intro (@I5)
 (@I6))))
 (And.intro (And.intro (@FT)
 (@FV))
 (And.intro (@Cf)
 (And.intro (@I2)
 (@Ci)))))))
 (And.intro (And.intro (And.intro (And.intro (And.intro (@Fc)
 (@Iy))
 (And.intro (@IC)
 (@Ix)))
 (And.intro (And.intro (@zB)
 (@zA))
 (And.intro (@xi)
 (And.intro (@uZ)
 (@By)))))
 (And.intro (And.intro (And.intro (@Ff)
 (@IB))
 (And.intro (@Fj)
 (@Fk)))
 (And.intro (And.intro (@Iz)
 (@IA))
 (And.intro (@Fg)
 (And.intro (@Fi)
 (@Bw))))))
 (And.intro (And.intro (And.intro (And.intro (@Iw)
 (@Bz))
 (And.intro (@GJ)
 (@JK)))
 (And.intro (And.intro (@JO)
 (@JJ))
 (And.intro (@AF)
 (And.intro (@AE)
 (@xK)))))
 (And.intro (And.intro (And.intro (@wj)
 (@Dg))
 (And.intro (@GK)
 (And.intro (@JN)
 (@GN))))
 (And.intro (And.intro (@GO)
 (@JL))
 (And.intro (@JM)
 (And.intro (@GL)
 (@JI))))))))
 (And.intro (And.intro (And.intro (And.intro (And.intro (And.intro (@Dh)
 (@zo))
 (And.intro (@Br)
 (@Bv)))
 (And.intro (And.intro (@Bq)
 (@uY))
 (And.intro (@uX)
 (And.intro (@ui)
 (@sx)))))
 (And.intro (And.intro (And.intro (@xg)
 (@zp))
 (And.intro (@Bu)
 (@zu)))
 (And.intro (And.intro (@zw)
 (@Bs))
 (And.intro (@Bt)
 (And.intro (@zq)
 (@zt))))))
 (And.intro (And.intro (And.intro (And.intro (@xe)
 (@Bp))
 (And.intro (@xh)
 (@Au)))
 (And.intro (And.intro (@C7)
 (@Db))
 (And.intro (@C6)
 (And.intro (@wi)
 (@we)))))
 (And.intro (And.intro (And.intro (@uA)
 (@sZ))
 (And.intro (@xI)
 (And.intro (@Av)
 (@Da))))
 (And.intro (And.intro (@Az)
 (@AA))
 (And.intro (@C8)
 (And.intro (@C9)
 (@Aw)))))))
 (And.intro (And.intro (And.intro (And.intro (And.intro (@Ay)
 (@xG))
 (And.intro (@C5)
 (@xJ)))
 (And.intro (And.intro (@CL)
 (@Gr))
 (And.intro (@Gv)
 (And.intro (@Gq)
 (@xD)))))
 (And.intro (And.intro (And.intro (@xC)
 (@vS))
 (And.intro (@uz)
 (@Am)))
 (And.intro (And.intro (@CM)
 (@Gu))
 (And.intro (@CQ)
 (And.intro (@CT)
 (@Gs))))))
 (And.intro (And.intro (And.intro (And.intro (@Gt)
 (@CN))
 (And.intro (@CP)
 (@Ak)))
 (And.intro (And.intro (@Gp)
 (@An))
 (And.intro (@DT)
 (And.intro (@Ih)
 (@Il)))))
 (And.intro (And.intro (And.intro (@Ig)
 (@zi))
 (And.intro (@zh)
 (And.intro (@w9)
 (@uQ))))
 (And.intro (And.intro (@Bg)
 (@DU))
 (And.intro (@Ik)
 (And.intro (@DY)
 (@DZ))))))))))
 (And.intro (And.intro (And.intro (And.intro (And.intro (And.intro (And.intro (And.intro (@Ii)
 (@Ij))
 (And.intro (@DV)
 (@DX)))
 (And.intro (And.intro (@Be)
 (@Ie))
 (And.intro (@Bh)
 (And.intro (@T5)
 (@Y4)))))
 (And.intro (And.intro (And.intro (@Y7)
 (@Y3))
 (And.intro (@J1)
 (@J0)))
 (And.intro (And.intro (@G5)
 (@Dy))
 (And.intro (@wL)
 (And.intro (@T6)
 (@Y6))))))
 (And.intro (And.intro (And.intro (And.intro (@Ua)
 (@Y5))
 (And.intro (@T7)
 (@T9)))
 (And.intro (And.intro (@Po)
 (@Y2))
 (And.intro (@Pr)
 (And.intro (@SL)
 (@XW)))))
 (And.intro (And.intro (And.intro (@X2)
 (@XV))
 (And.intro (@JB)
 (And.intro (@JA)
 (@GA))))
 (And.intro (And.intro (@C1)
 (@SM))
 (And.intro (@XY)
 (And.intro (@SQ)
 (@SS)))))))
 (And.intro (And.intro (And.intro (And.intro (And.intro (@XX)
 (@SN))
 (And.intro (@SP)
 (@Oo)))
 (And.intro (And.intro (@XU)
 (@Ot))
 (And.intro (@TS)
 (And.intro (@YV)
 (@YY)))))
 (And.intro (And.intro (And.intro (@YU)
 (@JX))
 (And.intro (@JW)
 (@G2)))
 (And.intro (And.intro (@Ds)
 (@O9))
 (And.intro (@TT)
 (And.intro (@YX)
 (@YW))))))
 (And.intro (And.intro (And.intro (And.intro (@TV)
 (@O8))
 (And.intro (@YT)
 (@O')))
 (And.intro (And.intro (@Yg)
 (@X0))
 (And.intro (@X1)
 (And.intro (@XZ)
 (@SU)))))
 (And.intro (And.intro (And.intro (@SV)
 (@acb))
 (And.intro (@GW)
 (And.intro (@YC)
 (@YB))))
 (And.intro (And.intro (@Tt)
 (@ab5))
 (And.intro (@ab2)
 (And.intro (@ab4)
 (@ab3))))))))
 (And.intro (And.intro (And.intro (And.intro (And.intro (And.intro (@ab6)
 (@YE))
 (And.intro (@TI)
 (@TH)))
 (And.intro (And.intro (@OM)
 (@OL))
 (And.intro (@Tf)
 (And.intro (@s9)
 (@aeY)))))
 (And.intro (And.intro (And.intro (@Tx)
 (@TC))
 (And.intro (@YA)
 (@YR)))
 (And.intro (And.intro (@Ty)
 (@TA))
 (And.intro (@Ym)
 (And.intro (@Tz)
 (@Tw))))))
 (And.intro (And.intro (And.intro (And.intro (@OQ)
 (@OP))
 (And.intro (@abM)
 (@ae1)))
 (And.intro (And.intro (@Ys)
 (@TN))
 (And.intro (@abL)
 (And.intro (@abQ)
 (@abK)))))
 (And.intro (And.intro (And.intro (@Dl)
 (@abX))
 (And.intro (@abZ)
 (And.intro (@abY)
 (@GV))))
 (And.intro (And.intro (@ab0)
 (@JS))
 (And.intro (@Tv)
 (And.intro (@OR)
 (@Yu)))))))
 (And.intro (And.intro (And.intro (And.intro (And.intro (@ab9)
 (@ab7))
 (And.intro (@YS)
 (@Tu)))
 (And.intro (And.intro (@OS)
 (@GU))
 (And.intro (@Tg)
 (And.intro (@OO)
 (@JR)))))
 (And.intro (And.intro (And.intro (@Ts)
 (@ab'))
 (And.intro (@Yy)
 (@Yv)))
 (And.intro (And.intro (@Yw)
 (@Yp))
 (And.intro (@Tj)
 (And.intro (@Tk)
 (@Th))))))
 (And.intro (And.intro (And.intro (And.intro (@ach)
 (@YP))
 (And.intro (@YO)
 (@YQ)))
 (And.intro (And.intro (@TM)
 (@ON))
 (And.intro (@Yh)
 (And.intro (@Yl)
 (@TO)))))
 (And.intro (And.intro (And.intro (@TB)
 (@Yn))
 (And.intro (@GX)
 (And.intro (@OU)
 (@Tc))))
 (And.intro (And.intro (@Te)
 (@Td))
 (And.intro (@ack)
 (And.intro (@aci)
 (@acj)))))))))
 (And.intro (And.intro (And.intro (And.intro (And.intro (And.intro (And.intro (@Tn)
 (@Tp))
 (And.intro (@Tr)
 (@To)))
 (And.intro (And.intro (@Tq)
 (@abP))
 (And.intro (@abN)
 (And.intro (@abO)
 (@OY)))))
 (And.intro (And.intro (And.intro (@ae0)
 (@acd))
 (And.intro (@acf)
 (@OV)))
 (And.intro (And.intro (@OW)
 (@Vh))
 (And.intro (@Vj)
 (And.intro (@ace)
 (@Vi))))))
 (And.intro (And.intro (And.intro (And.intro (@acg)
 (@ab1))
 (And.intro (@Yt)
 (@YG)))
 (And.intro (And.intro (@OX)
 (@OT))
 (And.intro (@TJ)
 (And.intro (@YF)
 (@YH)))))
 (And.intro (And.intro (And.intro (@YK)
 (@YL))
 (And.intro (@Tl)
 (And.intro (@YM)
 (@YJ))))
 (And.intro (And.intro (@TK)
 (@TL))
 (And.intro (@IN)
 (And.intro (@zN)
 (@QB)))))))
 (And.intro (And.intro (And.intro (And.intro (And.intro (@FZ)
 (@Fo))
 (And.intro (@GQ)
 (@zy)))
 (And.intro (And.intro (@AD)
 (@CV))
 (And.intro (@D2)
 (And.intro (@Uc)
 (@SY)))))
 (And.intro (And.intro (And.intro (@TX)
 (@ab8))
 (And.intro (@Yx)
 (@YI)))
 (And.intro (And.intro (@II)
 (@IM))
 (And.intro (@zI)
 (And.intro (@zM)
 (@Qw))))))
 (And.intro (And.intro (And.intro (And.intro (@QA)
 (@FU))
 (And.intro (@FY)
 (@Fh)))
 (And.intro (And.intro (@Fl)
 (@GM))
 (And.intro (@GP)
 (And.intro (@zr)
 (@zx)))))
 (And.intro (And.intro (And.intro (@Ax)
 (@AB))
 (And.intro (@CO)
 (And.intro (@CU)
 (@DW))))
 (And.intro (And.intro (@D1)
 (@T8))
 (And.intro (@Ub)
 (And.intro (@SO)
 (@SX))))))))
 (And.intro (And.intro (And.intro (And.intro (And.intro (And.intro (@TU)
 (@TW))
 (And.intro (@aeZ)
 (@aca)))
 (And.intro (And.intro (@Yk)
 (@TD))
 (And.intro (@TE)
 (And.intro (@Yz)
 (@YD)))))
 (And.intro (And.intro (And.intro (@WR)
 (@WS))
 (And.intro (@LX)
 (@QS)))
 (And.intro (And.intro (@LY)
 (@QT))
 (And.intro (@QU)
 (And.intro (@aaY)
 (@WT))))))
 (And.intro (And.intro (And.intro (And.intro (@VD)
 (@VE))
 (And.intro (@Wl)
 (@QK)))
 (And.intro (And.intro (@Wo)
 (@LF))
 (And.intro (@QL)
 (And.intro (@Wn)
 (@Wm)))))
 (And.intro (And.intro (And.intro (@abT)
 (@Yr))
 (And.intro (@abV)
 (And.intro (@abR)
 (@abU))))
 (And.intro (And.intro (@abS)
 (@abW))
 (And.intro (@Yq)
 (And.intro (@Yo)
 (@VB)))))))
 (And.intro (And.intro (And.intro (And.intro (And.intro (@Ti)
 (@YN))
 (And.intro (@TF)
 (@ZQ)))
 (And.intro (And.intro (@ZX)
 (@ZU))
 (And.intro (@ZY)
 (And.intro (@ZS)
 (@ZV)))))
 (And.intro (And.intro (And.intro (@ZW)
 (@ZR))
 (And.intro (@ZZ)
 (@ZT)))
 (And.intro (And.intro (@Z0)
 (@Z1))
 (And.intro (@Fw)
 (And.intro (@xp)
 (@Bx))))))
 (And.intro (And.intro (And.intro (And.intro (@De)
 (@Lk))
 (And.intro (@Yj)
 (@Yi)))
 (And.intro (And.intro (@Vv)
 (@Vu))
 (And.intro (@Pp)
 (And.intro (@Oq)
 (@Bf)))))
 (And.intro (And.intro (And.intro (@Cg)
 (@Gx))
 (And.intro (@xf)
 (And.intro (@xH)
 (@ZM))))
 (And.intro (And.intro (@JE)
 (@LD))
 (And.intro (@Al)
 (And.intro (@TG)
 (@SW))))))))))
def fV:=And.intro evA (And.intro (And.intro (And.intro (And.intro (And.intro (And.intro (@lB.eq_1)
 (And.intro (@lB.eq_2)
 (@jb.eq_1)))
 (And.intro (And.intro (@jb.eq_2)
 (@oV.eq_1))
 (And.intro (@oV.eq_2)
 (@lF.eq_1))))
 (And.intro (And.intro (And.intro (@lF.eq_2)
 (@GI.eq_1))
 (And.intro (@GI.eq_2)
 (@ak.eval.eq_1)))
 (And.intro (And.intro (@ak.eval.eq_2)
 (@ak.eval.eq_3))
 (And.intro (@ak.eval.eq_4)
 (@AS.ca.eq_1)))))
 (And.intro (And.intro (And.intro (@AS.ca.eq_2)
 (And.intro (@jE.eq_1)
 (@jE.eq_2)))
 (And.intro (And.intro (@jE.eq_3)
 (@jE.eq_4))
 (And.intro (@jE.eq_5)
 (@jE.eq_6))))
 (And.intro (And.intro (And.intro (@jE.eq_7)
 (@jE.eq_8))
 (And.intro (@AY.eq_1)
 (@AY.eq_2)))
 (And.intro (And.intro (@AY.eq_3)
 (@jL.eq_1))
 (And.intro (@jL.eq_2)
 (@jL.eq_3))))))
 (And.intro (And.intro (And.intro (And.intro (@jL.eq_4)
 (And.intro (@jL.eq_5)
 (@jL.eq_6)))
 (And.intro (And.intro (@jH.eq_1)
 (@jH.eq_2))
 (And.intro (@jH.eq_3)
 (@jH.eq_4))))
 (And.intro (And.intro (And.intro (@gB.eq_1)
 (@gB.eq_2))
 (And.intro (@gB.eq_3)
 (@gB.eq_4)))
 (And.intro (And.intro (@gB.eq_5)
 (@bound.eq_1))
 (And.intro (@bound.eq_2)
 (@n7.eq_1)))))
 (And.intro (And.intro (And.intro (@n7.eq_2)
 (And.intro (@AS.cq.eq_1)
 (@AS.cq.eq_2)))
 (And.intro (And.intro (@bO.eq_1)
 (@bO.eq_2))
 (And.intro (@bO.eq_3)
 (@bO.eq_4))))
 (And.intro (And.intro (And.intro (@bO.eq_5)
 (@fK.eq_1))
 (And.intro (@fK.eq_2)
 (@fK.eq_3)))
 (And.intro (And.intro (@fK.eq_4)
 (@fK.eq_5))
 (And.intro (@dG.eq_1)
 (@dG.eq_2)))))))
 (And.intro (And.intro (And.intro (And.intro (And.intro (@dG.eq_3)
 (And.intro (@jY.eq_1)
 (@jY.eq_2)))
 (And.intro (And.intro (@jY.eq_3)
 (@putAt.eq_1))
 (And.intro (@bQ.eq_1)
 (@ai.eq_1))))
 (And.intro (And.intro (And.intro (@ai.eq_2)
 (@ai.eq_3))
 (And.intro (@ai.eq_4)
 (@ai.eq_5)))
 (And.intro (And.intro (@ai.eq_6)
 (@ai.eq_7))
 (And.intro (@ai.eq_8)
 (@ai.eq_9)))))
 (And.intro (And.intro (And.intro (@ai.eq_10)
 (And.intro (@ai.eq_11)
 (@ai.eq_12)))
 (And.intro (And.intro (@ai.eq_13)
 (@ai.eq_14))
 (And.intro (@ai.eq_15)
 (@ai.eq_16))))
 (And.intro (And.intro (And.intro (@ai.eq_17)
 (@ai.eq_18))
 (And.intro (@ai.eq_19)
 (@ai.eq_20)))
 (And.intro (And.intro (@ai.eq_21)
 (@ai.eq_22))
 (And.intro (@ai.eq_23)
 (@ai.eq_24))))))
 (And.intro (And.intro (And.intro (And.intro (@ai.eq_25)
 (And.intro (@ai.eq_26)
 (@ai.eq_27)))
 (And.intro (And.intro (@ai.eq_28)
 (@ai.eq_29))
 (And.intro (@ai.eq_30)
 (@ai.eq_31))))
 (And.intro (And.intro (And.intro (@ai.eq_32)
 (@ai.eq_33))
 (And.intro (@ai.eq_34)
 (@ai.eq_35)))
 (And.intro (And.intro (@ai.eq_36)
 (@ai.eq_37))
 (And.intro (@ai.eq_38)
 (@ai.eq_39)))))
 (And.intro (And.intro (And.intro (And.intro (@ai.eq_40)
 (@ai.eq_41))
 (And.intro (@ai.eq_42)
 (@ai.eq_43)))
 (And.intro (And.intro (@ai.eq_44)
 (@ai.eq_45))
 (And.intro (@ai.eq_46)
 (@dX.eq_1))))
 (And.intro (And.intro (And.intro (@dX.eq_2)
 (@Option.isSome.eq_1.{0}))
 (And.intro (@Option.isSome.eq_2.{0})
 (@Option.isNone.eq_1.{0})))
 (And.intro (And.intro (@Option.isNone.eq_2.{0})
 (@cond_true.{1}))
 (And.intro (@cond_false.{1})
 (@eq_self.{1}))))))))
def aM:=And.intro fV (And.intro (And.intro (And.intro (@Ma)
 (@L'))
 (And.intro (@L9)
 (@L8)))
 (And.intro (And.intro (@L7)
 (@L6))
 (And.intro (@Md)
 (@Mc))))
def aW:=And.intro aM (And.intro (And.intro (@ba.eq_1)
 (@fl))
 (And.intro (@Int.toNat_natCast)
 (@Nat.add_zero)))
abbrev aV:=List UInt8
def mu(n k:Int):Int:=(if n<0 then -(n+1) else n).tmod k
def UB(l:List Int)(i k:Int):Int:=if i<0\/(l.length:Int)<=i then 0 else mu (l.getD i.toNat 0) k
def gD(c:UInt8):Bool:=decide ((97:Int)<=c.toNat)&&decide ((c.toNat:Int)<=122) || decide ((65:Int)<=c.toNat)&&decide ((c.toNat:Int)<=90)
def isDigit(c:UInt8):Bool:=decide ((48:Int)<=c.toNat)&&decide ((c.toNat:Int)<=57)
def kindOf(c:UInt8):Int:=if gD c then 1 else if isDigit c then 2 else 0
theorem qP(n k:Int)(H:ag)(hn:zb n)(hk:0<k):aA A 7 [.int .i64 n,.int .i64 k] H=some (.int .i64 (mu n k),none):=by
 obtain⟨h1,h2⟩:=hn
 have pH:k≠0:=by omega
 refine bb (fn:=ir7) rfl rfl rfl ?_
 unfold ir7
 simp(disch:=omega)only[fV,aa,simprocAttr]
 refine gK ?_ ?_<;>intro h
 ·simp(disch:=omega)only[fV,aa,simprocAttr,pH,mu,if_pos h]
  simp only[show 0-(n+1)=-(n+1) by omega]
 ·simp(disch:=omega)only[fV,aa,simprocAttr,pH,mu,if_neg h]
theorem ac8(l:List Int)(i k:Int)(H:ag)(hl:∀ n∈l,zb n)(hk:0<k):aA A 39 [.slice (ints l) false,.int .i64 i,.int .i64 k] H=some (.int .i64 (UB l i k),none):=by
 refine bb (fn:=NO) rfl rfl rfl ?_
 unfold NO
 by_cases h0:i<0
 ·simp(disch:=omega)only[fV,aa,simprocAttr,h0,UB,true_or,ajY]
 by_cases h1:(l.length:Int)<=i
 ·simp(disch:=omega)only[fV,aa,simprocAttr,h0,h1,lP,aln,UB,or_true,ajY]
 ·have hi:i.toNat<l.length:=by omega
  have hg:l[i.toNat]?=some (l.getD i.toNat 0):=by rw[ajf,aiJ hi];rfl
  have hr:zb (l.getD i.toNat 0):=hl _ (by rw[ajf,aiJ hi];exact ajA hi)
  simp(disch:=omega)only[fV,aa,simprocAttr,h0,h1,lP,aln,UB,false_or,akU,fl (show 0<=i by omega),ints_at hg,qP _ _ H hr hk]
theorem vT(c:UInt8)(H:ag):aA A 100 [.int .u8 c.toNat] H=some (.bool (gD c),none):=by
 refine bb (fn:=Cz) rfl rfl rfl ?_
 unfold Cz gD
 by_cases h1:(97:Int)<=c.toNat<;>by_cases h2:(c.toNat:Int)<=122<;>by_cases h3:(65:Int)<=c.toNat<;>by_cases h4:(c.toNat:Int)<=90 <;>
  simp(disch:=omega)only[fV,aa,simprocAttr,aln,h1,h2,h3,h4]
theorem rb(c:UInt8)(H:ag):aA A 188 [.int .u8 c.toNat] H=some (.bool (isDigit c),none):=by
 refine bb (fn:=CC) rfl rfl rfl ?_
 unfold CC isDigit
 by_cases h1:(48:Int)<=c.toNat<;>by_cases h2:(c.toNat:Int)<=57 <;>
  simp(disch:=omega)only[fV,aa,simprocAttr,aln,h1,h2]
theorem BR(c:UInt8)(H:ag):aA A 187 [.int .u8 c.toNat] H=some (.bool (gD c || isDigit c),none):=by
 refine bb (fn:=CB) rfl rfl rfl ?_
 unfold CB
 cases h:gD c<;>simp(disch:=omega)only[fV,aa,simprocAttr,vT,rb,h]
theorem qw(c:UInt8)(H:ag):aA A 88 [.int .u8 c.toNat] H=some (.int .i64 (kindOf c),none):=by
 refine bb (fn:=NZ) rfl rfl rfl ?_
 unfold NZ kindOf gD isDigit
 by_cases h1:(97:Int)<=c.toNat<;>by_cases h2:(c.toNat:Int)<=122<;>by_cases h3:(65:Int)<=c.toNat<;>by_cases h4:(c.toNat:Int)<=90<;>by_cases h5:(48:Int)<=c.toNat<;>by_cases h6:(c.toNat:Int)<=57 <;>
  simp(disch:=omega)only[fV,aa,simprocAttr,aln,h1,h2,h3,h4,h5,h6,ajY,akU,ajM]
theorem pQ:∀ (p s:aV),p.isPrefixOf s=(decide (p.length<=s.length)&&(s.take p.length==p))
 | [],s=>by simp
 | a :: p,[]=>by simp
 | a :: p,b :: s=>by
  have:=pQ p s
  simp only[List.isPrefixOf,List.length_cons,ajP,ale,this,Nat.succ_le_succ_iff]
  by_cases h:a=b
  ·subst h;simp
  ·have h' : (a==b)=false:=by simpa using h
   have h2:(b==a)=false:=by simpa using fun e=>h e.symm
   simp[h',h2]
theorem z8(s p:aV)(H:ag):aA A 98 [.str s,.str p] H=some (.bool (p.isPrefixOf s),none):=by
 refine bb (fn:=N8) rfl rfl rfl ?_
 unfold N8
 rw[pQ]
 by_cases h:(p.length:Int)<=s.length
 ·have hh:p.length<=s.length:=by omega
  simp(disch:=omega)only[fV,aa,simprocAttr,h,VC hh,hh]
 ·simp(disch:=omega)only[fV,aa,simprocAttr,h,show ¬ p.length<=s.length by omega]
theorem tK(s p:aV)(H:ag):aA A 67 [.str s,.str p] H=some (.bool (p.isPrefixOf s),none):=by
 refine bb (fn:=NY) rfl rfl rfl ?_
 unfold NY
 simp(disch:=omega)only[fV,aa,simprocAttr,z8]
def bB:Bool->aV->Nat
 | _,[]=>0
 | c,b :: r=>if b.toNat=10 then 1+bB false r else if b.toNat=35 then 1+bB true r else if b.toNat≠32/\c=false then 0 else 1+bB c r
theorem oZ:∀ (c:Bool) (s:aV),bB c s<=s.length
 | _,[]=>aiK _
 | c,b :: r=>by
  have h1:=oZ false r
  have h2:=oZ true r
  have h3:=oZ c r
  simp only[bB,List.length_cons]
  split
  ·omega
  ·split
   ·omega
   ·split<;>omega
def jM:aV:=[40,41,123,125,91,93,44,58,46,61,43,45,42,47,37,60]
def gb(s:aV):Bool:=s==[61,61] || s==[45,62] || (decide (s.length=1)&&jM.contains (s.getD 0 0))
theorem Zc(a b:UInt8):(((a.toNat:Int))==(b.toNat:Int))=(a==b):=by
 by_cases h:a=b
 ·subst h;simp
 ·have h' : a.toNat≠b.toNat:=fun e=>h (UInt8.toNat_inj.1 e)
  have h2:(a==b)=false:=by simpa using h
  rw[h2]
  simp;omega
theorem G4(s:aV)(H:ag):aA A 120 [.str s] H=some (.bool (gb s),none):=by
 refine bb (fn:=CA) rfl rfl rfl ?_
 unfold CA gb
 cases e1:(s==[61,61]) with
 | true=>simp(disch:=omega)only[fV,aa,simprocAttr,e1]
 | false =>
 cases e2:(s==[45,62]) with
 | true=>simp(disch:=omega)only[fV,aa,simprocAttr,e1,e2]
 | false =>
 simp(disch:=omega)only[fV,aa,simprocAttr,e1,e2]
 refine ku ?_ ?_<;>intro hl
 ·have Aa:s.length≠1:=fun e=>by rw[e] at hl;simp at hl
  simp(disch:=omega)only[fV,aa,simprocAttr,Aa]
 have Aa:s.length=1:=by
  have:(s.length:Int)=1:=by simpa using hl
  omega
 match s,Aa with
 | [b],_ =>
 simp(disch:=omega)only[fV,aa,simprocAttr]
 refine zf 16 (fun i=>Hd (fun T=>T 0=.str [b]/\T 3=.str jM/\T 4=.int .i64 i/\jM.contains b=(jM.drop i).contains b) H H.length 0) ?_ 0 _ (ajy _) ?_
 ·rintro i st hi iR
  obtain⟨T,rfl,h0,h3,h4,hc⟩:=iR.out
  simp(disch:=omega)only[fV,aa,simprocAttr,h0,h3,h4,show jM.length=16 from rfl]
  refine gK ?_ ?_<;>intro h
  ·have jW:i<jM.length:=by simp only[show jM.length=16 from rfl];omega
   simp(disch:=omega)only[fV,aa,simprocAttr,h0,h3,h4,aiJ jW,Zc]
   refine ku ?_ ?_<;>intro hb
   ·have fF:jM[i]=b:=by simpa using hb
    simp(disch:=omega)only[fV,aa,simprocAttr,hc,ajc jW,akB,fF,List.getD_cons_zero]
   ·have fF:(b==jM[i])=false:=by
     have:jM[i]≠b:=by simpa using hb
     simpa using fun e=>this e.symm
    simp(disch:=omega)only[fV,aa,simprocAttr,h0,h3,h4]
    exact⟨by omega,by rw[hc,ajc jW,akB,fF,akx]⟩
  ·have:i=16:=by omega
   subst this
   rw[show (jM.drop 16).contains b=false from rfl] at hc
   simp(disch:=omega)only[fV,aa,simprocAttr,List.getD_cons_zero,hc]
 ·simp(disch:=omega)only[fV,aa,simprocAttr]
  exact rfl
def bX(k:Int):aV->Nat
 | []=>0
 | c :: r=>if kindOf c=2\/kindOf c=1/\k=1 then 1+bX k r else 0
theorem nT(k:Int):∀ s:aV,bX k s<=s.length
 | []=>aiK _
 | c :: r=>by
  have:=nT k r
  simp only[bX,List.length_cons]
  split<;>omega
def fE:aV->Nat
 | []=>0
 | b :: r=>if 0<kindOf b then (if 16<1+bX (kindOf b) r then 0 else 1+bX (kindOf b) r)
  else if 1<=r.length/\gb ((b :: r).take 2)=true then 2 else if gb [b]=true then 1 else 0
theorem H9:∀ s:aV,fE s<=s.length
 | []=>aiK _
 | b :: r=>by
  have:=nT (kindOf b) r
  simp only[fE,List.length_cons]
  split
  ·split<;>omega
  ·split
   ·omega
   ·split<;>omega
theorem Ah(c:UInt8):kindOf c=0\/kindOf c=1\/kindOf c=2:=by
 unfold kindOf
 split
 ·exact .inr (.inl rfl)
 ·split
  ·exact .inr (.inr rfl)
  ·exact .inl rfl
theorem Z9(s:aV)(at' : Nat)(H:ag)(kV:at' < s.length)(hs:s.length<=4611686018427387904) :
  aA A 90 [.str s,.int .i64 at'] H=some (.int .i64 (if fE (s.drop at')=0 then -1 else ((at' + fE (s.drop at'):Nat):Int)),none):=by
 refine bb (fn:=N1) rfl rfl rfl ?_
 unfold N1
 have hd:=ajc kV
 generalize hb:s[at']=b at hd
 have jA:s[at']?=some b:=by rw[aiJ kV,hb]
 simp(disch:=omega)only[fV,aa,simprocAttr,jA,qw]
 refine gK ?_ ?_<;>intro hk
 ·have QX:fE (s.drop at')=if 16<1+bX (kindOf b) (s.drop (at' + 1)) then 0 else 1+bX (kindOf b) (s.drop (at' + 1)):=by
   rw[hd];simp only[fE,if_pos hk]
  simp(disch:=omega)only[fV,aa,simprocAttr]
  refine bY s.length 0 (fun i=>Hd (fun T=>T 0=.str s/\T 1=.int .i64 at'/\T 5=.int .i64 (kindOf b)/\T 6=.int .i64 i/\at' + 1+bX (kindOf b) (s.drop (at' + 1))=i+bX (kindOf b) (s.drop i)) H H.length 0)
   (Hd (fun T=>T 1=.int .i64 at'/\T 6=.int .i64 ((at' + 1+bX (kindOf b) (s.drop (at' + 1)):Nat):Int)) H H.length 0) (fun _=>False) ?_ ?_ (fun _ h=>h.elim) (at' + 1) _ (by omega) ?_
  ·rintro i st hi iR
   obtain⟨T,rfl,h0,h1,h5,h6,hc⟩:=iR.out
   by_cases h:(i:Int)<s.length
   ·have jW:i<s.length:=by omega
    rw[ajc jW] at hc
    simp only[bX] at hc
    have uH:s[i]?=some s[i]:=aiJ jW
    generalize s[i]=c at hc uH
    by_cases k2:kindOf c=2
    ·rw[if_pos (.inl k2)] at hc
     simp(disch:=omega)only[fV,aa,simprocAttr,h0,h1,h5,h6,h,uH,qw,k2]
     omega
    by_cases k1:kindOf c=1
    ·by_cases kb:kindOf b=1
     ·rw[if_pos (.inr ⟨k1,kb⟩)] at hc
      rw[kb] at h5 hc ⊢
      simp(disch:=omega)only[fV,aa,simprocAttr,h0,h1,h5,h6,h,uH,qw,k1,kb,Int.reduceBEq]
      omega
     ·rw[if_neg (by simp[k1,kb])] at hc
      simp(disch:=omega)only[fV,aa,simprocAttr,h0,h1,h5,h6,h,uH,qw,k1,Int.reduceBEq,show (kindOf b==1)=false by simpa using kb]
      omega
    ·have k0:kindOf c=0:=by rcases Ah c with h|h|h<;>simp_all
     rw[if_neg (by simp[k0])] at hc
     simp(disch:=omega)only[fV,aa,simprocAttr,h0,h1,h5,h6,h,uH,qw,k0,Int.reduceBEq]
     omega
   ·have:i=s.length:=by omega
    subst this
    rw[akr] at hc
    simp only[bX] at hc
    simp(disch:=omega)only[fV,aa,simprocAttr,h0,h1,h6,h]
    omega
  ·intro st iR
   obtain⟨T,rfl,h1,h6⟩:=iR.out
   have hle:=nT (kindOf b) (s.drop (at' + 1))
   rw[ajB] at hle
   rw[QX]
   generalize bX (kindOf b) (s.drop (at' + 1))=w at h6 hle
   simp(disch:=omega)only[fV,aa,simprocAttr,h1,h6]
   refine gK ?_ ?_<;>intro QI
   ·simp(disch:=omega)only[fV,aa,simprocAttr,if_pos (show 16<1+w by omega)]
   ·simp(disch:=omega)only[fV,aa,simprocAttr,if_neg (show ¬ 16<1+w by omega),h6,if_neg (show ¬ 1+w=0 by omega)]
    omega
  ·simp(disch:=omega)only[fV,aa,simprocAttr]
 ·have QX:fE (s.drop at')=if 1<=(s.drop (at' + 1)).length/\gb ((b :: s.drop (at' + 1)).take 2)=true then 2 else if gb [b]=true then 1 else 0:=by
   rw[hd];simp only[fE,if_neg hk]
  have e1:List.drop at' (List.take (at' + 1) s)=[b]:=by
   rw[List.drop_take,hd];simp
  have e2:List.drop at' (List.take (at' + 2) s)=(b :: s.drop (at' + 1)).take 2:=by
   rw[List.drop_take,hd];simp
  generalize (b :: s.drop (at' + 1)).take 2=two at e2 QX
  have e3:(s.drop (at' + 1)).length=s.length-(at' + 1):=ajB ..
  rw[QX,e3]
  by_cases h2:(at' : Int)+1<s.length
  ·cases QW:gb two with
   | true =>
    simp(disch:=omega)only[fV,aa,simprocAttr,h2,e2,G4,QW,if_pos (show 1<=s.length-(at' + 1)/\True from ⟨by omega,trivial⟩)]
    rw[if_pos (show 1<=s.length-(at' + 1) by omega)]
    rw[if_neg (by omega)];rfl
   | false =>
    cases Ac:gb [b] <;>
    simp(disch:=omega)only[fV,aa,simprocAttr,h2,e2,e1,G4,QW,Ac,ajM,ak7,akU,ajY]<;>rfl
  ·have hn:¬ 1<=s.length-(at' + 1):=by omega
   cases Ac:gb [b] <;>
   simp(disch:=omega)only[fV,aa,simprocAttr,h2,e1,G4,Ac,hn,false_and,ajM,akU,ajY]<;>rfl
theorem Gm(H:ag):aA A 89 [] H=some (.slice (strs dP) true,none):=by
 refine bb (fn:=N0) rfl rfl rfl ?_
 unfold N0
 simp only[PL,wZ,GW,wL,PK,wY,s9]
 refine Pq (.slice (strs dP) true) (by kernel_rfl) rfl ?_
 simp(disch:=omega)only[fV,aa,simprocAttr]
def isWord(s:aV):Bool:=match s with
 | []=>false
 | b :: _=>decide (kindOf b=1)&&!dP.contains s&&decide (fE s=s.length)
theorem nS(s:aV)(H:ag)(hs:s.length<=4611686018427387904):aA A 56 [.str s] H=some (.bool (isWord s),none):=by
 refine bb (fn:=NQ) rfl rfl rfl ?_
 unfold NQ
 cases qt:s with
 | nil=>simp(disch:=omega)only[fV,aa,simprocAttr,isWord]
 | cons b r =>
 rw[<- qt]
 have hl:((s.length:Int)==0)=false:=by rw[qt];simp;omega
 have hb:s[0]?=some b:=by rw[qt];rfl
 by_cases hk:kindOf b=1
 ·simp(disch:=omega)only[fV,aa,simprocAttr,hl,hb,qw,hk,bne_self_eq_false,Gm]
  have h27:dP.length=27:=rfl
  refine bY 27 0 (fun i=>Hd (fun T=>T 0=.str s/\T 3=.slice (strs dP) true/\T 4=.int .i64 i/\dP.contains s=(dP.drop i).contains s) H H.length 0)
   (Hd (fun T=>T 0=.str s/\dP.contains s=false) H H.length 0) (Hd (fun T=>T 2=.bool false/\dP.contains s=true) H H.length 0) ?_ ?_ ?_ 0 _ (by omega) ?_
  ·rintro i st hi iR
   obtain⟨T,rfl,h0,h3,h4,hc⟩:=iR.out
   simp(disch:=omega)only[fV,aa,simprocAttr,h0,h3,h4,aE,h27]
   refine gK ?_ ?_<;>intro h
   ·have jW:i<dP.length:=by rw[h27];omega
    simp(disch:=omega)only[fV,aa,simprocAttr,h0,h3,h4,bk (aiJ jW)]
    refine ku ?_ ?_<;>intro hb
    ·simp(disch:=omega)only[fV,aa,simprocAttr,hc,ajc jW,akB,show (s==dP[i])=true by rw[ajq] at hb ⊢;exact hb.symm]
    ·simp(disch:=omega)only[fV,aa,simprocAttr,h0,h3,h4]
     exact⟨by omega,by rw[hc,ajc jW,akB,show (s==dP[i])=false by rw[ajs] at hb ⊢;exact hb.symm,akx]⟩
   ·have:i=27:=by omega
    subst this
    rw[show dP.drop 27=[] from rfl] at hc
    simp(disch:=omega)only[fV,aa,simprocAttr,h0,hc,List.contains_nil]
  ·intro st iR
   obtain⟨T,rfl,h0,hc⟩:=iR.out
   have e1:=Z9 s 0 H (by rw[qt];simp) hs
   rw[ajW] at e1
   rw[ajl] at e1
   simp(disch:=omega)only[fV,aa,simprocAttr,h0,e1]
   have hw:isWord s=decide (fE s=s.length):=by rw[qt] at hc ⊢;simp only[isWord,hk,hc,als,ajp,ajo]
   rw[hw]
   have cU:s.length≠0:=by rw[qt];simp
   by_cases Ka:fE s=0
   ·rw[if_pos Ka,Ka];exact Hm (by omega)
   ·rw[if_neg Ka];exact Hm (by omega)
  ·intro st iR
   obtain⟨T,rfl,h2,hc⟩:=iR.out
   have hw:isWord s=false:=by rw[qt] at hc ⊢;simp only[isWord,hc,ajz,Bool.and_false,ajr]
   simp(disch:=omega)only[fV,aa,simprocAttr,h2,hw]
  ·simp(disch:=omega)only[fV,aa,simprocAttr,ajW,ajl]
 ·have hw:isWord s=false:=by rw[qt];simp only[isWord,hk,ajv,ajr]
  simp(disch:=omega)only[fV,aa,simprocAttr,hl,hb,qw,show (kindOf b != 1)=true by simpa using hk,hw]
theorem kR{n k:Int}(hk:0<k):0<=mu n k/\mu n k<k:=by
 unfold mu
 have h0:(0:Int)<=(if n<0 then -(n+1) else n):=by split<;>omega
 rw[Int.tmod_eq_emod_of_nonneg h0]
 exact⟨Int.emod_nonneg _ (by omega),Int.emod_lt_of_pos _ hk⟩
theorem xP{l:List Int}{i k:Int}(hk:0<k):0<=UB l i k/\UB l i k<k:=by
 unfold UB
 split
 ·exact⟨Int.le_refl _,hk⟩
 ·exact kR hk
inductive Wd where
 | mk (name:aV) (kids:List Wd)
inductive Tm where
 | mk (kind n:Int) (name field wn:aV) (wk:List Wd) (kids:List Tm) (names:List aV)
def Wd.name:Wd->aV|.mk n _=>n
def Wd.kids:Wd->List Wd|.mk _ k=>k
def Tm.kind:Tm->Int|.mk k _ _ _ _ _ _ _=>k
def Tm.n:Tm->Int|.mk _ n _ _ _ _ _ _=>n
def Tm.name:Tm->aV|.mk _ _ a _ _ _ _ _=>a
def Tm.field:Tm->aV|.mk _ _ _ f _ _ _ _=>f
def Tm.wn:Tm->aV|.mk _ _ _ _ w _ _ _=>w
def Tm.wk:Tm->List Wd|.mk _ _ _ _ _ w _ _=>w
def Tm.kids:Tm->List Tm|.mk _ _ _ _ _ _ k _=>k
def Tm.names:Tm->List aV|.mk _ _ _ _ _ _ _ n=>n
mutual
def jO:Wd->List AV
 | .mk n ks=>[.str n,.slice (aO ks) false]
def aO:List Wd->List (List AV)
 | []=>[]
 | w :: r=>jO w :: aO r
end
mutual
def gk:Tm->List AV
 | .mk k n a f wn wk ks ns=>[.int .i64 k,.int .i64 n,.str a,.str f,.str wn,.slice (aO wk) false,.slice (aK ks) false,.slice (strs ns) false]
def aK:List Tm->List (List AV)
 | []=>[]
 | t :: r=>gk t :: aK r
end
theorem kS(w:Wd):jO w=[.str w.name,.slice (aO w.kids) false]:=by cases w;simp only[jO,Wd.name,Wd.kids]
theorem ax(t:Tm):gk t=[.int .i64 t.kind,.int .i64 t.n,.str t.name,.str t.field,.str t.wn,.slice (aO t.wk) false,.slice (aK t.kids) false,.slice (strs t.names) false]:=by
 cases t;simp only[gk,Tm.kind,Tm.n,Tm.name,Tm.field,Tm.wn,Tm.wk,Tm.kids,Tm.names]
theorem sF:∀ l:List Wd,aO l=l.map jO
 | []=>by simp[aO]
 | t :: r=>by simp[aO,sF r]
theorem lk:∀ l:List Tm,aK l=l.map gk
 | []=>by simp[aK]
 | t :: r=>by simp[aK,lk r]
theorem qL{l:List Wd} : (aO l).length=l.length:=by rw[sF];simp
theorem b8{l:List Tm} : (aK l).length=l.length:=by rw[lk];simp
theorem DG{l:List Tm}{i:Nat}{e:Tm}(h:l[i]?=some e):(aK l)[i]?=some (gk e):=by rw[lk];simp[h]
def w4:Nat->Wd->Prop
 | 0,w=>w.name.length<=20/\w.kids=[]
 | h+1,w=>w.name.length<=20/\w.kids.length<=1/\∀ k∈w.kids,w4 h k
inductive Ks:Nat->Tm->Prop where
 | mk (h:Nat) (k n:Int) (a f wn:aV) (wk:List Wd) (ks:List Tm) (ns:List aV) (h1:-2199023255552<=n/\n<=2199023255552) (hk:-100<=k/\k<=100) (h2:a.length<=20/\f.length<=20)
   (h3:w4 3 (.mk wn wk)) (h4:ks.length<=3) (h5:∀ t∈ks,Ks h t) (h6:ns.length<=8/\∀ s∈ns,s.length<=20):Ks (h+1) (.mk k n a f wn wk ks ns)
inductive zd (m:Nat):Nat->Tm->Prop where
 | mk (h:Nat) (k n:Int) (a f wn:aV) (wk:List Wd) (ks:List Tm) (ns:List aV) (h1:-2199023255552<=n/\n<=2199023255552) (hk:-100<=k/\k<=100) (h2:a.length<=20/\f.length<=20)
   (h3:w4 3 (.mk wn wk)) (h4:ks.length<=3) (h5:∀ t∈ks,zd m h t) (h6:ns.length<=m/\∀ s∈ns,s.length<=20):zd m (h+1) (.mk k n a f wn wk ks ns)
theorem zd.le{m:Nat}(hm:m<=8):∀ (h h' : Nat) (t:Tm),h<=h'->zd m h t->Ks h' t
 | 0,_,t,_,hb=>by cases hb
 | h+1,0,t,hh,_=>by omega
 | h+1,h' + 1,t,hh,hb=>by
  cases hb with
  | mk h k n a f wn wk ks ns h1 hk h2 h3 h4 h5 h6=>exact .mk h' k n a f wn wk ks ns h1 hk h2 h3 h4 (fun u hu=>zd.le hm h h' u (by omega) (h5 u hu)) ⟨by omega,h6.2⟩
theorem zd.up{m m' : Nat}(hm:m<=m'):∀ (h h' : Nat) (t:Tm),h<=h'->zd m h t->zd m' h' t
 | 0,_,t,_,hb=>by cases hb
 | h+1,0,t,hh,_=>by omega
 | h+1,h' + 1,t,hh,hb=>by
  cases hb with
  | mk h k n a f wn wk ks ns h1 hk h2 h3 h4 h5 h6=>exact .mk h' k n a f wn wk ks ns h1 hk h2 h3 h4 (fun u hu=>zd.up hm h h' u (by omega) (h5 u hu)) ⟨by omega,h6.2⟩
theorem bo{f:FuncId}{fn:au}(ho:A.ov f=none)(hf:A.fns f=some fn){args:List AV}{H:ag}{r:AV × Option fz}(hn:Nat.beq args.length fn.np=true)(hm:fn.muts.elem 777777=true)
  (h:W A fn.body { T:=gn args,H,lo:=H.length,gen:=0 } (ve H.length fn.results fun x=>(lV x.1,x.2)=r)):aA A f args H=some r:=by
 obtain⟨r',h1,h2⟩:=lg (P:=fun x=>x=r) ho hf hn hm h
 rw[h1,h2]
theorem cj{cs:List AV} : lV (.agg cs)=.agg (cs.map n2):=rfl
theorem X6{k:IntKind}{n:Int} : lV (.int k n)=.int k n:=rfl
theorem GG{l:aV} : lV (.str l)=.str l:=rfl
theorem X7{e:List (List AV)} : lV (.slice e false)=.slice (e.map fun r=>r.map n1) false:=rfl
theorem X8{e:List (List AV)} : lV (.slice e true)=.slice e true:=rfl
theorem cQ{k:IntKind}{n:Int} : n2 (.int k n)=.int k n:=rfl
theorem cg{l:aV} : n2 (.str l)=.str l:=rfl
theorem cd:n2 .ay=.slice [] false:=rfl
theorem cK{e:List (List AV)} : n2 (.slice e false)=.slice (e.map fun r=>r.map n1) false:=rfl
theorem cL{e:List (List AV)} : n2 (.slice e true)=.slice e true:=rfl
theorem cP{k:IntKind}{n:Int} : n1 (.int k n)=.int k n:=rfl
theorem cJ{l:aV} : n1 (.str l)=.str l:=rfl
theorem dJ{e:List (List AV)}{o:Bool} : n1 (.slice e o)=.slice e o:=rfl
theorem aeM{w:Wd} : (jO w).map n1=jO w:=by rw[kS];rfl
theorem aeL{t:Tm} : (gk t).map n1=gk t:=by rw[ax];rfl
theorem iA{l:List Wd} : ((aO l).map fun r=>r.map n1)=aO l:=by
 rw[sF,ake]
 exact ai6 fun w _=>aeM
theorem hJ{l:List Tm} : ((aK l).map fun r=>r.map n1)=aK l:=by
 rw[lk,ake]
 exact ai6 fun w _=>aeL
theorem gF{l:List aV} : ((strs l).map fun r=>r.map n1)=strs l:=by
 rw[strs,ake]
 exact ai6 fun w _=>rfl
structure Cc where
 mm:Nat
 l:List Int
def Qg(c:Cc)(p:Int):List AV:=[.slice (ints c.l) false,.int .i64 p]
def bZ(c:Cc)(p:Int)(H:ag):ag:=H.set c.mm (.box 55 (Qg c p))
structure CH (c:Cc) (p:Int) (H:ag):Prop where
 h0:H[c.mm]?=some (.box 55 (Qg c p))
 hl:∀ n∈c.l,zb n
 len:H.length=c.mm+1
theorem CH.lt{c:Cc}{p:Int}{H:ag}(h:CH c p H):c.mm<H.length:=(aiI.1 h.h0).1
theorem CH.set{c:Cc}{p p' : Int}{H:ag}(h:CH c p H):CH c p' (bZ c p' H):=⟨by unfold bZ;rw[List.getElem?_set_self h.lt],h.hl,by unfold bZ;rw[List.length_set];exact h.len⟩
theorem aL{c:Cc}{p p' : Int}{H:ag} : bZ c p (bZ c p' H)=bZ c p H:=by unfold bZ;rw[List.set_set]
theorem aJ{c:Cc}{p:Int}{H:ag} : (bZ c p H).length=H.length:=by unfold bZ;rw[List.length_set]
theorem aU{c:Cc}{p:Int}{H:ag} : (bZ c p H).take H.length=bZ c p H:=aji (akj aJ)
theorem yZ{H:ag}{i:Nat}{o:de} : (H.set i o).take H.length=H.set i o:=aji (akj List.length_set)
theorem Pl{H:ag}{i:Nat}{o:de} : (H.set i o).length=H.length:=List.length_set
theorem CH.open{c:Cc}{p:Int}{H:ag}(h:CH c p H)(cs:List AV):tW H.length c.mm (H.set c.mm (.box 55 cs))=true:=by
 have h1:((H.set c.mm (.box 55 cs)).take H.length).drop c.mm=[.box 55 cs]:=by
  rw[yZ]
  refine akd fun j=>?_
  rw[aje,ajF]
  cases j with
  | zero=>simp[h.lt]
  | succ j =>
   rw[if_neg (by omega),ajk (by have:=h.len;omega)]
   simp
 unfold tW
 rw[h1]
 cases Nat.beq c.mm H.length<;>rfl
theorem CH.fU{c:Cc}{p p' : Int}{H:ag}(h:CH c p H):tW H.length c.mm (bZ c p' H)=true:=h.open _
theorem ju{c:Cc}{p:Int}{H:ag}(h:CH c p H)(n:Int)(hn:0<n):∃ x p',0<=x/\x<n/\aA A 19 [.ref c.mm 0,.int .i64 n] H=some (.int .i64 x,some ⟨bZ c p' H,c.mm⟩):=by
 refine⟨UB c.l (IntKind.i64.wrap (IntKind.i64.wrap (p+1)-1)) n,IntKind.i64.wrap (p+1),(xP hn).1,(xP hn).2,?_⟩
 refine bo (fn:=NC) rfl rfl rfl rfl ?_
 unfold NC
 have h0:=h.h0
 have a7:=h.lt
 have kV:=fun i H=>ac8 c.l i n H h.hl hn
 have cH:=h.open
 have iR:∀ x:de,(H.set c.mm x)[c.mm]?=some x:=fun x=>List.getElem?_set_self a7
 rw[Qg] at h0
 simp(disch:=omega)only[aM,aa,simprocAttr,h0,iR,cH,ba,List.set_set,Pl,yZ,kV,bZ,Qg,X6]
def kK:List aV:=[[97],[98],[102],[80,111,105,110,116],[83,104,97,112,101],[120,49],[99,111,114,101],[117]]
theorem lt8{x:Int}(h0:0<=x)(h1:x<8):x=0\/x=1\/x=2\/x=3\/x=4\/x=5\/x=6\/x=7:=by omega
theorem kJ{c:Cc}{p:Int}{H:ag}(h:CH c p H):∃ s p',s∈kK/\aA A 18 [.ref c.mm 0] H=some (.str s,some ⟨bZ c p' H,c.mm⟩):=by
 obtain⟨x,p',h0,h1,dq⟩:=ju h 8 (by omega)
 have a7:=h.lt
 have cH:=h.fU (p':=p')
 refine⟨(kK[x.toNat]?).getD [],p',?_,?_⟩
 ·rcases lt8 h0 h1 with rfl|rfl|rfl|rfl|rfl|rfl|rfl|rfl<;>decide
 ·refine bo (fn:=Nz) rfl rfl rfl rfl ?_
  unfold Nz
  rcases lt8 h0 h1 with rfl|rfl|rfl|rfl|rfl|rfl|rfl|rfl
  all_goals
   simp(disch:=omega)only[aM,aa,simprocAttr,dq,cH,ba,aJ,aU,GG]
   rfl
def cN:aV->aV × aV × Bool
 | []=>([],[],false)
 | b :: r=>if b.toNat=46 then ([],r,true) else (b :: (cN r).1,(cN r).2.1,(cN r).2.2)
def lX(s:aV):Bool:=isWord (cN s).1&&(!(cN s).2.2 || isWord (cN s).2.1)
def cu(s:aV):List aV:=if (cN s).2.2=true then [(cN s).1,[46],(cN s).2.1] else [(cN s).1]
abbrev gH:aV:=[76,105,115,116]
abbrev Dt:aV:=[73,110,116]
abbrev uc:aV:=[66,111,111,108]
def bE:Wd->Bool
 | .mk n [k]=>if n=gH then bE k else false
 | .mk n []=>if n=gH then false else (n==Dt || n==uc || lX n)
 | .mk n _=>false
def dn:Wd->List aV
 | .mk n [k]=>if n=gH then [gH,[40]]++dn k++[[41]] else (if n=Dt\/n=uc then [n] else cu n)
 | .mk n _=>if n=Dt\/n=uc then [n] else cu n
def bP(k n:Int)(len:Nat):Int × Int :=
 if k=0\/k=1\/k=2 then (0,0) else if k=3\/k=11 then (-1,0)
 else if k=4 then (if (fm n).1=[] then (-2,0) else if (fm n).2=7 then (1,0) else (2,0))
 else if k=5 then (3,0) else if k=6 then (2,1) else if k=7 then (-1,len) else if k=8\/k=9 then (1,0)
 else if k=10 then (if len<2 then (-2,0) else (-1,2*((len:Int)-1))) else if k=12 then (3,2) else (-2,0)
def gC(k:Int):Bool:=decide (k=3\/k=7\/k=8\/k=9\/k=10)
def kn(c1 c2 l m:Int)(w:Bool):Bool:=decide (c1=-2) || decide (0<=c1/\l≠c1) || decide (m≠c2) || !w
def mK(t:Tm):Bool:=kn (bP t.kind t.n t.kids.length).1 (bP t.kind t.n t.kids.length).2 t.kids.length t.names.length (t.names.all isWord)
def nx(t:Tm):Bool:=bif gC t.kind then !(lX t.name) else bif decide (t.kind=2) then !(isWord t.name) else decide (t.name≠[])
def n8(t:Tm):Bool:=bif decide (t.kind=8\/t.kind=9) then !(isWord t.field) else decide (t.field≠[])
def ny(t:Tm):Bool:=bif decide (t.kind=11) then !(bE (.mk t.wn t.wk)) else (decide (t.wn≠[]) || decide (0<t.wk.length))
def mL(t:Tm):Bool:=bif decide (t.kind=0) then decide (t.n < -1099511627776\/1099511627776<t.n) else bif decide (t.kind=1) then decide (t.n≠0/\t.n≠1) else false
def ox(t:Tm):Bool:=decide (t.kind≠0/\t.kind≠1/\t.kind≠4/\t.n≠0)
def gA(t:Tm):Bool:=!(mK t || nx t || n8 t || ny t || mL t || ox t)
mutual
def bD:Tm->Bool
 | .mk k n a f wn wk ks ns=>gA (.mk k n a f wn wk ks ns)&&nh ks
def nh:List Tm->Bool
 | []=>true
 | t :: r=>bD t&&nh r
end
theorem lW(t:Tm):bD t=(gA t&&nh t.kids):=by cases t;rw[bD,Tm.kids]
theorem kZ:∀ l:List Tm,nh l=l.all bD
 | []=>by simp[nh]
 | t :: r=>by simp[nh,kZ r]
def Hi(h:Nat)(t:Tm):Prop:=zd 4 h t/\bD t=true
theorem ft:∀ s∈kK,isWord s=true:=by decide
theorem GB:∀ s∈kK,lX s=true:=by decide
theorem S1:∀ s∈kK,lX ([107,46]++s)=true:=by decide
theorem HY{s:aV}(h:lX s=true):bE (.mk s [])=true:=by
 have:s≠gH:=by rintro rfl;revert h;decide
 simp[bE,this,h]
theorem Tb{w:Wd}(h:bE w=true):bE (.mk [76,105,115,116] [w])=true:=by simp[bE,h]
theorem xF{n:Int}(h:-1099511627776<=n/\n<=1099511627776):gA (.mk 0 n [] [] [] [] [] [])=true:=by
 have:¬ (n < -1099511627776\/1099511627776<n):=by omega
 simp[gA,mK,kn,nx,n8,ny,mL,ox,bP,gC,Tm.kind,Tm.n,Tm.name,Tm.field,Tm.wn,Tm.wk,Tm.kids,Tm.names,this]
theorem abE{n:Int}(h:0<=n/\n<2):gA (.mk 1 n [] [] [] [] [] [])=true:=by
 have:n=0\/n=1:=by omega
 rcases this with rfl|rfl<;>decide
theorem abI{s:aV}(h:isWord s=true):gA (.mk 2 0 s [] [] [] [] [])=true:=by
 simp[gA,mK,kn,nx,n8,ny,mL,ox,bP,gC,Tm.kind,Tm.n,Tm.name,Tm.field,Tm.wn,Tm.wk,Tm.kids,Tm.names,h]
theorem aeT{s:aV}{l:List Tm}(h:lX s=true):gA (.mk 3 0 s [] [] [] l [])=true:=by
 simp[gA,mK,kn,nx,n8,ny,mL,ox,bP,gC,Tm.kind,Tm.n,Tm.name,Tm.field,Tm.wn,Tm.wk,Tm.kids,Tm.names,h]
theorem aeU{t u v:Tm} : gA (.mk 5 0 [] [] [] [] [t,u,v] [])=true:=by
 simp[gA,mK,kn,nx,n8,ny,mL,ox,bP,gC,Tm.kind,Tm.n,Tm.name,Tm.field,Tm.wn,Tm.wk,Tm.kids,Tm.names]
theorem aeV{s:aV}{t u:Tm}(h:isWord s=true):gA (.mk 6 0 [] [] [] [] [t,u] [s])=true:=by
 simp[gA,mK,kn,nx,n8,ny,mL,ox,bP,gC,Tm.kind,Tm.n,Tm.name,Tm.field,Tm.wn,Tm.wk,Tm.kids,Tm.names,h]
theorem aeW{s:aV}{l:List Tm}{ns:List aV}(h:lX s=true)(hl:ns.length=l.length)(hn:∀ x∈ns,x∈kK):gA (.mk 7 0 s [] [] [] l ns)=true:=by
 have hw:ns.all isWord=true:=aiO.2 fun x hx=>ft x (hn x hx)
 have hw2:∀ x∈ns,isWord x=true:=fun x hx=>ft x (hn x hx)
 simp[gA,mK,kn,nx,n8,ny,mL,ox,bP,gC,Tm.kind,Tm.n,Tm.name,Tm.field,Tm.wn,Tm.wk,Tm.kids,Tm.names,h,hl,hw]
theorem abJ{s r:aV}{t:Tm}{k:Int}(hk:k=8\/k=9)(h:lX s=true)(hr:isWord r=true):gA (.mk k 0 s r [] [] [t] [])=true:=by
 rcases hk with rfl|rfl<;>simp[gA,mK,kn,nx,n8,ny,mL,ox,bP,gC,Tm.kind,Tm.n,Tm.name,Tm.field,Tm.wn,Tm.wk,Tm.kids,Tm.names,h,hr]
theorem abF{s:aV}{l:List Tm}{ns:List aV}(h:lX s=true)(h2:2<=l.length)(hl:ns.length=2*(l.length-1))(hn:∀ x∈ns,x∈kK):gA (.mk 10 0 s [] [] [] l ns)=true:=by
 have hw2:∀ x∈ns,isWord x=true:=fun x hx=>ft x (hn x hx)
 have e:(ns.length:Int)=2*((l.length:Int)-1):=by omega
 have e2:¬ l.length<2:=by omega
 simp[gA,mK,kn,nx,n8,ny,mL,ox,bP,gC,Tm.kind,Tm.n,Tm.name,Tm.field,Tm.wn,Tm.wk,Tm.kids,Tm.names,h,e,e2]
 exact hw2
theorem abG{w:Wd}{l:List Tm}(h:bE w=true):gA (.mk 11 0 [] [] w.name w.kids l [])=true:=by
 have e:bE (.mk w.name w.kids)=true:=by cases w;exact h
 simp[gA,mK,kn,nx,n8,ny,mL,ox,bP,gC,Tm.kind,Tm.n,Tm.name,Tm.field,Tm.wn,Tm.wk,Tm.kids,Tm.names,e]
theorem abH{s r:aV}{t u v:Tm}(h:isWord s=true)(hr:isWord r=true):gA (.mk 12 0 [] [] [] [] [t,u,v] [s,r])=true:=by
 simp[gA,mK,kn,nx,n8,ny,mL,ox,bP,gC,Tm.kind,Tm.n,Tm.name,Tm.field,Tm.wn,Tm.wk,Tm.kids,Tm.names,h,hr]
theorem Vf{t:Tm}{n:Int}(hn:n=9\/n=11):gA (.mk 4 n [] [] [] [] [t] [])=true:=by
 have e:bP 4 n 1=(1,0):=by rcases hn with rfl|rfl<;>decide
 simp[gA,mK,kn,nx,n8,ny,mL,ox,gC,Tm.kind,Tm.n,Tm.name,Tm.field,Tm.wn,Tm.wk,Tm.kids,Tm.names,e]
theorem pS{t u:Tm}{n:Int}(hn:0<=n/\n<=8\/n=10):gA (.mk 4 n [] [] [] [] [t,u] [])=true:=by
 have e:bP 4 n 2=(2,0):=by
  have:n=0\/n=1\/n=2\/n=3\/n=4\/n=5\/n=6\/n=7\/n=8\/n=10:=by omega
  rcases this with rfl|rfl|rfl|rfl|rfl|rfl|rfl|rfl|rfl|rfl<;>decide
 simp[gA,mK,kn,nx,n8,ny,mL,ox,gC,Tm.kind,Tm.n,Tm.name,Tm.field,Tm.wn,Tm.wk,Tm.kids,Tm.names,e]
theorem fe:∀ s∈kK,s.length<=5:=by decide
theorem qz{c:Cc}{p:Int}{H:ag}(h:CH c p H):∃ s p',(s.length<=20/\lX s=true)/\aA A 40 [.ref c.mm 0] H=some (.str s,some ⟨bZ c p' H,c.mm⟩):=by
 obtain⟨x,p1,h0,h1,dq⟩:=ju h 4 (by omega)
 obtain⟨s,p2,hs,oK⟩:=kJ (h.set (p':=p1))
 rw[aL] at oK
 have tP:=fe s hs
 have cH:=h.fU (p':=p2)
 have a7:=h.lt
 by_cases hx:x=1
 ·subst hx
  refine⟨[107,46]++s,p2,⟨by simp;omega,S1 s hs⟩,bo (fn:=Gj) rfl rfl rfl rfl ?_⟩
  unfold Gj
  simp(disch:=omega)only[aM,aa,simprocAttr,dq,oK,cH,ba,aJ,aU,GG]
 ·refine⟨s,p2,⟨by omega,GB s hs⟩,bo (fn:=Gj) rfl rfl rfl rfl ?_⟩
  unfold Gj
  simp(disch:=omega)only[aM,aa,simprocAttr,dq,oK,cH,ba,aJ,aU,GG]
theorem nR{d:Nat}{s:aV}(h:s.length<=20):w4 d (.mk s []):=by
 cases d with
 | zero=>exact⟨h,rfl⟩
 | succ d=>exact⟨h,by simp[Wd.kids],by simp[Wd.kids]⟩
theorem Uq{d:Nat}{w:Wd}(h:w4 d w):w4 (d+1) (.mk [76,105,115,116] [w]):=⟨by simp[Wd.name],by simp[Wd.kids],by simp[Wd.kids];exact h⟩
theorem CG{c:Cc} : ∀ (d:Nat) (p:Int) (H:ag),d<=100->CH c p H->∃ w p',(w4 d w/\bE w=true)/\aA A 22 [.ref c.mm 0,.int .i64 d] H=some (.agg (jO w),some ⟨bZ c p' H,c.mm⟩):=by
 intro d
 induction d with
 | zero =>
  intro p H hd h
  obtain⟨x,p1,h0,h1,dq⟩:=ju h 5 (by omega)
  obtain⟨s,p2,hs,oJ⟩:=qz (h.set (p':=p1))
  rw[aL] at oJ
  have cH:=h.fU (p':=p1)
  have WL:=h.fU (p':=p2)
  have a7:=h.lt
  by_cases rD:x=1
  ·refine⟨.mk [66,111,111,108] [],p1,⟨nR (by decide),by decide⟩,bo (fn:=oP) rfl rfl rfl rfl ?_⟩
   unfold oP
   simp(disch:=omega)only[aM,aa,simprocAttr,dq,cH,ba,aJ,aU,cj,aiU,aiX,cg,cd,jO,aO]
  by_cases hx2:x=2
  ·refine⟨.mk s [],p2,⟨nR hs.1,HY hs.2⟩,bo (fn:=oP) rfl rfl rfl rfl ?_⟩
   unfold oP
   simp(disch:=omega)only[aM,aa,simprocAttr,dq,oJ,WL,ba,aJ,aU,cj,aiU,aiX,cg,cd,jO,aO]
  by_cases hx3:x=3
  all_goals
   refine⟨.mk [73,110,116] [],p1,⟨nR (by decide),by decide⟩,bo (fn:=oP) rfl rfl rfl rfl ?_⟩
   unfold oP
   simp(disch:=omega)only[aM,aa,simprocAttr,dq,cH,ba,aJ,aU,cj,aiU,aiX,cg,cd,jO,aO]
 | succ d ih =>
  intro p H hd h
  obtain⟨x,p1,h0,h1,dq⟩:=ju h 5 (by omega)
  obtain⟨s,p2,hs,oJ⟩:=qz (h.set (p':=p1))
  rw[aL] at oJ
  obtain⟨w,p3,hw,UX⟩:=ih p1 (bZ c p1 H) (by omega) h.set
  rw[aL,kS] at UX
  have cH:=h.fU (p':=p1)
  have WL:=h.fU (p':=p2)
  have aee:=h.fU (p':=p3)
  have a7:=h.lt
  have tM:(d:Int)+1-1=d:=by omega
  by_cases rD:x=1
  ·refine⟨.mk [66,111,111,108] [],p1,⟨nR (by decide),by decide⟩,bo (fn:=oP) rfl rfl rfl rfl ?_⟩
   unfold oP
   simp(disch:=omega)only[aM,aa,simprocAttr,dq,cH,ba,aJ,aU,cj,aiU,aiX,cg,cd,jO,aO]
  by_cases hx2:x=2
  ·refine⟨.mk s [],p2,⟨nR hs.1,HY hs.2⟩,bo (fn:=oP) rfl rfl rfl rfl ?_⟩
   unfold oP
   simp(disch:=omega)only[aM,aa,simprocAttr,dq,oJ,WL,ba,aJ,aU,cj,aiU,aiX,cg,cd,jO,aO]
  by_cases hx3:x=3
  ·refine⟨.mk [76,105,115,116] [w],p3,⟨Uq hw.1,Tb hw.2⟩,bo (fn:=oP) rfl rfl rfl rfl ?_⟩
   unfold oP
   simp(disch:=omega)only[aM,aa,simprocAttr,dq,tM,UX,aee,ba,aJ,aU,cj,aiU,aiX,cg,cd,cK,cL,cJ,dJ,jO,aO,kS]
  ·refine⟨.mk [73,110,116] [],p1,⟨nR (by decide),by decide⟩,bo (fn:=oP) rfl rfl rfl rfl ?_⟩
   unfold oP
   simp(disch:=omega)only[aM,aa,simprocAttr,dq,cH,ba,aJ,aU,cj,aiU,aiX,cg,cd,jO,aO]
theorem acv{t:Tm} : (gk t).length=8:=by rw[ax];rfl
theorem ae4{t:Tm} : PV (gk t)=true:=by
 rw[ax];simp only[OW,OV,Vh,Vj,Vi,ajN]
theorem Pv{l:List Tm} : tA 8 (aK l):=by
 rw[lk]
 exact⟨fun r hr=>by simp only[ai5] at hr;obtain⟨n,_,rfl⟩:=hr;exact acv,sX fun r hr=>by simp only[ai5] at hr;obtain⟨n,_,rfl⟩:=hr;exact ae4⟩
theorem KG{l m:List Tm}{o:Bool}(h:l.length+m.length<=100000000):aq false 8 136 (.slice (aK l) true) (.slice (aK m) o)=some (.slice (aK (l++m)) true):=by
 rw[sq Pv Pv (by rw[b8,b8];omega) (by rw[b8,b8];omega)];simp[lk]
theorem ZN{l:List Tm}{t:Tm}{o:Bool}(h:l.length<=10000000):aq false 8 136 (.slice (aK l) true) (.slice [[.int .i64 t.kind,.int .i64 t.n,.str t.name,.str t.field,.str t.wn,.slice (aO t.wk) false,.slice (aK t.kids) false,.slice (strs t.names) false]] o)=some (.slice (aK (l++[t])) true):=by
 have:=KG (l:=l) (m:=[t]) (o:=o) (by simp;omega)
 rw[show aK [t]=[gk t] by simp[aK],ax] at this
 exact this
theorem ts0:aK []=[]:=by simp[aK]
def uP(c:Cc)(d:Nat):Prop:=∀ (p:Int) (H:ag),CH c p H->∃ t p',Hi (d+1) t/\aA A 23 [.ref c.mm 0,.int .i64 d] H=some (.agg (gk t),some ⟨bZ c p' H,c.mm⟩)
theorem AQ{c:Cc}{d:Nat}(hS:uP c d)(iU:Int)(h0:0<=iU/\iU<=1000)(p:Int)(H:ag)(h:CH c p H) :
  ∃ l p',(l.length:Int)<=iU/\(∀ t∈l,Hi (d+1) t)/\aA A 41 [.ref c.mm 0,.int .i64 d,.int .i64 iU] H=some (.slice (aK l) false,some ⟨bZ c p' H,c.mm⟩):=by
 have key:∃ r,aA A 41 [.ref c.mm 0,.int .i64 d,.int .i64 iU] H=some r/\∃ l p',(l.length:Int)<=iU/\(∀ t∈l,Hi (d+1) t)/\r=(.slice (aK l) false,some ⟨bZ c p' H,c.mm⟩):=by
  obtain⟨x,p1,vL,rD,dq⟩:=ju h (iU+1) (by omega)
  have a7:=h.lt
  refine lg (fn:=NP) rfl rfl rfl rfl ?_
  unfold NP
  simp(disch:=omega)only[aM,aa,simprocAttr,dq]
  refine bY x.toNat 0 (fun i s=>∃ T p1 acc,s=⟨T,bZ c p1 H,c.mm,0⟩/\T 0=.ref c.mm 0/\T 1=.int .i64 d/\T 7=.slice (aK acc) true/\T 8=.int .i64 x/\T 9=.int .i64 i/\acc.length=i/\∀ t∈acc,Hi (d+1) t)
   (fun s=>∃ T p1 acc,s=⟨T,bZ c p1 H,c.mm,0⟩/\T 7=.slice (aK acc) true/\(acc.length:Int)<=iU/\∀ t∈acc,Hi (d+1) t) (fun _=>False) ?_ ?_ (fun _ h=>h.elim) 0 _ (by omega) ?_
  ·rintro i s hi ⟨T,p1,acc,rfl,e0,e1,e7,e8,e9,hl,hb⟩
   by_cases hc:(i:Int)<x
   ·obtain⟨t,p2,ht,HE⟩:=hS p1 (bZ c p1 H) h.set
    rw[aL,ax] at HE
    simp(disch:=omega)only[aW,aa,simprocAttr,e0,e1,e7,e8,e9,HE,ZN]
    exact⟨by omega,_,p2,acc++[t],rfl,by simp(disch:=omega)only[aM,aa,simprocAttr,e0,e1,e7,e8,e9],by simp(disch:=omega)only[aM,aa,simprocAttr,e0,e1,e7,e8,e9],by simp(disch:=omega)only[aM,aa,simprocAttr],by simp(disch:=omega)only[aM,aa,simprocAttr,e8],by simp(disch:=omega)only[aM,aa,simprocAttr],by simp[hl],fun u hu=>by
     rcases aiM.1 hu with hu|hu
     ·exact hb u hu
     ·rw[aiY.1 hu];exact ht⟩
   ·simp(disch:=omega)only[aW,aa,simprocAttr,e0,e1,e7,e8,e9]
    exact⟨_,p1,acc,rfl,e7,by omega,hb⟩
  ·rintro s ⟨T,p1,acc,rfl,e7,hl,hb⟩
   have cH:=h.fU (p':=p1)
   simp(disch:=omega)only[aM,aa,simprocAttr,e7,cH,aJ,aU,X7,hJ]
   exact⟨acc,p1,hl,hb,rfl,rfl⟩
  ·exact⟨_,p1,[],rfl,by simp(disch:=omega)only[aM,aa,simprocAttr,ts0];simp⟩
 obtain⟨r,h1,l,p',h2,h3,rfl⟩:=key
 exact⟨l,p',h2,h3,h1⟩
theorem iQ{h:Nat} : w4 h (.mk [] []):=nR (by decide)
theorem nP{a b:Int}(h:0<=a):a.tdiv b=a / b:=Int.tdiv_eq_ediv_of_nonneg h
theorem gX{a b:Int}(h:0<=a):a.tmod b=a % b:=Int.tmod_eq_emod_of_nonneg h
theorem H8{h:Nat}{k n:Int}{a:aV}(h1:-2199023255552<=n/\n<=2199023255552)(hk:0<=k/\k<=100)(h2:a.length<=20):zd 4 (h+1) (.mk k n a [] [] [] [] []) :=
 .mk h k n a [] [] [] [] [] h1 (by omega) ⟨h2,by decide⟩ iQ (by decide) (by simp) ⟨by decide,by simp⟩
theorem fN{h:Nat}{k n:Int}{a:aV}(h1:-2199023255552<=n/\n<=2199023255552)(hk:0<=k/\k<=100)(h2:a.length<=20)(ho:gA (.mk k n a [] [] [] [] [])=true):Hi (h+1) (.mk k n a [] [] [] [] []) :=
 ⟨H8 h1 hk h2,by rw[lW,ho];rfl⟩
theorem lt4{x:Int}(h0:0<=x)(h1:x<4):x=0\/x=1\/x=2\/x=3:=by omega
theorem lt2{x:Int}(h0:0<=x)(h1:x<2):x=0\/x=1:=by omega
theorem acx{c:Cc} : uP c 0:=by
 intro p H h
 obtain⟨x,p1,vL,rD,dq⟩:=ju h 24 (by omega)
 have hm:0<=x % 5/\x % 5<5:=by omega
 have a7:=h.lt
 by_cases c0:x % 5=0
 ·obtain⟨y,p2,y0,y1,gz⟩:=ju (h.set (p':=p1)) 30 (by omega)
  rw[aL] at gz
  have cH:=h.fU (p':=p2)
  refine⟨.mk 0 (y-9) [] [] [] [] [] [],p2,fN (by omega) (by omega) (by decide) (xF (by omega)),bo (fn:=cV) rfl rfl rfl rfl ?_⟩
  unfold cV
  simp(disch:=omega)only[aW,aa,simprocAttr,dq,gz,cH,c0,gX,ba,aJ,aU,cj,aiU,aiX,cQ,cg,cd,cK,cL,cP,cJ,dJ,hJ,iA,gF,ax,aK,aO,strs,Tm.kind,Tm.n,Tm.name,Tm.field,Tm.wn,Tm.wk,Tm.kids,Tm.names]
 by_cases c1:x % 5=1
 ·obtain⟨y,p2,y0,y1,gz⟩:=ju (h.set (p':=p1)) 4 (by omega)
  rw[aL] at gz
  have cH:=h.fU (p':=p2)
  rcases lt4 y0 y1 with rfl|rfl|rfl|rfl
  ·refine⟨.mk 0 0 [] [] [] [] [] [],p2,fN (by omega) (by omega) (by decide) (xF (by omega)),bo (fn:=cV) rfl rfl rfl rfl ?_⟩
   unfold cV
   simp(disch:=omega)only[aW,aa,simprocAttr,dq,gz,cH,c1,gX,ba,aJ,aU,cj,aiU,aiX,cQ,cg,cd,cK,cL,cP,cJ,dJ,hJ,iA,gF,ax,aK,aO,strs,Tm.kind,Tm.n,Tm.name,Tm.field,Tm.wn,Tm.wk,Tm.kids,Tm.names]
  ·refine⟨.mk 0 1099511627776 [] [] [] [] [] [],p2,fN (by omega) (by omega) (by decide) (xF (by omega)),bo (fn:=cV) rfl rfl rfl rfl ?_⟩
   unfold cV
   simp(disch:=omega)only[aW,aa,simprocAttr,dq,gz,cH,c1,gX,ba,aJ,aU,cj,aiU,aiX,cQ,cg,cd,cK,cL,cP,cJ,dJ,hJ,iA,gF,ax,aK,aO,strs,Tm.kind,Tm.n,Tm.name,Tm.field,Tm.wn,Tm.wk,Tm.kids,Tm.names]
  ·refine⟨.mk 0 (-1099511627776) [] [] [] [] [] [],p2,fN (by omega) (by omega) (by decide) (xF (by omega)),bo (fn:=cV) rfl rfl rfl rfl ?_⟩
   unfold cV
   simp(disch:=omega)only[aW,aa,simprocAttr,dq,gz,cH,c1,gX,ba,aJ,aU,cj,aiU,aiX,cQ,cg,cd,cK,cL,cP,cJ,dJ,hJ,iA,gF,ax,aK,aO,strs,Tm.kind,Tm.n,Tm.name,Tm.field,Tm.wn,Tm.wk,Tm.kids,Tm.names]
  ·refine⟨.mk 0 10 [] [] [] [] [] [],p2,fN (by omega) (by omega) (by decide) (xF (by omega)),bo (fn:=cV) rfl rfl rfl rfl ?_⟩
   unfold cV
   simp(disch:=omega)only[aW,aa,simprocAttr,dq,gz,cH,c1,gX,ba,aJ,aU,cj,aiU,aiX,cQ,cg,cd,cK,cL,cP,cJ,dJ,hJ,iA,gF,ax,aK,aO,strs,Tm.kind,Tm.n,Tm.name,Tm.field,Tm.wn,Tm.wk,Tm.kids,Tm.names]
 by_cases c2:x % 5=2
 ·obtain⟨y,p2,y0,y1,gz⟩:=ju (h.set (p':=p1)) 2 (by omega)
  rw[aL] at gz
  have cH:=h.fU (p':=p2)
  refine⟨.mk 1 y [] [] [] [] [] [],p2,fN (by omega) (by omega) (by decide) (abE (by omega)),bo (fn:=cV) rfl rfl rfl rfl ?_⟩
  unfold cV
  simp(disch:=omega)only[aW,aa,simprocAttr,dq,gz,cH,c2,gX,ba,aJ,aU,cj,aiU,aiX,cQ,cg,cd,cK,cL,cP,cJ,dJ,hJ,iA,gF,ax,aK,aO,strs,Tm.kind,Tm.n,Tm.name,Tm.field,Tm.wn,Tm.wk,Tm.kids,Tm.names]
 obtain⟨s,p2,sh,gz⟩:=kJ (h.set (p':=p1))
 have sl:=fe _ sh
 rw[aL] at gz
 have cH:=h.fU (p':=p2)
 refine⟨.mk 2 0 s [] [] [] [] [],p2,fN (by omega) (by omega) (by omega) (abI (ft s sh)),bo (fn:=cV) rfl rfl rfl rfl ?_⟩
 unfold cV
 simp(disch:=omega)only[aW,aa,simprocAttr,dq,gz,cH,gX,ba,aJ,aU,cj,aiU,aiX,cQ,cg,cd,cK,cL,cP,cJ,dJ,hJ,iA,gF,ax,aK,aO,strs,Tm.kind,Tm.n,Tm.name,Tm.field,Tm.wn,Tm.wk,Tm.kids,Tm.names]
theorem Ol{P:Tm->Prop}{a:Tm}(h:P a):∀ t∈[a],P t:=fun t ht=>by rw[aiY.1 ht];exact h
theorem sW{P:Tm->Prop}{a b:Tm}(h:P a)(h2:P b):∀ t∈[a,b],P t:=fun t ht=>by
 rcases aja.1 ht with rfl|ht
 ·exact h
 ·exact Ol h2 t ht
theorem abw{P:Tm->Prop}{a b d:Tm}(h:P a)(h2:P b)(h3:P d):∀ t∈[a,b,d],P t:=fun t ht=>by
 rcases aja.1 ht with rfl|ht
 ·exact h
 ·exact sW h2 h3 t ht
theorem kE:(0:Nat)<=4/\∀ s∈([]:List aV),s.length<=20:=⟨by decide,by simp⟩
theorem aby{h:Nat}{k n:Int}{a f wn:aV}{wk:List Wd}{ks:List Tm}{ns:List aV}(h5:∀ t∈ks,zd 4 h t)(h4:ks.length<=3)(h1:-2199023255552<=n/\n<=2199023255552)(hk:0<=k/\k<=100)(h2:a.length<=20/\f.length<=20)
  (h3:w4 3 (.mk wn wk)) (h6:ns.length<=4/\∀ s∈ns,s.length<=20):zd 4 (h+1) (.mk k n a f wn wk ks ns):=.mk h k n a f wn wk ks ns h1 (by omega) h2 h3 h4 h5 h6
theorem iV{h:Nat}{k n:Int}{a f wn:aV}{wk:List Wd}{ks:List Tm}{ns:List aV}(h5:∀ t∈ks,Hi h t)(h4:ks.length<=3)(h1:-2199023255552<=n/\n<=2199023255552)(hk:0<=k/\k<=100)(h2:a.length<=20/\f.length<=20)
  (h3:w4 3 (.mk wn wk)) (h6:ns.length<=4/\∀ s∈ns,s.length<=20) (ho:gA (.mk k n a f wn wk ks ns)=true):Hi (h+1) (.mk k n a f wn wk ks ns) :=
 ⟨aby (fun t ht=>(h5 t ht).1) h4 h1 hk h2 h3 h6,by rw[lW,ho,kZ];exact aiO.2 fun t ht=>(h5 t ht).2⟩
theorem PE{d d' : Nat} : ∀ {w:Wd},d<=d'->w4 d w->w4 d' w:=by
 induction d generalizing d' with
 | zero =>
  intro w _ h
  cases d' with
  | zero=>exact h
  | succ d'=>exact⟨h.1,by rw[h.2];simp,by rw[h.2];simp⟩
 | succ d ih =>
  intro w hd h
  cases d' with
  | zero=>omega
  | succ d'=>exact⟨h.1,h.2.1,fun k hk=>ih (by omega) (h.2.2 k hk)⟩
theorem acy{c:Cc}{d:Nat}(ih:uP c d){p p1:Int}{H:ag}(h:CH c p H)(dq:aA A 19 [.ref c.mm 0,.int .i64 24] H=some (.int .i64 9,some ⟨bZ c p1 H,c.mm⟩))(hd:d<=100) :
  ∃ t p',Hi (d+1+1) t/\aA A 23 [.ref c.mm 0,.int .i64 ((d+1:Nat):Int)] H=some (.agg (gk t),some ⟨bZ c p' H,c.mm⟩):=by
 have key:∃ r,aA A 23 [.ref c.mm 0,.int .i64 ((d+1:Nat):Int)] H=some r/\∃ t p',Hi (d+1+1) t/\r=(.agg (gk t),some ⟨bZ c p' H,c.mm⟩):=by
  have a7:=h.lt
  have tM:(d:Int)+1-1=d:=by omega
  obtain⟨l,p2,ln,lh,gz⟩:=AQ ih 2 (by omega) p1 (bZ c p1 H) h.set
  rw[aL] at gz
  refine lg (fn:=cV) rfl rfl rfl rfl ?_
  unfold cV
  simp(disch:=omega)only[aW,aa,simprocAttr,dq,gz,tM]
  refine bY l.length 1 (fun i s=>∃ T p3 acc,s=⟨T,bZ c p3 H,c.mm,1⟩/\T 0=.ref c.mm 0/\T 4=.lbox 0 [.int .i64 0,.int .i64 0,.str [],.str [],.str [],.ay,.ay,.ay]/\T 6=.slice (aK l) false/\T 7=.slice (strs acc) true/\T 8=.int .i64 i/\acc.length=i/\∀ s∈acc,s∈kK)
   (fun s=>∃ T p3 acc,s=⟨T,bZ c p3 H,c.mm,1⟩/\T 0=.ref c.mm 0/\T 4=.lbox 0 [.int .i64 0,.int .i64 0,.str [],.str [],.str [],.ay,.ay,.ay]/\T 6=.slice (aK l) false/\T 7=.slice (strs acc) true/\acc.length=l.length/\∀ s∈acc,s∈kK) (fun _=>False) ?_ ?_ (fun _ h=>h.elim) 0 _ (by omega) ?_
  ·rintro i s hi ⟨T,p3,acc,rfl,e0,e4,e6,e7,e8,hl,hb⟩
   by_cases hc:i<l.length
   ·obtain⟨s,p4,hs,oK⟩:=kJ (h.set (p':=p3))
    rw[aL] at oK
    have tP:=fe s hs
    have Co:aq false 1 16 (.slice (strs acc) true) (.slice [[.str s]] true)=some (.slice (strs (acc++[s])) true):=dF (by omega)
    simp(disch:=omega)only[aW,aa,simprocAttr,e0,e6,e7,e8,b8,oK,Co]
    refine⟨by omega,_,p4,acc++[s],rfl,by simp(disch:=omega)only[aM,aa,simprocAttr,e0],by simp(disch:=omega)only[aM,aa,simprocAttr,e4],by simp(disch:=omega)only[aM,aa,simprocAttr,e6],by simp(disch:=omega)only[aM,aa,simprocAttr],by simp(disch:=omega)only[aM,aa,simprocAttr],by simp[hl],fun u hu=>?_⟩
    rcases aiM.1 hu with hu|hu
    ·exact hb u hu
    ·rw[aiY.1 hu];assumption
   ·simp(disch:=omega)only[aW,aa,simprocAttr,e0,e6,e7,e8,b8]
    exact⟨_,p3,acc,rfl,e0,e4,e6,e7,by omega,hb⟩
  ·rintro s ⟨T,p3,acc,rfl,e0,e4,e6,e7,hl,hb⟩
   obtain⟨s,p4,hs,oJ⟩:=qz (h.set (p':=p3))
   rw[aL] at oJ
   have cH:=h.fU (p':=p4)
   simp(disch:=omega)only[aW,aa,simprocAttr,e0,e4,e6,e7,oJ,cH,ba,aJ,aU,cj,aiU,aiX,cQ,cg,cd,cK,cL,cP,cJ,dJ,hJ,iA,gF]
   exact⟨.mk 7 0 s [] [] [] l acc,p4,iV lh (by omega) (by omega) (by omega) ⟨hs.1,by decide⟩ iQ ⟨by omega,fun x hx=>ajt (fe x (hb x hx)) (by decide)⟩ (aeW hs.2 hl hb),by simp only[gk,aO];exact⟨trivial,trivial⟩⟩
  ·exact⟨_,p2,[],rfl,by simp(disch:=omega)only[aM,aa,simprocAttr,strs];simp⟩
 obtain⟨r,h1,t,p',h2,rfl⟩:=key
 exact⟨t,p',h2,h1⟩
theorem Vw{t u:Tm}{l:List Tm}{o:Bool}(h:l.length<=1000):aq false 8 136 (.slice [[.int .i64 t.kind,.int .i64 t.n,.str t.name,.str t.field,.str t.wn,.slice (aO t.wk) false,.slice (aK t.kids) false,.slice (strs t.names) false],[.int .i64 u.kind,.int .i64 u.n,.str u.name,.str u.field,.str u.wn,.slice (aO u.wk) false,.slice (aK u.kids) false,.slice (strs u.names) false]] true) (.slice (aK l) o)=some (.slice (aK ([t,u]++l)) true):=by
 have:=KG (l:=[t,u]) (m:=l) (o:=o) (by simp;omega)
 rw[show aK [t,u]=[gk t,gk u] by simp[aK],ax t,ax u] at this
 exact this
theorem D4{l:List aV}{a b:aV}{o:Bool}(h:l.length<=1000):aq false 1 16 (.slice (strs l) true) (.slice [[.str a],[.str b]] o)=some (.slice (strs (l++[a,b])) true):=bR (m:=[a,b]) (by simp;omega)
theorem Za{c:Cc}{d:Nat}(ih:uP c d){p p1:Int}{H:ag}(h:CH c p H)(dq:aA A 19 [.ref c.mm 0,.int .i64 24] H=some (.int .i64 12,some ⟨bZ c p1 H,c.mm⟩))(hd:d<=100) :
  ∃ t p',Hi (d+1+1) t/\aA A 23 [.ref c.mm 0,.int .i64 ((d+1:Nat):Int)] H=some (.agg (gk t),some ⟨bZ c p' H,c.mm⟩):=by
 have key:∃ r,aA A 23 [.ref c.mm 0,.int .i64 ((d+1:Nat):Int)] H=some r/\∃ t p',Hi (d+1+1) t/\r=(.agg (gk t),some ⟨bZ c p' H,c.mm⟩):=by
  have a7:=h.lt
  have tM:(d:Int)+1-1=d:=by omega
  obtain⟨t,p2,th,gz⟩:=ih p1 (bZ c p1 H) h.set
  rw[aL,ax] at gz
  obtain⟨u,p3,uh,nE⟩:=ih p2 (bZ c p2 H) h.set
  rw[aL,ax] at nE
  obtain⟨l,p4,ln,lh,pG⟩:=AQ ih 1 (by omega) p3 (bZ c p3 H) h.set
  rw[aL] at pG
  have Co:=Vw (t:=t) (u:=u) (l:=l) (o:=false) (by omega)
  have Wg:∀ s∈[t,u]++l,Hi (d+1) s:=fun s hs=>by
   rcases aiM.1 hs with hs|hs
   ·exact sW (P:=Hi (d+1)) th uh s hs
   ·exact lh s hs
  obtain⟨k,hk⟩:∃ k,k=[t,u]++l:=⟨_,rfl⟩
  have yq:2<=k.length/\k.length<=3:=by rw[hk];simp;omega
  rw[<- hk] at Co Wg
  refine lg (fn:=cV) rfl rfl rfl rfl ?_
  unfold cV
  simp(disch:=omega)only[aW,aa,simprocAttr,dq,gz,nE,pG,tM,Co]
  refine bY (k.length-1) 3 (fun i s=>∃ T p3 acc,s=⟨T,bZ c p3 H,c.mm,1⟩/\T 0=.ref c.mm 0/\T 4=.lbox 0 [.int .i64 0,.int .i64 0,.str [],.str [],.str [],.ay,.ay,.ay]/\T 9=.slice (aK k) true/\T 10=.slice (strs acc) true/\T 11=.int .i64 (i+1)/\acc.length=2*i/\∀ s∈acc,s∈kK)
   (fun s=>∃ T p3 acc,s=⟨T,bZ c p3 H,c.mm,1⟩/\T 0=.ref c.mm 0/\T 4=.lbox 0 [.int .i64 0,.int .i64 0,.str [],.str [],.str [],.ay,.ay,.ay]/\T 9=.slice (aK k) true/\T 10=.slice (strs acc) true/\acc.length=2*(k.length-1)/\∀ s∈acc,s∈kK) (fun _=>False) ?_ ?_ (fun _ h=>h.elim) 0 _ (by omega) ?_
  ·rintro i s hi ⟨T,p3,acc,rfl,e0,e4,e9,uk,Qf,hl,hb⟩
   by_cases hc:i+1<k.length
   ·obtain⟨a,p4,ha,oK⟩:=kJ (h.set (p':=p3))
    rw[aL] at oK
    have Wg:=fe a ha
    obtain⟨b,p5,jA,LS⟩:=kJ (h.set (p':=p4))
    rw[aL] at LS
    have LC:=fe b jA
    have aas:aq false 1 16 (.slice (strs acc) true) (.slice [[.str a],[.str b]] true)=some (.slice (strs (acc++[a,b])) true):=D4 (by omega)
    simp(disch:=omega)only[aW,aa,simprocAttr,e0,e9,uk,Qf,b8,oK,LS,aas]
    refine⟨by omega,_,p5,acc++[a,b],rfl,by simp(disch:=omega)only[aM,aa,simprocAttr,e0],by simp(disch:=omega)only[aM,aa,simprocAttr,e4],by simp(disch:=omega)only[aM,aa,simprocAttr,e9],by simp(disch:=omega)only[aM,aa,simprocAttr],by simp(disch:=omega)only[aM,aa,simprocAttr],by simp[hl];omega,fun u hu=>?_⟩
    rcases aiM.1 hu with hu|hu
    ·exact hb u hu
    ·rcases aja.1 hu with rfl|hu
     ·assumption
     ·rw[aiY.1 hu];assumption
   ·simp(disch:=omega)only[aW,aa,simprocAttr,e0,e9,uk,Qf,b8]
    exact⟨_,p3,acc,rfl,e0,e4,e9,uk,by omega,hb⟩
  ·rintro s ⟨T,p3,acc,rfl,e0,e4,e9,uk,hl,hb⟩
   obtain⟨s,p4,hs,oJ⟩:=qz (h.set (p':=p3))
   rw[aL] at oJ
   have cH:=h.fU (p':=p4)
   simp(disch:=omega)only[aW,aa,simprocAttr,e0,e4,e9,uk,oJ,cH,ba,aJ,aU,cj,aiU,aiX,cQ,cg,cd,cK,cL,cP,cJ,dJ,hJ,iA,gF]
   exact⟨.mk 10 0 s [] [] [] k acc,p4,iV Wg (by omega) (by omega) (by omega) ⟨hs.1,by decide⟩ iQ ⟨by omega,fun x hx=>ajt (fe x (hb x hx)) (by decide)⟩ (abF hs.2 yq.1 hl hb),by simp only[gk,aO];exact⟨trivial,trivial⟩⟩
  ·exact⟨_,p4,[],rfl,by simp(disch:=omega)only[aM,aa,simprocAttr,strs];simp⟩
 obtain⟨r,h1,t,p',h2,rfl⟩:=key
 exact⟨t,p',h2,h1⟩
theorem acz{c:Cc}{d:Nat}(hd:d<=100)(ih:uP c d):uP c (d+1):=by
 intro p H h
 obtain⟨x,p1,vL,rD,dq⟩:=ju h 24 (by omega)
 have a7:=h.lt
 have tM:(d:Int)+1-1=d:=by omega
 by_cases c0:x=0
 ·obtain⟨y,p2,y0,y1,gz⟩:=ju (h.set (p':=p1)) 30 (by omega)
  rw[aL] at gz
  have cH:=h.fU (p':=p2)
  refine⟨.mk 0 (y-9) [] [] [] [] [] [],p2,fN (by omega) (by omega) (by decide) (xF (by omega)),bo (fn:=cV) rfl rfl rfl rfl ?_⟩
  unfold cV
  simp(disch:=omega)only[aW,aa,simprocAttr,dq,gz,cH,c0,ba,aJ,aU,cj,aiU,aiX,cQ,cg,cd,cK,cL,cP,cJ,dJ,hJ,iA,gF,ax,aK,aO,strs,Tm.kind,Tm.n,Tm.name,Tm.field,Tm.wn,Tm.wk,Tm.kids,Tm.names]
 by_cases c1:x=1
 ·obtain⟨y,p2,y0,y1,gz⟩:=ju (h.set (p':=p1)) 4 (by omega)
  rw[aL] at gz
  have cH:=h.fU (p':=p2)
  rcases lt4 y0 y1 with rfl|rfl|rfl|rfl
  ·refine⟨.mk 0 0 [] [] [] [] [] [],p2,fN (by omega) (by omega) (by decide) (xF (by omega)),bo (fn:=cV) rfl rfl rfl rfl ?_⟩
   unfold cV
   simp(disch:=omega)only[aW,aa,simprocAttr,dq,gz,cH,c1,ba,aJ,aU,cj,aiU,aiX,cQ,cg,cd,cK,cL,cP,cJ,dJ,hJ,iA,gF,ax,aK,aO,strs,Tm.kind,Tm.n,Tm.name,Tm.field,Tm.wn,Tm.wk,Tm.kids,Tm.names]
  ·refine⟨.mk 0 1099511627776 [] [] [] [] [] [],p2,fN (by omega) (by omega) (by decide) (xF (by omega)),bo (fn:=cV) rfl rfl rfl rfl ?_⟩
   unfold cV
   simp(disch:=omega)only[aW,aa,simprocAttr,dq,gz,cH,c1,ba,aJ,aU,cj,aiU,aiX,cQ,cg,cd,cK,cL,cP,cJ,dJ,hJ,iA,gF,ax,aK,aO,strs,Tm.kind,Tm.n,Tm.name,Tm.field,Tm.wn,Tm.wk,Tm.kids,Tm.names]
  ·refine⟨.mk 0 (-1099511627776) [] [] [] [] [] [],p2,fN (by omega) (by omega) (by decide) (xF (by omega)),bo (fn:=cV) rfl rfl rfl rfl ?_⟩
   unfold cV
   simp(disch:=omega)only[aW,aa,simprocAttr,dq,gz,cH,c1,ba,aJ,aU,cj,aiU,aiX,cQ,cg,cd,cK,cL,cP,cJ,dJ,hJ,iA,gF,ax,aK,aO,strs,Tm.kind,Tm.n,Tm.name,Tm.field,Tm.wn,Tm.wk,Tm.kids,Tm.names]
  ·refine⟨.mk 0 10 [] [] [] [] [] [],p2,fN (by omega) (by omega) (by decide) (xF (by omega)),bo (fn:=cV) rfl rfl rfl rfl ?_⟩
   unfold cV
   simp(disch:=omega)only[aW,aa,simprocAttr,dq,gz,cH,c1,ba,aJ,aU,cj,aiU,aiX,cQ,cg,cd,cK,cL,cP,cJ,dJ,hJ,iA,gF,ax,aK,aO,strs,Tm.kind,Tm.n,Tm.name,Tm.field,Tm.wn,Tm.wk,Tm.kids,Tm.names]
 by_cases c2:x=2
 ·obtain⟨y,p2,y0,y1,gz⟩:=ju (h.set (p':=p1)) 2 (by omega)
  rw[aL] at gz
  have cH:=h.fU (p':=p2)
  refine⟨.mk 1 y [] [] [] [] [] [],p2,fN (by omega) (by omega) (by decide) (abE (by omega)),bo (fn:=cV) rfl rfl rfl rfl ?_⟩
  unfold cV
  simp(disch:=omega)only[aW,aa,simprocAttr,dq,gz,cH,c2,ba,aJ,aU,cj,aiU,aiX,cQ,cg,cd,cK,cL,cP,cJ,dJ,hJ,iA,gF,ax,aK,aO,strs,Tm.kind,Tm.n,Tm.name,Tm.field,Tm.wn,Tm.wk,Tm.kids,Tm.names]
 by_cases c5:x=5
 ·obtain⟨s,p2,sl,gz⟩:=qz (h.set (p':=p1))
  rw[aL] at gz
  obtain⟨l,p3,ln,lh,nE⟩:=AQ ih 3 (by omega) p2 (bZ c p2 H) h.set
  rw[aL] at nE
  have cH:=h.fU (p':=p3)
  refine⟨.mk 3 0 s [] [] [] l [],p3,iV lh (by omega) (by omega) (by omega) ⟨sl.1,by decide⟩ iQ kE (aeT sl.2),bo (fn:=cV) rfl rfl rfl rfl ?_⟩
  unfold cV
  simp(disch:=omega)only[aW,aa,simprocAttr,dq,gz,nE,cH,c5,tM,ba,aJ,aU,cj,aiU,aiX,cQ,cg,cd,cK,cL,cP,cJ,dJ,hJ,iA,gF,ax,aK,aO,strs,Tm.kind,Tm.n,Tm.name,Tm.field,Tm.wn,Tm.wk,Tm.kids,Tm.names]
 by_cases c6:x=6
 ·obtain⟨t,p2,th,gz⟩:=ih p1 (bZ c p1 H) h.set
  rw[aL,ax] at gz
  obtain⟨u,p3,uh,nE⟩:=ih p2 (bZ c p2 H) h.set
  rw[aL,ax] at nE
  obtain⟨v,p4,vh,pG⟩:=ih p3 (bZ c p3 H) h.set
  rw[aL,ax] at pG
  have cH:=h.fU (p':=p4)
  refine⟨.mk 5 0 [] [] [] [] [t,u,v] [],p4,iV (abw th uh vh) (by simp) (by omega) (by omega) ⟨by decide,by decide⟩ iQ kE aeU,bo (fn:=cV) rfl rfl rfl rfl ?_⟩
  unfold cV
  simp(disch:=omega)only[aW,aa,simprocAttr,dq,gz,nE,pG,cH,c6,tM,ba,aJ,aU,cj,aiU,aiX,cQ,cg,cd,cK,cL,cP,cJ,dJ,hJ,iA,gF,ax,aK,aO,strs,Tm.kind,Tm.n,Tm.name,Tm.field,Tm.wn,Tm.wk,Tm.kids,Tm.names]
 by_cases c7:x=7
 ·obtain⟨s,p2,sh,gz⟩:=kJ (h.set (p':=p1))
  have sl:=fe _ sh
  rw[aL] at gz
  obtain⟨t,p3,th,nE⟩:=ih p2 (bZ c p2 H) h.set
  rw[aL,ax] at nE
  obtain⟨u,p4,uh,pG⟩:=ih p3 (bZ c p3 H) h.set
  rw[aL,ax] at pG
  have cH:=h.fU (p':=p4)
  refine⟨.mk 6 0 [] [] [] [] [t,u] [s],p4,iV (sW th uh) (by simp) (by omega) (by omega) ⟨by decide,by decide⟩ iQ ⟨by simp,by simp;omega⟩ (aeV (ft s sh)),bo (fn:=cV) rfl rfl rfl rfl ?_⟩
  unfold cV
  simp(disch:=omega)only[aW,aa,simprocAttr,dq,gz,nE,pG,cH,c7,tM,ba,aJ,aU,cj,aiU,aiX,cQ,cg,cd,cK,cL,cP,cJ,dJ,hJ,iA,gF,ax,aK,aO,strs,Tm.kind,Tm.n,Tm.name,Tm.field,Tm.wn,Tm.wk,Tm.kids,Tm.names]
 by_cases c8:x=8
 ·obtain⟨s,p2,sh,gz⟩:=kJ (h.set (p':=p1))
  have sl:=fe _ sh
  rw[aL] at gz
  obtain⟨r,p3,rh,nE⟩:=kJ (h.set (p':=p2))
  have rl:=fe _ rh
  rw[aL] at nE
  obtain⟨t,p4,th,pG⟩:=ih p3 (bZ c p3 H) h.set
  rw[aL,ax] at pG
  obtain⟨u,p5,uh,hc5⟩:=ih p4 (bZ c p4 H) h.set
  rw[aL,ax] at hc5
  obtain⟨v,p6,vh,hc6⟩:=ih p5 (bZ c p5 H) h.set
  rw[aL,ax] at hc6
  have cH:=h.fU (p':=p6)
  refine⟨.mk 12 0 [] [] [] [] [t,u,v] [s,r],p6,iV (abw th uh vh) (by simp) (by omega) (by omega) ⟨by decide,by decide⟩ iQ ⟨by simp,by simp;omega⟩ (abH (ft s sh) (ft r rh)),bo (fn:=cV) rfl rfl rfl rfl ?_⟩
  unfold cV
  simp(disch:=omega)only[aW,aa,simprocAttr,dq,gz,nE,pG,hc5,hc6,cH,c8,tM,ba,aJ,aU,cj,aiU,aiX,cQ,cg,cd,cK,cL,cP,cJ,dJ,hJ,iA,gF,ax,aK,aO,strs,Tm.kind,Tm.n,Tm.name,Tm.field,Tm.wn,Tm.wk,Tm.kids,Tm.names]
 by_cases c10:x=10
 ·obtain⟨s,p2,sl,gz⟩:=qz (h.set (p':=p1))
  rw[aL] at gz
  obtain⟨r,p3,rh,nE⟩:=kJ (h.set (p':=p2))
  have rl:=fe _ rh
  rw[aL] at nE
  obtain⟨t,p4,th,pG⟩:=ih p3 (bZ c p3 H) h.set
  rw[aL,ax] at pG
  have cH:=h.fU (p':=p4)
  refine⟨.mk 8 0 s r [] [] [t] [],p4,iV (Ol th) (by simp) (by omega) (by omega) ⟨sl.1,by omega⟩ iQ kE (abJ (.inl rfl) sl.2 (ft r rh)),bo (fn:=cV) rfl rfl rfl rfl ?_⟩
  unfold cV
  simp(disch:=omega)only[aW,aa,simprocAttr,dq,gz,nE,pG,cH,c10,tM,ba,aJ,aU,cj,aiU,aiX,cQ,cg,cd,cK,cL,cP,cJ,dJ,hJ,iA,gF,ax,aK,aO,strs,Tm.kind,Tm.n,Tm.name,Tm.field,Tm.wn,Tm.wk,Tm.kids,Tm.names]
 by_cases c11:x=11
 ·obtain⟨s,p2,sl,gz⟩:=qz (h.set (p':=p1))
  rw[aL] at gz
  obtain⟨r,p3,rh,nE⟩:=kJ (h.set (p':=p2))
  have rl:=fe _ rh
  rw[aL] at nE
  obtain⟨t,p4,th,pG⟩:=ih p3 (bZ c p3 H) h.set
  rw[aL,ax] at pG
  have cH:=h.fU (p':=p4)
  refine⟨.mk 9 0 s r [] [] [t] [],p4,iV (Ol th) (by simp) (by omega) (by omega) ⟨sl.1,by omega⟩ iQ kE (abJ (.inr rfl) sl.2 (ft r rh)),bo (fn:=cV) rfl rfl rfl rfl ?_⟩
  unfold cV
  simp(disch:=omega)only[aW,aa,simprocAttr,dq,gz,nE,pG,cH,c11,tM,ba,aJ,aU,cj,aiU,aiX,cQ,cg,cd,cK,cL,cP,cJ,dJ,hJ,iA,gF,ax,aK,aO,strs,Tm.kind,Tm.n,Tm.name,Tm.field,Tm.wn,Tm.wk,Tm.kids,Tm.names]
 by_cases c13:x=13
 ·obtain⟨w,p2,wh,gz⟩:=CG 2 p1 (bZ c p1 H) (by omega) h.set
  rw[aL,kS] at gz
  rw[show ((2:Nat):Int)=2 from rfl] at gz
  obtain⟨l,p3,ln,lh,nE⟩:=AQ ih 3 (by omega) p2 (bZ c p2 H) h.set
  rw[aL] at nE
  have cH:=h.fU (p':=p3)
  refine⟨.mk 11 0 [] [] w.name w.kids l [],p3,iV lh (by omega) (by omega) (by omega) ⟨by decide,by decide⟩ (by cases w;exact PE (by omega) wh.1) kE (abG wh.2),bo (fn:=cV) rfl rfl rfl rfl ?_⟩
  unfold cV
  simp(disch:=omega)only[aW,aa,simprocAttr,dq,gz,nE,cH,c13,tM,ba,aJ,aU,cj,aiU,aiX,cQ,cg,cd,cK,cL,cP,cJ,dJ,hJ,iA,gF,ax,aK,aO,strs,Tm.kind,Tm.n,Tm.name,Tm.field,Tm.wn,Tm.wk,Tm.kids,Tm.names]
 by_cases c14:x=14
 ·obtain⟨y,p2,y0,y1,gz⟩:=ju (h.set (p':=p1)) 2 (by omega)
  rw[aL] at gz
  obtain⟨t,p3,th,nE⟩:=ih p2 (bZ c p2 H) h.set
  rw[aL,ax] at nE
  have cH:=h.fU (p':=p3)
  rcases lt2 y0 y1 with rfl|rfl
  ·refine⟨.mk 4 9 [] [] [] [] [t] [],p3,iV (Ol th) (by simp) (by omega) (by omega) ⟨by decide,by decide⟩ iQ kE (Vf (by omega)),bo (fn:=cV) rfl rfl rfl rfl ?_⟩
   unfold cV
   simp(disch:=omega)only[aW,aa,simprocAttr,dq,gz,nE,cH,c14,tM,ba,aJ,aU,cj,aiU,aiX,cQ,cg,cd,cK,cL,cP,cJ,dJ,hJ,iA,gF,ax,aK,aO,strs,Tm.kind,Tm.n,Tm.name,Tm.field,Tm.wn,Tm.wk,Tm.kids,Tm.names]
   first|done|rfl
  ·refine⟨.mk 4 11 [] [] [] [] [t] [],p3,iV (Ol th) (by simp) (by omega) (by omega) ⟨by decide,by decide⟩ iQ kE (Vf (by omega)),bo (fn:=cV) rfl rfl rfl rfl ?_⟩
   unfold cV
   simp(disch:=omega)only[aW,aa,simprocAttr,dq,gz,nE,cH,c14,tM,ba,aJ,aU,cj,aiU,aiX,cQ,cg,cd,cK,cL,cP,cJ,dJ,hJ,iA,gF,ax,aK,aO,strs,Tm.kind,Tm.n,Tm.name,Tm.field,Tm.wn,Tm.wk,Tm.kids,Tm.names]
   first|done|rfl
 by_cases c9:x=9
 ·subst c9;exact acy ih h dq hd
 by_cases c12:x=12
 ·subst c12;exact Za ih h dq hd
 by_cases c15:14<x
 ·obtain⟨y,p2,y0,y1,gz⟩:=ju (h.set (p':=p1)) 10 (by omega)
  rw[aL] at gz
  obtain⟨t,p3,th,nE⟩:=ih p2 (bZ c p2 H) h.set
  rw[aL,ax] at nE
  obtain⟨u,p4,uh,pG⟩:=ih p3 (bZ c p3 H) h.set
  rw[aL,ax] at pG
  have cH:=h.fU (p':=p4)
  have hy:y=0\/y=1\/y=2\/y=3\/y=4\/y=5\/y=6\/y=7\/y=8\/y=9:=by omega
  rcases hy with rfl|rfl|rfl|rfl|rfl|rfl|rfl|rfl|rfl|rfl
  ·refine⟨.mk 4 0 [] [] [] [] [t,u] [],p4,iV (sW th uh) (by simp) (by omega) (by omega) ⟨by decide,by decide⟩ iQ kE (pS (by omega)),bo (fn:=cV) rfl rfl rfl rfl ?_⟩
   unfold cV
   simp(disch:=omega)only[aW,aa,simprocAttr,dq,gz,nE,pG,cH,tM,ba,aJ,aU,cj,aiU,aiX,cQ,cg,cd,cK,cL,cP,cJ,dJ,hJ,iA,gF,ax,aK,aO,strs,Tm.kind,Tm.n,Tm.name,Tm.field,Tm.wn,Tm.wk,Tm.kids,Tm.names]
  ·refine⟨.mk 4 1 [] [] [] [] [t,u] [],p4,iV (sW th uh) (by simp) (by omega) (by omega) ⟨by decide,by decide⟩ iQ kE (pS (by omega)),bo (fn:=cV) rfl rfl rfl rfl ?_⟩
   unfold cV
   simp(disch:=omega)only[aW,aa,simprocAttr,dq,gz,nE,pG,cH,tM,ba,aJ,aU,cj,aiU,aiX,cQ,cg,cd,cK,cL,cP,cJ,dJ,hJ,iA,gF,ax,aK,aO,strs,Tm.kind,Tm.n,Tm.name,Tm.field,Tm.wn,Tm.wk,Tm.kids,Tm.names]
  ·refine⟨.mk 4 2 [] [] [] [] [t,u] [],p4,iV (sW th uh) (by simp) (by omega) (by omega) ⟨by decide,by decide⟩ iQ kE (pS (by omega)),bo (fn:=cV) rfl rfl rfl rfl ?_⟩
   unfold cV
   simp(disch:=omega)only[aW,aa,simprocAttr,dq,gz,nE,pG,cH,tM,ba,aJ,aU,cj,aiU,aiX,cQ,cg,cd,cK,cL,cP,cJ,dJ,hJ,iA,gF,ax,aK,aO,strs,Tm.kind,Tm.n,Tm.name,Tm.field,Tm.wn,Tm.wk,Tm.kids,Tm.names]
  ·refine⟨.mk 4 3 [] [] [] [] [t,u] [],p4,iV (sW th uh) (by simp) (by omega) (by omega) ⟨by decide,by decide⟩ iQ kE (pS (by omega)),bo (fn:=cV) rfl rfl rfl rfl ?_⟩
   unfold cV
   simp(disch:=omega)only[aW,aa,simprocAttr,dq,gz,nE,pG,cH,tM,ba,aJ,aU,cj,aiU,aiX,cQ,cg,cd,cK,cL,cP,cJ,dJ,hJ,iA,gF,ax,aK,aO,strs,Tm.kind,Tm.n,Tm.name,Tm.field,Tm.wn,Tm.wk,Tm.kids,Tm.names]
  ·refine⟨.mk 4 4 [] [] [] [] [t,u] [],p4,iV (sW th uh) (by simp) (by omega) (by omega) ⟨by decide,by decide⟩ iQ kE (pS (by omega)),bo (fn:=cV) rfl rfl rfl rfl ?_⟩
   unfold cV
   simp(disch:=omega)only[aW,aa,simprocAttr,dq,gz,nE,pG,cH,tM,ba,aJ,aU,cj,aiU,aiX,cQ,cg,cd,cK,cL,cP,cJ,dJ,hJ,iA,gF,ax,aK,aO,strs,Tm.kind,Tm.n,Tm.name,Tm.field,Tm.wn,Tm.wk,Tm.kids,Tm.names]
  ·refine⟨.mk 4 5 [] [] [] [] [t,u] [],p4,iV (sW th uh) (by simp) (by omega) (by omega) ⟨by decide,by decide⟩ iQ kE (pS (by omega)),bo (fn:=cV) rfl rfl rfl rfl ?_⟩
   unfold cV
   simp(disch:=omega)only[aW,aa,simprocAttr,dq,gz,nE,pG,cH,tM,ba,aJ,aU,cj,aiU,aiX,cQ,cg,cd,cK,cL,cP,cJ,dJ,hJ,iA,gF,ax,aK,aO,strs,Tm.kind,Tm.n,Tm.name,Tm.field,Tm.wn,Tm.wk,Tm.kids,Tm.names]
  ·refine⟨.mk 4 6 [] [] [] [] [t,u] [],p4,iV (sW th uh) (by simp) (by omega) (by omega) ⟨by decide,by decide⟩ iQ kE (pS (by omega)),bo (fn:=cV) rfl rfl rfl rfl ?_⟩
   unfold cV
   simp(disch:=omega)only[aW,aa,simprocAttr,dq,gz,nE,pG,cH,tM,ba,aJ,aU,cj,aiU,aiX,cQ,cg,cd,cK,cL,cP,cJ,dJ,hJ,iA,gF,ax,aK,aO,strs,Tm.kind,Tm.n,Tm.name,Tm.field,Tm.wn,Tm.wk,Tm.kids,Tm.names]
  ·refine⟨.mk 4 7 [] [] [] [] [t,u] [],p4,iV (sW th uh) (by simp) (by omega) (by omega) ⟨by decide,by decide⟩ iQ kE (pS (by omega)),bo (fn:=cV) rfl rfl rfl rfl ?_⟩
   unfold cV
   simp(disch:=omega)only[aW,aa,simprocAttr,dq,gz,nE,pG,cH,tM,ba,aJ,aU,cj,aiU,aiX,cQ,cg,cd,cK,cL,cP,cJ,dJ,hJ,iA,gF,ax,aK,aO,strs,Tm.kind,Tm.n,Tm.name,Tm.field,Tm.wn,Tm.wk,Tm.kids,Tm.names]
  ·refine⟨.mk 4 8 [] [] [] [] [t,u] [],p4,iV (sW th uh) (by simp) (by omega) (by omega) ⟨by decide,by decide⟩ iQ kE (pS (by omega)),bo (fn:=cV) rfl rfl rfl rfl ?_⟩
   unfold cV
   simp(disch:=omega)only[aW,aa,simprocAttr,dq,gz,nE,pG,cH,tM,ba,aJ,aU,cj,aiU,aiX,cQ,cg,cd,cK,cL,cP,cJ,dJ,hJ,iA,gF,ax,aK,aO,strs,Tm.kind,Tm.n,Tm.name,Tm.field,Tm.wn,Tm.wk,Tm.kids,Tm.names]
  ·refine⟨.mk 4 10 [] [] [] [] [t,u] [],p4,iV (sW th uh) (by simp) (by omega) (by omega) ⟨by decide,by decide⟩ iQ kE (pS (by omega)),bo (fn:=cV) rfl rfl rfl rfl ?_⟩
   unfold cV
   simp(disch:=omega)only[aW,aa,simprocAttr,dq,gz,nE,pG,cH,tM,ba,aJ,aU,cj,aiU,aiX,cQ,cg,cd,cK,cL,cP,cJ,dJ,hJ,iA,gF,ax,aK,aO,strs,Tm.kind,Tm.n,Tm.name,Tm.field,Tm.wn,Tm.wk,Tm.kids,Tm.names]
 have ahx:x=3\/x=4:=by omega
 obtain⟨s,p2,sh,gz⟩:=kJ (h.set (p':=p1))
 have sl:=fe _ sh
 rw[aL] at gz
 have cH:=h.fU (p':=p2)
 refine⟨.mk 2 0 s [] [] [] [] [],p2,fN (by omega) (by omega) (by omega) (abI (ft s sh)),bo (fn:=cV) rfl rfl rfl rfl ?_⟩
 unfold cV
 simp(disch:=omega)only[aW,aa,simprocAttr,dq,gz,cH,tM,ba,aJ,aU,cj,aiU,aiX,cQ,cg,cd,cK,cL,cP,cJ,dJ,hJ,iA,gF,ax,aK,aO,strs,Tm.kind,Tm.n,Tm.name,Tm.field,Tm.wn,Tm.wk,Tm.kids,Tm.names]
theorem Hw(s:aV)(H:ag)(hs:s.length<=1000000):aA A 95 [.str s] H=some (.tuple [.str (cN s).1,.str (cN s).2.1,.bool (cN s).2.2],none):=by
 refine bb (fn:=N6) rfl rfl rfl ?_
 unfold N6
 simp(disch:=omega)only[aM,aa,simprocAttr]
 refine bY s.length 0 (fun i=>Hd (fun T=>T 0=.str s/\T 5=.int .i64 i/\cN s=(s.take i++(cN (s.drop i)).1,(cN (s.drop i)).2.1,(cN (s.drop i)).2.2)) H H.length 0)
  (Hd (fun T=>T 0=.str s/\cN s=(s,[],false)) H H.length 0) (Hd (fun T=>T 2=.str (cN s).1/\T 3=.str (cN s).2.1/\T 4=.bool (cN s).2.2) H H.length 0) ?_ ?_ ?_ 0 _ (ajy _) ?_
 ·rintro i st hi iR
  obtain⟨T,rfl,h0,h5,hc⟩:=iR.out
  by_cases h:i<s.length
  ·have hx:=aiJ h
   have hd:=ajc h
   generalize s[i]=b at hx hd
   have LC:b.toNat<256:=UInt8.toNat_lt b
   by_cases b46:b.toNat=46
   ·have e:cN (s.drop i)=([],s.drop (i+1),true):=by rw[hd,cN,if_pos b46]
    rw[e] at hc
    simp only[ajh] at hc
    simp(disch:=omega)only[aM,aa,simprocAttr,h0,h5,hx,hc]
    rw[ajU]
   ·have e:cN (s.drop i)=(b :: (cN (s.drop (i+1))).1,(cN (s.drop (i+1))).2.1,(cN (s.drop (i+1))).2.2):=by rw[hd,cN,if_neg b46]
    rw[e] at hc
    have Gb:s.take (i+1)=s.take i++[b]:=by rw[akl,hx];rfl
    simp(disch:=omega)only[aM,aa,simprocAttr,h0,h5,hx]
    exact⟨h,by rw[hc,Gb];simp⟩
  ·have e:s.drop i=[]:=ajS (by omega)
   rw[e,cN,aji (by omega)] at hc
   simp only[ajh] at hc
   simp(disch:=omega)only[aM,aa,simprocAttr,h0,h5]
   exact hc
 ·rintro st iR
  obtain⟨T,rfl,h0,hc⟩:=iR.out
  simp(disch:=omega)only[aM,aa,simprocAttr,h0,hc]
 ·rintro st iR
  obtain⟨T,rfl,h2,h3,h4⟩:=iR.out
  simp(disch:=omega)only[aM,aa,simprocAttr,h2,h3,h4]
 ·simp(disch:=omega)only[aM,aa,simprocAttr,ajJ,ajW,aj5]
theorem vy:∀ s:aV,(cN s).1.length<=s.length/\(cN s).2.1.length<=s.length
 | []=>⟨aiK _,aiK _⟩
 | b :: r=>by
  have:=vy r
  unfold cN
  split
  ·exact⟨by simp,by simp⟩
  ·exact⟨by simp only[List.length_cons];omega,by simp only[List.length_cons];omega⟩
theorem OK(s:aV)(H:ag)(hs:s.length<=1000000):aA A 91 [.str s] H=some (.bool (lX s),none):=by
 have hf:=Hw s H hs
 obtain⟨l1,l2⟩:=vy s
 refine bb (fn:=N2) rfl rfl rfl ?_
 unfold N2
 have w1:=nS (cN s).1 H (by omega)
 have w2:=nS (cN s).2.1 H (by omega)
 unfold lX
 cases h1:isWord (cN s).1<;>cases h2:(cN s).2.2<;>rw[h1] at w1<;>rw[h2] at hf<;>simp(disch:=omega)only[aM,aa,simprocAttr,hf,w1,w2,ajr,ajo,ajz,ajp,akx,akF]
theorem pB(s:aV)(H:ag)(hs:s.length<=1000000):aA A 60 [.str s] H=some (.slice (strs (cu s)) true,none):=by
 have hf:=Hw s H hs
 refine bb (fn:=NS) rfl rfl rfl ?_
 unfold NS
 unfold cu
 cases h2:(cN s).2.2<;>rw[h2] at hf<;>simp(disch:=omega)only[aM,aa,simprocAttr,hf,strs,aiU,aiX,ajY,reduceCtorEq,akU,ajM]
theorem Ow(l:List aV)(H:ag)(hl:l.length<=1000000)(hs:∀ s∈l,s.length<=1000000):aA A 94 [.slice (strs l) false] H=some (.bool (l.all isWord),none):=by
 refine bb (fn:=N5) rfl rfl rfl ?_
 unfold N5
 simp(disch:=omega)only[aM,aa,simprocAttr]
 refine bY l.length 0 (fun i=>Hd (fun T=>T 0=.slice (strs l) false/\T 3=.int .i64 i/\l.all isWord=(l.drop i).all isWord) H H.length 0)
  (Hd (fun T=>l.all isWord=true) H H.length 0) (Hd (fun T=>T 2=.bool false/\l.all isWord=false) H H.length 0) ?_ ?_ ?_ 0 _ (ajy _) ?_
 ·rintro i st hi iR
  obtain⟨T,rfl,h0,h3,hc⟩:=iR.out
  by_cases h:i<l.length
  ·have hx:=aiJ h
   have hd:=ajc h
   have hm:=ajA h
   generalize l[i]=b at hx hd hm
   have hw:=nS b H (by have:=hs b hm;omega)
   rw[hd,ajV] at hc
   have kV:=bk hx
   cases hb:isWord b<;>rw[hb] at hw hc
   ·simp(disch:=omega)only[aM,aa,simprocAttr,h0,h3,aE,kV,hw]
    rw[hc];rfl
   ·simp(disch:=omega)only[aM,aa,simprocAttr,h0,h3,aE,kV,hw]
    exact⟨h,by rw[hc,ajo]⟩
  ·have e:l.drop i=[]:=ajS (by omega)
   rw[e,ak8] at hc
   simp(disch:=omega)only[aM,aa,simprocAttr,h0,h3,aE]
   exact hc
 ·rintro st iR
  obtain⟨T,rfl,hc⟩:=iR.out
  simp(disch:=omega)only[aM,aa,simprocAttr,hc]
 ·rintro st iR
  obtain⟨T,rfl,h2,hc⟩:=iR.out
  simp(disch:=omega)only[aM,aa,simprocAttr,h2,hc]
 ·simp(disch:=omega)only[aM,aa,simprocAttr,ajW]
theorem s8:∀ (h:Nat) (w:Wd) (H:ag),w4 h w->aA A 57 [.agg (jO w)] H=some (.bool (bE w),none):=by
 have leaf:∀ (n:aV) (H:ag),n.length<=20->aA A 57 [.agg (jO (.mk n []))] H=some (.bool (bE (.mk n [])),none):=by
  intro n H hn
  have hq:=OK n H (by omega)
  refine bb (fn:=Gk) rfl rfl rfl ?_
  unfold Gk
  rw[jO,aO]
  by_cases h1:n=gH
  ·have e1:(n==[76,105,115,116])=true:=by simpa using h1
   simp(disch:=omega)only[aW,aa,simprocAttr,e1,bE,if_pos h1]
  have e1:(n==[76,105,115,116])=false:=by simpa using h1
  by_cases h2:n=Dt
  ·have e2:(n==[73,110,116])=true:=by simpa using h2
   simp(disch:=omega)only[aW,aa,simprocAttr,e1,e2,bE,if_neg h1,akF]
  have e2:(n==[73,110,116])=false:=by simpa using h2
  by_cases h3:n=uc
  ·have e3:(n==[66,111,111,108])=true:=by simpa using h3
   simp(disch:=omega)only[aW,aa,simprocAttr,e1,e2,e3,bE,if_neg h1,akF,akx]
  have e3:(n==[66,111,111,108])=false:=by simpa using h3
  simp(disch:=omega)only[aW,aa,simprocAttr,e1,e2,e3,hq,bE,if_neg h1,akx]
 intro h
 induction h with
 | zero =>
  intro w H hw
  obtain⟨n,ks⟩:=w
  obtain⟨h1,h2⟩:=hw
  simp only[Wd.kids,Wd.name] at h1 h2
  subst h2
  exact leaf n H h1
 | succ h ih =>
  intro w H hw
  obtain⟨n,ks⟩:=w
  obtain⟨h1,h2,h3⟩:=hw
  simp only[Wd.kids,Wd.name] at h1 h2 h3
  match ks,h2,h3 with
  | [],_,_=>exact leaf n H h1
  | [k],_,h3 =>
   have hk:=ih k H (h3 k (by simp))
   rw[kS] at hk
   refine bb (fn:=Gk) rfl rfl rfl ?_
   unfold Gk
   rw[jO,aO,aO,kS]
   by_cases h1:n=gH
   ·have e1:(n==[76,105,115,116])=true:=by simpa using h1
    simp(disch:=omega)only[aW,aa,simprocAttr,e1,hk,bE,if_pos h1]
   ·have e1:(n==[76,105,115,116])=false:=by simpa using h1
    simp(disch:=omega)only[aW,aa,simprocAttr,e1,bE,if_neg h1]
theorem iN(s:aV):(cu s).length<=3:=by unfold cu;split<;>simp
theorem iO:∀ (h:Nat) (w:Wd),w4 h w->(dn w).length<=3*h+3
 | 0,.mk n ks,hw=>by
  obtain⟨_,h2⟩:=hw
  simp only[Wd.kids] at h2
  subst h2
  unfold dn
  have:=iN n
  split
  ·simp
  ·omega
 | h+1,.mk n [],_=>by
  unfold dn
  have:=iN n
  split
  ·simp
  ·omega
 | h+1,.mk n [k],hw=>by
  have hk:=iO h k (hw.2.2 k (by simp[Wd.kids]))
  have:=iN n
  unfold dn
  split
  ·simp only[List.length_append,List.length_cons,aiR];omega
  ·split
   ·simp
   ·omega
 | h+1,.mk n (a :: b :: r),hw=>by
  have:=hw.2.1
  simp[Wd.kids] at this
theorem A1:∀ (h:Nat) (w:Wd) (H:ag),h<=1000->w4 h w->bE w=true->aA A 31 [.agg (jO w)] H=some (.slice (strs (dn w)) true,none):=by
 have leaf:∀ (n:aV) (H:ag),n.length<=20->bE (.mk n [])=true->aA A 31 [.agg (jO (.mk n []))] H=some (.slice (strs (dn (.mk n []))) true,none):=by
  intro n H hn hp
  have hq:=pB n H (by omega)
  have h1:n≠gH:=fun e=>by subst e;simp[bE] at hp
  have e1:(n==[76,105,115,116])=false:=by simpa using h1
  refine bb (fn:=Gi) rfl rfl rfl ?_
  unfold Gi
  rw[jO,aO]
  by_cases h2:n=Dt
  ·have e2:(n==[73,110,116])=true:=by simpa using h2
   simp(disch:=omega)only[aW,aa,simprocAttr,e1,e2,dn,if_pos (Or.inl h2),strs,aiU,aiX]
  have e2:(n==[73,110,116])=false:=by simpa using h2
  by_cases h3:n=uc
  ·have e3:(n==[66,111,111,108])=true:=by simpa using h3
   simp(disch:=omega)only[aW,aa,simprocAttr,e1,e2,e3,dn,if_pos (Or.inr h3),strs,aiU,aiX]
  have e3:(n==[66,111,111,108])=false:=by simpa using h3
  simp(disch:=omega)only[aW,aa,simprocAttr,e1,e2,e3,hq,dn,if_neg (show ¬ (n=Dt\/n=uc) from fun h=>h.elim h2 h3)]
 intro h
 induction h with
 | zero =>
  intro w H _ hw hp
  obtain⟨n,ks⟩:=w
  obtain⟨h1,h2⟩:=hw
  simp only[Wd.kids,Wd.name] at h1 h2
  subst h2
  exact leaf n H h1 hp
 | succ h ih =>
  intro w H hh hw hp
  obtain⟨n,ks⟩:=w
  obtain⟨h1,h2,h3⟩:=hw
  simp only[Wd.kids,Wd.name] at h1 h2 h3
  match ks,h2,h3,hp with
  | [],_,_,hp=>exact leaf n H h1 hp
  | [k],_,h3,hp =>
   have hl:n=gH:=by
    unfold bE at hp
    split at hp
    ·assumption
    ·cases hp
   have kW:bE k=true:=by
    unfold bE at hp
    rwa [if_pos hl] at hp
   have hk:=ih k H (by omega) (h3 k (by simp)) kW
   have hlen:=iO h k (h3 k (by simp))
   rw[kS] at hk
   have a1:aq false 1 16 (.slice [[.str [76,105,115,116]],[.str [40]]] true) (.slice (strs (dn k)) true)=some (.slice (strs ([gH,[40]]++dn k)) true):=bR (l:=[gH,[40]]) (by simp;omega)
   have a2:aq false 1 16 (.slice (strs ([gH,[40]]++dn k)) true) (.slice [[.str [41]]] true)=some (.slice (strs ([gH,[40]]++dn k++[[41]])) true):=dF (by simp;omega)
   have hw:dn (.mk n [k])=[gH,[40]]++dn k++[[41]]:=by rw[dn,if_pos hl]
   generalize [gH,[40]]++dn k=l1 at a1 a2 hw
   have e1:(n==[76,105,115,116])=true:=by simpa using hl
   refine bb (fn:=Gi) rfl rfl rfl ?_
   unfold Gi
   rw[jO,aO,aO,kS]
   simp(disch:=omega)only[aW,aa,simprocAttr,e1,hk,a1,a2,hw]
theorem Pm{x:Int}(h0:¬ x<0)(h1:¬ 11<x):x=0\/x=1\/x=2\/x=3\/x=4\/x=5\/x=6\/x=7\/x=8\/x=9\/x=10\/x=11:=by omega
theorem AN(n:Int)(H:ag):aA A 63 [.int .i64 n] H=some (.tuple [.str (fm n).1,.int .i64 (fm n).2],none):=by
 refine bb (fn:=NV) rfl rfl rfl ?_
 unfold NV
 by_cases h0:n<0
 ·have e:fm n=([],0):=by unfold fm;rw[if_pos (Or.inl h0)]
  simp(disch:=omega)only[aW,aa,simprocAttr,h0,e]
 by_cases h1:11<n
 ·have e:fm n=([],0):=by unfold fm;rw[if_pos (Or.inr h1)]
  simp(disch:=omega)only[aW,aa,simprocAttr,h0,h1,e]
 rcases Pm h0 h1 with rfl|rfl|rfl|rfl|rfl|rfl|rfl|rfl|rfl|rfl|rfl|rfl
 all_goals
  simp(disch:=omega)only[aW,aa,simprocAttr]
  rfl
def dm(t:Tm):Int:=if t.kind=5\/t.kind=6\/t.kind=12 then 0 else if t.kind=4 then (fm t.n).2 else 8
theorem SF(t:Tm)(H:ag):aA A 96 [.agg (gk t)] H=some (.int .i64 (dm t),none):=by
 have hs:=AN t.n H
 refine bb (fn:=N7) rfl rfl rfl ?_
 unfold N7
 rw[ax]
 by_cases h5:t.kind=5
 ·simp(disch:=omega)only[aW,aa,simprocAttr,h5,dm,true_or,ajY]
 by_cases h6:t.kind=6
 ·simp(disch:=omega)only[aW,aa,simprocAttr,h5,h6,dm,true_or,or_true,ajY]
 by_cases UK:t.kind=12
 ·simp(disch:=omega)only[aW,aa,simprocAttr,h5,h6,UK,dm,true_or,or_true,ajY]
 have hn:¬ (t.kind=5\/t.kind=6\/t.kind=12):=by omega
 by_cases h4:t.kind=4
 ·have e:dm t=(fm t.n).2:=by unfold dm;rw[if_neg hn,if_pos h4]
  simp(disch:=omega)only[aW,aa,simprocAttr,h4,hs,e]
 ·have e:dm t=8:=by unfold dm;rw[if_neg hn,if_neg h4]
  simp(disch:=omega)only[aW,aa,simprocAttr,h5,h6,UK,h4,e]
theorem Gn(k:Int):k=0\/k=1\/k=2\/k=3\/k=4\/k=5\/k=6\/k=7\/k=8\/k=9\/k=10\/k=11\/k=12\/(k<0\/12<k):=by omega
theorem KX(t:Tm)(H:ag)(hl:t.kids.length<=1000):aA A 93 [.agg (gk t)] H=some (.tuple [.int .i64 (bP t.kind t.n t.kids.length).1,.int .i64 (bP t.kind t.n t.kids.length).2],none):=by
 have hs:=AN t.n H
 refine bb (fn:=N4) rfl rfl rfl ?_
 unfold N4
 rw[ax]
 rcases Gn t.kind with h|h|h|h|h|h|h|h|h|h|h|h|h|h
 ·rw[h];simp(disch:=omega)only[aW,aa,simprocAttr,b8];rfl
 ·rw[h];simp(disch:=omega)only[aW,aa,simprocAttr,b8];rfl
 ·rw[h];simp(disch:=omega)only[aW,aa,simprocAttr,b8];rfl
 ·rw[h];simp(disch:=omega)only[aW,aa,simprocAttr,b8];rfl
 ·rw[h]
  by_cases h1:(fm t.n).1=[]
  ·have e1:((fm t.n).1==[])=true:=by rw[h1];rfl
   have e:bP 4 t.n t.kids.length=(-2,0):=by simp[bP,h1]
   rw[e]
   simp(disch:=omega)only[aW,aa,simprocAttr,b8,hs,e1]
  ·have e1:((fm t.n).1==[])=false:=by simpa using h1
   by_cases h2:(fm t.n).2=7
   ·have e:bP 4 t.n t.kids.length=(1,0):=by simp[bP,h1,h2]
    rw[e]
    simp(disch:=omega)only[aW,aa,simprocAttr,b8,hs,e1,h2]
   ·have e:bP 4 t.n t.kids.length=(2,0):=by simp[bP,h1,h2]
    rw[e]
    simp(disch:=omega)only[aW,aa,simprocAttr,b8,hs,e1,h2]
 ·rw[h];simp(disch:=omega)only[aW,aa,simprocAttr,b8];rfl
 ·rw[h];simp(disch:=omega)only[aW,aa,simprocAttr,b8];rfl
 ·rw[h];simp(disch:=omega)only[aW,aa,simprocAttr,b8];rfl
 ·rw[h];simp(disch:=omega)only[aW,aa,simprocAttr,b8];rfl
 ·rw[h];simp(disch:=omega)only[aW,aa,simprocAttr,b8];rfl
 ·rw[h]
  by_cases h1:t.kids.length<2
  ·have e:bP 10 t.n t.kids.length=(-2,0):=by simp[bP,h1]
   rw[e]
   simp(disch:=omega)only[aW,aa,simprocAttr,b8]
  ·have e:bP 10 t.n t.kids.length=(-1,2*((t.kids.length:Int)-1)):=by simp[bP,h1]
   rw[e]
   simp(disch:=omega)only[aW,aa,simprocAttr,b8]
 ·rw[h];simp(disch:=omega)only[aW,aa,simprocAttr,b8];rfl
 ·rw[h];simp(disch:=omega)only[aW,aa,simprocAttr,b8];rfl
 ·have e:bP t.kind t.n t.kids.length=(-2,0):=by
   unfold bP
   repeat rw[if_neg (by omega)]
  rw[e]
  simp(disch:=omega)only[aW,aa,simprocAttr,b8]
def Wc:List aV:=[[],[32],[10],[32,32],[35,32,97,32,40,98,10],[32,35,10,32],[10,10],[35,255,35,32,49,10]]
def VO:List aV:=[[10],[32,10],[35,32,120,10],[32,32,35,32,121,32,40,10]]
def Whole(s:aV):Prop:=∀ r,bB false (s++r)=s.length+bB false r
theorem J4:Whole []:=by intro r;simp
theorem Whole.append{a b:aV}(ha:Whole a)(hb:Whole b):Whole (a++b):=by
 intro r
 rw[akc,ha,hb,List.length_append,akm]
theorem wW:Whole [32]:=by intro r;simp[bB]
theorem PF:Whole [10]:=by intro r;simp[bB]
theorem wV:∀ s∈Wc,Whole s:=by
 intro s hs r
 simp only[Wc,aja,aks,alq] at hs
 rcases hs with rfl|rfl|rfl|rfl|rfl|rfl|rfl|rfl<;>simp[bB]<;>omega
theorem qK:∀ s∈VO,Whole s/\s≠[]/\s.length<=20:=by
 intro s hs
 simp only[VO,aja,aks,alq] at hs
 rcases hs with rfl|rfl|rfl|rfl<;>refine⟨fun r=>?_,by decide,by decide⟩<;>simp[bB]<;>omega
structure ug (l:List aV):Prop where
 w:∀ x∈l,Whole x/\x.length<=20
 g:∀ i,i+1<l.length->l.getD (i+1) []≠[]
theorem ug.one{b:aV}(h:Whole b)(hl:b.length<=20):ug [b]:=⟨by simp[h,hl],fun i hi=>by simp at hi⟩
theorem ug.snoc{l:List aV}{g:aV}(h:ug l)(hw:Whole g)(hl:g.length<=20)(hg:g≠[]):ug (l++[g]):=by
 refine⟨fun x hx=>?_,fun i hi=>?_⟩
 ·rcases aiM.1 hx with hx|hx
  ·exact h.w x hx
  ·rw[aiY.1 hx];exact⟨hw,hl⟩
 ·by_cases uH:i+1<l.length
  ·have:=h.g i uH
   rw[List.getD,ai1 uH]
   exact this
  ·have e:i+1=l.length:=by simp at hi;omega
   rw[List.getD,e,List.getElem?_concat_length]
   exact hg
theorem Lu{j:Nat}(h:j<8):∃ s:aV,(s.length<=7/\s∈Wc) /\
  ([[.str []],[.str [32]],[.str [10]],[.str [32,32]],[.str [35,32,97,32,40,98,10]],[.str [32,35,10,32]],[.str [10,10]],[.str [35,255,35,32,49,10]]]:List (List AV))[j]?=some [.str s]:=by
 have hj:j=0\/j=1\/j=2\/j=3\/j=4\/j=5\/j=6\/j=7:=by omega
 rcases hj with rfl|rfl|rfl|rfl|rfl|rfl|rfl|rfl<;>exact⟨_,by decide,rfl⟩
theorem abx{x:Int}(h0:0<=x)(h1:x<8):∃ j:Nat,j<8/\x=j:=⟨x.toNat,by omega,by omega⟩
theorem UI(n k:Int)(H:ag)(hn:zb n):∃ s:aV,(s.length<=20/\Whole s/\(k≠0->s≠[]))/\aA A 21 [.int .i64 n,.int .i64 k] H=some (.str s,none):=by
 have hr:=kR (n:=n) (k:=1000000) (by omega)
 have ha:=qP n 1000000 H hn (by omega)
 generalize mu n 1000000=x at hr ha
 obtain⟨i,hi,ei⟩:=abx (x:=x % 8) (by omega) (by omega)
 obtain⟨j,hj,ej⟩:=abx (x:=x / 8 % 8) (by omega) (by omega)
 obtain⟨s,⟨hs,hsg⟩,Zo⟩:=Lu hi
 have hsw:=wV s hsg
 obtain⟨u,⟨hu,hug⟩,Zp⟩:=Lu hj
 have huw:=wV u hug
 have key:∃ r,aA A 21 [.int .i64 n,.int .i64 k] H=some r/\∃ s:aV,(s.length<=20/\Whole s/\(k≠0->s≠[]))/\r=(.str s,none):=by
  refine Bn (fn:=NF) rfl rfl rfl ?_
  unfold NF
  by_cases h3:x % 3=0
  ·obtain⟨v,hv⟩:∃ v,v=s++u:=⟨_,rfl⟩
   have WZ:v.length<=14:=by rw[hv];simp;omega
   cases hb:(v==[]) with
   | false =>
    have hvn:v≠[]:=by simpa using hb
    rw[hv] at hb
    simp(disch:=omega)only[aW,aa,simprocAttr,ha,gX,nP,ei,ej,Zo,Zp,h3,hb]
    exact⟨_,⟨by rw[<- hv];omega,hsw.append huw,fun _=>by rw[<- hv];exact hvn⟩,rfl⟩
   | true =>
    rw[hv] at hb
    by_cases hk:k=0
    ·simp(disch:=omega)only[aW,aa,Nat.reduceEqDiff,Nat.reduceBEq,Nat.reduceAdd,Nat.reduceMul,reduceCtorEq,↓reduceIte,Nat.reduceLeDiff,Int.reduceEq,Int.reduceLT,Int.reduceLE,Int.reduceBEq,Int.reduceBNe,Int.reduceAdd,Int.reduceNeg,Int.reduceSub,Int.reduceMul,ha,gX,nP,ei,ej,Zo,Zp,h3,hb,hk]
     exact⟨_,⟨by rw[<- hv];omega,hsw.append huw,fun h=>(h rfl).elim⟩,rfl⟩
    ·simp(disch:=omega)only[aW,aa,simprocAttr,ha,gX,nP,ei,ej,Zo,Zp,h3,hb,hk]
     exact⟨[32],⟨by decide,wW,fun _=>by decide⟩,rfl⟩
  ·cases hb:(s==[]) with
   | false =>
    have yz:s≠[]:=by simpa using hb
    simp(disch:=omega)only[aW,aa,simprocAttr,ha,gX,nP,ei,ej,Zo,Zp,h3,hb]
    exact⟨s,⟨by omega,hsw,fun _=>yz⟩,rfl⟩
   | true =>
    by_cases hk:k=0
    ·simp(disch:=omega)only[aW,aa,Nat.reduceEqDiff,Nat.reduceBEq,Nat.reduceAdd,Nat.reduceMul,reduceCtorEq,↓reduceIte,Nat.reduceLeDiff,Int.reduceEq,Int.reduceLT,Int.reduceLE,Int.reduceBEq,Int.reduceBNe,Int.reduceAdd,Int.reduceNeg,Int.reduceSub,Int.reduceMul,ha,gX,nP,ei,ej,Zo,Zp,h3,hb,hk]
     exact⟨s,⟨by omega,hsw,fun h=>(h rfl).elim⟩,rfl⟩
    ·simp(disch:=omega)only[aW,aa,simprocAttr,ha,gX,nP,ei,ej,Zo,Zp,h3,hb,hk]
     exact⟨[32],⟨by decide,wW,fun _=>by decide⟩,rfl⟩
 obtain⟨r,h1,s,h2,rfl⟩:=key
 exact⟨s,h2,h1⟩
theorem VP{j:Nat}(h:j<4):∃ s:aV,s∈VO/\([[.str [10]],[.str [32,10]],[.str [35,32,120,10]],[.str [32,32,35,32,121,32,40,10]]]:List (List AV))[j]?=some [.str s]:=by
 have hj:j=0\/j=1\/j=2\/j=3:=by omega
 rcases hj with rfl|rfl|rfl|rfl<;>exact⟨_,by decide,rfl⟩
theorem yA{x:Int}(h0:0<=x)(h1:x<1000000):zb x:=⟨by omega,by omega⟩
theorem Oi{c:Cc}{p:Int}{H:ag}(h:CH c p H)(n:Nat)(hn:n<=100000)(b:aV)(hw:Whole b)(hb:b.length<=20) :
  ∃ (out:List aV) (p' : Int),out.length=max n 1+1/\ug out/\aA A 20 [.ref c.mm 0,.int .i64 n,.str b] H=some (.slice (strs out) true,some ⟨bZ c p' H,c.mm⟩):=by
 have key:∃ r,aA A 20 [.ref c.mm 0,.int .i64 n,.str b] H=some r/\∃ (out:List aV) (p' : Int),out.length=max n 1+1/\ug out/\r=(.slice (strs out) true,some ⟨bZ c p' H,c.mm⟩):=by
  have a7:=h.lt
  refine lg (fn:=ND) rfl rfl rfl rfl ?_
  unfold ND
  simp(disch:=omega)only[aW,aa,simprocAttr]
  refine bY (n-1) 0 (fun i s=>∃ T G lo p3 acc,s=⟨T,G,lo,0⟩/\(G=H/\lo=H.length/\i=0\/G=bZ c p3 H/\lo=c.mm)/\T 0=.ref c.mm 0/\T 1=.int .i64 n/\T 7=.slice (strs acc) true/\T 8=.int .i64 (i+1)/\acc.length=i+1/\ug acc)
   (fun s=>∃ T G lo p3 acc,s=⟨T,G,lo,0⟩/\(G=H/\lo=H.length\/G=bZ c p3 H/\lo=c.mm)/\T 0=.ref c.mm 0/\T 7=.slice (strs acc) true/\acc.length=max n 1/\ug acc) (fun _=>False) ?_ ?_ (fun _ h=>h.elim) 0 _ (by omega) ?_
  ·rintro i s hi ⟨T,G,lo,p3,acc,rfl,hG,e0,e1,e7,e8,hl,hbd⟩
   by_cases hc:i+1<n
   ·have dq:∃ x p4,0<=x/\x<1000/\aA A 19 [.ref c.mm 0,.int .i64 1000] G=some (.int .i64 x,some ⟨bZ c p4 H,c.mm⟩):=by
     rcases hG with ⟨rfl,rfl,rfl⟩|⟨rfl,rfl⟩
     ·exact ju h 1000 (by omega)
     ·obtain⟨x,p4,x0,x1,hx⟩:=ju (h.set (p':=p3)) 1000 (by omega)
      rw[aL] at hx
      exact⟨x,p4,x0,x1,hx⟩
    obtain⟨x,p4,x0,x1,dq⟩:=dq
    obtain⟨g,⟨hg,hgw,hgn⟩,adQ⟩:=UI x 1 (bZ c p4 H) (yA x0 (by omega))
    have Co:aq false 1 16 (.slice (strs acc) true) (.slice [[.str g]] true)=some (.slice (strs (acc++[g])) true):=dF (by omega)
    have w5:(bif decide (c.mm<lo) then c.mm else lo)=c.mm:=by
     rcases hG with ⟨_,rfl,_⟩|⟨_,rfl⟩
     ·rw[decide_eq_true a7];rfl
     ·simp
    simp(disch:=omega)only[aW,aa,simprocAttr,e0,e1,e7,e8,dq,adQ,Co,w5]
    refine⟨by omega,_,_,_,p4,acc++[g],rfl,.inr ⟨rfl,rfl⟩,by simp(disch:=omega)only[aM,aa,simprocAttr,e0],by simp(disch:=omega)only[aM,aa,simprocAttr,e1],by simp(disch:=omega)only[aM,aa,simprocAttr],by simp(disch:=omega)only[aM,aa,simprocAttr],by simp[hl],hbd.snoc hgw hg (hgn (by decide))⟩
   ·simp(disch:=omega)only[aW,aa,simprocAttr,e0,e1,e7,e8]
    refine⟨_,G,lo,p3,acc,rfl,?_,e0,e7,by omega,hbd⟩
    rcases hG with ⟨h1,h2,_⟩|h1
    ·exact .inl ⟨h1,h2⟩
    ·exact .inr h1
  ·rintro s ⟨T,G,lo,p3,acc,rfl,hG,e0,e7,hl,hbd⟩
   have dq:∃ x p4,0<=x/\x<4/\aA A 19 [.ref c.mm 0,.int .i64 4] G=some (.int .i64 x,some ⟨bZ c p4 H,c.mm⟩):=by
    rcases hG with ⟨rfl,rfl⟩|⟨rfl,rfl⟩
    ·exact ju h 4 (by omega)
    ·obtain⟨x,p4,x0,x1,hx⟩:=ju (h.set (p':=p3)) 4 (by omega)
     rw[aL] at hx
     exact⟨x,p4,x0,x1,hx⟩
   obtain⟨x,p4,x0,x1,dq⟩:=dq
   obtain⟨j,hj,rfl⟩:∃ j:Nat,j<4/\x=j:=⟨x.toNat,by omega,by omega⟩
   obtain⟨e,he,ate⟩:=VP hj
   have Co:aq false 1 16 (.slice (strs acc) true) (.slice [[.str e]] true)=some (.slice (strs (acc++[e])) true):=dF (by omega)
   have w5:(bif decide (c.mm<lo) then c.mm else lo)=c.mm:=by
    rcases hG with ⟨_,rfl⟩|⟨_,rfl⟩
    ·rw[decide_eq_true a7];rfl
    ·simp
   have cH:=h.fU (p':=p4)
   simp(disch:=omega)only[aW,aa,simprocAttr,e0,e7,dq,ate,Co,w5,cH,aJ,aU,X8]
   refine⟨acc++[e],p4,by simp[hl],hbd.snoc (qK e he).1 (qK e he).2.2 (qK e he).2.1,rfl,rfl⟩
  ·refine⟨_,H,H.length,0,[b],rfl,.inl ⟨rfl,rfl,rfl⟩,?_⟩
   simp(disch:=omega)only[aM,aa,simprocAttr,strs,aiU,aiX]
   exact ug.one hw hb
 obtain⟨r,h1,out,p',h2,h3,rfl⟩:=key
 exact⟨out,p',h2,h3,h1⟩
structure Hh (h:Nat) (t:Tm):Prop where
 n:-2199023255552<=t.n/\t.n<=2199023255552
 k:-100<=t.kind/\t.kind<=100
 a:t.name.length<=20
 f:t.field.length<=20
 w:w4 3 (.mk t.wn t.wk)
 kl:t.kids.length<=3
 kb:∀ u∈t.kids,Ks h u
 nl:t.names.length<=8
 nb:∀ s∈t.names,s.length<=20
theorem Ks.out{h:Nat}{t:Tm}(hb:Ks (h+1) t):Hh h t:=by
 cases hb with
 | mk h k n a f wn wk ks ns h1 hk h2 h3 h4 h5 h6=>exact⟨h1,hk,h2.1,h2.2,h3,h4,h5,h6.1,h6.2⟩
def Bb(t:Tm)(H:ag)(s:AS):Prop:=∃ T,s=⟨T,H,H.length,1⟩/\T 1=.lbox 0 [.int .i64 t.kind,.int .i64 t.n,.str t.name,.str t.field,.str t.wn,.slice (aO t.wk) false,.slice (aK t.kids) false,.slice (strs t.names) false]
abbrev gu(H:ag)(b:Bool):bC->AS->Prop:=done H.length [.tmp 2] (.bool b,none)
theorem aco{t:Tm}{h:Nat}(hb:Hh h t){H:ag}(hf:mK t=true->bD t=false) :
  W A (oQ.body.pre 2) { T:=gn [.agg (gk t)],H,lo:=H.length,gen:=0 } (andThen (fun s'=>Bb t H s'/\mK t=false) (gu H (bD t))):=by
 have hc:=KX t H (by have:=hb.kl;omega)
 have hn:=Ow t.names H (by have:=hb.nl;omega) (fun s hs=>by have:=hb.nb s hs;omega)
 unfold mK at hf ⊢
 unfold Bb
 rw[ax] at hc ⊢
 generalize bD t=pr at hf ⊢
 generalize (bP t.kind t.n t.kids.length).1=c1 at hc hf ⊢
 generalize (bP t.kind t.n t.kids.length).2=c2 at hc hf ⊢
 generalize t.names.all isWord=aw at hn hf ⊢
 have yq:=hb.kl
 have og:=hb.nl
 unfold oQ
 simp only[aZ.pre]
 unfold kn at hf ⊢
 by_cases a1:c1=-2
 ·have e:=hf (by simp[a1])
  simp(disch:=omega)only[aW,aa,simprocAttr,hc,a1,e,gu]
 by_cases a2:0<=c1
 ·by_cases a3:(t.kids.length:Int)=c1
  ·by_cases a4:(t.names.length:Int)=c2
   ·cases aw with
    | false =>
     have e:=hf (by simp)
     simp(disch:=omega)only[aW,aa,simprocAttr,hc,b8,aE,a3,a4,hn,e,gu]
    | true =>
     simp(disch:=omega)only[aW,aa,simprocAttr,hc,b8,aE,a3,a4,hn,gu]
     exact⟨⟨_,rfl,by simp(disch:=omega)only[aM,aa,simprocAttr]⟩,by simp[a1,a3,a4]⟩
   ·have e:=hf (by simp[a4])
    simp(disch:=omega)only[aW,aa,simprocAttr,hc,b8,aE,a3,a4,e,gu]
  ·have e:=hf (by simp[a2,a3])
   simp(disch:=omega)only[aW,aa,simprocAttr,hc,b8,aE,a3,e,gu]
 ·by_cases a4:(t.names.length:Int)=c2
  ·cases aw with
   | false =>
    have e:=hf (by simp)
    simp(disch:=omega)only[aW,aa,simprocAttr,hc,b8,aE,a2,a4,hn,e,gu]
   | true =>
    simp(disch:=omega)only[aW,aa,simprocAttr,hc,b8,aE,a2,a4,hn,gu]
    exact⟨⟨_,rfl,by simp(disch:=omega)only[aM,aa,simprocAttr]⟩,by simp[a1,a2,a4]⟩
  ·have e:=hf (by simp[a4])
   simp(disch:=omega)only[aW,aa,simprocAttr,hc,b8,aE,a2,a4,e,gu]
theorem acp{t:Tm}{h:Nat}(hb:Hh h t){H:ag}(hf:nx t=true->bD t=false)(s:AS)(hs:Bb t H s) :
  W A ((oQ.body.post 2).pre 1) s (andThen (fun s'=>Bb t H s'/\nx t=false) (gu H (bD t))):=by
 obtain⟨T,rfl,e1⟩:=hs
 unfold nx at hf ⊢
 unfold Bb
 generalize bD t=pr at hf ⊢
 have hq:=OK t.name H (by have:=hb.a;omega)
 have hw:=nS t.name H (by have:=hb.a;omega)
 generalize lX t.name=q at hq hf ⊢
 generalize isWord t.name=w at hw hf ⊢
 unfold oQ
 simp only[aZ.pre,aZ.post]
 by_cases ty:t.kind=3\/t.kind=7\/t.kind=8\/t.kind=9\/t.kind=10
 ·have et:gC t.kind=true:=decide_eq_true ty
  rw[et] at hf ⊢
  rcases ty with ty|ty|ty|ty|ty
  all_goals
   cases q with
   | false =>
    have e:=hf rfl
    simp(disch:=omega)only[aW,aa,simprocAttr,e1,ty,hq,e,gu]
   | true =>
    simp(disch:=omega)only[aW,aa,simprocAttr,e1,ty,hq,gu]
    exact⟨_,rfl,by first|(simp(disch:=omega)only[aM,aa,simprocAttr,e1];done)|(simp(disch:=omega)only[aM,aa,simprocAttr,e1,ty];done)|(simp(disch:=omega)only[aM,aa,simprocAttr,e1,k2];done)|(simp(disch:=omega)only[aM,aa,simprocAttr,e1,k0];done)|(simp(disch:=omega)only[aM,aa,simprocAttr,e1,k1];done)|(simp(disch:=omega)only[aM,aa,simprocAttr,e1,kk];done)⟩
 ·have et:gC t.kind=false:=ajO ty
  rw[et] at hf ⊢
  by_cases k2:t.kind=2
  ·rw[decide_eq_true k2] at hf ⊢
   cases w with
   | false =>
    have e:=hf rfl
    simp(disch:=omega)only[aW,aa,simprocAttr,e1,k2,hw,e,gu]
   | true =>
    simp(disch:=omega)only[aW,aa,simprocAttr,e1,k2,hw,gu]
    exact⟨_,rfl,by first|(simp(disch:=omega)only[aM,aa,simprocAttr,e1];done)|(simp(disch:=omega)only[aM,aa,simprocAttr,e1,ty];done)|(simp(disch:=omega)only[aM,aa,simprocAttr,e1,k2];done)|(simp(disch:=omega)only[aM,aa,simprocAttr,e1,k0];done)|(simp(disch:=omega)only[aM,aa,simprocAttr,e1,k1];done)|(simp(disch:=omega)only[aM,aa,simprocAttr,e1,kk];done)⟩
  ·rw[ajO k2] at hf ⊢
   by_cases na:t.name=[]
   ·have en:(t.name==[])=true:=by rw[na];rfl
    simp(disch:=omega)only[aW,aa,simprocAttr,e1,k2,en,bne,gu]
    exact⟨⟨_,rfl,by first|(simp(disch:=omega)only[aM,aa,simprocAttr,e1];done)|(simp(disch:=omega)only[aM,aa,simprocAttr,e1,ty];done)|(simp(disch:=omega)only[aM,aa,simprocAttr,e1,k2];done)|(simp(disch:=omega)only[aM,aa,simprocAttr,e1,k0];done)|(simp(disch:=omega)only[aM,aa,simprocAttr,e1,k1];done)|(simp(disch:=omega)only[aM,aa,simprocAttr,e1,kk];done)⟩,by simp[na]⟩
   ·have en:(t.name==[])=false:=by simpa using na
    have e:=hf (by simp[na])
    simp(disch:=omega)only[aW,aa,simprocAttr,e1,k2,en,bne,e,gu]
theorem acq{t:Tm}{h:Nat}(hb:Hh h t){H:ag}(hf:n8 t=true->bD t=false)(s:AS)(hs:Bb t H s) :
  W A (((oQ.body.post 2).post 1).pre 1) s (andThen (fun s'=>Bb t H s'/\n8 t=false) (gu H (bD t))):=by
 obtain⟨T,rfl,e1⟩:=hs
 unfold n8 at hf ⊢
 unfold Bb
 generalize bD t=pr at hf ⊢
 have hw:=nS t.field H (by have:=hb.f;omega)
 generalize isWord t.field=w at hw hf ⊢
 unfold oQ
 simp only[aZ.pre,aZ.post]
 by_cases ty:t.kind=8\/t.kind=9
 ·rw[decide_eq_true ty] at hf ⊢
  rcases ty with ty|ty
  all_goals
   cases w with
   | false =>
    have e:=hf rfl
    simp(disch:=omega)only[aW,aa,simprocAttr,e1,ty,hw,e,gu]
   | true =>
    simp(disch:=omega)only[aW,aa,simprocAttr,e1,ty,hw,gu]
    exact⟨_,rfl,by first|(simp(disch:=omega)only[aM,aa,simprocAttr,e1];done)|(simp(disch:=omega)only[aM,aa,simprocAttr,e1,ty];done)|(simp(disch:=omega)only[aM,aa,simprocAttr,e1,k2];done)|(simp(disch:=omega)only[aM,aa,simprocAttr,e1,k0];done)|(simp(disch:=omega)only[aM,aa,simprocAttr,e1,k1];done)|(simp(disch:=omega)only[aM,aa,simprocAttr,e1,kk];done)⟩
 ·rw[ajO ty] at hf ⊢
  by_cases na:t.field=[]
  ·have en:(t.field==[])=true:=by rw[na];rfl
   simp(disch:=omega)only[aW,aa,simprocAttr,e1,en,bne,gu]
   exact⟨⟨_,rfl,by first|(simp(disch:=omega)only[aM,aa,simprocAttr,e1];done)|(simp(disch:=omega)only[aM,aa,simprocAttr,e1,ty];done)|(simp(disch:=omega)only[aM,aa,simprocAttr,e1,k2];done)|(simp(disch:=omega)only[aM,aa,simprocAttr,e1,k0];done)|(simp(disch:=omega)only[aM,aa,simprocAttr,e1,k1];done)|(simp(disch:=omega)only[aM,aa,simprocAttr,e1,kk];done)⟩,by simp[na]⟩
  ·have en:(t.field==[])=false:=by simpa using na
   have e:=hf (by simp[na])
   simp(disch:=omega)only[aW,aa,simprocAttr,e1,en,bne,e,gu]
theorem acr{t:Tm}{h:Nat}(hb:Hh h t){H:ag}(hf:ny t=true->bD t=false)(s:AS)(hs:Bb t H s) :
  W A ((((oQ.body.post 2).post 1).post 1).pre 0) s (andThen (fun s'=>Bb t H s'/\ny t=false) (gu H (bD t))):=by
 obtain⟨T,rfl,e1⟩:=hs
 unfold ny at hf ⊢
 unfold Bb
 generalize bD t=pr at hf ⊢
 have hw:aA A 57 [.agg [.str t.wn,.slice (aO t.wk) false]] H=some (.bool (bE (.mk t.wn t.wk)),none):=by
  have:=s8 3 (.mk t.wn t.wk) H hb.w
  rwa [jO] at this
 have hwk:t.wk.length<=1:=hb.w.2.1
 generalize bE (.mk t.wn t.wk)=w at hw hf ⊢
 unfold oQ
 simp only[aZ.pre,aZ.post]
 by_cases ty:t.kind=11
 ·rw[decide_eq_true ty] at hf ⊢
  cases w with
  | false =>
   have e:=hf rfl
   simp(disch:=omega)only[aW,aa,simprocAttr,e1,ty,hw,e,gu]
  | true =>
   simp(disch:=omega)only[aW,aa,simprocAttr,e1,ty,hw,gu]
   exact⟨_,rfl,by first|(simp(disch:=omega)only[aM,aa,simprocAttr,e1];done)|(simp(disch:=omega)only[aM,aa,simprocAttr,e1,ty];done)|(simp(disch:=omega)only[aM,aa,simprocAttr,e1,k2];done)|(simp(disch:=omega)only[aM,aa,simprocAttr,e1,k0];done)|(simp(disch:=omega)only[aM,aa,simprocAttr,e1,k1];done)|(simp(disch:=omega)only[aM,aa,simprocAttr,e1,kk];done)⟩
 ·rw[ajO ty] at hf ⊢
  by_cases na:t.wn=[]
  ·have en:(t.wn==[])=true:=by rw[na];rfl
   by_cases nk:0<t.wk.length
   ·have e:=hf (by simp[nk])
    simp(disch:=omega)only[aW,aa,simprocAttr,e1,ty,en,bne,qL,e,gu]
   ·simp(disch:=omega)only[aW,aa,simprocAttr,e1,ty,en,bne,qL,gu]
    exact⟨⟨_,rfl,by first|(simp(disch:=omega)only[aM,aa,simprocAttr,e1];done)|(simp(disch:=omega)only[aM,aa,simprocAttr,e1,ty];done)|(simp(disch:=omega)only[aM,aa,simprocAttr,e1,k2];done)|(simp(disch:=omega)only[aM,aa,simprocAttr,e1,k0];done)|(simp(disch:=omega)only[aM,aa,simprocAttr,e1,k1];done)|(simp(disch:=omega)only[aM,aa,simprocAttr,e1,kk];done)⟩,by simp[na,nk]⟩
  ·have en:(t.wn==[])=false:=by simpa using na
   have e:=hf (by simp[na])
   simp(disch:=omega)only[aW,aa,simprocAttr,e1,ty,en,bne,e,gu]
theorem acs{t:Tm}{h:Nat}(hb:Hh h t){H:ag}(hf:mL t=true->bD t=false)(s:AS)(hs:Bb t H s) :
  W A (((((oQ.body.post 2).post 1).post 1).post 0).pre 0) s (andThen (fun s'=>Bb t H s'/\mL t=false) (gu H (bD t))):=by
 obtain⟨T,rfl,e1⟩:=hs
 unfold mL at hf ⊢
 unfold Bb
 generalize bD t=pr at hf ⊢
 have hn:=hb.n
 unfold oQ
 simp only[aZ.pre,aZ.post]
 by_cases k0:t.kind=0
 ·rw[decide_eq_true k0] at hf ⊢
  by_cases a1:t.n < -1099511627776
  ·have e:=hf (by simp[a1])
   simp(disch:=omega)only[aW,aa,simprocAttr,e1,k0,e,gu]
  by_cases a2:1099511627776<t.n
  ·have e:=hf (by simp[a2])
   simp(disch:=omega)only[aW,aa,simprocAttr,e1,k0,e,gu]
  ·simp(disch:=omega)only[aW,aa,simprocAttr,e1,k0,gu]
   exact⟨⟨_,rfl,by first|(simp(disch:=omega)only[aM,aa,simprocAttr,e1];done)|(simp(disch:=omega)only[aM,aa,simprocAttr,e1,ty];done)|(simp(disch:=omega)only[aM,aa,simprocAttr,e1,k2];done)|(simp(disch:=omega)only[aM,aa,simprocAttr,e1,k0];done)|(simp(disch:=omega)only[aM,aa,simprocAttr,e1,k1];done)|(simp(disch:=omega)only[aM,aa,simprocAttr,e1,kk];done)⟩,by simp;omega⟩
 rw[ajO k0] at hf ⊢
 by_cases k1:t.kind=1
 ·rw[decide_eq_true k1] at hf ⊢
  by_cases a0:t.n=0
  ·simp(disch:=omega)only[aW,aa,simprocAttr,e1,k1,gu]
   exact⟨⟨_,rfl,by first|(simp(disch:=omega)only[aM,aa,simprocAttr,e1];done)|(simp(disch:=omega)only[aM,aa,simprocAttr,e1,ty];done)|(simp(disch:=omega)only[aM,aa,simprocAttr,e1,k2];done)|(simp(disch:=omega)only[aM,aa,simprocAttr,e1,k0];done)|(simp(disch:=omega)only[aM,aa,simprocAttr,e1,k1];done)|(simp(disch:=omega)only[aM,aa,simprocAttr,e1,kk];done)⟩,by simp[a0]⟩
  by_cases a1:t.n=1
  ·simp(disch:=omega)only[aW,aa,simprocAttr,e1,k1,gu]
   exact⟨⟨_,rfl,by first|(simp(disch:=omega)only[aM,aa,simprocAttr,e1];done)|(simp(disch:=omega)only[aM,aa,simprocAttr,e1,ty];done)|(simp(disch:=omega)only[aM,aa,simprocAttr,e1,k2];done)|(simp(disch:=omega)only[aM,aa,simprocAttr,e1,k0];done)|(simp(disch:=omega)only[aM,aa,simprocAttr,e1,k1];done)|(simp(disch:=omega)only[aM,aa,simprocAttr,e1,kk];done)⟩,by simp[a1]⟩
  ·have e:=hf (by simp[a0,a1])
   simp(disch:=omega)only[aW,aa,simprocAttr,e1,k1,e,gu]
 ·rw[ajO k1] at hf ⊢
  simp(disch:=omega)only[aW,aa,simprocAttr,e1,k0,k1,gu]
  exact⟨_,rfl,by first|(simp(disch:=omega)only[aM,aa,simprocAttr,e1];done)|(simp(disch:=omega)only[aM,aa,simprocAttr,e1,ty];done)|(simp(disch:=omega)only[aM,aa,simprocAttr,e1,k2];done)|(simp(disch:=omega)only[aM,aa,simprocAttr,e1,k0];done)|(simp(disch:=omega)only[aM,aa,simprocAttr,e1,k1];done)|(simp(disch:=omega)only[aM,aa,simprocAttr,e1,kk];done)⟩
theorem acu{t:Tm}{h:Nat}(hb:Hh h t){H:ag}(hf:ox t=true->bD t=false)(s:AS)(hs:Bb t H s) :
  W A ((((((oQ.body.post 2).post 1).post 1).post 0).post 0).pre 0) s (andThen (fun s'=>Bb t H s'/\ox t=false) (gu H (bD t))):=by
 obtain⟨T,rfl,e1⟩:=hs
 unfold ox at hf ⊢
 unfold Bb
 generalize bD t=pr at hf ⊢
 unfold oQ
 simp only[aZ.pre,aZ.post]
 by_cases kk:t.kind=0\/t.kind=1\/t.kind=4
 ·rcases kk with kk|kk|kk
  all_goals
   simp(disch:=omega)only[aW,aa,simprocAttr,e1,kk,gu]
   exact⟨⟨_,rfl,by first|(simp(disch:=omega)only[aM,aa,simprocAttr,e1];done)|(simp(disch:=omega)only[aM,aa,simprocAttr,e1,ty];done)|(simp(disch:=omega)only[aM,aa,simprocAttr,e1,k2];done)|(simp(disch:=omega)only[aM,aa,simprocAttr,e1,k0];done)|(simp(disch:=omega)only[aM,aa,simprocAttr,e1,k1];done)|(simp(disch:=omega)only[aM,aa,simprocAttr,e1,kk];done)⟩,by simp⟩
 ·by_cases a0:t.n=0
  ·simp(disch:=omega)only[aW,aa,simprocAttr,e1,gu]
   exact⟨⟨_,rfl,by first|(simp(disch:=omega)only[aM,aa,simprocAttr,e1];done)|(simp(disch:=omega)only[aM,aa,simprocAttr,e1,ty];done)|(simp(disch:=omega)only[aM,aa,simprocAttr,e1,k2];done)|(simp(disch:=omega)only[aM,aa,simprocAttr,e1,k0];done)|(simp(disch:=omega)only[aM,aa,simprocAttr,e1,k1];done)|(simp(disch:=omega)only[aM,aa,simprocAttr,e1,kk];done)⟩,by simp[a0]⟩
  ·have e:=hf (by simp[a0];omega)
   simp(disch:=omega)only[aW,aa,simprocAttr,e1,e,gu]
end Go.Proofs.YtocbgffdpfiidaaGreatDoor
