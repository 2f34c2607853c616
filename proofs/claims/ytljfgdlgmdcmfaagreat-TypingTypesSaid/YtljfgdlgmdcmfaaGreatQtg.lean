/- Parts of a proof. -/
import Derived.Test.YtljfgdlgmdcmfaaGreatQtf
import Derived.ProofKit
set_option linter.unusedVariables false
set_option linter.unusedSimpArgs false
set_option maxHeartbeats 1600000
set_option maxRecDepth 100000
namespace Go.Proofs.YtljfgdlgmdcmfaaGreat.Wv
section
theorem Ba:(type_of% @List.map_cons.{0,0})∧(type_of% @List.map_nil.{0,0})∧(type_of% @List.getElem?_cons_zero.{0})∧(type_of% @List.getElem?_cons_succ.{0})∧(type_of% @List.getElem?_nil.{0})∧(type_of% @List.nil_append.{0})∧(type_of% @List.cons_append.{0})∧(type_of% @List.append_nil.{0})∧(type_of% @List.take_zero.{0})∧(type_of% @List.take_succ_cons.{0})∧(type_of% @List.take_nil.{0})∧(type_of% @List.drop_zero.{0})∧(type_of% @List.drop_succ_cons.{0})∧(type_of% @List.drop_nil.{0})∧(type_of% @List.length_cons.{0})∧(type_of% @List.length_nil.{0})∧(type_of% @List.all_cons.{0})∧(type_of% @List.all_nil.{0})∧(type_of% @List.set_cons_zero.{0})∧(type_of% @List.set_cons_succ.{0})∧(type_of% @List.set_nil.{0})∧(type_of% @List.getElem?_drop.{0})∧(type_of% @List.length_map.{0,0})∧(type_of% @List.length_append.{0})∧(type_of% @Option.map_some.{0,0})∧(type_of% @Option.map_none.{0,0})∧(type_of% @Option.bind_some.{0,0})∧(type_of% @Option.bind_none.{0,0})∧(type_of% @Bool.and_true)∧(type_of% @Bool.true_and)∧(type_of% @Bool.not_true)∧(type_of% @Bool.not_false)∧(type_of% @Bool.true_beq)∧(type_of% @Bool.false_beq)∧(type_of% @Nat.mul_one)∧(type_of% @Nat.sub_zero)∧(type_of% @Nat.sub_self)∧(type_of% @Nat.add_zero)∧(type_of% @Nat.zero_add)∧(type_of% @Int.toNat_natCast)∧(type_of% @Int.natCast_zero)∧(type_of% @Int.sub_zero)∧(type_of% @Int.add_zero)∧(type_of% @Int.zero_add)∧(type_of% @ne_eq.{1})∧(type_of% @not_false_eq_true)∧(type_of% @true_and)∧(type_of% @and_true)∧(type_of% @decide_true)∧(type_of% @decide_false)∧(type_of% @eq_self.{1})∧(type_of% @Option.isNone_none.{0})∧(type_of% @Option.isNone_some.{0})∧(type_of% @Option.isSome_some.{0})∧(type_of% @Bool.false_and)∧(type_of% @Bool.and_false)∧(type_of% @cond_true.{1})∧(type_of% @cond_false.{1})∧(type_of% @List.size_toArray.{0}):=⟨@List.map_cons.{0,0}, @List.map_nil.{0,0}, @List.getElem?_cons_zero.{0}, @List.getElem?_cons_succ.{0}, @List.getElem?_nil.{0}, @List.nil_append.{0}, @List.cons_append.{0}, @List.append_nil.{0}, @List.take_zero.{0}, @List.take_succ_cons.{0}, @List.take_nil.{0}, @List.drop_zero.{0}, @List.drop_succ_cons.{0}, @List.drop_nil.{0}, @List.length_cons.{0}, @List.length_nil.{0}, @List.all_cons.{0}, @List.all_nil.{0}, @List.set_cons_zero.{0}, @List.set_cons_succ.{0}, @List.set_nil.{0}, @List.getElem?_drop.{0}, @List.length_map.{0,0}, @List.length_append.{0}, @Option.map_some.{0,0}, @Option.map_none.{0,0}, @Option.bind_some.{0,0}, @Option.bind_none.{0,0}, @Bool.and_true, @Bool.true_and, @Bool.not_true, @Bool.not_false, @Bool.true_beq, @Bool.false_beq, @Nat.mul_one, @Nat.sub_zero, @Nat.sub_self, @Nat.add_zero, @Nat.zero_add, @Int.toNat_natCast, @Int.natCast_zero, @Int.sub_zero, @Int.add_zero, @Int.zero_add, @ne_eq.{1}, @not_false_eq_true, @true_and, @and_true, @decide_true, @decide_false, @eq_self.{1}, @Option.isNone_none.{0}, @Option.isNone_some.{0}, @Option.isSome_some.{0}, @Bool.false_and, @Bool.and_false, @cond_true.{1}, @cond_false.{1}, @List.size_toArray.{0}⟩
theorem Bb:(type_of% @Wv.Ji)∧(type_of% @Wv.Eu)∧(type_of% @Wv.Yj)∧(type_of% @Wv.ad3)∧(type_of% @Wv.Yk)∧(type_of% @Wv.Ql)∧(type_of% @Wv.Qm)∧(type_of% @Wv.ad4)∧(type_of% @Wv.Qn)∧(type_of% @Wv.Yl)∧(type_of% @Wv.ad5)∧(type_of% @Wv.Ym)∧(type_of% @Wv.ad6)∧(type_of% @Wv.Yn)∧(type_of% @Wv.Yo)∧(type_of% @Wv.Yp)∧(type_of% @Wv.Yq)∧(type_of% @Wv.Yr)∧(type_of% @Wv.k_p)∧(type_of% @Wv.Yt)∧(type_of% @Wv.Yu)∧(type_of% @Wv.Yv)∧(type_of% @Wv.Yw)∧(type_of% @Wv.k_reg)∧(type_of% @Wv.Qo)∧(type_of% @Wv.Yx)∧(type_of% @Wv.k_o)∧(type_of% @Wv.k_r)∧(type_of% @Wv.k_h)∧(type_of% @Wv.Yy)∧(type_of% @Wv.Yz)∧(type_of% @Wv.YA)∧(type_of% @Wv.Qp)∧(type_of% @Wv.Qq)∧(type_of% @Wv.YB)∧(type_of% @Wv.ad7)∧(type_of% @Wv.YC)∧(type_of% @Wv.YD)∧(type_of% @Wv.ad8)∧(type_of% @Wv.Qr)∧(type_of% @Wv.YE)∧(type_of% @Wv.YF)∧(type_of% @Wv.YG)∧(type_of% @Wv.Jj)∧(type_of% @Wv.YH)∧(type_of% @Wv.Qs)∧(type_of% @Wv.YI)∧(type_of% @Wv.Bl)∧(type_of% @Wv.Qu)∧(type_of% @Wv.YJ)∧(type_of% @Wv.Ew)∧(type_of% @Wv.yA)∧(type_of% @Wv.Qv)∧(type_of% @Wv.Ey)∧(type_of% @Wv.ad9)∧(type_of% @Wv.aea)∧(type_of% @Wv.Jk)∧(type_of% @Wv.Jl)∧(type_of% @Wv.Ez)∧(type_of% @Wv.yB)∧(type_of% @Wv.Jm)∧(type_of% @Wv.Jo)∧(type_of% @Wv.Qw)∧(type_of% @Wv.YK)∧(type_of% @Wv.YL)∧(type_of% @Wv.Jp)∧(type_of% @Wv.Jq)∧(type_of% @Wv.YM)∧(type_of% @Wv.YN)∧(type_of% @Wv.Qx):=⟨@Wv.Ji, @Wv.Eu, @Wv.Yj, @Wv.ad3, @Wv.Yk, @Wv.Ql, @Wv.Qm, @Wv.ad4, @Wv.Qn, @Wv.Yl, @Wv.ad5, @Wv.Ym, @Wv.ad6, @Wv.Yn, @Wv.Yo, @Wv.Yp, @Wv.Yq, @Wv.Yr, @Wv.k_p, @Wv.Yt, @Wv.Yu, @Wv.Yv, @Wv.Yw, @Wv.k_reg, @Wv.Qo, @Wv.Yx, @Wv.k_o, @Wv.k_r, @Wv.k_h, @Wv.Yy, @Wv.Yz, @Wv.YA, @Wv.Qp, @Wv.Qq, @Wv.YB, @Wv.ad7, @Wv.YC, @Wv.YD, @Wv.ad8, @Wv.Qr, @Wv.YE, @Wv.YF, @Wv.YG, @Wv.Jj, @Wv.YH, @Wv.Qs, @Wv.YI, @Wv.Bl, @Wv.Qu, @Wv.YJ, @Wv.Ew, @Wv.yA, @Wv.Qv, @Wv.Ey, @Wv.ad9, @Wv.aea, @Wv.Jk, @Wv.Jl, @Wv.Ez, @Wv.yB, @Wv.Jm, @Wv.Jo, @Wv.Qw, @Wv.YK, @Wv.YL, @Wv.Jp, @Wv.Jq, @Wv.YM, @Wv.YN, @Wv.Qx⟩
theorem Bc:(type_of% @Wv.Qy)∧(type_of% @Wv.YO)∧(type_of% @Wv.YP)∧(type_of% @Wv.Bo)∧(type_of% @Wv.Bq)∧(type_of% @Wv.Qz)∧(type_of% @Wv.QB)∧(type_of% @Wv.YQ)∧(type_of% @Wv.YR)∧(type_of% @Wv.EC)∧(type_of% @Wv.ED)∧(type_of% @Wv.yD)∧(type_of% @Wv.yE)∧(type_of% @Wv.QC)∧(type_of% @Wv.QD)∧(type_of% @Wv.EF)∧(type_of% @Wv.EG)∧(type_of% @Wv.QE)∧(type_of% @Wv.QF)∧(type_of% @Wv.QG)∧(type_of% @Wv.yF)∧(type_of% @Wv.yG)∧(type_of% @Wv.yH)∧(type_of% @Wv.QH)∧(type_of% @Wv.QI)∧(type_of% @Wv.QJ)∧(type_of% @Wv.YS)∧(type_of% @Wv.YT)∧(type_of% @Wv.YU)∧(type_of% @Wv.q_len)∧(type_of% @Wv.aeb)∧(type_of% @Wv.aec)∧(type_of% @Wv.aed)∧(type_of% @Wv.aee)∧(type_of% @Wv.aef)∧(type_of% @Wv.Jr)∧(type_of% @Wv.YV)∧(type_of% @Wv.YW)∧(type_of% @Wv.YX)∧(type_of% @Wv.aeg)∧(type_of% @Wv.Js)∧(type_of% @Wv.aeh)∧(type_of% @Wv.QK)∧(type_of% @Wv.aei)∧(type_of% @Wv.QL)∧(type_of% @Wv.YZ)∧(type_of% @Wv.QM)∧(type_of% @Wv.QN)∧(type_of% @Wv.QO)∧(type_of% @Wv.GK)∧(type_of% @Wv.QS)∧(type_of% @Wv.QT)∧(type_of% @Wv.QU)∧(type_of% @Wv.QV)∧(type_of% @Wv.QW)∧(type_of% @Wv.QX)∧(type_of% @Wv.Jt)∧(type_of% @Wv.QY)∧(type_of% @Wv.Ju)∧(type_of% @Wv.Jv)∧(type_of% @Wv.QZ)∧(type_of% @Wv.Q5)∧(type_of% @Wv.acM)∧(type_of% @Wv.acN)∧(type_of% @Wv.acO)∧(type_of% @Wv.acP)∧(type_of% @Wv.Q7)∧(type_of% @Wv.Q8)∧(type_of% @Wv.Q9)∧(type_of% @Wv.Rf):=⟨@Wv.Qy, @Wv.YO, @Wv.YP, @Wv.Bo, @Wv.Bq, @Wv.Qz, @Wv.QB, @Wv.YQ, @Wv.YR, @Wv.EC, @Wv.ED, @Wv.yD, @Wv.yE, @Wv.QC, @Wv.QD, @Wv.EF, @Wv.EG, @Wv.QE, @Wv.QF, @Wv.QG, @Wv.yF, @Wv.yG, @Wv.yH, @Wv.QH, @Wv.QI, @Wv.QJ, @Wv.YS, @Wv.YT, @Wv.YU, @Wv.q_len, @Wv.aeb, @Wv.aec, @Wv.aed, @Wv.aee, @Wv.aef, @Wv.Jr, @Wv.YV, @Wv.YW, @Wv.YX, @Wv.aeg, @Wv.Js, @Wv.aeh, @Wv.QK, @Wv.aei, @Wv.QL, @Wv.YZ, @Wv.QM, @Wv.QN, @Wv.QO, @Wv.GK, @Wv.QS, @Wv.QT, @Wv.QU, @Wv.QV, @Wv.QW, @Wv.QX, @Wv.Jt, @Wv.QY, @Wv.Ju, @Wv.Jv, @Wv.QZ, @Wv.Q5, @Wv.acM, @Wv.acN, @Wv.acO, @Wv.acP, @Wv.Q7, @Wv.Q8, @Wv.Q9, @Wv.Rf⟩
theorem Bd:(type_of% @Wv.Rh)∧(type_of% @Wv.Ri)∧(type_of% @Wv.Rj)∧(type_of% @Wv.Rk)∧(type_of% @Wv.Rl)∧(type_of% @Wv.Ro)∧(type_of% @Wv.Rq)∧(type_of% @Wv.Rt)∧(type_of% @Wv.aej)∧(type_of% @Wv.aek)∧(type_of% @Wv.Ru)∧(type_of% @Wv.Rw)∧(type_of% @Wv.Rx)∧(type_of% @Wv.Ry)∧(type_of% @Wv.Rz)∧(type_of% @Wv.RF)∧(type_of% @Wv.RG)∧(type_of% @Wv.RH)∧(type_of% @Wv.RJ)∧(type_of% @Wv.RN)∧(type_of% @Wv.RP)∧(type_of% @Wv.RQ)∧(type_of% @Wv.Y1)∧(type_of% @Wv.Y2)∧(type_of% @Wv.Y3)∧(type_of% @Wv.Y4)∧(type_of% @Wv.RS)∧(type_of% @Wv.Y5)∧(type_of% @Wv.ael)∧(type_of% @Wv.aem)∧(type_of% @Wv.fin0)∧(type_of% @Wv.fin1)∧(type_of% @Wv.RU)∧(type_of% @Wv.aen)∧(type_of% @Wv.aeo)∧(type_of% @Wv.aep)∧(type_of% @Wv.Jw)∧(type_of% @Wv.Jy)∧(type_of% @Wv.EH)∧(type_of% @Wv.aer)∧(type_of% @Wv.ahY)∧(type_of% @Wv.aes)∧(type_of% @Wv.ahZ)∧(type_of% @Wv.EI)∧(type_of% @Wv.Jz)∧(type_of% @Wv.JA)∧(type_of% @Wv.get_nil)∧(type_of% @Wv.JB)∧(type_of% @Wv.Y6)∧(type_of% @Wv.JC)∧(type_of% @Wv.RV)∧(type_of% @Wv.EJ)∧(type_of% @Wv.JD)∧(type_of% @Wv.EK)∧(type_of% @Wv.JE)∧(type_of% @Wv.RX)∧(type_of% @Wv.JF)∧(type_of% @Wv.RY)∧(type_of% @Wv.JG)∧(type_of% @Wv.Y7)∧(type_of% @Wv.RZ)∧(type_of% @Wv.JH)∧(type_of% @Wv.Si)∧(type_of% @Wv.Sj)∧(type_of% @Wv.Sl)∧(type_of% @Wv.Y8)∧(type_of% @Wv.Y9)∧(type_of% @Wv.aeu)∧(type_of% @Wv.aev)∧(type_of% @Wv.aew):=⟨@Wv.Rh, @Wv.Ri, @Wv.Rj, @Wv.Rk, @Wv.Rl, @Wv.Ro, @Wv.Rq, @Wv.Rt, @Wv.aej, @Wv.aek, @Wv.Ru, @Wv.Rw, @Wv.Rx, @Wv.Ry, @Wv.Rz, @Wv.RF, @Wv.RG, @Wv.RH, @Wv.RJ, @Wv.RN, @Wv.RP, @Wv.RQ, @Wv.Y1, @Wv.Y2, @Wv.Y3, @Wv.Y4, @Wv.RS, @Wv.Y5, @Wv.ael, @Wv.aem, @Wv.fin0, @Wv.fin1, @Wv.RU, @Wv.aen, @Wv.aeo, @Wv.aep, @Wv.Jw, @Wv.Jy, @Wv.EH, @Wv.aer, @Wv.ahY, @Wv.aes, @Wv.ahZ, @Wv.EI, @Wv.Jz, @Wv.JA, @Wv.get_nil, @Wv.JB, @Wv.Y6, @Wv.JC, @Wv.RV, @Wv.EJ, @Wv.JD, @Wv.EK, @Wv.JE, @Wv.RX, @Wv.JF, @Wv.RY, @Wv.JG, @Wv.Y7, @Wv.RZ, @Wv.JH, @Wv.Si, @Wv.Sj, @Wv.Sl, @Wv.Y8, @Wv.Y9, @Wv.aeu, @Wv.aev, @Wv.aew⟩
theorem Be:(type_of% @Wv.aex)∧(type_of% @Wv.aey)∧(type_of% @Wv.aez)∧(type_of% @Wv.aeA)∧(type_of% @Wv.aeB)∧(type_of% @Wv.ah0)∧(type_of% @Wv.aeC)∧(type_of% @Wv.aeD)∧(type_of% @Wv.aeE)∧(type_of% @Wv.aeF)∧(type_of% @Wv.aeG)∧(type_of% @Wv.aeH)∧(type_of% @Wv.aeI)∧(type_of% @Wv.aeJ)∧(type_of% @Wv.aeK)∧(type_of% @Wv.aeL)∧(type_of% @Wv.aeM)∧(type_of% @Wv.aeN)∧(type_of% @Wv.Za)∧(type_of% @Wv.Zb)∧(type_of% @Wv.Zc)∧(type_of% @Wv.w64)∧(type_of% @Wv.ah1)∧(type_of% @Wv.wu64)∧(type_of% @Wv.wu8)∧(type_of% @Wv.JI)∧(type_of% @Wv.JJ)∧(type_of% @Wv.JK)∧(type_of% @Wv.Sm)∧(type_of% @Wv.uY)∧(type_of% @Wv.iM)∧(type_of% @Wv.oH)∧(type_of% @Wv.JL)∧(type_of% @Wv.ld)∧(type_of% @Wv.Zd)∧(type_of% @Wv.EL)∧(type_of% @Wv.aeO)∧(type_of% @Wv.aeP)∧(type_of% @Wv.EM)∧(type_of% @Wv.aeQ)∧(type_of% @Wv.mY)∧(type_of% @Wv.Sr)∧(type_of% @Wv.GL)∧(type_of% @Wv.qV)∧(type_of% @Wv.qW)∧(type_of% @Wv.Zf)∧(type_of% @Wv.Sv)∧(type_of% @Wv.Zg)∧(type_of% @Wv.Sz)∧(type_of% @Wv.SA)∧(type_of% @Wv.ah2)∧(type_of% @Wv.ah3)∧(type_of% @Wv.aeR)∧(type_of% @Wv.aeS)∧(type_of% @Wv.qh)∧(type_of% @Wv.Zh)∧(type_of% @Wv.ah4)∧(type_of% @Wv.Zi)∧(type_of% @Wv.SB)∧(type_of% @Wv.Zj)∧(type_of% @Wv.JM)∧(type_of% @Wv.Zk)∧(type_of% @Wv.ah5)∧(type_of% @Wv.aeT)∧(type_of% @Wv.aeU)∧(type_of% @Wv.Zl)∧(type_of% @Wv.Zm)∧(type_of% @Wv.st)∧(type_of% @Wv.Zn)∧(type_of% @Wv.aeV):=⟨@Wv.aex, @Wv.aey, @Wv.aez, @Wv.aeA, @Wv.aeB, @Wv.ah0, @Wv.aeC, @Wv.aeD, @Wv.aeE, @Wv.aeF, @Wv.aeG, @Wv.aeH, @Wv.aeI, @Wv.aeJ, @Wv.aeK, @Wv.aeL, @Wv.aeM, @Wv.aeN, @Wv.Za, @Wv.Zb, @Wv.Zc, @Wv.w64, @Wv.ah1, @Wv.wu64, @Wv.wu8, @Wv.JI, @Wv.JJ, @Wv.JK, @Wv.Sm, @Wv.uY, @Wv.iM, @Wv.oH, @Wv.JL, @Wv.ld, @Wv.Zd, @Wv.EL, @Wv.aeO, @Wv.aeP, @Wv.EM, @Wv.aeQ, @Wv.mY, @Wv.Sr, @Wv.GL, @Wv.qV, @Wv.qW, @Wv.Zf, @Wv.Sv, @Wv.Zg, @Wv.Sz, @Wv.SA, @Wv.ah2, @Wv.ah3, @Wv.aeR, @Wv.aeS, @Wv.qh, @Wv.Zh, @Wv.ah4, @Wv.Zi, @Wv.SB, @Wv.Zj, @Wv.JM, @Wv.Zk, @Wv.ah5, @Wv.aeT, @Wv.aeU, @Wv.Zl, @Wv.Zm, @Wv.st, @Wv.Zn, @Wv.aeV⟩
theorem Bf:(type_of% @Wv.JO)∧(type_of% @Wv.SC)∧(type_of% @Wv.JQ)∧(type_of% @Wv.EN)∧(type_of% @Wv.BA)∧(type_of% @Wv.ah6)∧(type_of% @Wv.JR)∧(type_of% @Wv.EO)∧(type_of% @Wv.JU)∧(type_of% @Wv.JV)∧(type_of% @Wv.SE)∧(type_of% @Wv.Zo)∧(type_of% @Wv.aeW)∧(type_of% @Wv.aeX)∧(type_of% @Wv.ah7)∧(type_of% @Wv.SG)∧(type_of% @Wv.Zp)∧(type_of% @Wv.JW)∧(type_of% @Wv.JX)∧(type_of% @Wv.aeY)∧(type_of% @Wv.SH)∧(type_of% @Wv.aeZ)∧(type_of% @Wv.JY)∧(type_of% @Wv.SI)∧(type_of% @Wv.JZ)∧(type_of% @Wv.ae0)∧(type_of% @Wv.ae1)∧(type_of% @Wv.ae2)∧(type_of% @Wv.EP)∧(type_of% @Wv.SK)∧(type_of% @Wv.J3)∧(type_of% @Wv.J4)∧(type_of% @Wv.J5)∧(type_of% @Wv.SL)∧(type_of% @Wv.J6)∧(type_of% @Wv.Zq)∧(type_of% @Wv.J7)∧(type_of% @Wv.SQ)∧(type_of% @Wv.J8)∧(type_of% @Wv.J9)∧(type_of% @Wv.tk)∧(type_of% @Wv.SX)∧(type_of% @Wv.SY)∧(type_of% @Wv.ix)∧(type_of% @Wv.ae3)∧(type_of% @Wv.ae4)∧(type_of% @Wv.ae5)∧(type_of% @Wv.S9)∧(type_of% @Wv.Ko)∧(type_of% @Wv.Kq)∧(type_of% @Wv.sh)∧(type_of% @Wv.Zr)∧(type_of% @Wv.ae6)∧(type_of% @Wv.ae7)∧(type_of% @Wv.Tc)∧(type_of% @Wv.len)∧(type_of% @Wv.Td)∧(type_of% @Wv.Zt)∧(type_of% @Wv.ae8)∧(type_of% @Wv.len_nil)∧(type_of% @Wv.Ti)∧(type_of% @Wv.ER)∧(type_of% @Wv.Tj)∧(type_of% @Wv.Kr)∧(type_of% @Wv.ap)∧(type_of% @Wv.Kt)∧(type_of% @Wv.Tm)∧(type_of% @Wv.Tn)∧(type_of% @Wv.Ku)∧(type_of% @Wv.Tq):=⟨@Wv.JO, @Wv.SC, @Wv.JQ, @Wv.EN, @Wv.BA, @Wv.ah6, @Wv.JR, @Wv.EO, @Wv.JU, @Wv.JV, @Wv.SE, @Wv.Zo, @Wv.aeW, @Wv.aeX, @Wv.ah7, @Wv.SG, @Wv.Zp, @Wv.JW, @Wv.JX, @Wv.aeY, @Wv.SH, @Wv.aeZ, @Wv.JY, @Wv.SI, @Wv.JZ, @Wv.ae0, @Wv.ae1, @Wv.ae2, @Wv.EP, @Wv.SK, @Wv.J3, @Wv.J4, @Wv.J5, @Wv.SL, @Wv.J6, @Wv.Zq, @Wv.J7, @Wv.SQ, @Wv.J8, @Wv.J9, @Wv.tk, @Wv.SX, @Wv.SY, @Wv.ix, @Wv.ae3, @Wv.ae4, @Wv.ae5, @Wv.S9, @Wv.Ko, @Wv.Kq, @Wv.sh, @Wv.Zr, @Wv.ae6, @Wv.ae7, @Wv.Tc, @Wv.len, @Wv.Td, @Wv.Zt, @Wv.ae8, @Wv.len_nil, @Wv.Ti, @Wv.ER, @Wv.Tj, @Wv.Kr, @Wv.ap, @Wv.Kt, @Wv.Tm, @Wv.Tn, @Wv.Ku, @Wv.Tq⟩
theorem Bg:(type_of% @Wv.Tt)∧(type_of% @Wv.cp)∧(type_of% @Wv.Kv)∧(type_of% @Wv.Tv)∧(type_of% @Wv.Kw)∧(type_of% @Wv.Tz)∧(type_of% @Wv.at_)∧(type_of% @Wv.Ky)∧(type_of% @Wv.Kz)∧(type_of% @Wv.Zu)∧(type_of% @Wv.TG)∧(type_of% @Wv.ae9)∧(type_of% @Wv.afa)∧(type_of% @Wv.Zv)∧(type_of% @Wv.Zw)∧(type_of% @Wv.Zx)∧(type_of% @Wv.sr)∧(type_of% @Wv.ah8)∧(type_of% @Wv.KA)∧(type_of% @Wv.Zy)∧(type_of% @Wv.KC)∧(type_of% @Wv.TQ)∧(type_of% @Wv.Zz)∧(type_of% @Wv.ZA)∧(type_of% @Wv.KD)∧(type_of% @Wv.TT)∧(type_of% @Wv.afb)∧(type_of% @Wv.afc)∧(type_of% @Wv.ZB)∧(type_of% @Wv.ZC)∧(type_of% @Wv.KF)∧(type_of% @Wv.TU)∧(type_of% @Wv.TV)∧(type_of% @Wv.afd)∧(type_of% @Wv.afe)∧(type_of% @Wv.ZE)∧(type_of% @Wv.ZF)∧(type_of% @Wv.KG)∧(type_of% @Wv.TW)∧(type_of% @Wv.TY)∧(type_of% @Wv.aff)∧(type_of% @Wv.afg)∧(type_of% @Wv.ZG)∧(type_of% @Wv.ZH)∧(type_of% @Wv.KH)∧(type_of% @Wv.Ua)∧(type_of% @Wv.Ub)∧(type_of% @Wv.afh)∧(type_of% @Wv.afi)∧(type_of% @Wv.Uc)∧(type_of% @Wv.ZI)∧(type_of% @Wv.Ud)∧(type_of% @Wv.KI)∧(type_of% @Wv.KJ)∧(type_of% @Wv.lt)∧(type_of% @Wv.KL)∧(type_of% @Wv.KN)∧(type_of% @Wv.ZJ)∧(type_of% @Wv.Ue)∧(type_of% @Wv.KO)∧(type_of% @Wv.mk)∧(type_of% @Wv.KP)∧(type_of% @Wv.KQ)∧(type_of% @Wv.KR)∧(type_of% @Wv.ES)∧(type_of% @Wv.KT)∧(type_of% @Wv.fd)∧(type_of% @Wv.KU)∧(type_of% @Wv.KW)∧(type_of% @Wv.fl):=⟨@Wv.Tt, @Wv.cp, @Wv.Kv, @Wv.Tv, @Wv.Kw, @Wv.Tz, @Wv.at_, @Wv.Ky, @Wv.Kz, @Wv.Zu, @Wv.TG, @Wv.ae9, @Wv.afa, @Wv.Zv, @Wv.Zw, @Wv.Zx, @Wv.sr, @Wv.ah8, @Wv.KA, @Wv.Zy, @Wv.KC, @Wv.TQ, @Wv.Zz, @Wv.ZA, @Wv.KD, @Wv.TT, @Wv.afb, @Wv.afc, @Wv.ZB, @Wv.ZC, @Wv.KF, @Wv.TU, @Wv.TV, @Wv.afd, @Wv.afe, @Wv.ZE, @Wv.ZF, @Wv.KG, @Wv.TW, @Wv.TY, @Wv.aff, @Wv.afg, @Wv.ZG, @Wv.ZH, @Wv.KH, @Wv.Ua, @Wv.Ub, @Wv.afh, @Wv.afi, @Wv.Uc, @Wv.ZI, @Wv.Ud, @Wv.KI, @Wv.KJ, @Wv.lt, @Wv.KL, @Wv.KN, @Wv.ZJ, @Wv.Ue, @Wv.KO, @Wv.mk, @Wv.KP, @Wv.KQ, @Wv.KR, @Wv.ES, @Wv.KT, @Wv.fd, @Wv.KU, @Wv.KW, @Wv.fl⟩
theorem Bh:(type_of% @Wv.KX)∧(type_of% @Wv.KY)∧(type_of% @Wv.ah9)∧(type_of% @Wv.ZK)∧(type_of% @Wv.ZL)∧(type_of% @Wv.bdx)∧(type_of% @Wv.KZ)∧(type_of% @Wv.ZM)∧(type_of% @Wv.Uf)∧(type_of% @Wv.La)∧(type_of% @Wv.Ug)∧(type_of% @Wv.Uh)∧(type_of% @Wv.Ui)∧(type_of% @Wv.Lc)∧(type_of% @Wv.aga)∧(type_of% @Wv.aia)∧(type_of% @Wv.aib)∧(type_of% @Wv.Ld)∧(type_of% @Wv.Le)∧(type_of% @Wv.agb)∧(type_of% @Wv.aic)∧(type_of% @Wv.Lh)∧(type_of% @Wv.Lj)∧(type_of% @Wv.Ll)∧(type_of% @Wv.Uj)∧(type_of% @Wv.Ul)∧(type_of% @Wv.ZN)∧(type_of% @Wv.Lm)∧(type_of% @Wv.ZO)∧(type_of% @Wv.aie)∧(type_of% @Wv.ZP)∧(type_of% @Wv.ZQ)∧(type_of% @Wv.Lp)∧(type_of% @Wv.Ov)∧(type_of% @Wv.ZR)∧(type_of% @Wv.ET)∧(type_of% @Wv.EU)∧(type_of% @Wv.lk)∧(type_of% @Wv.Lr)∧(type_of% @Wv.ZT)∧(type_of% @Wv.ZU)∧(type_of% @Wv.Ls)∧(type_of% @Wv.ZV)∧(type_of% @Wv.ZW)∧(type_of% @Wv.ZX)∧(type_of% @Wv.ZY)∧(type_of% @Wv.Z4)∧(type_of% @Wv.Z5)∧(type_of% @Wv.Z7)∧(type_of% @Wv.Um)∧(type_of% @Wv.Z8)∧(type_of% @Wv.Un)∧(type_of% @Wv.Z9)∧(type_of% @Wv.GN)∧(type_of% @Wv.aac)∧(type_of% @Wv.Uo)∧(type_of% @Wv.up)∧(type_of% @Wv.Lu)∧(type_of% @Wv.LC)∧(type_of% @Wv.LD)∧(type_of% @Wv.LG)∧(type_of% @Wv.afj)∧(type_of% @Wv.afk)∧(type_of% @Wv.aad)∧(type_of% @Wv.afl)∧(type_of% @Wv.afm)∧(type_of% @Wv.afn)∧(type_of% @Wv.EW)∧(type_of% @Wv.afo)∧(type_of% @Wv.afp):=⟨@Wv.KX, @Wv.KY, @Wv.ah9, @Wv.ZK, @Wv.ZL, @Wv.bdx, @Wv.KZ, @Wv.ZM, @Wv.Uf, @Wv.La, @Wv.Ug, @Wv.Uh, @Wv.Ui, @Wv.Lc, @Wv.aga, @Wv.aia, @Wv.aib, @Wv.Ld, @Wv.Le, @Wv.agb, @Wv.aic, @Wv.Lh, @Wv.Lj, @Wv.Ll, @Wv.Uj, @Wv.Ul, @Wv.ZN, @Wv.Lm, @Wv.ZO, @Wv.aie, @Wv.ZP, @Wv.ZQ, @Wv.Lp, @Wv.Ov, @Wv.ZR, @Wv.ET, @Wv.EU, @Wv.lk, @Wv.Lr, @Wv.ZT, @Wv.ZU, @Wv.Ls, @Wv.ZV, @Wv.ZW, @Wv.ZX, @Wv.ZY, @Wv.Z4, @Wv.Z5, @Wv.Z7, @Wv.Um, @Wv.Z8, @Wv.Un, @Wv.Z9, @Wv.GN, @Wv.aac, @Wv.Uo, @Wv.up, @Wv.Lu, @Wv.LC, @Wv.LD, @Wv.LG, @Wv.afj, @Wv.afk, @Wv.aad, @Wv.afl, @Wv.afm, @Wv.afn, @Wv.EW, @Wv.afo, @Wv.afp⟩
theorem Bi:(type_of% @Wv.aae)∧(type_of% @Wv.aaf)∧(type_of% @Wv.aag)∧(type_of% @Wv.EX)∧(type_of% @Wv.Ur)∧(type_of% @Wv.aah):=⟨@Wv.aae, @Wv.aaf, @Wv.aag, @Wv.EX, @Wv.Ur, @Wv.aah⟩
theorem Bz:(type_of% (Wv.WF0 _ rfl))∧(type_of% (Wv.WF1 _ rfl))∧(type_of% (Wv.WF2 _ rfl))∧(type_of% (Wv.WF3 _ rfl))∧(type_of% (Wv.WF4 _ rfl))∧(type_of% (Wv.WF5 _ rfl))∧(type_of% (Wv.WF6 _ rfl))∧(type_of% (Wv.WF7 _ rfl))∧(type_of% (Wv.WF8 _ rfl))∧(type_of% (Wv.WF9 _ rfl))∧(type_of% (Wv.aip _ rfl))∧(type_of% (Wv.aiq _ rfl))∧(type_of% (Wv.air _ rfl))∧(type_of% (Wv.ais _ rfl))∧(type_of% (Wv.ait _ rfl))∧(type_of% (Wv.aiu _ rfl))∧(type_of% (Wv.aiv _ rfl)):=⟨Wv.WF0 _ rfl,Wv.WF1 _ rfl,Wv.WF2 _ rfl,Wv.WF3 _ rfl,Wv.WF4 _ rfl,Wv.WF5 _ rfl,Wv.WF6 _ rfl,Wv.WF7 _ rfl,Wv.WF8 _ rfl,Wv.WF9 _ rfl,Wv.aip _ rfl,Wv.aiq _ rfl,Wv.air _ rfl,Wv.ais _ rfl,Wv.ait _ rfl,Wv.aiu _ rfl,Wv.aiv _ rfl⟩
theorem Bv:(∀ k z,Value.cells (.int k z)= #[.int k z])∧(∀ b,Value.cells (.bool b)= #[.bool b])∧(∀ s,Value.cells (.string s)= #[.string s])∧(∀ a,Value.cells (.pointer a)= #[.pointer a])∧(∀ a n c,Value.cells (.slice a n c)= #[.slice a n c])∧(∀ r,Value.cells (.map r)= #[.map r])∧(∀ f a c,Value.cells (.func f a c)= #[.func f a c])∧(Value.cells .nilFunc= #[.nilFunc])∧(∀ T v,Value.cells (.iface T v)= #[.iface T v])∧(Value.cells .nilIface= #[.nilIface])∧(∀ l,Value.cells (.agg l)=l)∧(∀ z,fC z=z.cells.toList.map .v)∧(∀ o:Oper,aB o=(o.guard.isNone && match o.op with | .alloc _=>true | _=>false)):=
 ⟨fun _ _=>rfl,fun _=>rfl,fun _=>rfl,fun _=>rfl,fun _ _ _=>rfl,fun _=>rfl,fun _ _ _=>rfl,rfl,fun _ _=>rfl,rfl,fun _=>rfl,fun _=>rfl,fun _=>rfl⟩
theorem Bw:(∀ T s cells z,froze (some (.arr T s cells z))=some (.arr T s cells cells.length))∧(∀ c,froze (some (.blk c))=some (.blk c))∧(∀ c,froze (some (.map c))=some (.map c))∧(froze none=none):=
 ⟨fun _ _ _ _=>rfl,fun _=>rfl,fun _=>rfl,rfl⟩
theorem Bx0:(type_of% @Wv.mY)∧(type_of% @Wv.GL)∧(type_of% @Wv.Sr)∧(type_of% @Wv.qV)∧(type_of% @Wv.qW)∧(type_of% @Wv.uY)∧(type_of% @Wv.Tc)∧(type_of% @Nat.mul_one)∧(type_of% @Nat.zero_add)∧(type_of% @List.size_toArray.{0})∧(type_of% @decide_true)∧(type_of% @List.getElem?_cons_zero.{0})∧(type_of% @List.getElem?_cons_succ.{0})∧(type_of% @List.length_cons.{0})∧(type_of% @List.length_nil.{0})∧(type_of% @List.length_append.{0})∧(type_of% @Option.isNone_none.{0})∧(type_of% @Option.isNone_some.{0})∧(type_of% @Bool.true_and)∧(type_of% @Bool.and_false)∧(type_of% @Bool.false_and):=⟨@Wv.mY, @Wv.GL, @Wv.Sr, @Wv.qV, @Wv.qW, @Wv.uY, @Wv.Tc, @Nat.mul_one, @Nat.zero_add, @List.size_toArray.{0}, @decide_true, @List.getElem?_cons_zero.{0}, @List.getElem?_cons_succ.{0}, @List.length_cons.{0}, @List.length_nil.{0}, @List.length_append.{0}, @Option.isNone_none.{0}, @Option.isNone_some.{0}, @Bool.true_and, @Bool.and_false, @Bool.false_and⟩
theorem Bx:(type_of% Bx0)∧(type_of% Bv):=⟨Bx0,Bv⟩
theorem B:(type_of% Ba)∧(type_of% Bb)∧(type_of% Bc)∧(type_of% Bd)∧(type_of% Be)∧(type_of% Bf)∧(type_of% Bg)∧(type_of% Bh)∧(type_of% Bi)∧(type_of% Bz)∧(type_of% Bv)∧(type_of% Bw)∧(type_of% @Option.some.injEq.{0}):=⟨Ba,Bb,Bc,Bd,Be,Bf,Bg,Bh,Bi,Bz,Bv,Bw, @Option.some.injEq.{0}⟩
theorem BC:(type_of% @implies_true.{0})∧(type_of% @implies_true.{1})∧(type_of% @Wv.afq)∧(type_of% @Wv.LH)∧(type_of% @Wv.aai)∧(type_of% @Wv.afr)∧(type_of% @Wv.afs)∧(type_of% @Wv.Us)∧(type_of% @Wv.aaj)∧(type_of% @Wv.Ut)∧(type_of% @Wv.Uu)∧(type_of% @Wv.LJ)∧(type_of% @Wv.Uw)∧(type_of% @Wv.Ux)∧(type_of% @and_self)∧(type_of% @true_and)∧(type_of% @and_true):=⟨@implies_true.{0}, @implies_true.{1}, @Wv.afq, @Wv.LH, @Wv.aai, @Wv.afr, @Wv.afs, @Wv.Us, @Wv.aaj, @Wv.Ut, @Wv.Uu, @Wv.LJ, @Wv.Uw, @Wv.Ux, @and_self, @true_and, @and_true⟩
theorem BK:(∀ ks,base ks=kOf ks 1000000)∧(∀ d,kOf [] d=0)∧(∀ i k r d,kOf ((i,k)::r) d=if i=d then k else kOf r d)∧(type_of% BC)∧(type_of% @Wv.aal)∧(type_of% @Wv.aam)∧(type_of% @Wv.afu)∧(type_of% @Wv.afv)∧(type_of% @Wv.afx)∧(type_of% @Wv.aao)∧(type_of% @Wv.afy)∧(type_of% @Wv.UH)∧(type_of% @Wv.UG)∧(type_of% @Wv.aij)∧(type_of% @Wv.Uy)∧(type_of% @Wv.afw)∧(type_of% @Wv.aik)∧(type_of% @Wv.ail)∧(type_of% @Wv.aan)∧(type_of% @Wv.Uz)∧(type_of% @Wv.LK)∧(type_of% @Wv.UA)∧(type_of% @Wv.LM)∧(type_of% @Wv.UC)∧(type_of% @Wv.UD)∧(type_of% @Wv.LP)∧(type_of% @Wv.UE)∧(type_of% @Wv.UF):=⟨fun _=>rfl,fun _=>rfl,fun _ _ _ _=>rfl,BC, @Wv.aal, @Wv.aam, @Wv.afu, @Wv.afv, @Wv.afx, @Wv.aao, @Wv.afy, @Wv.UH, @Wv.UG, @Wv.aij, @Wv.Uy, @Wv.afw, @Wv.aik, @Wv.ail, @Wv.aan, @Wv.Uz, @Wv.LK, @Wv.UA, @Wv.LM, @Wv.UC, @Wv.UD, @Wv.LP, @Wv.UE, @Wv.UF⟩
theorem BL:(type_of% @BK)∧(type_of% @List.take_zero.{0})∧(type_of% @List.take_succ_cons.{0})∧(type_of% @List.take_nil.{0})∧(type_of% @Nat.zero_lt_succ)∧(type_of% @Nat.lt_add_one)∧(type_of% @Nat.lt_one_iff)∧(type_of% @Nat.one_lt_two):=⟨@BK, @List.take_zero.{0}, @List.take_succ_cons.{0}, @List.take_nil.{0}, @Nat.zero_lt_succ, @Nat.lt_add_one, @Nat.lt_one_iff, @Nat.one_lt_two⟩
variable {p:Prop}
theorem D (h:p:=by first | omega | assumption | (simp only [Wv.Bx,simprocAttr]<;>omega) | fail):p:=h
theorem V (h:p:=by simp (maxSteps:=2000000) (disch:=first|exact Wv.D|fail) only [Wv.B,simprocAttr]):p:=h
theorem V2 (h:p:=by simp (maxSteps:=2000000) (disch:=first|exact Wv.D|fail) only [Wv.B,simprocAttr,Int.natCast_add,Int.natCast_one]):p:=h
theorem W {P Q:Prop} (h:Q) (e:P=Q:=by simp (maxSteps:=2000000) (disch:=first|exact Wv.D|fail) only [Wv.B,simprocAttr]<;>rfl):P:=e▸h
theorem c (h:p:=by simp only [Wv.BC]):p:=h
end
end Go.Proofs.YtljfgdlgmdcmfaaGreat.Wv
namespace Go.Proofs.YtljfgdlgmdcmfaaGreat
section
open Go.RowKit Wv
def wQ (c:Int):Bool:=(decide (97≤c) && decide (c≤122)) || (decide (65≤c) && decide (c≤90))
def Oy (c:Int):Bool:=decide (48≤c) && decide (c≤57)
def orP (c:Int):Int:=IntKind.u8.wrap (BitVec.ofInt IntKind.u8.bits c ||| BitVec.ofInt IntKind.u8.bits 32).toNat
theorem acV: ∀ n:Fin 256,(decide (97≤orP n.val) && decide (orP n.val≤122))=wQ n.val:=by decide+kernel
theorem ajN (c:Int) (h0:0≤c) (h1:c<256):(decide (97≤orP c) && decide (orP c≤122))=wQ c:=by
 have:=acV ⟨c.toNat,by omega⟩
 simp only [Int.toNat_of_nonneg h0] at this
 exact this
theorem BJ (c:Int) (h0:0≤c) (h1:c<256):TC Tryz.prog 152 [.v (.int .u8 c)] (.v (.bool (wQ c))):=by
 have hl:=ajN c h0 h1
 unfold orP at hl
 refine Wv.TC.by 11 [0,2] [] [.tmp 2] Tryz.func152 rfl rfl rfl ?clo ?_
 case clo=>simp only [Wv.BC]
 by_cases hq:(97:Int)≤IntKind.u8.wrap (BitVec.ofInt IntKind.u8.bits c ||| BitVec.ofInt IntKind.u8.bits 32).toNat
 ·rw [decide_eq_true hq,Bool.true_and] at hl
  simp (disch:=first|exact Wv.D|fail) only [Wv.B,simprocAttr,hl]
 ·rw [decide_eq_false hq,Bool.false_and] at hl
  simp (disch:=first|exact Wv.D|fail) only [Wv.B,simprocAttr, ←hl]
theorem V8 (c:Int):TC Tryz.prog 154 [.v (.int .u8 c)] (.v (.bool (Oy c))):=by
 refine Wv.TC.by 9 [0,2] [] [.tmp 2] Tryz.func154 rfl rfl rfl ?clo ?_
 case clo=>simp only [Wv.BC]
 unfold Oy
 by_cases hq:48≤c
 ·simp (disch:=first|exact Wv.D|fail) only [Wv.B,simprocAttr,decide_eq_true hq]
 ·simp (disch:=first|exact Wv.D|fail) only [Wv.B,simprocAttr,decide_eq_false hq]
theorem BM (c:Int):TC Tryz.prog 173 [.v (.int .u8 c)] (.v (.bool (wQ c))):=by
 refine Wv.TC.by 17 [0,2] [] [.tmp 2] Tryz.func173 rfl rfl rfl ?clo ?_
 case clo=>simp only [Wv.BC]
 unfold wQ
 cases h1:decide (97≤c)<;>cases h2:decide (c≤122)<;>cases h3:decide (65≤c)<;>cases h4:decide (c≤90)<;>simp (disch:=first|exact Wv.D|fail) only [Wv.B,simprocAttr,h1,h2,h3,h4,Bool.true_or,Bool.false_or,Bool.or_false,Bool.or_true,Bool.and_false]
theorem V9 (c:Int):TC Tryz.prog 176 [.v (.int .u8 c)] (.v (.bool (Oy c))):=by
 refine Wv.TC.by 9 [0,2] [] [.tmp 2] Tryz.func176 rfl rfl rfl ?clo ?_
 case clo=>simp only [Wv.BC]
 unfold Oy
 by_cases hq:48≤c
 ·simp (disch:=first|exact Wv.D|fail) only [Wv.B,simprocAttr,decide_eq_true hq]
 ·simp (disch:=first|exact Wv.D|fail) only [Wv.B,simprocAttr,decide_eq_false hq]
end
section
open Go.RowKit Wv
def bn (n:Nat) (f:Nat→ByteArray):AV:= .t n 1 (tab n fun i=> .v (.string (f i)))
theorem jL (n:Nat) (f:Nat→ByteArray):Clo (bn n f):=by unfold bn;simp only [Wv.BC]
theorem Wh (n:Nat) (f:Nat→ByteArray) (s:ByteArray) (hn:n≤140737488351232):TC Tryz.prog 209 [bn n f, .v (.string s)] (.v (.int .i64 (ql (findF (fun i=>decide (s=f i)) n)))):=by
 unfold bn
 refine Wv.TC.by 19 [0,8,7,9,1,5,16,4] [] [.tmp 4] Tryz.func209 rfl rfl rfl ?clo ?_
 case clo=>simp only [Wv.BC]
 refine Wv.W ?_
 refine dQ (σ:=Nat) (fun i=>[(0,bn n f),(1, .v (.string s)),(7, .v (.int .i64 n)),(8, .v (.int .i64 i))]) (fun i=>[])
  (fun i=>i≤n∧ ∀ j,j<i→decide (s=f j)=false) (fun i=>n - i) 0 ⟨Nat.zero_le _,fun j hj=>by omega⟩ Wv.V (by simp (disch:=first|exact Wv.D|fail) only [Wv.B,simprocAttr,bn]) ?_
 rintro i ⟨hi,hb⟩
 unfold bn
 by_cases hlt:i<n
 ·have e1:(i:Int)<n:=by omega
  cases hq:decide (s=f i) with
  | true=>
   have hf:=iF (p:=fun i=>decide (s=f i)) hlt hq hb
   simp (disch:=first|exact Wv.D|fail) only [Wv.B,simprocAttr,hq,hf,ql]
  | false=>
   simp (disch:=first|exact Wv.D|fail) only [Wv.B,simprocAttr,hq]
   refine aH (i+1) ⟨by omega,fun j hj=>?_⟩ (by omega) Wv.V Wv.V2
   by_cases e:j=i
   ·subst e;exact hq
   ·exact hb j (by omega)
 ·have hin:i=n:=by omega
  subst hin
  have hf:=gu (p:=fun i=>decide (s=f i)) hb
  simp (disch:=first|exact Wv.D|fail) only [Wv.B,simprocAttr,hf,ql]
theorem vg (n:Nat) (f:Nat→ByteArray) (s:ByteArray) (hn:n≤140737488351232):TC Tryz.prog 153 [bn n f, .v (.string s)] (.v (.bool (bg n fun i=>decide (s=f i)))):=by
 refine Wv.TC.by 9 [0,1,4] [] [.tmp 4] Tryz.func153 rfl rfl rfl ?clo ?_
 case clo=>simp only [Wv.BC]
 refine Wv.W ?_
 refine ah (Wh n f s hn) rfl (by simp only [Wv.BC,jL]) Wv.c ?_
 simp (disch:=first|exact Wv.D|fail) only [Wv.B,simprocAttr,qm]
theorem Oz {h:Hp} (n:Nat) (f:Nat→ByteArray) (p:Nat→Bool) (fid:FuncId) (fst cap:List AV) (hn:n≤140737488351232) (hp: ∀ i,i<n→HT Tryz.prog fid (fst++[.v (.string (f i))]++cap) h (fun r h'=>r= .v (.bool (p i))∧h'=h)):
  HT Tryz.prog 155 [bn n f, .fn (.func fid) fst cap] h (fun r h'=>r= .v (.int .i64 (ql (findF p n)))∧h'=h):=by
 unfold bn
 refine Wv.HT.by 19 [0,8,7,9,1,5,16,4] [(1000000,h.length)] [.tmp 4] Tryz.func155 rfl rfl rfl ?base ?_
 case base=>rfl
 refine Wv.W ?_
 refine dQ (σ:=Nat) (fun i=>[(0,bn n f),(1, .fn (.func fid) fst cap),(7, .v (.int .i64 n)),(8, .v (.int .i64 i))]) (fun i=>h)
  (fun i=>i≤n∧ ∀ j,j<i→p j=false) (fun i=>n - i) 0 ⟨Nat.zero_le _,fun j hj=>by omega⟩ rfl (by simp (disch:=first|exact Wv.D|fail) only [Wv.B,simprocAttr,bn]) ?_
 rintro i ⟨hi,hb⟩
 unfold bn
 by_cases hlt:i<n
 ·have e1:(i:Int)<n:=by omega
  refine Wv.W ?_
  refine dF (hp i hlt) ?_
  rintro av h' ⟨rfl,rfl⟩
  cases hq:p i with
  | true=>
   have hf:=iF hlt hq hb
   simp (disch:=first|exact Wv.D|fail) only [Wv.B,simprocAttr,hq,hf,ql]
  | false=>
   simp (disch:=first|exact Wv.D|fail) only [Wv.B,simprocAttr,hq]
   refine aH (i+1) ⟨by omega,fun j hj=>?_⟩ (by omega) rfl Wv.V2
   by_cases e:j=i
   ·subst e;exact hq
   ·exact hb j (by omega)
 ·have hin:i=n:=by omega
  subst hin
  have hf:=gu hb
  simp (disch:=first|exact Wv.D|fail) only [Wv.B,simprocAttr,hf,ql]
end
section
open Go.RowKit Wv
variable {h:Hp}
theorem OA (n:Nat) (f:Nat→Int) (p:Nat→Bool) (fid:FuncId) (fst cap:List AV) (hn:n≤140737488351232) (hp: ∀ i,i<n→HT Tryz.prog fid (fst++[.v (.int .i64 (f i))]++cap) h (fun r h'=>r= .v (.bool (p i))∧h'=h)):
  HT Tryz.prog 210 [.t n 1 (tab n fun i=> .v (.int .i64 (f i))), .fn (.func fid) fst cap] h (fun r h'=>r= .v (.int .i64 (ql (findF p n)))∧h'=h):=by
 refine Wv.HT.by 19 [0,8,7,9,1,5,16,4] [(1000000,h.length)] [.tmp 4] Tryz.func210 rfl rfl rfl ?base ?_
 case base=>rfl
 refine Wv.W ?_
 refine dQ (σ:=Nat) (fun i=>[(0, .t n 1 (tab n fun i=> .v (.int .i64 (f i)))),(1, .fn (.func fid) fst cap),(7, .v (.int .i64 n)),(8, .v (.int .i64 i))]) (fun i=>h)
  (fun i=>i≤n∧ ∀ j,j<i→p j=false) (fun i=>n - i) 0 ⟨Nat.zero_le _,fun j hj=>by omega⟩ rfl Wv.V ?_
 rintro i ⟨hi,hb⟩
 by_cases hlt:i<n
 ·have e1:(i:Int)<n:=by omega
  refine Wv.W ?_
  refine dF (hp i hlt) ?_
  rintro av h' ⟨rfl,rfl⟩
  cases hq:p i with
  | true=>
   have hf:=iF hlt hq hb
   simp (disch:=first|exact Wv.D|fail) only [Wv.B,simprocAttr,hq,hf,ql]
  | false=>
   simp (disch:=first|exact Wv.D|fail) only [Wv.B,simprocAttr,hq]
   refine aH (i+1) ⟨by omega,fun j hj=>?_⟩ (by omega) rfl Wv.V2
   by_cases e:j=i
   ·subst e;exact hq
   ·exact hb j (by omega)
 ·have hin:i=n:=by omega
  subst hin
  have hf:=gu hb
  simp (disch:=first|exact Wv.D|fail) only [Wv.B,simprocAttr,hf,ql]
theorem wR (n:Nat) (f:Nat→Int) (p:Nat→Bool) (fid:FuncId) (fst cap:List AV) (hn:n≤140737488351232) (hp: ∀ i,i<n→HT Tryz.prog fid (fst++[.v (.int .i64 (f i))]++cap) h (fun r h'=>r= .v (.bool (p i))∧h'=h)):
  HT Tryz.prog 159 [.t n 1 (tab n fun i=> .v (.int .i64 (f i))), .fn (.func fid) fst cap] h (fun r h'=>r= .v (.bool (bg n p))∧h'=h):=by
 refine Wv.HT.by 9 [0,1,4] [(1000000,h.length)] [.tmp 4] Tryz.func159 rfl rfl rfl ?base ?_
 case base=>rfl
 refine Wv.W ?_
 refine dF (fst:=[]) (cap:=[]) (OA n f p fid fst cap hn hp) ?_
 rintro av h' ⟨rfl,rfl⟩
 simp (disch:=first|exact Wv.D|fail) only [Wv.B,simprocAttr,qm]
theorem OB (n:Nat) (cells:List AV) (ec:Nat→List AV) (hl:cells.length=n*5) (hel: ∀ i,i<n→List.take 5 (List.drop (i*5) cells)=ec i) (p:Nat→Bool) (fid:FuncId) (fst cap:List AV) (hn:n≤140737488351232) (hp: ∀ i,i<n→HT Tryz.prog fid (fst++[.g (ec i)]++cap) h (fun r h'=>r= .v (.bool (p i))∧h'=h)):
  HT Tryz.prog 211 [.t n 5 cells, .fn (.func fid) fst cap] h (fun r h'=>r= .v (.int .i64 (ql (findF p n)))∧h'=h):=by
 refine Wv.HT.by 19 [0,8,7,9,1,5,16,4] [(1000000,h.length)] [.tmp 4] Tryz.func211 rfl rfl rfl ?base ?_
 case base=>rfl
 refine Wv.W ?_
 refine dQ (σ:=Nat) (fun i=>[(0, .t n 5 cells),(1, .fn (.func fid) fst cap),(7, .v (.int .i64 n)),(8, .v (.int .i64 i))]) (fun i=>h)
  (fun i=>i≤n∧ ∀ j,j<i→p j=false) (fun i=>n - i) 0 ⟨Nat.zero_le _,fun j hj=>by omega⟩ rfl Wv.V ?_
 rintro i ⟨hi,hb⟩
 by_cases hlt:i<n
 ·have e1:(i:Int)<n:=by omega
  have hi2:=hel i hlt
  have hlen:5≤(List.drop (i*5) cells).length:=by rw [List.length_drop,hl];omega
  simp (disch:=first|exact Wv.D|fail) only [Wv.B,simprocAttr,hi2]
  refine dF (hp i hlt) ?_
  rintro av h' ⟨rfl,rfl⟩
  cases hq:p i with
  | true=>
   have hf:=iF hlt hq hb
   simp (disch:=first|exact Wv.D|fail) only [Wv.B,simprocAttr,hq,hf,ql]
  | false=>
   simp (disch:=first|exact Wv.D|fail) only [Wv.B,simprocAttr,hq]
   refine aH (i+1) ⟨by omega,fun j hj=>?_⟩ (by omega) rfl Wv.V2
   by_cases e:j=i
   ·subst e;exact hq
   ·exact hb j (by omega)
 ·have hin:i=n:=by omega
  subst hin
  have hf:=gu hb
  simp (disch:=first|exact Wv.D|fail) only [Wv.B,simprocAttr,hf,ql]
theorem Wi (n:Nat) (cells:List AV) (ec:Nat→List AV) (hl:cells.length=n*5) (hel: ∀ i,i<n→List.take 5 (List.drop (i*5) cells)=ec i) (p:Nat→Bool) (fid:FuncId) (fst cap:List AV) (hn:n≤140737488351232) (hp: ∀ i,i<n→HT Tryz.prog fid (fst++[.g (ec i)]++cap) h (fun r h'=>r= .v (.bool (p i))∧h'=h)):
  HT Tryz.prog 161 [.t n 5 cells, .fn (.func fid) fst cap] h (fun r h'=>r= .v (.bool (bg n p))∧h'=h):=by
 refine Wv.HT.by 9 [0,1,4] [(1000000,h.length)] [.tmp 4] Tryz.func161 rfl rfl rfl ?base ?_
 case base=>rfl
 refine Wv.W ?_
 refine dF (fst:=[]) (cap:=[]) (OB n cells ec hl hel p fid fst cap hn hp) ?_
 rintro av h' ⟨rfl,rfl⟩
 simp (disch:=first|exact Wv.D|fail) only [Wv.B,simprocAttr,qm]
theorem OC (n:Nat) (cells:List AV) (ec:Nat→List AV) (hl:cells.length=n*6) (hel: ∀ i,i<n→List.take 6 (List.drop (i*6) cells)=ec i) (p:Nat→Bool) (fid:FuncId) (fst cap:List AV) (hn:n≤140737488351232) (hp: ∀ i,i<n→HT Tryz.prog fid (fst++[.g (ec i)]++cap) h (fun r h'=>r= .v (.bool (p i))∧h'=h)):
  HT Tryz.prog 156 [.t n 6 cells, .fn (.func fid) fst cap] h (fun r h'=>r= .v (.int .i64 (ql (findF p n)))∧h'=h):=by
 refine Wv.HT.by 19 [0,8,7,9,1,5,16,4] [(1000000,h.length)] [.tmp 4] Tryz.func156 rfl rfl rfl ?base ?_
 case base=>rfl
 refine Wv.W ?_
 refine dQ (σ:=Nat) (fun i=>[(0, .t n 6 cells),(1, .fn (.func fid) fst cap),(7, .v (.int .i64 n)),(8, .v (.int .i64 i))]) (fun i=>h)
  (fun i=>i≤n∧ ∀ j,j<i→p j=false) (fun i=>n - i) 0 ⟨Nat.zero_le _,fun j hj=>by omega⟩ rfl Wv.V ?_
 rintro i ⟨hi,hb⟩
 by_cases hlt:i<n
 ·have e1:(i:Int)<n:=by omega
  have hi2:=hel i hlt
  have hlen:6≤(List.drop (i*6) cells).length:=by rw [List.length_drop,hl];omega
  simp (disch:=first|exact Wv.D|fail) only [Wv.B,simprocAttr,hi2]
  refine dF (hp i hlt) ?_
  rintro av h' ⟨rfl,rfl⟩
  cases hq:p i with
  | true=>
   have hf:=iF hlt hq hb
   simp (disch:=first|exact Wv.D|fail) only [Wv.B,simprocAttr,hq,hf,ql]
  | false=>
   simp (disch:=first|exact Wv.D|fail) only [Wv.B,simprocAttr,hq]
   refine aH (i+1) ⟨by omega,fun j hj=>?_⟩ (by omega) rfl Wv.V2
   by_cases e:j=i
   ·subst e;exact hq
   ·exact hb j (by omega)
 ·have hin:i=n:=by omega
  subst hin
  have hf:=gu hb
  simp (disch:=first|exact Wv.D|fail) only [Wv.B,simprocAttr,hf,ql]
theorem Wj (n:Nat) (cells:List AV) (ec:Nat→List AV) (hl:cells.length=n*6) (hel: ∀ i,i<n→List.take 6 (List.drop (i*6) cells)=ec i) (p:Nat→Bool) (fid:FuncId) (fst cap:List AV) (hn:n≤140737488351232) (hp: ∀ i,i<n→HT Tryz.prog fid (fst++[.g (ec i)]++cap) h (fun r h'=>r= .v (.bool (p i))∧h'=h)):
  HT Tryz.prog 106 [.t n 6 cells, .fn (.func fid) fst cap] h (fun r h'=>r= .v (.bool (bg n p))∧h'=h):=by
 refine Wv.HT.by 9 [0,1,4] [(1000000,h.length)] [.tmp 4] Tryz.func106 rfl rfl rfl ?base ?_
 case base=>rfl
 refine Wv.W ?_
 refine dF (fst:=[]) (cap:=[]) (OC n cells ec hl hel p fid fst cap hn hp) ?_
 rintro av h' ⟨rfl,rfl⟩
 simp (disch:=first|exact Wv.D|fail) only [Wv.B,simprocAttr,qm]
theorem EZ (n:Nat) (f:Nat→ByteArray) (p:Nat→Bool) (fid:FuncId) (fst cap:List AV) (hn:n≤140737488351232) (hp: ∀ i,i<n→HT Tryz.prog fid (fst++[.v (.string (f i))]++cap) h (fun r h'=>r= .v (.bool (p i))∧h'=h)):
  HT Tryz.prog 104 [bn n f, .fn (.func fid) fst cap] h (fun r h'=>r= .v (.bool (bg n p))∧h'=h):=by
 unfold bn
 refine Wv.HT.by 9 [0,1,4] [(1000000,h.length)] [.tmp 4] Tryz.func104 rfl rfl rfl ?base ?_
 case base=>rfl
 refine Wv.W ?_
 refine dF (fst:=[]) (cap:=[]) (Oz n f p fid fst cap hn hp) ?_
 rintro av h' ⟨rfl,rfl⟩
 simp (disch:=first|exact Wv.D|fail) only [Wv.B,simprocAttr,qm]
end
section
open Go.RowKit Wv
def byt (b:ByteArray) (i:Nat):Int:=((b[i]?).map fun c=>(c.toNat:Int)).getD 0
theorem GV {b:ByteArray} {i:Nat} (h:i<b.size): ∃ c:UInt8,b[i]? =some c∧(c.toNat:Int)=byt b i:=by
 refine ⟨b[i],getElem?_pos b i h,?_⟩
 unfold byt
 rw [getElem?_pos b i h];rfl
theorem aap (b:ByteArray) (i:Nat):0≤byt b i∧byt b i<256:=by
 unfold byt
 cases b[i]? with
 | none=>exact ⟨Int.le_refl 0,by decide⟩
 | some c=>
  have h:c.toNat<256:=c.toNat_lt
  show 0≤((c.toNat:Nat):Int)∧((c.toNat:Nat):Int)<256
  exact ⟨Int.natCast_nonneg _,Int.ofNat_lt.2 h⟩
theorem aaq (b:ByteArray):Gw b=tab b.size fun i=> .v (.int .u8 (byt b i)):=by
 apply List.ext_getElem
 ·unfold Gw tab
  rw [List.length_map,List.length_map,List.length_range]
  rfl
 ·intro i h1 h2
  have hi:i<b.size:=by simpa [Gw] using h1
  obtain ⟨c,hc,hb⟩:=GV hi
  have hc':b.data[i]'hi=c:=by
   rw [getElem?_pos b i hi] at hc
   exact Option.some.inj hc
  simp [Gw,tab, ←hb,hc']
def w4 (i:Nat):ByteArray:=match i with | 0=>⟨#[99,105,114,99,117,105,116]⟩ | 1=>⟨#[105,110,112,117,116]⟩ | 2=>⟨#[108,101,116]⟩ | _=>⟨#[111,117,116,112,117,116]⟩
def w8 (i:Nat):ByteArray:=match i with | 0=>⟨#[114,111,116]⟩ | 1=>⟨#[115,119,97,112]⟩ | 2=>⟨#[109,97,115,107]⟩ | 3=>⟨#[116,97,98,108,101]⟩ | 4=>⟨#[101,113]⟩ | 5=>⟨#[108,101,115,115]⟩ | 6=>⟨#[112,111,119]⟩ | _=>⟨#[115,117,109]⟩
def w16 (i:Nat):ByteArray:=if i<8 then ⟨#[]⟩ else w8 (i - 8)
def w12 (i:Nat):ByteArray:=if i<4 then w4 i else w8 (i - 4)
def ku (s:ByteArray) (i:Nat):Bool:=wQ (byt s i) || (Oy (byt s i) || decide (byt s i=95))
def nameB (s:ByteArray):Bool:=!(decide (s=⟨#[]⟩) || (decide (16<s.size) || (!wQ (byt s 0) || (bg 4 (fun i=>decide (s=w4 i)) || bg 16 (fun i=>decide (s=w16 i)))))) && !bg s.size fun i=>!ku s i
theorem OD (s:ByteArray) (h:s≠⟨#[]⟩):(bg 4 (fun i=>decide (s=w4 i)) || bg 16 (fun i=>decide (s=w16 i)))=bg 12 (fun i=>decide (s=w12 i)):=by
 simp [bg,List.range,List.range.loop,w16,w12,h,Bool.or_assoc]
theorem acW:(Tryz.prog.underlying 9).isSome=true:=by kernel_rfl
theorem aar:TC Tryz.prog 151 [] (.g [.v (.string ⟨#[]⟩), .v (.string ⟨#[]⟩), .v (.string ⟨#[]⟩), .v (.string ⟨#[]⟩), .v (.string ⟨#[]⟩), .v (.string ⟨#[]⟩), .v (.string ⟨#[]⟩), .v (.string ⟨#[]⟩), .v (.string ⟨#[114,111,116]⟩), .v (.string ⟨#[115,119,97,112]⟩), .v (.string ⟨#[109,97,115,107]⟩), .v (.string ⟨#[116,97,98,108,101]⟩), .v (.string ⟨#[101,113]⟩), .v (.string ⟨#[108,101,115,115]⟩), .v (.string ⟨#[112,111,119]⟩), .v (.string ⟨#[115,117,109]⟩)]):=by
 refine Wv.TC.by 2 [0] [] [.cell 0 191] Tryz.func151 rfl rfl rfl ?clo ?_
 case clo=>simp only [Wv.BC]
 exact Wv.V
theorem LV (s:ByteArray) (hs:s.size≤140737488351232):TC Tryz.prog 103 [.v (.string s)] (.v (.bool (nameB s))):=by
 refine Wv.TC.by 50 [0,3,29,33,32,34,31,5,48,2] [] [.tmp 2] Tryz.func103 rfl rfl rfl ?clo ?_
 case clo=>simp only [Wv.BC]
 refine Wv.W ?_
 refine ah aar rfl Wv.c Wv.c ?_
 have hN:nameB s=(!(decide (s=⟨#[]⟩) || (decide (16<s.size) || (!wQ (byt s 0) || (bg 4 (fun i=>decide (s=w4 i)) || bg 16 (fun i=>decide (s=w16 i)))))) && !bg s.size fun i=>!ku s i):=rfl
 cases h1:decide (s=⟨#[]⟩) with
 | true=>
  rw [h1,Bool.true_or,Bool.not_true,Bool.false_and] at hN
  simp (disch:=first|exact Wv.D|fail) only [Wv.B,simprocAttr,h1,hN]
 | false=>
  cases h2:decide (16<s.size) with
  | true=>
   have h2':(16:Int)<s.size:=by have:=of_decide_eq_true h2;omega
   rw [h1,h2,Bool.false_or,Bool.true_or,Bool.not_true,Bool.false_and] at hN
   simp (disch:=first|exact Wv.D|fail) only [Wv.B,simprocAttr,h1,h2,decide_eq_true h2',hN]
  | false=>
   have h2': ¬ (16:Int)<s.size:=by have:=of_decide_eq_false h2;omega
   have hsz:s.size≠0:=fun e=>of_decide_eq_false h1 (by cases s with | mk d=>simp [ByteArray.size] at e;rw [e])
   obtain ⟨c,hc,hb⟩:=GV (b:=s) (i:=0) (by omega)
   have hg:=aap s 0
   simp (disch:=first|exact Wv.D|fail) only [Wv.B,simprocAttr,h1,h2,decide_eq_false h2',hc,hb]
   refine ah (BJ (byt s 0) hg.1 hg.2) rfl Wv.c Wv.c ?_
   cases h3:wQ (byt s 0) with
   | false=>
    rw [h1,h2,h3,Bool.false_or,Bool.false_or,Bool.not_false,Bool.true_or,Bool.not_true,Bool.false_and] at hN
    simp (disch:=first|exact Wv.D|fail) only [Wv.B,simprocAttr,hN]
   | true=>
    refine Wv.W ?_
    refine ah (vg 4 w4 s (by omega)) rfl (by simp only [Wv.BC,jL]) Wv.c ?_
    cases h4:bg 4 (fun i=>decide (s=w4 i)) with
    | true=>
     rw [h1,h2,h3,h4,Bool.false_or,Bool.false_or,Bool.not_true,Bool.false_or,Bool.true_or,Bool.not_true,Bool.false_and] at hN
     simp (disch:=first|exact Wv.D|fail) only [Wv.B,simprocAttr,hN]
    | false=>
     refine Wv.W ?_
     refine ah (vg 16 w16 s (by omega)) rfl (by simp only [Wv.BC,jL]) Wv.c ?_
     cases h5:bg 16 (fun i=>decide (s=w16 i)) with
     | true=>
      rw [h1,h2,h3,h4,h5,Bool.false_or,Bool.false_or,Bool.not_true,Bool.false_or,Bool.false_or,Bool.not_true,Bool.false_and] at hN
      simp (disch:=first|exact Wv.D|fail) only [Wv.B,simprocAttr,hN]
     | false=>
      rw [h1,h2,h3,h4,h5,Bool.false_or,Bool.false_or,Bool.not_true,Bool.false_or,Bool.false_or,Bool.not_false,Bool.true_and] at hN
      clear h1 h2 h3 h4 h5 hc hb hg
      simp (disch:=first|exact Wv.D|fail) only [Wv.B,simprocAttr,Wv.Ov acW hs,aaq]
      refine dQ (σ:=Nat) (fun i=>[(0, .v (.string s)),(31, .t s.size 1 (tab s.size fun i=> .v (.int .u8 (byt s i)))),(32, .v (.int .i64 s.size)),(33, .v (.int .i64 i))]) (fun i=>[none,some (.arr 9 1 [.v (.string ⟨#[99,105,114,99,117,105,116]⟩), .v (.string ⟨#[105,110,112,117,116]⟩), .v (.string ⟨#[108,101,116]⟩), .v (.string ⟨#[111,117,116,112,117,116]⟩)] 4)])
       (fun i=>i≤s.size∧ ∀ j,j<i→ku s j=true) (fun i=>s.size - i) 0 ⟨Nat.zero_le _,fun j hj=>by omega⟩ Wv.V Wv.V ?_
      rintro i ⟨hi,hj⟩
      by_cases hlt:i<s.size
      ·have e1:(i:Int)<s.size:=by omega
       have hg:=aap s i
       refine Wv.W ?_
       refine ah (BJ (byt s i) hg.1 hg.2) rfl Wv.c Wv.c ?_
       cases h3:wQ (byt s i) with
       | true=>
        refine Wv.W ?_
        refine aH (i+1) ⟨by omega,fun j q=>?_⟩ (by omega) Wv.V Wv.V2
        by_cases e:j=i
        ·subst e;unfold ku;rw [h3];rfl
        ·exact hj j (by omega)
       | false=>
        refine Wv.W ?_
        refine ah (V8 (byt s i)) rfl Wv.c Wv.c ?_
        cases h4:Oy (byt s i) with
        | true=>
         refine Wv.W ?_
         refine aH (i+1) ⟨by omega,fun j q=>?_⟩ (by omega) Wv.V Wv.V2
         by_cases e:j=i
         ·subst e;unfold ku;rw [h3,h4];rfl
         ·exact hj j (by omega)
        | false=>
         cases h5:decide (byt s i=95) with
         | true=>
          simp (disch:=first|exact Wv.D|fail) only [Wv.B,simprocAttr,h5]
          refine aH (i+1) ⟨by omega,fun j q=>?_⟩ (by omega) Wv.V Wv.V2
          by_cases e:j=i
          ·subst e;unfold ku;rw [h3,h4,h5];rfl
          ·exact hj j (by omega)
         | false=>
          have:nameB s=false:=by
           rw [hN]
           have:bg s.size (fun i=>!ku s i)=true:=by
            unfold bg
            refine List.any_eq_true.2 ⟨i,List.mem_range.2 hlt,?_⟩
            unfold ku;rw [h3,h4,h5];rfl
           rw [this];rfl
          simp (disch:=first|exact Wv.D|fail) only [Wv.B,simprocAttr,h5,this]
      ·have hin:i=s.size:=by omega
       subst hin
       have:nameB s=true:=by
        rw [hN]
        have:bg s.size (fun i=>!ku s i)=false:=by
         unfold bg
         refine List.any_eq_false.2 fun i hi=>?_
         rw [hj i (List.mem_range.1 hi)];decide
        rw [this];rfl
       simp (disch:=first|exact Wv.D|fail) only [Wv.B,simprocAttr,this]
end
section
open Go.RowKit Wv
inductive Ex where
 | nil
 | mk (k:Int) (s:ByteArray) (n:Int) (nl:Nat) (li:Nat→Int) (na:Nat) (ar:Nat→Ex)
def bT (n:Nat) (f:Nat→List AV):List AV:=(List.range n).flatMap f
theorem qY (n:Nat) (f:Nat→List AV):bT (n+1) f=bT n f++f n:=by
 unfold bT
 rw [List.range_succ,List.flatMap_append]
 simp
theorem nM {m:Nat}: ∀ {n:Nat} {f:Nat→List AV},(∀ i,(f i).length=m)→(bT n f).length=n*m
 | 0,f,h=>by simp [bT]
 | n+1,f,h=>by rw [qY,List.length_append,nM h,h n,Nat.add_mul,Nat.one_mul]
theorem zB {m:Nat}: ∀ {n:Nat} {f:Nat→List AV},(∀ i,(f i).length=m)→ ∀ i,i<n→List.take m (List.drop (i*m) (bT n f))=f i
 | 0,f,h,i,hi=>by omega
 | n+1,f,h,i,hi=>by
  rw [qY]
  have hl:=nM (n:=n) h
  by_cases e:i=n
  ·subst e
   rw [←hl,List.drop_left, ←h i,List.take_length]
  ·have hi':i<n:=by omega
   have:i*m+m≤n*m:=by rw [←Nat.succ_mul];exact Nat.mul_le_mul_right _ (by omega)
   rw [List.drop_append_of_le_length (by omega),List.take_append_of_le_length (by rw [List.length_drop];omega)]
   exact zB h i hi'
theorem bP {m n:Nat} {f:Nat→List AV} (h: ∀ i,(f i).length=m) {i:Nat} (hi:i<n): ∃ r,List.drop (i*m) (bT n f)=f i++r:=by
 refine ⟨List.drop m (List.drop (i*m) (bT n f)),?_⟩
 have:=zB h i hi
 rw [←this]
 exact (List.take_append_drop m _).symm
theorem dG {n:Nat} {f:Nat→List AV} (h: ∀ i,i<n→ ∀ a,a∈f i→Clo a): ∀ a,a∈bT n f→Clo a:=by
 intro a ha
 unfold bT at ha
 obtain ⟨i,h1,h2⟩:=List.mem_flatMap.1 ha
 exact h i (List.mem_range.1 h1) a h2
theorem dW {a:AV} (h1:Clo a): ∀ x,x∈[a]→Clo x:=by simp only [Wv.BC];exact h1
def Ex.kind:Ex→Int
 | .nil=>0
 | .mk k .. =>k
def exC:Ex→List AV
 | .nil=>[.v (.int .i64 0), .v (.string ⟨#[]⟩), .v (.int .i64 0), .t 0 1 [], .t 0 5 []]
 | .mk k s n nl li na ar=>[.v (.int .i64 k), .v (.string s), .v (.int .i64 n), .t nl 1 (tab nl fun i=> .v (.int .i64 (li i))), .t na 5 (bT na fun i=>exC (ar i))]
theorem dA (k:Int) (s:ByteArray) (n:Int) (nl:Nat) (li:Nat→Int) (na:Nat) (ar:Nat→Ex):exC (.mk k s n nl li na ar)=[.v (.int .i64 k), .v (.string s), .v (.int .i64 n), .t nl 1 (tab nl fun i=> .v (.int .i64 (li i))), .t na 5 (bT na fun i=>exC (ar i))]:=rfl
theorem iC (x:Ex):(exC x).length=5:=by cases x<;>rfl
theorem eF: ∀ (x:Ex) a,a∈exC x→Clo a:=by
 intro x
 induction x with
 | nil=>unfold exC;simp only [Wv.BC]
 | mk k s n nl li na ar ih=>
  unfold exC
  have h:=dG (n:=na) (f:=fun i=>exC (ar i)) fun i _=>ih i
  intro a ha
  simp only [List.mem_cons,List.not_mem_nil,or_false] at ha
  rcases ha with rfl | rfl | rfl | rfl | rfl
  ·simp only [Wv.BC]
  ·simp only [Wv.BC]
  ·simp only [Wv.BC]
  ·simp only [Wv.BC]
  ·simp only [Wv.BC];exact h
theorem bQ (x:Ex):Clo (.g (exC x)):=by simp only [Wv.BC];exact eF x
def okE:Ex→Prop
 | .nil=>False
 | .mk k s n nl li na ar=>s.size≤140737488351232∧nl≤140737488351232∧na≤140737488351232∧ ∀ i,i<na→okE (ar i)
theorem nN {x:Ex} (h:okE x): ∃ k s n nl li na ar,x= .mk k s n nl li na ar:=by
 cases x with
 | nil=>exact h.elim
 | mk k s n nl li na ar=>exact ⟨k,s,n,nl,li,na,ar,rfl⟩
def inB (n:Int):Bool:=decide (-4294967295≤n) && decide (n≤4294967295)
def argN (k:Nat):Int:=match k with | 4=>2 | 5=>2 | 6=>1 | 7=>2 | 8=>1 | 9=>1 | 10=>1 | 11=>1 | 12=>2 | 13=>1 | 14=>1 | 15=>1 | _=>0
def BN (k:Nat):Bool:=match k with | 2=>true | 8=>true | 13=>true | 14=>true | _=>false
def BO (k:Nat):Bool:=match k with | 3=>true | 10=>true | 11=>true | _=>false
def cu:Ex→Bool
 | .nil=>false
 | .mk k s n nl li na ar=>!decide (k<1) && (!decide (15<k) && ((if k=1 then nameB s else decide (s=⟨#[]⟩)) && (decide ((na:Int)=argN k.toNat) && ((BN k.toNat || decide (n=0)) && ((BO k.toNat || decide ((nl:Int)=0)) && (inB n && (!bg nl (fun i=>!inB (li i)) && !bg na fun i=>!cu (ar i))))))))
theorem BP (n:Int):TC Tryz.prog 158 [.v (.int .i64 n)] (.v (.bool (inB n))):=by
 refine Wv.TC.by 9 [0,2] [] [.tmp 2] Tryz.func158 rfl rfl rfl ?clo ?_
 case clo=>simp only [Wv.BC]
 unfold inB
 by_cases hq: -4294967295≤n
 ·simp (disch:=first|exact Wv.D|fail) only [Wv.B,simprocAttr,decide_eq_true hq]
 ·simp (disch:=first|exact Wv.D|fail) only [Wv.B,simprocAttr,decide_eq_false hq]
theorem LW (n:Int):TC Tryz.prog 160 [.v (.int .i64 n)] (.v (.bool (!inB n))):=by
 refine Wv.TC.by 6 [0,2] [] [.tmp 2] Tryz.func160 rfl rfl rfl ?clo ?_
 case clo=>simp only [Wv.BC]
 refine Wv.W ?_
 refine ah (BP n) rfl Wv.c Wv.c ?_
 exact Wv.V
def vw:List AV:= .v (.int .i64 0):: .v (.bool false):: .v (.bool false):: .v (.int .i64 0):: .v (.bool false):: .v (.bool false):: .v (.int .i64 0):: .v (.bool true):: .v (.bool false):: .v (.int .i64 0):: .v (.bool false):: .v (.bool true):: .v (.int .i64 2):: .v (.bool false):: .v (.bool false):: .v (.int .i64 2):: .v (.bool false):: .v (.bool false):: .v (.int .i64 1):: .v (.bool false):: .v (.bool false):: .v (.int .i64 2):: .v (.bool false):: .v (.bool false):: .v (.int .i64 1):: .v (.bool true):: .v (.bool false):: .v (.int .i64 1):: .v (.bool false):: .v (.bool false):: .v (.int .i64 1):: .v (.bool false):: .v (.bool true):: .v (.int .i64 1):: .v (.bool false):: .v (.bool true):: .v (.int .i64 2):: .v (.bool false):: .v (.bool false):: .v (.int .i64 1):: .v (.bool true):: .v (.bool false):: .v (.int .i64 1):: .v (.bool true):: .v (.bool false):: .v (.int .i64 1):: .v (.bool false):: .v (.bool false)::[]
theorem aas: ∀ m:Nat,m<16→ ∃ r,List.drop (m*3) vw= .v (.int .i64 (argN m)):: .v (.bool (BN m)):: .v (.bool (BO m))::r
 | 0,_=>⟨_,rfl⟩ | 1,_=>⟨_,rfl⟩ | 2,_=>⟨_,rfl⟩ | 3,_=>⟨_,rfl⟩ | 4,_=>⟨_,rfl⟩ | 5,_=>⟨_,rfl⟩ | 6,_=>⟨_,rfl⟩ | 7,_=>⟨_,rfl⟩ | 8,_=>⟨_,rfl⟩ | 9,_=>⟨_,rfl⟩ | 10,_=>⟨_,rfl⟩ | 11,_=>⟨_,rfl⟩ | 12,_=>⟨_,rfl⟩ | 13,_=>⟨_,rfl⟩ | 14,_=>⟨_,rfl⟩ | 15,_=>⟨_,rfl⟩
 | n+16,h=>by omega
theorem aat:TC Tryz.prog 157 [] (.g vw):=by
 refine Wv.TC.by 17 [0] [] [.cell 0 200] Tryz.func157 rfl rfl rfl ?clo ?_
 case clo=>unfold vw;simp only [Wv.BC]
 simp (disch:=first|exact Wv.D|fail) only [Wv.B,simprocAttr,vw]
theorem LX (x:Ex) (hx:okE x) (b:Bool) (T:TC Tryz.prog 108 [.g (exC x)] (.v (.bool b))):TC Tryz.prog 162 [.g (exC x)] (.v (.bool (!b))):=by
 refine Wv.TC.by 6 [0,1,2] [] [.tmp 2] Tryz.func162 rfl rfl rfl ?clo ?_
 case clo=>simp only [Wv.BC]
 obtain ⟨k,s,n,nl,li,na,ar,rfl⟩:=nN hx
 have hG:=bQ (.mk k s n nl li na ar)
 unfold exC at T hG ⊢
 refine Wv.W ?_
 refine ah T rfl (dW hG) Wv.c ?_
 exact Wv.V
theorem OE (x:Ex) (h:okE x):TC Tryz.prog 108 [.g (exC x)] (.v (.bool (cu x))):=by
 induction x with
 | nil=>exact h.elim
 | mk k s n nl li na ar ih=>
 obtain ⟨hs,hnl,hna,hh⟩:=h
 refine Wv.TC.by 73 [0,1,14,3,24,5,4,2] [] [.tmp 2] Tryz.func108 rfl rfl rfl ?clo ?_
 case clo=>simp only [Wv.BC]
 unfold exC
 refine Wv.W ?_
 refine ah aat rfl Wv.c (by unfold vw;simp only [Wv.BC]) ?_
 have hN:cu (.mk k s n nl li na ar)=(!decide (k<1) && (!decide (15<k) && ((if k=1 then nameB s else decide (s=⟨#[]⟩)) && (decide ((na:Int)=argN k.toNat) && ((BN k.toNat || decide (n=0)) && ((BO k.toNat || decide ((nl:Int)=0)) && (inB n && (!bg nl (fun i=>!inB (li i)) && !bg na fun i=>!cu (ar i))))))))):=rfl
 by_cases h1:k<1
 ·rw [decide_eq_true h1,Bool.not_true,Bool.false_and] at hN
  simp (disch:=first|exact Wv.D|fail) only [Wv.B,simprocAttr,vw,decide_eq_true h1,hN]
 by_cases h2:15<k
 ·rw [decide_eq_false h1,decide_eq_true h2,Bool.not_true,Bool.false_and,Bool.not_false,Bool.true_and] at hN
  simp (disch:=first|exact Wv.D|fail) only [Wv.B,simprocAttr,vw,decide_eq_false h1,decide_eq_true h2,hN]
 rw [decide_eq_false h1,decide_eq_false h2,Bool.not_false,Bool.true_and,Bool.true_and] at hN
 have hk0:0≤k:=by omega
 obtain ⟨lr,hf⟩:=aas k.toNat (by omega)
 unfold vw at hf
 have hz: ∃ b:Bool,(if k=1 then nameB s else decide (s=⟨#[]⟩))=b:=⟨_,rfl⟩
 obtain ⟨b3,h3⟩:=hz
 rw [h3] at hN
 simp (disch:=first|exact Wv.D|fail) only [Wv.B,simprocAttr,vw,decide_eq_false h1,decide_eq_false h2,hf]
 clear hf
 by_cases hk1:k=1
 all_goals first | rw [if_pos hk1] at h3 | rw [if_neg hk1] at h3
 rotate_left
 simp (disch:=first|exact Wv.D|fail) only [Wv.B,simprocAttr,decide_eq_false hk1,h3]
 rotate_left
 simp (disch:=first|exact Wv.D|fail) only [Wv.B,simprocAttr,decide_eq_true hk1]
 refine ah (LV s hs) rfl Wv.c Wv.c ?_
 simp (disch:=first|exact Wv.D|fail) only [Wv.B,simprocAttr,h3]
 all_goals
  cases b3 with
  | false=>rw [Bool.false_and] at hN;simp (disch:=first|exact Wv.D|fail) only [Wv.B,simprocAttr,hN]
  | true=>
  rw [Bool.true_and] at hN
  cases h4:decide ((na:Int)=argN k.toNat) with
  | false=>rw [h4,Bool.false_and] at hN;simp (disch:=first|exact Wv.D|fail) only [Wv.B,simprocAttr,h4,hN]
  | true=>
  rw [h4,Bool.true_and] at hN
  cases h56:(BN k.toNat || decide (n=0)) with
  | false=>
   rw [h56,Bool.false_and] at hN
   have h5:=(Bool.or_eq_false_iff.1 h56).1
   have h6:=(Bool.or_eq_false_iff.1 h56).2
   simp (disch:=first|exact Wv.D|fail) only [Wv.B,simprocAttr,h4,h5,h6,hN]
  | true=>
  have e5:(BN k.toNat=true∧(0:Nat)=0)∨(BN k.toNat=false∧decide (n=0)=true):=by
   cases q:BN k.toNat with
   | true=>exact .inl ⟨rfl,rfl⟩
   | false=>rw [q,Bool.false_or] at h56;exact .inr ⟨rfl,h56⟩
  rw [h56,Bool.true_and] at hN
  cases h78:(BO k.toNat || decide ((nl:Int)=0)) with
  | false=>
   rw [h78,Bool.false_and] at hN
   have h7:=(Bool.or_eq_false_iff.1 h78).1
   have h8:=(Bool.or_eq_false_iff.1 h78).2
   rcases e5 with ⟨h5,h6⟩ | ⟨h5,h6⟩<;>simp (disch:=first|exact Wv.D|fail) only [Wv.B,simprocAttr,h4,h5,h6,h7,h8,hN]
  | true=>
  have e7:(BO k.toNat=true∧(0:Nat)=0)∨(BO k.toNat=false∧decide ((nl:Int)=0)=true):=by
   cases q:BO k.toNat with
   | true=>exact .inl ⟨rfl,rfl⟩
   | false=>rw [q,Bool.false_or] at h78;exact .inr ⟨rfl,h78⟩
  rw [h78,Bool.true_and] at hN
  rcases e5 with ⟨h5,h6⟩ | ⟨h5,h6⟩<;>rcases e7 with ⟨h7,h8⟩ | ⟨h7,h8⟩
  all_goals
   simp (disch:=first|exact Wv.D|fail) only [Wv.B,simprocAttr,h4,h5,h6,h7,h8]
   clear h56 h78 h4
   refine ah (BP n) rfl Wv.c Wv.c ?_
   cases h9:inB n with
   | false=>rw [h9,Bool.false_and] at hN;simp (disch:=first|exact Wv.D|fail) only [Wv.B,simprocAttr,hN]
   | true=>
   rw [h9,Bool.true_and] at hN
   refine Wv.W ?_
   refine dF (fst:=[]) (cap:=[]) (wR nl li (fun i=>!inB (li i)) _ [] [] hnl fun i hi=>(LW (li i)).ht (dW Wv.c) Wv.c _) ?_
   rintro av h' ⟨rfl,rfl⟩
   cases h10:bg nl (fun i=>!inB (li i)) with
   | true=>rw [h10,Bool.not_true,Bool.false_and] at hN;simp (disch:=first|exact Wv.D|fail) only [Wv.B,simprocAttr,hN]
   | false=>
   rw [h10,Bool.not_false,Bool.true_and] at hN
   refine Wv.W ?_
   refine dF (fst:=[]) (cap:=[]) (Wi na (bT na fun i=>exC (ar i)) (fun i=>exC (ar i)) (nM fun i=>iC _) (zB fun i=>iC _) (fun i=>!cu (ar i)) _ [] [] hna fun i hi=>(LX (ar i) (hh i hi) _ (ih i (hh i hi))).ht (dW (bQ (ar i))) Wv.c _) ?_
   rintro av h' ⟨rfl,rfl⟩
   simp (disch:=first|exact Wv.D|fail) only [Wv.B,simprocAttr,hN]
end
section
open Go.RowKit Wv
theorem dH {n:Nat} {f:Nat→AV}:tab (n+1) f=tab n f++[f n]:=by unfold tab;rw [List.range_succ,List.map_append];rfl
def dB (b:Nat) (f:Nat→Nat):Nat→Nat
 | 0=>b
 | n+1=>dB b f n+f n
def jM (f:Nat→Nat):Nat→Nat
 | 0=>0
 | n+1=>max (jM f n) (f n)
def wS (b:Bool) (f:Nat→Bool):Nat→Bool
 | 0=>b
 | n+1=>wS b f n || f n
theorem vC (b:Nat) (f:Nat→Nat): ∀ {i n:Nat},i≤n→dB b f i≤dB b f n
 | i,0,h=>by
  have:i=0:=by omega
  subst this;exact Nat.le_refl _
 | i,n+1,h=>by
  by_cases e:i=n+1
  ·subst e;exact Nat.le_refl _
  ·exact Nat.le_trans (vC b f (by omega)) (Nat.le_add_right _ _)
theorem wU (b:Nat) (f:Nat→Nat) (n:Nat):b≤dB b f n:=vC b f (i:=0) (Nat.zero_le n)
theorem qo (b:Nat) (f:Nat→Nat) {i n:Nat} (h:i<n):dB b f i+f i≤dB b f n:=vC b f (i:=i+1) h
theorem UM (f g:Nat→Nat) (b:Nat) (h: ∀ i,f i≤g i): ∀ n,jM f n≤dB b g n
 | 0=>Nat.zero_le _
 | n+1=>by
  show max (jM f n) (f n)≤dB b g n+g n
  have:=UM f g b h n
  have:=h n
  omega
def aY:Ex→Nat
 | .nil=>1
 | .mk k s n nl li na ar=>dB 1 (fun i=>aY (ar i)) na
def eP:Ex→Nat
 | .nil=>1
 | .mk k s n nl li na ar=>jM (fun i=>eP (ar i)) na+1
def kT:Ex→Bool
 | .nil=>false
 | .mk k s n nl li na ar=>wS (decide (600<(nl:Int))) (fun i=>kT (ar i)) na
theorem zC (x:Ex):eP x≤aY x:=by
 induction x with
 | nil=>exact Nat.le_refl 1
 | mk k s n nl li na ar ih=>
  show jM (fun i=>eP (ar i)) na+1≤dB 1 (fun i=>aY (ar i)) na
  have:=UM (fun i=>eP (ar i)) (fun i=>aY (ar i)) 0 ih na
  have h2: ∀ n,dB 1 (fun i=>aY (ar i)) n=dB 0 (fun i=>aY (ar i)) n+1:=fun n=>by
   induction n with
   | zero=>rfl
   | succ n h=>show dB 1 _ n+_=dB 0 _ n+_+1;rw [h];omega
  rw [h2];omega
theorem aau (x:Ex) (h:okE x) (hc:aY x≤4611686018427387904):TC Tryz.prog 163 [.g (exC x)] (.tup [.v (.int .i64 (aY x)), .v (.int .i64 (eP x)), .v (.bool (kT x))]):=by
 induction x with
 | nil=>exact h.elim
 | mk k s n nl li na ar ih=>
 obtain ⟨hs,hnl,hna,hh⟩:=h
 have hcn:dB 1 (fun i=>aY (ar i)) na≤4611686018427387904:=hc
 refine Wv.TC.by 42 [0,1,17,16,18,15,6,2,7,3,8,4,9] [(1,5)] [.tmp 2, .tmp 3, .tmp 4] Tryz.func163 rfl rfl rfl ?clo ?_
 case clo=>simp only [Wv.BC]
 unfold exC
 refine Wv.W ?_
 refine dQ (σ:=Nat) (fun i=>[(1, .ptr 0 0),(2, .v (.int .i64 (dB 1 (fun i=>aY (ar i)) i:Nat))),(3, .v (.int .i64 (jM (fun i=>eP (ar i)) i:Nat))),(4, .v (.bool (wS (decide (600<(nl:Int))) (fun i=>kT (ar i)) i))),(15, .t na 5 (bT na fun i=>exC (ar i))),(16, .v (.int .i64 na)),(17, .v (.int .i64 i))])
  (fun i=>[some (.blk [.v (.int .i64 k), .v (.string s), .v (.int .i64 n), .t nl 1 (tab nl fun i=> .v (.int .i64 (li i))), .t na 5 (bT na fun i=>exC (ar i))])])
  (fun i=>i≤na) (fun i=>na - i) 0 (Nat.zero_le _) Wv.V (by simp (disch:=first|exact Wv.D|fail) only [Wv.B,simprocAttr,dB,jM,wS,Int.natCast_one]) ?_
 rintro i hi
 by_cases hlt:i<na
 ·have e1:(i:Int)<na:=by omega
  have q1:=qo 1 (fun i=>aY (ar i)) hlt
  have q2:=wU 1 (fun i=>aY (ar i)) i
  have q3:=zC (ar i)
  obtain ⟨r,hd⟩:=bP (f:=fun i=>exC (ar i)) (fun i=>iC (ar i)) hlt
  have T:=ih i (hh i hlt) (by omega)
  have hG:=bQ (ar i)
  have hL:=dG (n:=na) (f:=fun i=>exC (ar i)) fun i _=>eF (ar i)
  revert hd T hG hL
  generalize hf:(bT na fun i=>exC (ar i))=L
  generalize hc1:aY (ar i)=c1 at*
  generalize hc2:eP (ar i)=c2 at*
  generalize hc3:kT (ar i)=c3
  have hoy:=hh i hlt
  generalize ar i=y at hoy ⊢
  obtain ⟨k',s',n',nl',li',na',ar',rfl⟩:=nN hoy
  rw [dA]
  intro hd T hG hL
  simp only [List.cons_append,List.nil_append] at hd
  simp (disch:=first|exact Wv.D|fail) only [Wv.B,simprocAttr,hd]
  refine ah T rfl (dW hG) Wv.c ?_
  refine Wv.W ?_
  have hmx:(if (c2:Int)>((jM (fun i=>eP (ar i)) i:Nat):Int) then (c2:Int) else ((jM (fun i=>eP (ar i)) i:Nat):Int))=((jM (fun i=>eP (ar i)) (i+1):Nat):Int):=by
   show _=((max (jM (fun i=>eP (ar i)) i) (eP (ar i)):Nat):Int)
   rw [hc2]
   split<;>omega
  have hsx:((dB 1 (fun i=>aY (ar i)) i:Nat):Int)+c1=((dB 1 (fun i=>aY (ar i)) (i+1):Nat):Int):=by
   show _=((dB 1 (fun i=>aY (ar i)) i+aY (ar i):Nat):Int)
   rw [hc1];omega
  have hox:wS (decide (600<(nl:Int))) (fun i=>kT (ar i)) (i+1)=(wS (decide (600<(nl:Int))) (fun i=>kT (ar i)) i || c3):=by
   show (_ || kT (ar i))=_
   rw [hc3]
  cases ho:wS (decide (600<(nl:Int))) (fun i=>kT (ar i)) i with
  | true=>
   rw [ho,Bool.true_or] at hox
   simp (disch:=first|exact Wv.D|fail) only [Wv.B,simprocAttr,hmx,hsx]
   refine Wv.jd (i+1) 1 (by first | decide | exact Nat.le_of_ble_eq_true rfl) (by omega) (by omega) (by simp (disch:=first|exact Wv.D|fail) only [Wv.B,simprocAttr,dH,hox]) (by simp (disch:=first|exact Wv.D|fail) only [Wv.B,simprocAttr,Int.natCast_add,Int.natCast_one,hox]) (by simp only [Wv.BL, ↓reduceIte,Nat.reduceLeDiff,hL]<;>omega) (by simp only [Wv.BL, ↓reduceIte,Nat.reduceLeDiff,hL]<;>omega)
  | false=>
   rw [ho,Bool.false_or] at hox
   simp (disch:=first|exact Wv.D|fail) only [Wv.B,simprocAttr,hmx,hsx]
   refine Wv.jd (i+1) 1 (by first | decide | exact Nat.le_of_ble_eq_true rfl) (by omega) (by omega) (by simp (disch:=first|exact Wv.D|fail) only [Wv.B,simprocAttr,dH,hox]) (by simp (disch:=first|exact Wv.D|fail) only [Wv.B,simprocAttr,Int.natCast_add,Int.natCast_one,hox]) (by simp only [Wv.BL, ↓reduceIte,Nat.reduceLeDiff,hL]<;>omega) (by simp only [Wv.BL, ↓reduceIte,Nat.reduceLeDiff,hL]<;>omega)
 ·have hin:i=na:=by omega
  subst hin
  have h1:aY (.mk k s n nl li i ar)=dB 1 (fun i=>aY (ar i)) i:=rfl
  have h2:((eP (.mk k s n nl li i ar):Nat):Int)=((jM (fun i=>eP (ar i)) i:Nat):Int)+1:=by
   show ((jM (fun i=>eP (ar i)) i+1:Nat):Int)=_
   omega
  have h3:kT (.mk k s n nl li i ar)=wS (decide (600<(nl:Int))) (fun i=>kT (ar i)) i:=rfl
  have h4:=zC (.mk k s n nl li i ar)
  simp (disch:=first|exact Wv.D|fail) only [Wv.B,simprocAttr,h1,h2,h3]
end
section
open Go.RowKit Wv
structure Ci where
 name:ByteArray
 ni:Nat
 fi:Nat→ByteArray
 nl:Nat
 ln:Nat→ByteArray
 le:Nat→Ex
 no:Nat
 fo:Nat→ByteArray
def iY (s:ByteArray) (x:Ex):List AV:= .v (.string s)::exC x
theorem iG (s:ByteArray) (x:Ex):(iY s x).length=6:=by cases x<;>rfl
theorem BQ (s:ByteArray) (x:Ex): ∀ a,a∈iY s x→Clo a:=by
 intro a ha
 rcases List.mem_cons.1 ha with rfl | h
 ·simp only [Wv.BC]
 ·exact eF x a h
def Ci.lets (c:Ci):List AV:=bT c.nl fun i=>iY (c.ln i) (c.le i)
def ciC (c:Ci):List AV:=[.v (.string c.name),bn c.ni c.fi, .t c.nl 6 c.lets,bn c.no c.fo]
theorem jO (c:Ci): ∀ a,a∈c.lets→Clo a:=dG fun i _=>BQ _ _
theorem LY (c:Ci):c.lets.length=c.nl*6:=nM fun i=>iG _ _
theorem GX (c:Ci): ∀ a,a∈ciC c→Clo a:=by
 unfold ciC
 simp only [Wv.BC,jL]
 exact jO c
theorem vF (c:Ci):Clo (.g (ciC c)):=by simp only [Wv.BC];exact GX c
structure okC (c:Ci):Prop where
 name:c.name.size≤140737488351232
 ni:c.ni≤140737488351232
 nl:c.nl≤140737488351232
 no:c.no≤140737488351232
 fi: ∀ i,i<c.ni→(c.fi i).size≤140737488351232
 fo: ∀ i,i<c.no→(c.fo i).size≤140737488351232
 ln: ∀ i,i<c.nl→(c.ln i).size≤140737488351232
 le: ∀ i,i<c.nl→okE (c.le i)∧aY (c.le i)≤4611686018427387904
def Ci.sum (c:Ci) (i:Nat):Nat:=dB 0 (fun i=>aY (c.le i)) i
def Ci.big (c:Ci) (i:Nat):Bool:=decide (400<((c.sum (i+1):Nat):Int)) || (decide (40<((eP (c.le i):Nat):Int)) || kT (c.le i))
def jo (c:Ci):Bool:=!bg c.nl c.big
def yY (c:Ci):Bool:=decide ((c.ni:Int)≤8) && (decide ((c.nl:Int)≤60) && decide ((c.no:Int)≤8))
def fD (c:Ci):Int:=
 if (!nameB c.name || (bg c.ni (fun i=>!nameB (c.fi i)) || (bg c.no (fun i=>!nameB (c.fo i)) || (decide ((c.no:Int)=0) || !yY c))))=true then 2
 else if bg c.nl (fun i=>!nameB (c.ln i) || !cu (c.le i))=true then 2 else if jo c=true then 0 else 3
theorem Wn (c:Ci) (h:okC c):TC Tryz.prog 109 [.g (ciC c)] (.v (.bool (jo c))):=by
 refine Wv.TC.by 36 [0,1,12,11,13,10,5,3,6,7,8,34,2] [] [.tmp 2] Tryz.func109 rfl rfl rfl ?clo ?_
 case clo=>simp only [Wv.BC]
 unfold ciC bn
 refine Wv.W ?_
 refine dQ (σ:=Nat) (fun i=>[(1, .ptr 0 0),(3, .v (.int .i64 (c.sum i:Nat))),(10, .t c.nl 6 c.lets),(11, .v (.int .i64 c.nl)),(12, .v (.int .i64 i))])
  (fun i=>[some (.blk [.v (.string c.name), .t c.ni 1 (tab c.ni fun i=> .v (.string (c.fi i))), .t c.nl 6 c.lets, .t c.no 1 (tab c.no fun i=> .v (.string (c.fo i)))])])
  (fun i=>i≤c.nl∧((c.sum i:Nat):Int)≤400∧ ∀ j,j<i→c.big j=false) (fun i=>c.nl - i) 0 ⟨Nat.zero_le _,by show ((0:Nat):Int)≤400;omega,fun j hj=>by omega⟩ Wv.V (by simp (disch:=first|exact Wv.D|fail) only [Wv.B,simprocAttr,Ci.sum,dB]) ?_
 rintro i ⟨hi,hsum,hb⟩
 by_cases hlt:i<c.nl
 ·have e1:(i:Int)<c.nl:=by omega
  have hnl:=h.nl
  have hL:=jO c
  obtain ⟨r,hd⟩:=bP (f:=fun i=>iY (c.ln i) (c.le i)) (fun i=>iG _ _) hlt
  have T:=aau (c.le i) (h.le i hlt).1 (h.le i hlt).2
  have hc1':=(h.le i hlt).2
  have hG:=bQ (c.le i)
  have hbig:c.big i=(decide (400<((c.sum (i+1):Nat):Int)) || (decide (40<((eP (c.le i):Nat):Int)) || kT (c.le i))):=rfl
  have hs1:((c.sum (i+1):Nat):Int)=((c.sum i:Nat):Int)+((aY (c.le i):Nat):Int):=by
   show ((dB 0 (fun i=>aY (c.le i)) i+aY (c.le i):Nat):Int)=_
   exact Int.natCast_add _ _
  change List.drop (i*6) c.lets=iY (c.ln i) (c.le i)++r at hd
  generalize hle:c.le i=x at hd T hc1' hG hbig hs1
  generalize c.lets=L at*
  generalize aY x=c1 at*
  generalize eP x=c2 at*
  generalize kT x=c3 at*
  have hoy:=(h.le i hlt).1
  rw [hle] at hoy
  obtain ⟨k',s',n',nl',li',na',ar',rfl⟩:=nN hoy
  unfold iY at hd
  rw [dA] at hd T hG
  simp only [List.cons_append,List.nil_append] at hd
  simp (disch:=first|exact Wv.D|fail) only [Wv.B,simprocAttr,hd]
  refine ah T rfl (dW hG) Wv.c ?_
  refine Wv.W ?_
  have hbad:c.big i=true→jo c=false:=fun hq=>by
   unfold jo
   have:bg c.nl c.big=true:=by
    unfold bg
    exact List.any_eq_true.2 ⟨i,List.mem_range.2 hlt,hq⟩
   rw [this];rfl
  cases d1:decide (400<((c.sum i:Nat):Int)+(c1:Int)) with
  | true=>
   have hsm:=hbad (by rw [hbig,hs1,d1];rfl)
   simp (disch:=first|exact Wv.D|fail) only [Wv.B,simprocAttr,d1,hsm]
  | false=>
  cases d2:decide (40<(c2:Int)) with
  | true=>
   have hsm:=hbad (by rw [hbig,hs1,d1,d2];rfl)
   simp (disch:=first|exact Wv.D|fail) only [Wv.B,simprocAttr,d1,d2,hsm]
  | false=>
  cases c3 with
  | true=>
   have hsm:=hbad (by rw [hbig,hs1,d1,d2];rfl)
   simp (disch:=first|exact Wv.D|fail) only [Wv.B,simprocAttr,d1,d2,hsm]
  | false=>
   have hbf:c.big i=false:=by rw [hbig,hs1,d1,d2];rfl
   have ako:=of_decide_eq_false d1
   simp (disch:=first|exact Wv.D|fail) only [Wv.B,simprocAttr,d1,d2]
   refine Wv.jd (i+1) 1 (by first | decide | exact Nat.le_of_ble_eq_true rfl) (⟨by omega,by omega,fun j hj=>by by_cases e:j=i;exact e▸hbf;exact hb j (by omega)⟩) (by omega) (by simp (disch:=first|exact Wv.D|fail) only [Wv.B,simprocAttr,dH,hs1]) (by simp (disch:=first|exact Wv.D|fail) only [Wv.B,simprocAttr,Int.natCast_add,Int.natCast_one,hs1]) (by simp only [Wv.BL, ↓reduceIte,Nat.reduceLeDiff,hL]<;>omega) (by simp only [Wv.BL, ↓reduceIte,Nat.reduceLeDiff,hL]<;>omega)
 ·have hin:i=c.nl:=by omega
  have:jo c=true:=by
   unfold jo
   have:bg c.nl c.big=false:=by
    unfold bg
    refine List.any_eq_false.2 fun j hj=>?_
    rw [hb j (by have:=List.mem_range.1 hj;omega)];decide
   rw [this];rfl
  simp (disch:=first|exact Wv.D|fail) only [Wv.B,simprocAttr,this,hin]
theorem acX (c:Ci):TC Tryz.prog 105 [.g (ciC c)] (.v (.bool (yY c))):=by
 refine Wv.TC.by 19 [0,1,2] [] [.tmp 2] Tryz.func105 rfl rfl rfl ?clo ?_
 case clo=>simp only [Wv.BC]
 unfold ciC bn
 have hN:yY c=(decide ((c.ni:Int)≤8) && (decide ((c.nl:Int)≤60) && decide ((c.no:Int)≤8))):=rfl
 cases h1:decide ((c.ni:Int)≤8) with
 | false=>rw [h1,Bool.false_and] at hN;simp (disch:=first|exact Wv.D|fail) only [Wv.B,simprocAttr,h1,hN]
 | true=>
 cases h2:decide ((c.nl:Int)≤60) with
 | false=>rw [h1,h2,Bool.false_and,Bool.and_false] at hN;simp (disch:=first|exact Wv.D|fail) only [Wv.B,simprocAttr,h1,h2,hN]
 | true=>rw [h1,h2,Bool.true_and,Bool.true_and] at hN;simp (disch:=first|exact Wv.D|fail) only [Wv.B,simprocAttr,h1,h2,hN]
theorem zD (s:ByteArray) (hs:s.size≤140737488351232):TC Tryz.prog 102 [.v (.string s)] (.v (.bool (!nameB s))):=by
 refine Wv.TC.by 6 [0,2] [] [.tmp 2] Tryz.func102 rfl rfl rfl ?clo ?_
 case clo=>simp only [Wv.BC]
 refine Wv.W ?_
 refine ah (LV s hs) rfl Wv.c Wv.c ?_
 exact Wv.V
theorem HT.rd {P:Program} {f:FuncId} {args:List AV} {h:Hp} {res:AV} (T:HT P f args h fun r h'=>r=res∧h'.take h.length=h) (hr:lo h.length res) (hh:loH h.length h):HT P f args h fun r h'=>r=res∧h'=h:=
 (RD.of (R:=fun r=>r=res) (p:=fun _=>False) (T.toP _) (fun r q=>q▸hr) (fun r q=>q.elim) hh).toT fun _ _ q=>q.1
theorem aav {C:List AV} (hC: ∀ a,a∈C→Clo a) (s:ByteArray) (x:Ex) (hs:s.size≤140737488351232) (hx:okE x):HT Tryz.prog 107 [.g (iY s x), .ptr 1 0] [some (.blk C),some (.blk [.fn (.func 102) [] []])] (fun r h'=>r= .v (.bool (!nameB s || !cu x))∧h'=[some (.blk C),some (.blk [.fn (.func 102) [] []])]):=by
 have T:=OE x hx
 have hG:=bQ x
 generalize cu x=b at*
 obtain ⟨k',s',n',nl',li',na',ar',rfl⟩:=nN hx
 unfold iY
 rw [dA] at*
 refine HT.rd ?_ (by simp only [Wv.BL, ↓reduceIte,Nat.reduceLeDiff]) (by simp only [Wv.BL, ↓reduceIte,Nat.reduceLeDiff];exact fun a ha=> .clo (hC a ha))
 refine Wv.HT.by 14 [0,1,2,3] [(1000000,2)] [.tmp 3] Tryz.func107 rfl rfl rfl ?base ?_
 case base=>rfl
 refine Wv.W ?_
 refine ah (zD s hs) rfl Wv.c Wv.c ?_
 cases h1:nameB s with
 | false=>simp (disch:=first|exact Wv.D|fail) only [Wv.B,simprocAttr,Bool.true_or]
 | true=>
  refine Wv.W ?_
  refine ah T rfl (dW hG) Wv.c ?_
  simp (disch:=first|exact Wv.D|fail) only [Wv.B,simprocAttr,Bool.false_or]
theorem OG (c:Ci) (h:okC c):TC Tryz.prog 61 [.g (ciC c)] (.v (.int .i64 (fD c))):=by
 have hcl:=vF c
 have hll:=LY c
 have hla: ∀ i,i<c.nl→List.take 6 (List.drop (i*6) c.lets)=iY (c.ln i) (c.le i):=zB fun i=>iG _ _
 have Tf:=acX c
 have Ts:=Wn c h
 have hN:fD c=if (!nameB c.name || (bg c.ni (fun i=>!nameB (c.fi i)) || (bg c.no (fun i=>!nameB (c.fo i)) || (decide ((c.no:Int)=0) || !yY c))))=true then 2
  else if bg c.nl (fun i=>!nameB (c.ln i) || !cu (c.le i))=true then 2 else if jo c=true then 0 else 3:=rfl
 unfold ciC bn at Tf Ts hcl ⊢
 refine Wv.TC.by 38 [0,3,1,30,34,37,2] [] [.tmp 2] Tryz.func61 rfl rfl rfl ?clo ?_
 case clo=>simp only [Wv.BC]
 refine Wv.W ?_
 refine ah (zD c.name h.name) rfl Wv.c Wv.c ?_
 cases h1:nameB c.name with
 | false=>rw [h1] at hN;simp only [Bool.not_false,Bool.true_or,if_true] at hN;simp (disch:=first|exact Wv.D|fail) only [Wv.B,simprocAttr,hN]
 | true=>
 refine Wv.W ?_
 refine dF (fst:=[]) (cap:=[]) (EZ c.ni c.fi (fun i=>!nameB (c.fi i)) _ [] [] h.ni fun i hi=>(zD (c.fi i) (h.fi i hi)).ht (dW Wv.c) Wv.c _) ?_
 rintro av h' ⟨rfl,rfl⟩
 cases h2:bg c.ni (fun i=>!nameB (c.fi i)) with
 | true=>rw [h1,h2] at hN;simp only [Bool.not_true,Bool.false_or,Bool.true_or,if_true] at hN;simp (disch:=first|exact Wv.D|fail) only [Wv.B,simprocAttr,hN]
 | false=>
 refine Wv.W ?_
 refine dF (fst:=[]) (cap:=[]) (EZ c.no c.fo (fun i=>!nameB (c.fo i)) _ [] [] h.no fun i hi=>(zD (c.fo i) (h.fo i hi)).ht (dW Wv.c) Wv.c _) ?_
 rintro av h' ⟨rfl,rfl⟩
 cases h3:bg c.no (fun i=>!nameB (c.fo i)) with
 | true=>rw [h1,h2,h3] at hN;simp only [Bool.not_true,Bool.false_or,Bool.true_or,if_true] at hN;simp (disch:=first|exact Wv.D|fail) only [Wv.B,simprocAttr,hN]
 | false=>
 cases h4:decide ((c.no:Int)=0) with
 | true=>rw [h1,h2,h3,h4] at hN;simp only [Bool.not_true,Bool.false_or,Bool.true_or,if_true] at hN;simp (disch:=first|exact Wv.D|fail) only [Wv.B,simprocAttr,h4,hN]
 | false=>
 simp (disch:=first|exact Wv.D|fail) only [Wv.B,simprocAttr,h4]
 refine ah Tf rfl (dW hcl) Wv.c ?_
 cases h5:yY c with
 | false=>rw [h1,h2,h3,h4,h5] at hN;simp only [Bool.not_true,Bool.not_false,Bool.false_or,Bool.true_or,if_true] at hN;simp (disch:=first|exact Wv.D|fail) only [Wv.B,simprocAttr,hN]
 | true=>
 rw [h1,h2,h3,h4,h5] at hN;simp only [Bool.not_true,Bool.not_false,Bool.false_or,Bool.true_or,if_true,Bool.false_eq_true,if_false] at hN
 refine Wv.W ?_
 refine dF (fst:=[]) (cap:=[]) (Wj c.nl c.lets (fun i=>iY (c.ln i) (c.le i)) hll hla (fun i=>!nameB (c.ln i) || !cu (c.le i)) _ [] [.ptr 1 0] h.nl fun i hi=>aav (by simp only [Wv.BC];exact jO c) (c.ln i) (c.le i) (h.ln i hi) (h.le i hi).1) ?_
 rintro av h' ⟨rfl,rfl⟩
 cases h6:bg c.nl (fun i=>!nameB (c.ln i) || !cu (c.le i)) with
 | true=>rw [h6] at hN;simp only [if_true] at hN;simp (disch:=first|exact Wv.D|fail) only [Wv.B,simprocAttr,hN]
 | false=>
 rw [h6] at hN;simp only [Bool.false_eq_true,if_false] at hN
 refine Wv.W ?_
 refine ah Ts rfl (dW hcl) Wv.c ?_
 cases h7:jo c with
 | true=>rw [h7] at hN;simp only [if_true] at hN;simp (disch:=first|exact Wv.D|fail) only [Wv.B,simprocAttr,hN]
 | false=>rw [h7] at hN;simp only [Bool.false_eq_true,if_false] at hN;simp (disch:=first|exact Wv.D|fail) only [Wv.B,simprocAttr,hN]
end
section
open Go.RowKit Wv
def dZ (f:Nat→Int→Int) (l:Int):Nat→Int
 | 0=>l
 | i+1=>if dZ f l i<0 then dZ f l i else f i (dZ f l i)
theorem wV        {f : Nat → Int → Int} {l : Int} {i : Nat} (h : dZ   f l i < 0) : ∀ {n : Nat}, i ≤ n → dZ   f l n = dZ   f l i
  | 0, q => by have : i = 0 := by omega
               subst this; rfl
  | n + 1, q => by
    by_cases e : i = n + 1
    · subst e; rfl
    · have ih := wV        h (n := n) (by omega)
      show (if dZ   f l n < 0 then dZ   f l n else f n (dZ   f l n)) = _
      rw [ih, if_pos h]
def cO:Ex→Int→Int
 | .nil,l=>l
 | .mk k s n nl li na ar,l=>dZ (fun i x=>cO (ar i) x) (l - 1 - nl - s.size) na
theorem vG (k:Int) (s:ByteArray) (n:Int) (nl:Nat) (li:Nat→Int) (na:Nat) (ar:Nat→Ex) (l:Int):cO (.mk k s n nl li na ar) l=dZ (fun i x=>cO (ar i) x) (l - 1 - nl - s.size) na:=rfl
theorem vH {f:Nat→Int→Int} {B:Int} {l:Int} (hl:l≤B) (hl': -1000000000000000≤l): ∀ n,(∀ i,i<n→ ∀ x,0≤x→x≤B→f i x≤B∧ -1000000000000000≤f i x)→dZ f l n≤B∧ -1000000000000000≤dZ f l n
 | 0,_=>⟨hl,hl'⟩
 | n+1,hf=>by
  have ih:=vH hl hl' n fun i hi=>hf i (by omega)
  show (if dZ f l n<0 then dZ f l n else f n (dZ f l n))≤B∧ -1000000000000000≤(if dZ f l n<0 then dZ f l n else f n (dZ f l n))
  by_cases h:dZ f l n<0
  ·rw [if_pos h];exact ih
  ·rw [if_neg h];exact hf n (by omega) _ (by omega) ih.1
theorem vI: ∀ (e:Ex),okE e→ ∀ (l B:Int), -150000000000000≤l→l≤B→0≤B→B≤1000000→cO e l≤B∧ -1000000000000000≤cO e l:=by
 intro e
 induction e with
 | nil=>intro h;exact h.elim
 | mk k s n nl li na ar ih=>
  rintro ⟨h1,h2,h3,h4⟩ l B h5 h6 h8 h7
  rw [vG]
  exact vH (by omega) (by omega) na fun i hi x q1 q2=>ih i (h4 i hi) x B (by omega) q2 h8 h7
theorem Wp: ∀ (e:Ex),okE e→ ∀ (l:Int),0≤cO e l→(aY e:Int)≤l - cO e l:=by
 intro e
 induction e with
 | nil=>intro h;exact h.elim
 | mk k s n nl li na ar ih=>
  rintro ⟨h1,h2,h3,h4⟩ l h
  rw [vG] at h ⊢
  have key: ∀ m,m≤na→0≤dZ (fun i x=>cO (ar i) x) (l - 1 - nl - s.size) m→(dB 1 (fun i=>aY (ar i)) m:Int)≤1+(l - 1 - nl - s.size) - dZ (fun i x=>cO (ar i) x) (l - 1 - nl - s.size) m:=by
   intro m
   induction m with
   | zero=>intro _ _;show ((1:Nat):Int)≤1+(l - 1 - nl - s.size) - (l - 1 - nl - s.size);omega
   | succ m ihm=>
    intro hm hq
    have e1:dZ (fun i x=>cO (ar i) x) (l - 1 - nl - s.size) (m+1)=if dZ (fun i x=>cO (ar i) x) (l - 1 - nl - s.size) m<0 then dZ (fun i x=>cO (ar i) x) (l - 1 - nl - s.size) m else cO (ar m) (dZ (fun i x=>cO (ar i) x) (l - 1 - nl - s.size) m):=rfl
    by_cases hn:dZ (fun i x=>cO (ar i) x) (l - 1 - nl - s.size) m<0
    ·rw [e1,if_pos hn] at hq;omega
    ·rw [e1,if_neg hn] at hq ⊢
     have g1:=ihm (by omega) (by omega)
     have g2:=ih m (h4 m (by omega)) _ hq
     have e2:dB 1 (fun i=>aY (ar i)) (m+1)=dB 1 (fun i=>aY (ar i)) m+aY (ar m):=rfl
     rw [e2,Int.natCast_add]
     omega
  have hk:=key na (Nat.le_refl _) h
  have e3:aY (.mk k s n nl li na ar)=dB 1 (fun i=>aY (ar i)) na:=rfl
  rw [e3]
  omega
theorem acY {a b:AV} (h1:Clo a) (h2:Clo b): ∀ x,x∈[a,b]→Clo x:=by simp only [Wv.BC];exact ⟨h1,h2⟩
theorem agd {n i:Nat} {p:Nat→Bool} (hi:i<n) (h:p i=true):bg n p=true:=by
 unfold bg;exact List.any_eq_true.2 ⟨i,List.mem_range.2 hi,h⟩
theorem any_none {n:Nat} {p:Nat→Bool} (h: ∀ i,i<n→p i=false):bg n p=false:=by
 unfold bg;exact List.any_eq_false.2 fun i hi=>by rw [h i (List.mem_range.1 hi)];exact Bool.noConfusion
def wW (f:Nat→ByteArray):Nat→Nat
 | 0=>0
 | i+1=>wW f i+(f i).size+1
def qp (n:Nat) (f:Nat→ByteArray) (most:Int):Bool:=bg n fun i=>decide (most - wW f i≤((f i).size:Int))
theorem E5 (f:Nat→ByteArray) (i:Nat):wW f (i+1)=wW f i+(f i).size+1:=rfl
theorem LZ (n:Nat) (f:Nat→ByteArray) (most:Int) (hn:n≤140737488351232) (h0: -1000000≤most) (h1:most≤1000000):TC Tryz.prog 56 [bn n f, .v (.int .i64 most)] (.v (.bool (qp n f most))):=by
 unfold bn
 refine Wv.TC.by 27 [5,0,9,1,18,4] [] [.tmp 4] Tryz.func56 rfl rfl rfl ?clo ?_
 case clo=>simp only [Wv.BC]
 refine Wv.W ?_
 refine dQ (σ:=Nat) (fun i=>[(0, .t n 1 (tab n fun i=> .v (.string (f i)))),(1, .v (.int .i64 (most - wW f i))),(5, .v (.int .i64 i))]) (fun i=>[]) (fun i=>i≤n∧(wW f i:Int)≤2000000∧ ∀ j,j<i→decide (most - wW f j≤((f j).size:Int))=false) (fun i=>n - i) 0 ⟨Nat.zero_le _,by show ((0:Nat):Int)≤_;omega,fun j hj=>by omega⟩ Wv.V (by simp (disch:=first|exact Wv.D|fail) only [Wv.B,simprocAttr,wW,Int.natCast_zero,Int.sub_zero]) ?_
 rintro i ⟨hi,hs,hb⟩
 by_cases hlt:i<n
 ·have e1:(i:Int)<(n:Int):=by omega
  by_cases hq:most - wW f i≤((f i).size:Int)
  ·have hL:qp n f most=true:=agd hlt (decide_eq_true hq)
   simp (disch:=first|exact Wv.D|fail) only [Wv.B,simprocAttr,decide_eq_true e1,decide_eq_true hq,hL]
  ·have hss:=E5 f i
   have e5:most - (wW f i:Int) - ((f i).size:Int) - 1=most - ((wW f (i+1):Nat):Int):=by rw [hss];omega
   simp (disch:=first|exact Wv.D|fail) only [Wv.B,simprocAttr,decide_eq_true e1,decide_eq_false hq]
   refine aH (i+1) ⟨by omega,by omega,fun j hj=>?_⟩ (by omega) rfl (by simp (disch:=first|exact Wv.D|fail) only [Wv.B,simprocAttr,e5,Int.natCast_add,Int.natCast_one])
   by_cases e:j=i
   ·subst e;exact decide_eq_false hq
   ·exact hb j (by omega)
 ·obtain rfl:n=i:=by omega
  have hL:qp n f most=false:=any_none hb
  simp (disch:=first|exact Wv.D|fail) only [Wv.B,simprocAttr,Int.lt_irrefl,decide_false,hL]
theorem Wq (e:Ex) (h:okE e) (l:Int) (h0: -150000000000000≤l) (h1:l≤1000000):TC Tryz.prog 57 [.g (exC e), .v (.int .i64 l)] (.v (.int .i64 (cO e l))):=by
 induction e generalizing l with
 | nil=>exact h.elim
 | mk k s n nl li na ar ih=>
 have hle:=fun m=>vI (.mk k s n nl li na ar) h l 1000000 h0 h1 (by omega) (by omega)
 obtain ⟨hs,hnl,hna,hh⟩:=h
 have hacc: ∀ m,m≤na→dZ (fun i x=>cO (ar i) x) (l - 1 - nl - s.size) m≤1000000∧ -1000000000000000≤dZ (fun i x=>cO (ar i) x) (l - 1 - nl - s.size) m:=fun m hm=>
  vH (by omega) (by omega) m fun i hi x q1 q2=>vI (ar i) (hh i (by omega)) x 1000000 (by omega) q2 (by omega) (by omega)
 rw [vG]
 clear hle
 refine Wv.TC.by 35 [0,1,2,5,24,4] [] [.tmp 4] Tryz.func57 rfl rfl rfl ?clo ?_
 case clo=>simp only [Wv.BC]
 unfold exC
 refine Wv.W ?_
 refine dQ (σ:=Nat) (fun i=>[(1, .v (.int .i64 (dZ (fun i x=>cO (ar i) x) (l - 1 - nl - s.size) i))),(2, .ptr 0 0),(5, .v (.int .i64 i))])
  (fun i=>[some (.blk [.v (.int .i64 k), .v (.string s), .v (.int .i64 n), .t nl 1 (tab nl fun i=> .v (.int .i64 (li i))), .t na 5 (bT na fun i=>exC (ar i))])])
  (fun i=>i≤na) (fun i=>na - i) 0 (Nat.zero_le _) Wv.V (by simp (disch:=first|exact Wv.D|fail) only [Wv.B,simprocAttr,dZ]) ?_
 intro i hi
 have hai:=hacc i hi
 have hst:dZ (fun i x=>cO (ar i) x) (l - 1 - nl - s.size) i<0→dZ (fun i x=>cO (ar i) x) (l - 1 - nl - s.size) na=dZ (fun i x=>cO (ar i) x) (l - 1 - nl - s.size) i:=fun q=>wV q hi
 have hsu:dZ (fun i x=>cO (ar i) x) (l - 1 - nl - s.size) (i+1)=if dZ (fun i x=>cO (ar i) x) (l - 1 - nl - s.size) i<0 then dZ (fun i x=>cO (ar i) x) (l - 1 - nl - s.size) i else cO (ar i) (dZ (fun i x=>cO (ar i) x) (l - 1 - nl - s.size) i):=rfl
 by_cases hlt:i<na
 ·have e1:(i:Int)<na:=by omega
  generalize hA:dZ (fun i x=>cO (ar i) x) (l - 1 - nl - s.size) i=A at*
  by_cases hneg:A<0
  ·have e2: ¬ 0≤A:=by omega
   have e3:=hst hneg
   simp (disch:=first|exact Wv.D|fail) only [Wv.B,simprocAttr,decide_eq_true e1,decide_eq_false e2,e3]
  ·have e2:0≤A:=by omega
   rw [if_neg hneg] at hsu
   have T:=ih i (hh i hlt) A (by omega) hai.1
   have hP:=vI (ar i) (hh i hlt) A 1000000 (by omega) hai.1 (by omega) (by omega)
   have hG:=bQ (ar i)
   have hoy:=hh i hlt
   have hL:=dG (n:=na) (f:=fun i=>exC (ar i)) fun i _=>eF (ar i)
   obtain ⟨r,hd⟩: ∃ r,List.drop (i*5) (bT na fun i=>exC (ar i))=exC (ar i)++r:=bP (f:=fun i=>exC (ar i)) (fun i=>iC (ar i)) hlt
   revert hd T hG hL hsu
   generalize (bT na fun i=>exC (ar i))=L
   generalize cO (ar i) A=pa at hP ⊢
   generalize ar i=y at hoy ⊢
   obtain ⟨k',s',n',nl',li',na',ar',rfl⟩:=nN hoy
   rw [dA]
   intro hsu T hG hL hd
   simp only [List.cons_append,List.nil_append] at hd
   simp (disch:=first|exact Wv.D|fail) only [Wv.B,simprocAttr,decide_eq_true e1,decide_eq_true e2,hd]
   refine ah T rfl (acY hG (.v _)) Wv.c ?_
   refine Wv.W ?_
   refine aH (i+1) (by omega) (by omega) rfl (by simp (disch:=first|exact Wv.D|fail) only [Wv.B,simprocAttr,hsu,Int.natCast_add,Int.natCast_one])
 ·obtain rfl:i=na:=by omega
  simp (disch:=first|exact Wv.D|fail) only [Wv.B,simprocAttr,Int.lt_irrefl,decide_false]
def wX:Ex→Nat
 | .nil=>0
 | .mk k s n nl li na ar=>dB (if k=11∨k=13 then 1 else 0) (fun i=>wX (ar i)) na
theorem BR {a b:Nat} {f g:Nat→Nat}: ∀ {n:Nat},a≤b→(∀ i,i<n→f i≤g i)→dB a f n≤dB b g n
 | 0,h,_=>h
 | n+1,h,hf=>by
  have h1:=BR (n:=n) h fun i hi=>hf i (by omega)
  have h2:=hf n (by omega)
  show dB a f n+f n≤dB b g n+g n
  omega
theorem zF: ∀ (e:Ex),wX e≤aY e:=by
 intro e
 induction e with
 | nil=>exact Nat.zero_le _
 | mk k s n nl li na ar ih=>exact BR (by split<;>omega) fun i _=>ih i
theorem OH (e : Ex) (h : okE e) (hc : aY e ≤ 1000000) : TC Tryz.prog 58 [.g (exC e)] (.v (.int .i64 (wX e))) := by
  induction e with
  | nil => exact h.elim
  | mk k s n nl li na ar ih =>
  obtain ⟨hs, hnl, hna, hh⟩ := h
  have hcn : dB 1 (fun i => aY (ar i)) na ≤ 1000000 := hc
  have hfin : wX (.mk k s n nl li na ar) = dB (if k = 11 ∨ k = 13 then 1 else 0) (fun i => wX (ar i)) na := rfl
  rw [hfin]
  refine Wv.TC.by 29 [0, 1, 12, 4, 17, 3, 2] [] [.tmp 2] Tryz.func58 rfl rfl rfl ?clo ?_
  case clo => simp only [Wv.BC]
  unfold exC
  generalize hb : (if k = 11 ∨ k = 13 then 1 else 0 : Nat) = b0 at *
  have hb1 : b0 ≤ 1 := by rw [← hb]; split <;> omega
  by_cases k11 : k = 11
  rotate_left
  by_cases k13 : k = 13
  rotate_left
  all_goals
    first
    | (have hb0 : b0 = 1 := by rw [← hb]; exact if_pos (by omega)
       simp (disch:=first|exact Wv.D|fail) only [Wv.B, simprocAttr, decide_eq_true k11])
    | (have hb0 : b0 = 1 := by rw [← hb]; exact if_pos (by omega)
       simp (disch:=first|exact Wv.D|fail) only [Wv.B, simprocAttr, decide_eq_false k11, decide_eq_true k13])
    | (have hb0 : b0 = 0 := by rw [← hb]; exact if_neg (by omega)
       simp (disch:=first|exact Wv.D|fail) only [Wv.B, simprocAttr, decide_eq_false k11, decide_eq_false k13])
    clear hb hfin
    refine dQ (σ := Nat) (fun i => [(1, .ptr 0 0), (3, .v (.int .i64 (dB b0 (fun i => wX (ar i)) i : Nat))), (4, .v (.int .i64 i))])
      (fun i => [some (.blk [.v (.int .i64 k), .v (.string s), .v (.int .i64 n), .t nl 1 (tab nl fun i => .v (.int .i64 (li i))), .t na 5 (bT na fun i => exC (ar i))])])
      (fun i => i ≤ na) (fun i => na - i) 0 (Nat.zero_le _) Wv.V (by simp (disch:=first|exact Wv.D|fail) only [Wv.B, simprocAttr, dB, hb0, Int.natCast_one, Int.natCast_zero]) ?_
    clear hb0
    intro i hi
    by_cases hlt : i < na
    · have e1 : (i : Int) < na := by omega
      have q1 := qo 1 (fun i => aY (ar i)) hlt
      have hqi := BR (n := i) (f := fun i => wX (ar i)) (g := fun i => aY (ar i)) hb1 fun j _ => zF (ar j)
      have hqm : dB 1 (fun i => aY (ar i)) i ≤ dB 1 (fun i => aY (ar i)) na := vC 1 _ hi
      have q3 := zF (ar i)
      have T := ih i (hh i hlt) (by omega)
      have hG := bQ (ar i)
      have hoy := hh i hlt
      have hL := dG (n := na) (f := fun i => exC (ar i)) fun i _ => eF (ar i)
      obtain ⟨r, hd⟩ : ∃ r, List.drop (i * 5) (bT na fun i => exC (ar i)) = exC (ar i) ++ r := bP (f := fun i => exC (ar i)) (fun i => iC (ar i)) hlt
      revert T hG hL hd
      generalize (bT na fun i => exC (ar i)) = L
      generalize hc2 : wX (ar i) = c2 at *
      generalize hcc : aY (ar i) = cc at *
      generalize ar i = y at hoy ⊢
      obtain ⟨k', s', n', nl', li', na', ar', rfl⟩ := nN hoy
      rw [dA]
      intro T hG hL hd
      simp only [List.cons_append, List.nil_append] at hd
      simp (disch:=first|exact Wv.D|fail) only [Wv.B, simprocAttr, decide_eq_true e1, hd]
      refine ah T rfl (dW hG) Wv.c ?_
      refine Wv.W ?_
      refine aH (i + 1) (by omega) (by omega) rfl (by simp (disch:=first|exact Wv.D|fail) only [Wv.B, simprocAttr, dB, hc2, Int.natCast_add, Int.natCast_one])
    · obtain rfl : i = na := by omega
      simp (disch:=first|exact Wv.D|fail) only [Wv.B, simprocAttr, Int.lt_irrefl, decide_false]
structure DN (c:Ci):Prop where
 name:c.name.size≤140737488351232
 ni:c.ni≤140737488351232
 nl:c.nl≤140737488351232
 no:c.no≤140737488351232
 fi: ∀ i,i<c.ni→(c.fi i).size≤140737488351232
 fo: ∀ i,i<c.no→(c.fo i).size≤140737488351232
 ln: ∀ i,i<c.nl→(c.ln i).size≤140737488351232
 le: ∀ i,i<c.nl→okE (c.le i)
def jv (c:Ci) (most:Int) (i:Nat):Int:=dZ (fun i x=>cO (c.le i) (x - (c.ln i).size)) (most - c.name.size) i
def L6 (c:Ci) (most:Int):Bool:=qp c.ni c.fi most || (qp c.no c.fo most || (decide (most<(c.nl:Int)) || decide (jv c most c.nl<0)))
theorem tZ (c:Ci) (most:Int) (i:Nat):jv c most (i+1)=if jv c most i<0 then jv c most i else cO (c.le i) (jv c most i - (c.ln i).size):=rfl
variable {most:Int}
theorem aaw {c:Ci} (h:DN c)  (h0:0≤most) (h1:most≤1000000): ∀ i,i≤c.nl→jv c most i≤1000000∧ -1000000000000000≤jv c most i:=fun i hi=>by
 have:=h.name
 exact vH (by omega) (by omega) i fun j hj x q1 q2=>by
  have:=h.ln j (by omega)
  exact vI _ (h.le j (by omega)) _ 1000000 (by omega) (by omega) (by omega) (by omega)
theorem aax {c:Ci} (h:DN c)  (h0:0≤most): ∀ i,i≤c.nl→0≤jv c most i→jv c most i≤most∧ ∀ j,j<i→(aY (c.le j):Int)≤most:=by
 intro i
 induction i with
 | zero=>exact fun _ q=>⟨by show most - c.name.size≤most;omega,fun j hj=>by omega⟩
 | succ i ih=>
  intro hi hq
  rw [tZ] at hq ⊢
  by_cases hn:jv c most i<0
  ·rw [if_pos hn] at hq;omega
  ·rw [if_neg hn] at hq ⊢
   obtain ⟨g1,g2⟩:=ih (by omega) (by omega)
   have g3:=Wp (c.le i) (h.le i (by omega)) _ hq
   have g4:1≤aY (c.le i):=by cases c.le i with
    | nil=>exact Nat.le_refl _
    | mk k s n nl li na ar=>exact wU 1 _ _
   refine ⟨by omega,fun j hj=>?_⟩
   by_cases e:j=i
   ·subst e;omega
   ·exact g2 j (by omega)
theorem agf {c:Ci} (h:DN c)  (h0:0≤most) (h1:most≤1000000) (hb:L6 c most=false):okC c∧c.nl≤1000000∧ ∀ i,i<c.nl→(aY (c.le i):Int)≤most:=by
 unfold L6 at hb
 simp only [Bool.or_eq_false_iff,decide_eq_false_iff_not] at hb
 obtain ⟨_,_,b3,b4⟩:=hb
 have hl:=(aax h h0 c.nl (Nat.le_refl _) (by omega)).2
 exact ⟨⟨h.name,h.ni,h.nl,h.no,h.fi,h.fo,h.ln,fun i hi=>⟨h.le i hi,by have:=hl i hi;omega⟩⟩,by omega,hl⟩
theorem OI (c:Ci) (h:DN c) (most:Int) (h0:0≤most) (h1:most≤1000000):TC Tryz.prog 16 [.g (ciC c), .v (.int .i64 most)] (.v (.bool (L6 c most))):=by
 have hli:=aaw h h0 h1
 have hB:L6 c most=(qp c.ni c.fi most || (qp c.no c.fo most || (decide (most<(c.nl:Int)) || decide (jv c most c.nl<0)))):=rfl
 have T1:=LZ c.ni c.fi most h.ni (by omega) h1
 have T2:=LZ c.no c.fo most h.no (by omega) h1
 have hnm:=h.name
 generalize qp c.ni c.fi most=b1 at*
 generalize qp c.no c.fo most=b2 at*
 generalize L6 c most=B at*
 refine Wv.TC.by 58 [0,1,2,28,6,5,37,4] [(7,16)] [.tmp 4] Tryz.func16 rfl rfl rfl ?clo ?_
 case clo=>simp only [Wv.BC]
 unfold ciC bn at*
 refine Wv.W ?_
 refine ah T1 rfl (acY Wv.c (.v _)) Wv.c ?_
 cases b1 with
 | true=>simp (disch:=first|exact Wv.D|fail) only [Wv.B,simprocAttr,hB,Bool.true_or]
 | false=>
 refine Wv.W ?_
 refine ah T2 rfl (acY Wv.c (.v _)) Wv.c ?_
 cases b2 with
 | true=>simp (disch:=first|exact Wv.D|fail) only [Wv.B,simprocAttr,hB,Bool.true_or,Bool.false_or]
 | false=>
 by_cases h3:most<(c.nl:Int)
 ·rw [decide_eq_true h3] at hB
  simp (disch:=first|exact Wv.D|fail) only [Wv.B,simprocAttr,decide_eq_true h3,hB,Bool.true_or,Bool.false_or]
 rw [decide_eq_false h3,Bool.false_or,Bool.false_or,Bool.false_or] at hB
 simp (disch:=first|exact Wv.D|fail) only [Wv.B,simprocAttr,decide_eq_false h3]
 refine dQ (σ:=Nat) (fun i=>[(2, .ptr 0 0),(5, .v (.int .i64 (jv c most i))),(6, .v (.int .i64 i))])
  (fun i=>[some (.blk [.v (.string c.name), .t c.ni 1 (tab c.ni fun i=> .v (.string (c.fi i))), .t c.nl 6 c.lets, .t c.no 1 (tab c.no fun i=> .v (.string (c.fo i)))])])
  (fun i=>i≤c.nl) (fun i=>c.nl - i) 0 (Nat.zero_le _) rfl (by simp (disch:=first|exact Wv.D|fail) only [Wv.B,simprocAttr,jv,dZ]) ?_
 intro i hi
 have hai:=hli i hi
 have hsu:=tZ c most i
 have hst:jv c most i<0→jv c most c.nl=jv c most i:=fun q=>wV q hi
 by_cases hlt:i<c.nl
 ·have e1:(i:Int)<(c.nl:Int):=by omega
  generalize jv c most i=A at*
  by_cases hneg:A<0
  ·have e2: ¬ 0≤A:=by omega
   have e3:=hst hneg
   rw [e3] at hB
   simp (disch:=first|exact Wv.D|fail) only [Wv.B,simprocAttr,decide_eq_true e1,decide_eq_false e2,hB]
  ·have e2:0≤A:=by omega
   rw [if_neg hneg] at hsu
   have hln:=h.ln i hlt
   have T:=Wq (c.le i) (h.le i hlt) (A - (c.ln i).size) (by omega) (by omega)
   have hG:=bQ (c.le i)
   have hoy:=h.le i hlt
   have hL:=jO c
   obtain ⟨r,hd⟩: ∃ r,List.drop (i*6) c.lets=iY (c.ln i) (c.le i)++r:=bP (f:=fun i=>iY (c.ln i) (c.le i)) (fun i=>iG _ _) hlt
   unfold iY at hd
   generalize hA':cO (c.le i) (A - (c.ln i).size)=A' at*
   generalize hle:c.le i=y at*
   obtain ⟨k',s',n',nl',li',na',ar',rfl⟩:=nN hoy
   rw [dA] at T hG hd
   simp only [List.cons_append,List.nil_append] at hd
   simp (disch:=first|exact Wv.D|fail) only [Wv.B,simprocAttr,decide_eq_true e1,decide_eq_true e2,hd]
   refine gq T rfl (acY hG (.v _)) Wv.c ?_
   refine Wv.W ?_
   refine aH (i+1) (by omega) (by omega) rfl (by simp (disch:=first|exact Wv.D|fail) only [Wv.B,simprocAttr,hsu,Int.natCast_add,Int.natCast_one])
 ·obtain rfl:i=c.nl:=by omega
  simp (disch:=first|exact Wv.D|fail) only [Wv.B,simprocAttr,Int.lt_irrefl,decide_false,hB]
def wY (c:Ci) (i:Nat):Nat:=dB 0 (fun i=>wX (c.le i)) i
def UN (p:Nat) (c:Ci):Bool:=decide ((0:Int)<(wY c c.nl:Nat)) && decide ((1000:Int)<((wY c c.nl:Nat):Int)*(if (600:Int)<(p:Int) then (600:Int) else (p:Int)))
theorem acZ {c:Ci} (hc: ∀ i,i<c.nl→wX (c.le i)≤1000000): ∀ i,i≤c.nl→wY c i≤i*1000000:=by
 intro i
 induction i with
 | zero=>
  intro _
  have h3:wY c 0=0:=rfl
  omega
 | succ i ih=>
  intro hi
  have h1:=ih (by omega)
  have h2:=hc i (by omega)
  have h3:wY c (i+1)=wY c i+wX (c.le i):=rfl
  rw [h3,Nat.add_mul,Nat.one_mul]
  exact Nat.add_le_add h1 h2
theorem Ws (x:List AV) (hx: ∀ a,a∈x→Clo a) (p:Nat) (A0 A2 A3 A4 A5 A6:AV) (hxe:x=[A0, .v (.int .u32 p),A2,A3,A4,A5,A6]) (hp:p≤4294967295) (c:Ci) (h:DN c) (hnl:c.nl≤1000000) (hcn: ∀ i,i<c.nl→aY (c.le i)≤1000000):TC Tryz.prog 17 [.g x, .g (ciC c)] (.v (.bool (UN p c))):=by
 subst hxe
 have hle:=acZ (c:=c) fun i hi=>Nat.le_trans (zF _) (hcn i hi)
 have hB:UN p c=(decide ((0:Int)<(wY c c.nl:Nat)) && decide ((1000:Int)<((wY c c.nl:Nat):Int)*(if (600:Int)<(p:Int) then (600:Int) else (p:Int)))):=rfl
 have hn2:c.nl*1000000≤1000000000000:=by omega
 generalize UN p c=B at*
 refine Wv.TC.by 34 [0,1,6,3,11,5,2,4] [] [.tmp 4] Tryz.func17 rfl rfl rfl ?clo ?_
 case clo=>simp only [Wv.BC]
 unfold ciC bn at*
 refine Wv.W ?_
 refine dQ (σ:=Nat) (fun i=>[(2, .ptr 0 0),(3, .ptr 1 0),(5, .v (.int .i64 (wY c i:Nat))),(6, .v (.int .i64 i))])
  (fun i=>[some (.blk [A0, .v (.int .u32 p),A2,A3,A4,A5,A6]),some (.blk [.v (.string c.name), .t c.ni 1 (tab c.ni fun i=> .v (.string (c.fi i))), .t c.nl 6 c.lets, .t c.no 1 (tab c.no fun i=> .v (.string (c.fo i)))])])
  (fun i=>i≤c.nl) (fun i=>c.nl - i) 0 (Nat.zero_le _) rfl (by simp (disch:=first|exact Wv.D|fail) only [Wv.B,simprocAttr,wY,dB,Int.natCast_zero]) ?_
 intro i hi
 have hai:=hle i hi
 have hin:i*1000000≤1000000000000:=Nat.le_trans (Nat.mul_le_mul_right _ hi) hn2
 have hsu:wY c (i+1)=wY c i+wX (c.le i):=rfl
 by_cases hlt:i<c.nl
 ·have e1:(i:Int)<(c.nl:Int):=by omega
  have q3:=Nat.le_trans (zF (c.le i)) (hcn i hlt)
  have T:=OH (c.le i) (h.le i hlt) (hcn i hlt)
  have hG:=bQ (c.le i)
  have hoy:=h.le i hlt
  have hL:=jO c
  obtain ⟨r,hd⟩: ∃ r,List.drop (i*6) c.lets=iY (c.ln i) (c.le i)++r:=bP (f:=fun i=>iY (c.ln i) (c.le i)) (fun i=>iG _ _) hlt
  unfold iY at hd
  generalize wX (c.le i)=tt at*
  generalize hle:c.le i=y at*
  obtain ⟨k',s',n',nl',li',na',ar',rfl⟩:=nN hoy
  rw [dA] at T hG hd
  simp only [List.cons_append,List.nil_append] at hd
  simp (disch:=first|exact Wv.D|fail) only [Wv.B,simprocAttr,decide_eq_true e1,hd]
  refine ah T rfl (dW hG) Wv.c ?_
  refine Wv.W ?_
  refine aH (i+1) (by omega) (by omega) rfl (by simp (disch:=first|exact Wv.D|fail) only [Wv.B,simprocAttr,hsu,Int.natCast_add,Int.natCast_one])
 ·obtain rfl:i=c.nl:=by omega
  generalize wY c c.nl=m at*
  have hm:m≤1000000000000:=by omega
  by_cases h0:(0:Int)<(m:Int)
  ·have hmul:((m:Nat):Int)*(if (600:Int)<(p:Int) then (600:Int) else (p:Int))≤1000000000000*600:=Int.mul_le_mul (by omega) (by split<;>omega) (by split<;>omega) (by omega)
   have akp:0≤((m:Nat):Int)*(if (600:Int)<(p:Int) then (600:Int) else (p:Int)):=Int.mul_nonneg (by omega) (by split<;>omega)
   rw [decide_eq_true h0,Bool.true_and] at hB
   simp (disch:=first|exact Wv.D|fail) only [Wv.B,simprocAttr,Int.lt_irrefl,decide_false,decide_eq_true h0,hB]
  ·rw [decide_eq_false h0,Bool.false_and] at hB
   simp (disch:=first|exact Wv.D|fail) only [Wv.B,simprocAttr,Int.lt_irrefl,decide_false,decide_eq_false h0,hB]
end
section
open Go.ChangeShapes Go.WideShapes Go.ChangeAt Go.RowKit Go.Deep Wv
instance:Inhabited Ex:=⟨.nil⟩
instance:Inhabited ByteArray:=⟨⟨#[]⟩⟩
variable {α:Type}
theorem ajO {l:List α} (h:l.length=5): ∃ a b c d e,l=[a,b,c,d,e]:=by
 match l,h with
 | [a,b,c,d,e],_=>exact ⟨a,b,c,d,e,rfl⟩
theorem ajP {l:List α} (h:l.length=6): ∃ a b c d e f,l=[a,b,c,d,e,f]:=by
 match l,h with
 | [a,b,c,d,e,f],_=>exact ⟨a,b,c,d,e,f,rfl⟩
theorem ajQ {l:List α} (h:l.length=4): ∃ a b c d,l=[a,b,c,d]:=by
 match l,h with
 | [a,b,c,d],_=>exact ⟨a,b,c,d,rfl⟩
variable {l:List AV}
theorem aiw {t:TypeId}  (h:Sh Tryz.prog t l):(t=46→ ∃ e,okE e∧l=exC e):=by
 have key:(t=46→ ∃ e,okE e∧l=exC e)∧(t=44→ ∃ (n:Nat) (f:Nat→Ex),n≤140737488351232∧(∀ i,i<n→okE (f i))∧l=[.t n 5 (bT n fun i=>exC (f i))]):=by
  induction h with
  | bool h=>exact ⟨fun e=>(by subst e;cases Tryz.underlying46.symm.trans h),fun e=>(by subst e;cases Tryz.underlying44.symm.trans h)⟩
  | int h=>exact ⟨fun e=>(by subst e;cases Tryz.underlying46.symm.trans h),fun e=>(by subst e;cases Tryz.underlying44.symm.trans h)⟩
  | str h=>exact ⟨fun e=>(by subst e;cases Tryz.underlying46.symm.trans h),fun e=>(by subst e;cases Tryz.underlying44.symm.trans h)⟩
  | @slice t e n f h hn hl hf ih=>
   refine ⟨fun e=>(by subst e;cases Tryz.underlying46.symm.trans h),fun e=>?_⟩
   subst e
   have:=Tryz.underlying44.symm.trans h
   injection this with this
   injection this with this
   subst this
   have hc:Tryz.prog.cellsOf 46=5:=by kernel_rfl
   have hb:1≤Tryz.prog.bytesOf 46:=Nat.le_of_ble_eq_true (by kernel_rfl)
   obtain ⟨g,hg⟩:=choose_lt (α:=Ex) fun i hi=>(ih i hi).1 rfl
   rw [hc]
   refine ⟨n,g,?_,fun i hi=>(hg i hi).1,?_⟩
   ·have h1:=Nat.mul_le_mul_left n hb
    have h2:reachBytes=140737488351232:=rfl
    omega
   ·rw [BI fun i hi=>(hg i hi).2];rfl
  | @struct t fs l h hl hf ih=>
   refine ⟨fun e=>?_,fun e=>(by subst e;cases Tryz.underlying44.symm.trans h)⟩
   subst e
   have:=Tryz.underlying46.symm.trans h
   injection this with this
   injection this with this
   subst this
   have hc:Tryz.prog.cellsOf 46=5:=by kernel_rfl
   rw [hc] at hl
   obtain ⟨a,b,c,d,e,rfl⟩:=ajO hl
   have c1:Tryz.prog.cellsOf 3=1:=by kernel_rfl
   have c2:Tryz.prog.cellsOf 9=1:=by kernel_rfl
   have c3:Tryz.prog.cellsOf 2=1:=by kernel_rfl
   have c4:Tryz.prog.cellsOf 43=1:=by kernel_rfl
   have c5:Tryz.prog.cellsOf 44=1:=by kernel_rfl
   have h0:Sh Tryz.prog 3 (([a,b,c,d,e].drop 0).take (Tryz.prog.cellsOf 3)):=hf 0 _ rfl
   have h1:Sh Tryz.prog 9 (([a,b,c,d,e].drop 1).take (Tryz.prog.cellsOf 9)):=hf 1 _ rfl
   have h2:Sh Tryz.prog 2 (([a,b,c,d,e].drop 2).take (Tryz.prog.cellsOf 2)):=hf 2 _ rfl
   have h3:Sh Tryz.prog 43 (([a,b,c,d,e].drop 3).take (Tryz.prog.cellsOf 43)):=hf 3 _ rfl
   have h4:=(ih 4 _ rfl).2 rfl
   have h4': ∃ (n:Nat) (f:Nat→Ex),n≤140737488351232∧(∀ i,i<n→okE (f i))∧([a,b,c,d,e].drop 4).take (Tryz.prog.cellsOf 44)=[.t n 5 (bT n fun i=>exC (f i))]:=h4
   rw [c1] at h0
   rw [c2] at h1
   rw [c3] at h2
   rw [c4] at h3
   rw [c5] at h4'
   obtain ⟨z0,e0,_⟩:=oJ Tryz.underlying3 h0
   obtain ⟨s1,e1,w1⟩:=GU Tryz.underlying9 h1
   obtain ⟨z2,e2,_⟩:=oJ Tryz.underlying2 h2
   obtain ⟨n3,f3,e3,w3,_⟩:=UK Tryz.underlying43 Tryz.underlying2 (Nat.le_of_ble_eq_true (by kernel_rfl)) (by kernel_rfl) h3
   obtain ⟨n4,f4,w4,o4,e4⟩:=h4'
   have f0:[a]=[AV.v (.int .i64 z0)]:=e0
   have f1:[b]=[AV.v (.string s1)]:=e1
   have f2:[c]=[AV.v (.int .i64 z2)]:=e2
   have f3':[d]=[AV.t n3 1 (tab n3 fun i=> .v (.int .i64 (f3 i)))]:=e3
   have f4':[e]=[AV.t n4 5 (bT n4 fun i=>exC (f4 i))]:=e4
   simp only [List.cons.injEq,and_true] at f0 f1 f2 f3' f4'
   subst f0 f1 f2 f3' f4'
   have hr:reachBytes=140737488351232:=rfl
   exact ⟨.mk z0 s1 z2 n3 f3 n4 f4,⟨by omega,by omega,w4,o4⟩,rfl⟩
 exact key.1
def aix:List TypeId:=[3,2,9,43,26,46,44,49,27,29]
theorem ac0:setB Tryz.prog aix=true:=by kernel_rfl
theorem agh (h:Sh Tryz.prog 49 l): ∃ s e,s.size≤140737488351232∧okE e∧l=iY s e:=by
 obtain ⟨hl,hf⟩:=wP Tryz.underlying49 h
 have hc:Tryz.prog.cellsOf 49=6:=by kernel_rfl
 rw [hc] at hl
 obtain ⟨a,b,c,d,e,f,rfl⟩:=ajP hl
 have c2:Tryz.prog.cellsOf 9=1:=by kernel_rfl
 have c3:Tryz.prog.cellsOf 46=5:=by kernel_rfl
 have h0:Sh Tryz.prog 9 (([a,b,c,d,e,f].drop 0).take (Tryz.prog.cellsOf 9)):=hf 0 _ rfl
 have h1:Sh Tryz.prog 46 (([a,b,c,d,e,f].drop 1).take (Tryz.prog.cellsOf 46)):=hf 1 _ rfl
 rw [c2] at h0
 rw [c3] at h1
 obtain ⟨s,e0,w0⟩:=GU Tryz.underlying9 h0
 obtain ⟨x,o1,e1⟩:=aiw h1 rfl
 have f0:[a]=[AV.v (.string s)]:=e0
 have f1:[b,c,d,e,f]=exC x:=e1
 simp only [List.cons.injEq,and_true] at f0
 subst f0
 have hr:reachBytes=140737488351232:=rfl
 exact ⟨s,x,by omega,o1,by rw [f1];rfl⟩
theorem aiy (h:Sh Tryz.prog 29 l): ∃ c,DN c∧l=ciC c:=by
 obtain ⟨hl,hf⟩:=wP Tryz.underlying29 h
 have hc:Tryz.prog.cellsOf 29=4:=by kernel_rfl
 rw [hc] at hl
 obtain ⟨a,b,c,d,rfl⟩:=ajQ hl
 have c2:Tryz.prog.cellsOf 9=1:=by kernel_rfl
 have c3:Tryz.prog.cellsOf 26=1:=by kernel_rfl
 have c4:Tryz.prog.cellsOf 27=1:=by kernel_rfl
 have c5:Tryz.prog.cellsOf 49=6:=by kernel_rfl
 have h0:Sh Tryz.prog 9 (([a,b,c,d].drop 0).take (Tryz.prog.cellsOf 9)):=hf 0 _ rfl
 have h1:Sh Tryz.prog 26 (([a,b,c,d].drop 1).take (Tryz.prog.cellsOf 26)):=hf 1 _ rfl
 have h2:Sh Tryz.prog 27 (([a,b,c,d].drop 2).take (Tryz.prog.cellsOf 27)):=hf 2 _ rfl
 have h3:Sh Tryz.prog 26 (([a,b,c,d].drop 3).take (Tryz.prog.cellsOf 26)):=hf 3 _ rfl
 rw [c2] at h0
 rw [c3] at h1 h3
 rw [c4] at h2
 obtain ⟨s,e0,w0⟩:=GU Tryz.underlying9 h0
 obtain ⟨n1,g1,e1,w1,w1'⟩:=UL Tryz.underlying26 Tryz.underlying9 (Nat.le_of_ble_eq_true (by kernel_rfl)) (by kernel_rfl) h1
 obtain ⟨n2,g2,e2,w2,q2⟩:=BH Tryz.underlying27 (Nat.le_of_ble_eq_true (by kernel_rfl)) h2
 obtain ⟨n3,g3,e3,w3,w3'⟩:=UL Tryz.underlying26 Tryz.underlying9 (Nat.le_of_ble_eq_true (by kernel_rfl)) (by kernel_rfl) h3
 obtain ⟨L,hL⟩:=choose_lt (α:=ByteArray × Ex) (p:=fun i q=>q.1.size≤140737488351232∧okE q.2∧g2 i=iY q.1 q.2) fun i hi=>by
  obtain ⟨s,e,k1,k2,k3⟩:=agh (q2 i hi)
  exact ⟨(s,e),(⟨k1,k2,k3⟩:s.size≤140737488351232∧okE e∧g2 i=iY s e)⟩
 have f0:[a]=[AV.v (.string s)]:=e0
 have f1:[b]=[AV.t n1 1 (tab n1 fun i=> .v (.string (g1 i)))]:=e1
 have f2:[c]=[AV.t n2 (Tryz.prog.cellsOf 49) ((List.range n2).flatMap g2)]:=e2
 have f3:[d]=[AV.t n3 1 (tab n3 fun i=> .v (.string (g3 i)))]:=e3
 rw [c5,BI fun i hi=>(hL i hi).2.2] at f2
 simp only [List.cons.injEq,and_true] at f0 f1 f2 f3
 subst f0 f1 f2 f3
 have hr:reachBytes=140737488351232:=rfl
 exact ⟨{name:=s,ni:=n1,fi:=g1,nl:=n2,ln:=fun i=>(L i).1,le:=fun i=>(L i).2,no:=n3,fo:=g3},
  ⟨by show s.size≤_;omega,by show n1≤_;omega,by show n2≤_;omega,by show n3≤_;omega,fun i hi=>by have:=w1' i hi;show (g1 i).size≤_;omega,fun i hi=>by have:=w3' i hi;show (g3 i).size≤_;omega,fun i hi=>(hL i hi).1,fun i hi=>(hL i hi).2.1⟩,rfl⟩
theorem acv {H:Type} {enc:TypeId × Value→H} {w:World} {base b0:Nat} {spare:Nat→Bool} {held:Bool} {r:Reach} {v:Value} {d:DataW H} {p:List MemPlace}
  (hv:Value.okWide Tryz.prog w r b0 29 v) (h:DataW.Trod enc Tryz.prog w base spare held 29 v d p) (hl:BF Tryz.prog 29 d): ∃ c,DN c∧Rep (BG w) (.g (ciC c)) v:=by
 simp only [Value.okWide,Tryz.underlying29] at hv
 obtain ⟨cs,rfl,_,_⟩:=hv
 obtain ⟨fuel,hf⟩:=h
 obtain ⟨l,s1,s2,s3⟩:=reads ac0 fuel _ _ _ (by unfold aix;simp) hf hl
 obtain ⟨c,hc,rfl⟩:=aiy s1
 refine ⟨c,hc,?_⟩
 have e:(Value.agg cs)= .agg cs.toList.toArray:=by simp
 rw [e]
 exact .g s2.1 s2.2
end
section
structure Par where
 n:Int
 p:Nat
 r:Int
 ch:List Nat
 sp:Nat
 wt:Int
 er:Nat
end
end Go.Proofs.YtljfgdlgmdcmfaaGreat
