import Derived.Test.YtcpbhpebeoopkaaGreatK2
namespace Go.Sx
open Go.RowKit
set_option linter.unusedVariables false
noncomputable def uy (k_ : Int) : Option (Int × Int × Int) :=
  if k_ = 1 then (some ((64 : Int), (64 : Int), (16 : Int))) else (if k_ = 2 then (some ((32 : Int), (32 : Int), (8 : Int))) else (some ((0 : Int), (0 : Int), (0 : Int))))
noncomputable def l_ (n : Int) (lo : Int) (hi : Int) : Option Bool :=
  some ((decide (lo <= n)) && (decide (n <= hi)))
noncomputable def wz  : Option Int :=
  some (0 : Int)
noncomputable def sJ (k_ : Int) (aY : UInt32) (ag : Int) (aO : Int) (aX : List UInt8) (ai : List UInt8) (r_ : (Int × Int × Int)) (aQ : Bool) : Option Int :=
  if aQ = true then (some (23 : Int)) else (if ((decide (k_ = 2)) && (decide ((65535 : UInt32) < aY))) = true then (some (24 : Int)) else ((l_ ag (0 : Int) (255 : Int)).bind fun jW => if (!jW) = true then (some (25 : Int)) else ((l_ aO (0 : Int) r_.2.1).bind fun oG => if (!oG) = true then (some (26 : Int)) else (if r_.2.2 < ((aX.length : Nat) : Int) then (some (27 : Int)) else (if r_.2.2 < ((ai.length : Nat) : Int) then (some (28 : Int)) else (wz))))))
noncomputable def o5 (k_ : Int) (aA : Int) (bH : Int) (aB : Int) (aI : Int) (au : UInt64) (aY : UInt32) (ag : Int) (aO : Int) (aX : List UInt8) (ai : List UInt8) (r_ : (Int × Int × Int)) (least : Int) : Option Int :=
  (l_ aA (1 : Int) r_.2.1).bind fun aU => if (!aU) = true then (some (20 : Int)) else ((l_ bH (0 : Int) r_.2.1).bind fun b_ => if (!b_) = true then (some (8 : Int)) else ((l_ aB (0 : Int) (255 : Int)).bind fun fG => if (!fG) = true then (some (21 : Int)) else ((l_ aI least (255 : Int)).bind fun iE => if (!iE) = true then (some (22 : Int)) else (if ((decide (aY ≠ 0)) && (decide ((4294967296 : UInt64) <= au))) = true then (sJ k_ aY ag aO aX ai r_ ((decide (aY ≠ 0)) && (decide ((4294967296 : UInt64) <= au)))) else (sJ k_ aY ag aO aX ai r_ (((decide (aY = 0)) && (decide (k_ = 2))) && (decide ((281474976710656 : UInt64) <= au))))))))
noncomputable def rG (k_ : Int) (aA : Int) (bH : Int) (aB : Int) (aI : Int) (bD : UInt32) (au : UInt64) (aY : UInt32) (ag : Int) (aO : Int) (aX : List UInt8) (ai : List UInt8) : Option Int :=
  (uy k_).bind fun r_ => if r_.2.1 = 0 then (some (1 : Int)) else (if aY ≠ 0 then (o5 k_ aA bH aB aI au aY ag aO aX ai r_ (0 : Int)) else (o5 k_ aA bH aB aI au aY ag aO aX ai r_ (1 : Int)))
noncomputable def tJ (k_ : Int) : Option (List (Int × Int × Int × List UInt8 × Int)) :=
  if k_ = 1 then (some ([((1 : Int), (0 : Int), (1 : Int), ([100, 105, 103, 101, 115, 116] : List UInt8), (20 : Int)), ((2 : Int), (1 : Int), (1 : Int), ([107, 101, 121] : List UInt8), (8 : Int)), ((3 : Int), (2 : Int), (1 : Int), ([102, 97, 110, 111, 117, 116] : List UInt8), (21 : Int)), ((4 : Int), (3 : Int), (1 : Int), ([100, 101, 112, 116, 104] : List UInt8), (22 : Int)), ((5 : Int), (4 : Int), (4 : Int), ([108, 101, 97, 102] : List UInt8), (1 : Int)), ((6 : Int), (8 : Int), (8 : Int), ([111, 102, 102, 115, 101, 116] : List UInt8), (23 : Int)), ((7 : Int), (12 : Int), (4 : Int), ([120, 111, 102] : List UInt8), (24 : Int)), ((8 : Int), (16 : Int), (1 : Int), ([110, 111, 100, 101] : List UInt8), (25 : Int)), ((9 : Int), (17 : Int), (1 : Int), ([105, 110, 110, 101, 114] : List UInt8), (26 : Int))] : List (Int × Int × Int × List UInt8 × Int))) else ((aZ ([((1 : Int), (0 : Int), (1 : Int), ([100, 105, 103, 101, 115, 116] : List UInt8), (20 : Int)), ((2 : Int), (1 : Int), (1 : Int), ([107, 101, 121] : List UInt8), (8 : Int)), ((3 : Int), (2 : Int), (1 : Int), ([102, 97, 110, 111, 117, 116] : List UInt8), (21 : Int)), ((4 : Int), (3 : Int), (1 : Int), ([100, 101, 112, 116, 104] : List UInt8), (22 : Int)), ((5 : Int), (4 : Int), (4 : Int), ([108, 101, 97, 102] : List UInt8), (1 : Int)), ((6 : Int), (8 : Int), (8 : Int), ([111, 102, 102, 115, 101, 116] : List UInt8), (23 : Int)), ((7 : Int), (12 : Int), (4 : Int), ([120, 111, 102] : List UInt8), (24 : Int)), ((8 : Int), (16 : Int), (1 : Int), ([110, 111, 100, 101] : List UInt8), (25 : Int)), ((9 : Int), (17 : Int), (1 : Int), ([105, 110, 110, 101, 114] : List UInt8), (26 : Int))] : List (Int × Int × Int × List UInt8 × Int)) (5 : Int)).bind fun aQ => (aZ (([((1 : Int), (0 : Int), (1 : Int), ([100, 105, 103, 101, 115, 116] : List UInt8), (20 : Int)), ((2 : Int), (1 : Int), (1 : Int), ([107, 101, 121] : List UInt8), (8 : Int)), ((3 : Int), (2 : Int), (1 : Int), ([102, 97, 110, 111, 117, 116] : List UInt8), (21 : Int)), ((4 : Int), (3 : Int), (1 : Int), ([100, 101, 112, 116, 104] : List UInt8), (22 : Int)), ((5 : Int), (4 : Int), (4 : Int), ([108, 101, 97, 102] : List UInt8), (1 : Int)), ((6 : Int), (8 : Int), (8 : Int), ([111, 102, 102, 115, 101, 116] : List UInt8), (23 : Int)), ((7 : Int), (12 : Int), (4 : Int), ([120, 111, 102] : List UInt8), (24 : Int)), ((8 : Int), (16 : Int), (1 : Int), ([110, 111, 100, 101] : List UInt8), (25 : Int)), ((9 : Int), (17 : Int), (1 : Int), ([105, 110, 110, 101, 114] : List UInt8), (26 : Int))] : List (Int × Int × Int × List UInt8 × Int)).set (Int.toNat (5 : Int)) (aQ.1, aQ.2.1, (6 : Int), aQ.2.2.2.1, aQ.2.2.2.2)) (6 : Int)).bind fun x_1 => (aZ ((([((1 : Int), (0 : Int), (1 : Int), ([100, 105, 103, 101, 115, 116] : List UInt8), (20 : Int)), ((2 : Int), (1 : Int), (1 : Int), ([107, 101, 121] : List UInt8), (8 : Int)), ((3 : Int), (2 : Int), (1 : Int), ([102, 97, 110, 111, 117, 116] : List UInt8), (21 : Int)), ((4 : Int), (3 : Int), (1 : Int), ([100, 101, 112, 116, 104] : List UInt8), (22 : Int)), ((5 : Int), (4 : Int), (4 : Int), ([108, 101, 97, 102] : List UInt8), (1 : Int)), ((6 : Int), (8 : Int), (8 : Int), ([111, 102, 102, 115, 101, 116] : List UInt8), (23 : Int)), ((7 : Int), (12 : Int), (4 : Int), ([120, 111, 102] : List UInt8), (24 : Int)), ((8 : Int), (16 : Int), (1 : Int), ([110, 111, 100, 101] : List UInt8), (25 : Int)), ((9 : Int), (17 : Int), (1 : Int), ([105, 110, 110, 101, 114] : List UInt8), (26 : Int))] : List (Int × Int × Int × List UInt8 × Int)).set (Int.toNat (5 : Int)) (aQ.1, aQ.2.1, (6 : Int), aQ.2.2.2.1, aQ.2.2.2.2)).set (Int.toNat (6 : Int)) (x_1.1, x_1.2.1, (2 : Int), x_1.2.2.2.1, x_1.2.2.2.2)) (7 : Int)).bind fun dV => (aZ (((([((1 : Int), (0 : Int), (1 : Int), ([100, 105, 103, 101, 115, 116] : List UInt8), (20 : Int)), ((2 : Int), (1 : Int), (1 : Int), ([107, 101, 121] : List UInt8), (8 : Int)), ((3 : Int), (2 : Int), (1 : Int), ([102, 97, 110, 111, 117, 116] : List UInt8), (21 : Int)), ((4 : Int), (3 : Int), (1 : Int), ([100, 101, 112, 116, 104] : List UInt8), (22 : Int)), ((5 : Int), (4 : Int), (4 : Int), ([108, 101, 97, 102] : List UInt8), (1 : Int)), ((6 : Int), (8 : Int), (8 : Int), ([111, 102, 102, 115, 101, 116] : List UInt8), (23 : Int)), ((7 : Int), (12 : Int), (4 : Int), ([120, 111, 102] : List UInt8), (24 : Int)), ((8 : Int), (16 : Int), (1 : Int), ([110, 111, 100, 101] : List UInt8), (25 : Int)), ((9 : Int), (17 : Int), (1 : Int), ([105, 110, 110, 101, 114] : List UInt8), (26 : Int))] : List (Int × Int × Int × List UInt8 × Int)).set (Int.toNat (5 : Int)) (aQ.1, aQ.2.1, (6 : Int), aQ.2.2.2.1, aQ.2.2.2.2)).set (Int.toNat (6 : Int)) (x_1.1, x_1.2.1, (2 : Int), x_1.2.2.2.1, x_1.2.2.2.2)).set (Int.toNat (7 : Int)) (dV.1, (14 : Int), dV.2.2.1, dV.2.2.2.1, dV.2.2.2.2)) (8 : Int)).bind fun lL => some ((((([((1 : Int), (0 : Int), (1 : Int), ([100, 105, 103, 101, 115, 116] : List UInt8), (20 : Int)), ((2 : Int), (1 : Int), (1 : Int), ([107, 101, 121] : List UInt8), (8 : Int)), ((3 : Int), (2 : Int), (1 : Int), ([102, 97, 110, 111, 117, 116] : List UInt8), (21 : Int)), ((4 : Int), (3 : Int), (1 : Int), ([100, 101, 112, 116, 104] : List UInt8), (22 : Int)), ((5 : Int), (4 : Int), (4 : Int), ([108, 101, 97, 102] : List UInt8), (1 : Int)), ((6 : Int), (8 : Int), (8 : Int), ([111, 102, 102, 115, 101, 116] : List UInt8), (23 : Int)), ((7 : Int), (12 : Int), (4 : Int), ([120, 111, 102] : List UInt8), (24 : Int)), ((8 : Int), (16 : Int), (1 : Int), ([110, 111, 100, 101] : List UInt8), (25 : Int)), ((9 : Int), (17 : Int), (1 : Int), ([105, 110, 110, 101, 114] : List UInt8), (26 : Int))] : List (Int × Int × Int × List UInt8 × Int)).set (Int.toNat (5 : Int)) (aQ.1, aQ.2.1, (6 : Int), aQ.2.2.2.1, aQ.2.2.2.2)).set (Int.toNat (6 : Int)) (x_1.1, x_1.2.1, (2 : Int), x_1.2.2.2.1, x_1.2.2.2.2)).set (Int.toNat (7 : Int)) (dV.1, (14 : Int), dV.2.2.1, dV.2.2.2.1, dV.2.2.2.2)).set (Int.toNat (8 : Int)) (lL.1, (15 : Int), lL.2.2.1, lL.2.2.2.1, lL.2.2.2.2)))
noncomputable def zk (aA : Int) (bH : Int) (aB : Int) (aI : Int) (bD : UInt32) (au : UInt64) (aY : UInt32) (ag : Int) (aO : Int) (aX : List UInt8) (ai : List UInt8) (field : Int) : Option UInt64 :=
  if field = 1 then (some (UInt64.ofInt aA)) else (if field = 2 then (some (UInt64.ofInt bH)) else (if field = 3 then (some (UInt64.ofInt aB)) else (if field = 4 then (some (UInt64.ofInt aI)) else (if field = 5 then (some (UInt64.ofNat bD.toNat)) else (if field = 6 then (some au) else (if field = 7 then (some (UInt64.ofNat aY.toNat)) else (if field = 8 then (some (UInt64.ofInt ag)) else (some (UInt64.ofInt aO)))))))))
noncomputable def ve (at_ : Int) (size : Int) (v : UInt64) : (List UInt8 × Int) -> Option ((List UInt8 × Int) ⊕ (List UInt8))
  | (b1, aQ) => if aQ < size then ((need (0 <= aG (8 * aQ))).bind fun u => (aZ b1 (aG (at_ + aQ))).bind fun x_1 => some (.inl (b1.set (Int.toNat (aG (at_ + aQ))) (UInt8.ofNat (lM v (Int.toNat (aG (8 * aQ)))).toNat), aG (aQ + 1)))) else (Option.map Sum.inr (some b1))
noncomputable def zF (b : List UInt8) (at_ : Int) (size : Int) (v : UInt64) : Option (List UInt8) :=
  aV (ve at_ size v) (b, (0 : Int))
noncomputable def uJ (aQ : Int) (b1 : List UInt8) : Option ((List UInt8 × Int) ⊕ (List UInt8 × Int)) :=
  some (.inl (b1, aG (aQ + 1)))
noncomputable def qM (aQ : Int) (b2 : List UInt8) : Option ((List UInt8 × Int) ⊕ (List UInt8 × Int)) :=
  uJ aQ b2
noncomputable def nR (aA : Int) (bH : Int) (aB : Int) (aI : Int) (bD : UInt32) (au : UInt64) (aY : UInt32) (ag : Int) (aO : Int) (aX : List UInt8) (ai : List UInt8) (aU : (Int × Int × Int)) (b_ : (List (Int × Int × Int × List UInt8 × Int))) : (List UInt8 × Int) -> Option ((List UInt8 × Int) ⊕ (List UInt8 × Int))
  | (b, aQ) => if aQ < ((b_.length : Nat) : Int) then ((aZ b_ aQ).bind fun dV => if ((decide (dV.1 = 7)) && (decide (aY = 0))) = true then (qM aQ b) else ((zk aA bH aB aI bD au aY ag aO aX ai dV.1).bind fun fG => (zF b dV.2.1 dV.2.2.1 fG).bind fun iE => qM aQ iE)) else (Option.map Sum.inr ((Jq b (aG (aU.1 - (aG (2 * aU.2.2)))) ((Int.toNat aU.1 : Nat) : Int)).bind fun b3 => (Jq (VW b (Int.toNat (aG (aU.1 - (aG (2 * aU.2.2))))) b3.length aX) (aG (aU.1 - aU.2.2)) ((Int.toNat aU.1 : Nat) : Int)).bind fun b4 => some (VW (VW b (Int.toNat (aG (aU.1 - (aG (2 * aU.2.2))))) b3.length aX) (Int.toNat (aG (aU.1 - aU.2.2))) b4.length ai, (0 : Int))))
noncomputable def pq (k_ : Int) (aA : Int) (bH : Int) (aB : Int) (aI : Int) (bD : UInt32) (au : UInt64) (aY : UInt32) (ag : Int) (aO : Int) (aX : List UInt8) (ai : List UInt8) : Option (List UInt8 × Int) :=
  (rG k_ aA bH aB aI bD au aY ag aO aX ai).bind fun r_ => if r_ ≠ 0 then (some (([] : List UInt8), r_)) else ((uy k_).bind fun aU => (need ((0 : Int) <= aU.1 /\ (aU.1 : Int) <= aU.1 /\ Int.toNat aU.1 * 1 <= 140737488355328)).bind fun u => (tJ k_).bind fun b_ => aV (nR aA bH aB aI bD au aY ag aO aX ai aU b_) (List.replicate (Int.toNat aU.1) (0 : UInt8), (0 : Int)))
noncomputable def Dh  : Option (Vec UInt64 8) :=
  some (⟨[(7640891576956012808 : UInt64), (13503953896175478587 : UInt64), (4354685564936845355 : UInt64), (11912009170470909681 : UInt64), (5840696475078001361 : UInt64), (11170449401992604703 : UInt64), (2270897969802886507 : UInt64), (6620516959819538809 : UInt64)], rfl⟩ : Vec UInt64 8)
noncomputable def xY (b : List UInt8) (at_ : Int) (n : Int) : (UInt64 × Int) -> Option ((UInt64 × Int) ⊕ (UInt64 × Int))
  | (w_, aQ) => if aQ < n then ((aZ b (aG (at_ + aQ))).bind fun dV => (need (0 <= aG (8 * aQ))).bind fun u => some (.inl (w_ ||| (sH (UInt64.ofNat dV.toNat) (Int.toNat (aG (8 * aQ)))), aG (aQ + 1)))) else (Option.map Sum.inr (some (w_, (0 : Int))))
noncomputable def xJ (b : List UInt8) (at_ : Int) (n : Int) : Option (UInt64 × Int) :=
  if at_ < 0 then (some ((0 : UInt64), (1 : Int))) else (if ((decide (((b.length : Nat) : Int) < at_)) || (decide ((aG (((b.length : Nat) : Int) - at_)) < n))) = true then (some ((0 : UInt64), (3 : Int))) else (aV (xY b at_ n) ((0 : UInt64), (0 : Int))))
noncomputable def oV (b : List UInt8) (at_ : Int) : Option (UInt64 × Int) :=
  (xJ b at_ (8 : Int)).bind fun r_ => some (r_.1, r_.2)
noncomputable def xe (block : List UInt8) : (Vec UInt64 8 × Int) -> Option ((Vec UInt64 8 × Int) ⊕ (Vec UInt64 8 × Int))
  | (h, aQ) => if aQ < 8 then ((oV block (aG (8 * aQ))).bind fun aU => (aZ h.l aQ).bind fun dV => (aZ h.l aQ).bind fun lL => (some (uZ h aQ (dV ^^^ aU.1))).bind fun v => some (.inl (v, aG (aQ + 1)))) else (Option.map Sum.inr (some (h, (0 : Int))))
noncomputable def xZ (block : List UInt8) : Option (Vec UInt64 8 × Int) :=
  if ((block.length : Nat) : Int) ≠ 64 then (some ((Vec.rep 8 ((0 : UInt64) : UInt64)), (1 : Int))) else ((Dh).bind fun r_ => aV (xe block) (r_, (0 : Int)))
noncomputable def Qb (b : List UInt8) (n : Int) : Option Int :=
  if ((b.length : Nat) : Int) < n then (some (3 : Int)) else (if n < ((b.length : Nat) : Int) then (some (2 : Int)) else (some (0 : Int)))
noncomputable def Ob (b : List UInt8) (at_ : Int) : Option (UInt32 × Int) :=
  (xJ b at_ (4 : Int)).bind fun r_ => some (UInt32.ofNat r_.1.toNat, r_.2)
noncomputable def KI (m_ : List UInt32) (b : List UInt8) : (List UInt32 × Int) -> Option ((List UInt32 × Int) ⊕ (List UInt32))
  | (Jr, aQ) => if aQ < ((m_.length : Nat) : Int) then ((Ob b (aG (4 * aQ))).bind fun r_ => (aZ Jr aQ).bind fun x_1 => some (.inl (Jr.set (Int.toNat aQ) r_.1, aG (aQ + 1)))) else (Option.map Sum.inr (some Jr))
noncomputable def Qc (m_ : List UInt32) (b : List UInt8) : Option (List UInt32) :=
  aV (KI m_ b) (m_, (0 : Int))
noncomputable def Xu  : Option (Vec UInt32 8) :=
  some (⟨[(1779033703 : UInt32), (3144134277 : UInt32), (1013904242 : UInt32), (2773480762 : UInt32), (1359893119 : UInt32), (2600822924 : UInt32), (528734635 : UInt32), (1541459225 : UInt32)], rfl⟩ : Vec UInt32 8)
noncomputable def KJ (aU : (List UInt32)) : (Vec UInt32 8 × Int) -> Option ((Vec UInt32 8 × Int) ⊕ (Vec UInt32 8 × Int))
  | (h, aQ) => if aQ < 8 then ((aZ h.l aQ).bind fun dV => (aZ (Vec.of 8 aU).l aQ).bind fun lL => (aZ h.l aQ).bind fun iw => (some (uZ h aQ (dV ^^^ lL))).bind fun v => some (.inl (v, aG (aQ + 1)))) else (Option.map Sum.inr (some (h, (0 : Int))))
noncomputable def m_mixs_Start (block : List UInt8) : Option (Vec UInt32 8 × Int) :=
  (Qb block (32 : Int)).bind fun r_ => if r_ ≠ 0 then (some ((Vec.rep 8 ((0 : UInt32) : UInt32)), r_)) else ((Qc ((Vec.rep 8 (0 : UInt32)).l) block).bind fun aU => (Xu).bind fun b_ => aV (KJ aU) (b_, (0 : Int)))
noncomputable def AP (k_ : Int) (block : List UInt8) : Option (Vec UInt64 8 × List UInt8) :=
  if k_ = 1 then ((xZ block).bind fun r_ => some (r_.1, ([] : List UInt8))) else none
noncomputable def sK (k_ : Int) : Option Int :=
  if k_ = 1 then (some (128 : Int)) else (some (64 : Int))
noncomputable def uz (b : List UInt8) (n : Int) : Option (List UInt8) :=
  (need ((0 : Int) <= (0 : Int) /\ ((0 : Int) : Int) <= n /\ Int.toNat n * 1 <= 140737488355328)).bind fun u => (app (List.replicate (Int.toNat (0 : Int)) (0 : UInt8)) b 1).bind fun b1 => (YA b1 (aG (n - ((b.length : Nat) : Int))) (0 : UInt8) 1).bind fun b2 => some b2
noncomputable def xw (Di : UInt64) (Dj : UInt64) (n : UInt64) : Option (UInt64 × UInt64 × Bool) :=
  (Rx Di n (0 : UInt64)).bind fun r_ => (Rx Dj (0 : UInt64) r_.2).bind fun aU => some (r_.1, aU.1, decide (aU.2 = 1))
noncomputable def um (b : List UInt8) : (Vec UInt64 16 × Int) -> Option ((Vec UInt64 16 × Int) ⊕ (Vec UInt64 16 × Int))
  | (m_, aQ) => if aQ < 16 then ((oV b (aG (8 * aQ))).bind fun r_ => (aZ m_.l aQ).bind fun dV => (some (uZ m_ aQ r_.1)).bind fun v => some (.inl (v, aG (aQ + 1)))) else (Option.map Sum.inr (some (m_, (0 : Int))))
noncomputable def x9 (b : List UInt8) : Option (Vec UInt64 16 × Int) :=
  if ((b.length : Nat) : Int) ≠ 128 then (some ((Vec.rep 16 (0 : UInt64)), (1 : Int))) else (aV (um b) ((Vec.rep 16 (0 : UInt64)), (0 : Int)))
noncomputable def yc (v4 : Vec UInt64 16) : Option (Vec UInt64 16) :=
  some v4
noncomputable def yf (node : Bool) (v2 : Vec UInt64 16) : Option (Vec UInt64 16) :=
  if node = true then ((aZ v2.l (15 : Int)).bind fun qf => (aZ v2.l (15 : Int)).bind fun pW => (some (uZ v2 (15 : Int) (18446744073709551615 ^^^ qf))).bind fun v5 => yc v5) else (yc v2)
noncomputable def Cc (h : Vec UInt64 8) (lF : UInt64) (lG : UInt64) (last : Bool) (node : Bool) : Option (Vec UInt64 16) :=
  (Jq ((Vec.rep 16 (0 : UInt64)).l) 0 (8 : Int)).bind fun b => (Dh).bind fun r_ => (Jq ((Q3 (Vec.rep 16 (0 : UInt64)) 0 b.length h.l).l) (8 : Int) ((16 : Nat) : Int)).bind fun b1 => (aZ (Q3 (Q3 (Vec.rep 16 (0 : UInt64)) 0 b.length h.l) (Int.toNat (8 : Int)) b1.length r_.l).l (12 : Int)).bind fun aQ => (aZ (Q3 (Q3 (Vec.rep 16 (0 : UInt64)) 0 b.length h.l) (Int.toNat (8 : Int)) b1.length r_.l).l (12 : Int)).bind fun x_1 => (some (uZ (Q3 (Q3 (Vec.rep 16 (0 : UInt64)) 0 b.length h.l) (Int.toNat (8 : Int)) b1.length r_.l) (12 : Int) (aQ ^^^ lF))).bind fun v => (aZ v.l (13 : Int)).bind fun dV => (aZ v.l (13 : Int)).bind fun lL => (some (uZ v (13 : Int) (dV ^^^ lG))).bind fun v1 => if last = true then ((aZ v1.l (14 : Int)).bind fun iw => (aZ v1.l (14 : Int)).bind fun mM => (some (uZ v1 (14 : Int) (18446744073709551615 ^^^ iw))).bind fun v3 => yf node v3) else (yf node v1)
noncomputable def AQ (round : Int) : Option (Vec Int 16) :=
  (aZ (⟨[(⟨[(0 : Int), (1 : Int), (2 : Int), (3 : Int), (4 : Int), (5 : Int), (6 : Int), (7 : Int), (8 : Int), (9 : Int), (10 : Int), (11 : Int), (12 : Int), (13 : Int), (14 : Int), (15 : Int)], rfl⟩ : Vec Int 16), (⟨[(14 : Int), (10 : Int), (4 : Int), (8 : Int), (9 : Int), (15 : Int), (13 : Int), (6 : Int), (1 : Int), (12 : Int), (0 : Int), (2 : Int), (11 : Int), (7 : Int), (5 : Int), (3 : Int)], rfl⟩ : Vec Int 16), (⟨[(11 : Int), (8 : Int), (12 : Int), (0 : Int), (5 : Int), (2 : Int), (15 : Int), (13 : Int), (10 : Int), (14 : Int), (3 : Int), (6 : Int), (7 : Int), (1 : Int), (9 : Int), (4 : Int)], rfl⟩ : Vec Int 16), (⟨[(7 : Int), (9 : Int), (3 : Int), (1 : Int), (13 : Int), (12 : Int), (11 : Int), (14 : Int), (2 : Int), (6 : Int), (5 : Int), (10 : Int), (4 : Int), (0 : Int), (15 : Int), (8 : Int)], rfl⟩ : Vec Int 16), (⟨[(9 : Int), (0 : Int), (5 : Int), (7 : Int), (2 : Int), (4 : Int), (10 : Int), (15 : Int), (14 : Int), (1 : Int), (11 : Int), (12 : Int), (6 : Int), (8 : Int), (3 : Int), (13 : Int)], rfl⟩ : Vec Int 16), (⟨[(2 : Int), (12 : Int), (6 : Int), (10 : Int), (0 : Int), (11 : Int), (8 : Int), (3 : Int), (4 : Int), (13 : Int), (7 : Int), (5 : Int), (15 : Int), (14 : Int), (1 : Int), (9 : Int)], rfl⟩ : Vec Int 16), (⟨[(12 : Int), (5 : Int), (1 : Int), (15 : Int), (14 : Int), (13 : Int), (4 : Int), (10 : Int), (0 : Int), (7 : Int), (6 : Int), (3 : Int), (9 : Int), (2 : Int), (8 : Int), (11 : Int)], rfl⟩ : Vec Int 16), (⟨[(13 : Int), (11 : Int), (7 : Int), (14 : Int), (12 : Int), (1 : Int), (3 : Int), (9 : Int), (5 : Int), (0 : Int), (15 : Int), (4 : Int), (8 : Int), (6 : Int), (2 : Int), (10 : Int)], rfl⟩ : Vec Int 16), (⟨[(6 : Int), (15 : Int), (14 : Int), (9 : Int), (11 : Int), (3 : Int), (0 : Int), (8 : Int), (12 : Int), (2 : Int), (13 : Int), (7 : Int), (1 : Int), (4 : Int), (10 : Int), (5 : Int)], rfl⟩ : Vec Int 16), (⟨[(10 : Int), (2 : Int), (8 : Int), (4 : Int), (7 : Int), (6 : Int), (1 : Int), (5 : Int), (15 : Int), (11 : Int), (9 : Int), (14 : Int), (3 : Int), (12 : Int), (13 : Int), (0 : Int)], rfl⟩ : Vec Int 16)], rfl⟩ : Vec (Vec Int 16) 10).l (Int.tmod (aG ((Int.tmod round 10) + 10)) 10)).bind fun aQ => some aQ
noncomputable def zl  : Option (Vec (Vec Int 4) 8) :=
  some (⟨[(⟨[(0 : Int), (4 : Int), (8 : Int), (12 : Int)], rfl⟩ : Vec Int 4), (⟨[(1 : Int), (5 : Int), (9 : Int), (13 : Int)], rfl⟩ : Vec Int 4), (⟨[(2 : Int), (6 : Int), (10 : Int), (14 : Int)], rfl⟩ : Vec Int 4), (⟨[(3 : Int), (7 : Int), (11 : Int), (15 : Int)], rfl⟩ : Vec Int 4), (⟨[(0 : Int), (5 : Int), (10 : Int), (15 : Int)], rfl⟩ : Vec Int 4), (⟨[(1 : Int), (6 : Int), (11 : Int), (12 : Int)], rfl⟩ : Vec Int 4), (⟨[(2 : Int), (7 : Int), (8 : Int), (13 : Int)], rfl⟩ : Vec Int 4), (⟨[(3 : Int), (4 : Int), (9 : Int), (14 : Int)], rfl⟩ : Vec Int 4)], rfl⟩ : Vec (Vec Int 4) 8)
noncomputable def iG (x_ : UInt64) (k_ : Int) : Option UInt64 :=
  some ((sH x_ (((UInt64.ofInt k_) &&& 63).toNat)) ||| (lM x_ (((64 : UInt64) - ((UInt64.ofInt k_) &&& 63)).toNat)))
noncomputable def zG (v : Vec UInt64 16) (p : Vec Int 4) (x_ : UInt64) (y_ : UInt64) : Option (Vec UInt64 16) :=
  (aZ p.l (0 : Int)).bind fun dV => (aZ p.l (1 : Int)).bind fun lL => (aZ p.l (2 : Int)).bind fun iw => (aZ p.l (3 : Int)).bind fun mM => (aZ v.l dV).bind fun qf => (aZ v.l lL).bind fun pW => (aZ v.l dV).bind fun vg => (some (uZ v dV (qf + (pW + x_)))).bind fun v1 => (aZ v1.l mM).bind fun yI => (aZ v1.l dV).bind fun uo => (iG (yI ^^^ uo) (-32 : Int)).bind fun r_ => (aZ v1.l mM).bind fun rX => (some (uZ v1 mM r_)).bind fun v2 => (aZ v2.l iw).bind fun KL => (aZ v2.l mM).bind fun MC => (aZ v2.l iw).bind fun x_14 => (some (uZ v2 iw (KL + MC))).bind fun v3 => (aZ v3.l lL).bind fun KN => (aZ v3.l iw).bind fun MF => (iG (KN ^^^ MF) (-24 : Int)).bind fun aU => (aZ v3.l lL).bind fun x_17 => (some (uZ v3 lL aU)).bind fun v4 => (aZ v4.l dV).bind fun Iw => (aZ v4.l lL).bind fun MG => (aZ v4.l dV).bind fun x_20 => (some (uZ v4 dV (Iw + (MG + y_)))).bind fun v5 => (aZ v5.l mM).bind fun KO => (aZ v5.l dV).bind fun MH => (iG (KO ^^^ MH) (-16 : Int)).bind fun b_ => (aZ v5.l mM).bind fun x_23 => (some (uZ v5 mM b_)).bind fun v6 => (aZ v6.l iw).bind fun KP => (aZ v6.l mM).bind fun MI => (aZ v6.l iw).bind fun x_26 => (some (uZ v6 iw (KP + MI))).bind fun v7 => (aZ v7.l lL).bind fun Y0 => (aZ v7.l iw).bind fun x_28 => (iG (Y0 ^^^ x_28) (-63 : Int)).bind fun fG => (aZ v7.l lL).bind fun x_29 => (some (uZ v7 lL fG)).bind fun v8 => some v8
noncomputable def yg (m_ : Vec UInt64 16) (r_ : (Vec Int 16)) (aU : (Vec (Vec Int 4) 8)) : (Vec UInt64 16 × Int) -> Option ((Vec UInt64 16 × Int) ⊕ (Vec UInt64 16 × Vec UInt64 16))
  | (v1, aQ) => if aQ < 8 then ((aZ aU.l aQ).bind fun dV => (aZ r_.l (aG (2 * aQ))).bind fun lL => (aZ m_.l lL).bind fun iw => (aZ r_.l (aG ((aG (2 * aQ)) + 1))).bind fun mM => (aZ m_.l mM).bind fun qf => (zG v1 dV iw qf).bind fun b_ => some (.inl (b_, aG (aQ + 1)))) else (Option.map Sum.inr (some (v1, m_)))
noncomputable def zH (v : Vec UInt64 16) (m_ : Vec UInt64 16) (round : Int) : Option (Vec UInt64 16 × Vec UInt64 16) :=
  (AQ round).bind fun r_ => (zl).bind fun aU => aV (yg m_ r_ aU) (v, (0 : Int))
noncomputable def zI (v : Vec UInt64 16) : (Vec UInt64 8 × Int) -> Option ((Vec UInt64 8 × Int) ⊕ (Vec UInt64 8))
  | (h1, x_1) => if x_1 < 8 then ((aZ h1.l x_1).bind fun dV => (aZ v.l x_1).bind fun lL => (aZ v.l (aG (x_1 + 8))).bind fun iw => (aZ h1.l x_1).bind fun mM => (some (uZ h1 x_1 (dV ^^^ (lL ^^^ iw)))).bind fun v1 => some (.inl (v1, aG (x_1 + 1)))) else (Option.map Sum.inr (some h1))
noncomputable def zJ (h : Vec UInt64 8) : (Vec UInt64 16 × Vec UInt64 16 × Int) -> Option ((Vec UInt64 16 × Vec UInt64 16 × Int) ⊕ (Vec UInt64 8))
  | (Jr, v, aQ) => if aQ < 12 then ((zH v Jr aQ).bind fun aU => some (.inl (aU.2, aU.1, aG (aQ + 1)))) else (Option.map Sum.inr (aV (zI v) (h, (0 : Int))))
noncomputable def EU (h : Vec UInt64 8) (m_ : Vec UInt64 16) (lF : UInt64) (lG : UInt64) (last : Bool) (node : Bool) : Option (Vec UInt64 8) :=
  (Cc h lF lG last node).bind fun r_ => aV (zJ h) (m_, r_, (0 : Int))
noncomputable def uA (h : Vec UInt64 8) (b : List UInt8) (Di : UInt64) (Dj : UInt64) (last : Bool) (node : Bool) : Option (Vec UInt64 8) :=
  (x9 b).bind fun r_ => (EU h r_.1 Di Dj last node).bind fun aU => some aU
noncomputable def iY (cO : Int) (b1 : List UInt8) (vg : Vec UInt64 8) (yI : UInt64) (uo : UInt64) (rX : List UInt8) : Option ((Vec UInt64 8 × UInt64 × UInt64 × List UInt8 × List UInt8) ⊕ (Vec UInt64 8 × UInt64 × UInt64 × List UInt8 × Int)) :=
  (Jq b1 0 (if aG (cO - ((rX.length : Nat) : Int)) < ((b1.length : Nat) : Int) then aG (cO - ((rX.length : Nat) : Int)) else ((b1.length : Nat) : Int))).bind fun b3 => (app rX b3 1).bind fun b4 => (Jq b1 (if aG (cO - ((rX.length : Nat) : Int)) < ((b1.length : Nat) : Int) then aG (cO - ((rX.length : Nat) : Int)) else ((b1.length : Nat) : Int)) ((b1.length : Nat) : Int)).bind fun b5 => some (.inl (vg, yI, uo, b4, b5))
noncomputable def lY (cO : Int) : (Vec UInt64 8 × UInt64 × UInt64 × List UInt8 × List UInt8) -> Option ((Vec UInt64 8 × UInt64 × UInt64 × List UInt8 × List UInt8) ⊕ (Vec UInt64 8 × UInt64 × UInt64 × List UInt8 × Int))
  | (aQ, mM, qf, pW, b1) => if 0 < ((b1.length : Nat) : Int) then (if ((pW.length : Nat) : Int) = cO then ((xw mM qf (UInt64.ofInt cO)).bind fun r_ => (uA aQ pW r_.1 r_.2.1 false false).bind fun aU => (Jq pW 0 (0 : Int)).bind fun b2 => iY cO b1 aU r_.1 r_.2.1 b2) else (iY cO b1 aQ mM qf pW)) else (Option.map Sum.inr (some (aQ, mM, qf, pW, cO)))
noncomputable def jI (Qd : Vec UInt64 8) (jQ : UInt64) (jR : UInt64) (nK : List UInt8) (cO : Int) (b : List UInt8) : Option (Vec UInt64 8 × UInt64 × UInt64 × List UInt8 × Int) :=
  aV (lY cO) (Qd, jQ, jR, nK, b)
noncomputable def qN (rH : Int) (pz : Int) (iC : List UInt8) (jM : List UInt8) (yS : Bool) (o6 : UInt64) : Option (Int × Int × List UInt8 × List UInt8 × Vec UInt64 8 × UInt64 × UInt64 × List UInt8 × Int) :=
  (AP rH iC).bind fun r_ => if 0 < ((jM.length : Nat) : Int) then ((sK rH).bind fun aU => (uz jM aU).bind fun b_ => (jI r_.1 (0 : UInt64) (0 : UInt64) r_.2 (128 : Int) b_).bind fun fG => some (rH, pz, iC, jM, fG.1, fG.2.1, fG.2.2.1, fG.2.2.2.1, fG.2.2.2.2)) else (some (rH, pz, iC, jM, r_.1, (0 : UInt64), (0 : UInt64), r_.2, (128 : Int)))
noncomputable def Ce (k_ : Int) (block : List UInt8) (digest : Int) (key : List UInt8) : Option (Int × Int × List UInt8 × List UInt8 × Vec UInt64 8 × UInt64 × UInt64 × List UInt8 × Int) :=
  (app ([] : List UInt8) block 1).bind fun b => (app ([] : List UInt8) key 1).bind fun b1 => (qN k_ digest b b1 false (0 : UInt64)).bind fun r_ => some (r_.1, r_.2.1, r_.2.2.1, r_.2.2.2.1, r_.2.2.2.2.1, r_.2.2.2.2.2.1, r_.2.2.2.2.2.2.1, r_.2.2.2.2.2.2.2.1, r_.2.2.2.2.2.2.2.2)
noncomputable def D8 (k_ : Int) (aA : Int) (bH : Int) (aB : Int) (aI : Int) (bD : UInt32) (au : UInt64) (aY : UInt32) (ag : Int) (aO : Int) (aX : List UInt8) (ai : List UInt8) (key : List UInt8) : Option (Int ⊕ (Int × Int × List UInt8 × List UInt8 × Vec UInt64 8 × UInt64 × UInt64 × List UInt8 × Int)) :=
  (pq k_ aA bH aB aI bD au aY ag aO aX ai).bind fun r_ => if r_.2 ≠ 0 then (some (Sum.inl r_.2)) else (if ((decide (((key.length : Nat) : Int) ≠ 0)) && (decide (((key.length : Nat) : Int) ≠ bH))) = true then (some (Sum.inl (8 : Int))) else ((Ce k_ r_.1 aA key).bind fun aU => some (Sum.inr (aU.1, aU.2.1, aU.2.2.1, aU.2.2.2.1, aU.2.2.2.2.1, aU.2.2.2.2.2.1, aU.2.2.2.2.2.2.1, aU.2.2.2.2.2.2.2.1, aU.2.2.2.2.2.2.2.2))))
noncomputable def wB (rH : Int) (pz : Int) (iC : List UInt8) (jM : List UInt8) (yS : Bool) (o6 : UInt64) (Iy : Vec UInt64 8) (oH : UInt64) (oJ : UInt64) (wU : List UInt8) (wC : Int) : Option (Vec UInt64 8 × UInt64 × UInt64 × List UInt8 × Int × Int × Int × List UInt8 × List UInt8 × Bool × UInt64) :=
  some (Iy, oH, oJ, wU, wC, rH, pz, iC, jM, yS, o6)
noncomputable def uK (w_ : UInt64) : (List UInt8 × Int) -> Option ((List UInt8 × Int) ⊕ (List UInt8))
  | (b, aQ) => if aQ < 8 then ((need (0 <= aG (8 * aQ))).bind fun u => (aZ b aQ).bind fun x_1 => some (.inl (b.set (Int.toNat aQ) (UInt8.ofNat (lM w_ (Int.toNat (aG (8 * aQ)))).toNat), aG (aQ + 1)))) else (Option.map Sum.inr (some b))
noncomputable def vk (w_ : UInt64) : Option (List UInt8) :=
  aV (uK w_) (List.replicate (Int.toNat (8 : Int)) (0 : UInt8), (0 : Int))
noncomputable def xg (h : Vec UInt64 8) : (List UInt8 × Int) -> Option ((List UInt8 × Int) ⊕ (List UInt8))
  | (b, aQ) => if aQ < 8 then ((aZ h.l aQ).bind fun x_1 => (vk x_1).bind fun r_ => (app b r_ 1).bind fun b1 => some (.inl (b1, aG (aQ + 1)))) else (Option.map Sum.inr (some b))
noncomputable def yh (h : Vec UInt64 8) : Option (List UInt8) :=
  aV (xg h) (List.replicate (Int.toNat (0 : Int)) (0 : UInt8), (0 : Int))
noncomputable def mQ (Qd : Vec UInt64 8) (jQ : UInt64) (jR : UInt64) (nK : List UInt8) (cO : Int) (node : Bool) (c0 : UInt64) (c2 : UInt64) : Option (List UInt8 × Vec UInt64 8 × UInt64 × UInt64 × List UInt8 × Int) :=
  (uz nK cO).bind fun aU => (uA Qd aU c0 c2 true node).bind fun b_ => (yh b_).bind fun fG => some (fG, Qd, jQ, jR, nK, cO)
noncomputable def mf (Qd : Vec UInt64 8) (jQ : UInt64) (jR : UInt64) (nK : List UInt8) (cO : Int) (node : Bool) : Option (List UInt8 × Vec UInt64 8 × UInt64 × UInt64 × List UInt8 × Int) :=
  (xw jQ jR (UInt64.ofInt ((nK.length : Nat) : Int))).bind fun r_ => mQ Qd jQ jR nK cO node r_.1 r_.2.1
noncomputable def uq (rH : Int) (pz : Int) (iC : List UInt8) (jM : List UInt8) (yS : Bool) (o6 : UInt64) (Iy : Vec UInt64 8) (oH : UInt64) (oJ : UInt64) (wU : List UInt8) (wC : Int) (most : Int) : Option (List UInt8 × Int × Vec UInt64 8 × UInt64 × UInt64 × List UInt8 × Int × Int × Int × List UInt8 × List UInt8 × Bool × UInt64) :=
  (wB rH pz iC jM yS o6 Iy oH oJ wU wC).bind fun r_ => if most < 1 then (some (([] : List UInt8), (1 : Int), r_.1, r_.2.1, r_.2.2.1, r_.2.2.2.1, r_.2.2.2.2.1, r_.2.2.2.2.2.1, r_.2.2.2.2.2.2.1, r_.2.2.2.2.2.2.2.1, r_.2.2.2.2.2.2.2.2.1, r_.2.2.2.2.2.2.2.2.2.1, r_.2.2.2.2.2.2.2.2.2.2)) else ((sK r_.2.2.2.2.2.1).bind fun aU => if (aG (Int.tdiv aU 2)) < most then (some (([] : List UInt8), (1 : Int), r_.1, r_.2.1, r_.2.2.1, r_.2.2.2.1, r_.2.2.2.2.1, r_.2.2.2.2.2.1, r_.2.2.2.2.2.2.1, r_.2.2.2.2.2.2.2.1, r_.2.2.2.2.2.2.2.2.1, r_.2.2.2.2.2.2.2.2.2.1, r_.2.2.2.2.2.2.2.2.2.2)) else ((mf r_.1 r_.2.1 r_.2.2.1 r_.2.2.2.1 r_.2.2.2.2.1 r_.2.2.2.2.2.2.2.2.2.1).bind fun b_ => (Jq b_.1 0 most).bind fun b => (need (most <= most /\ most <= ((b_.1.length : Nat) : Int))).bind fun u => some (b, (0 : Int), b_.2.1, b_.2.2.1, b_.2.2.2.1, b_.2.2.2.2.1, b_.2.2.2.2.2, r_.2.2.2.2.2.1, r_.2.2.2.2.2.2.1, r_.2.2.2.2.2.2.2.1, r_.2.2.2.2.2.2.2.2.1, r_.2.2.2.2.2.2.2.2.2.1, r_.2.2.2.2.2.2.2.2.2.2)))
noncomputable def qO (k_ : Int) (aA : Int) (bH : Int) (aB : Int) (aI : Int) (bD : UInt32) (au : UInt64) (aY : UInt32) (ag : Int) (aO : Int) (aX : List UInt8) (ai : List UInt8) (key : List UInt8) (last : Bool) (out : Int) (data : List UInt8) : Option (List UInt8 × Int) :=
  (D8 k_ aA bH aB aI bD au aY ag aO aX ai key).bind fun r_ => (Sum.elim (fun aU => if aU ≠ 0 then (some (([] : List UInt8), aU)) else none) (fun b_ => if 0 ≠ 0 then (some (([] : List UInt8), (0 : Int))) else ((jI b_.2.2.2.2.1 b_.2.2.2.2.2.1 b_.2.2.2.2.2.2.1 b_.2.2.2.2.2.2.2.1 b_.2.2.2.2.2.2.2.2 data).bind fun fG => (uq b_.1 b_.2.1 b_.2.2.1 b_.2.2.2.1 last (0 : UInt64) fG.1 fG.2.1 fG.2.2.1 fG.2.2.2.1 fG.2.2.2.2 out).bind fun iE => some (iE.1, iE.2.1)))) r_
noncomputable def nV (kind : Int) : Option Int :=
  if kind = 1 then (some (64 : Int)) else (if kind = 2 then (some (32 : Int)) else (some (0 : Int)))
noncomputable def jq (kind : Int) (aA : Int) (bH : Int) (aB : Int) (aI : Int) (bD : UInt32) (au : UInt64) (aY : UInt32) (ag : Int) (aO : Int) (aX : List UInt8) (ai : List UInt8) : Option Int :=
  (nV kind).bind fun r_ => if r_ = 0 then (some (1 : Int)) else (if ((decide (aA < 1)) || (decide (r_ < aA))) = true then (some (20 : Int)) else (if ((decide (bH < 0)) || (decide (r_ < bH))) = true then (some (8 : Int)) else (if ((decide (aB < 0)) || (decide (255 < aB))) = true then (some (21 : Int)) else (if (((decide (aI < 0)) || (decide (255 < aI))) || ((decide (aI = 0)) && (decide (aY = 0)))) = true then (some (22 : Int)) else (if (((decide (aY ≠ 0)) && (decide ((4294967295 : UInt64) < au))) || (((decide (aY = 0)) && (decide (kind = 2))) && (decide ((281474976710655 : UInt64) < au)))) = true then (some (23 : Int)) else (if ((decide (kind = 2)) && (decide ((65535 : UInt32) < aY))) = true then (some (24 : Int)) else (if ((decide (ag < 0)) || (decide (255 < ag))) = true then (some (25 : Int)) else (if ((decide (aO < 0)) || (decide (r_ < aO))) = true then (some (26 : Int)) else (if (aG (Int.tdiv r_ 4)) < ((aX.length : Nat) : Int) then (some (27 : Int)) else (if (aG (Int.tdiv r_ 4)) < ((ai.length : Nat) : Int) then (some (28 : Int)) else (some (0 : Int))))))))))))
noncomputable def vw (kind : Int) : Option Int :=
  if kind = 1 then (some (128 : Int)) else (some (64 : Int))
noncomputable def yj (i : Int) (b1 : List UInt8) : Option ((List UInt8 × Int) ⊕ (List UInt8)) :=
  some (.inl (b1, aG (i + 1)))
noncomputable def vz (b : List UInt8) (i : Int) (c2 : UInt8) : Option ((List UInt8 × Int) ⊕ (List UInt8)) :=
  (app b ([c2] : List UInt8) 1).bind fun b2 => yj i b2
noncomputable def sN (kind : Int) (key : List UInt8) : (List UInt8 × Int) -> Option ((List UInt8 × Int) ⊕ (List UInt8))
  | (b, i) => (vw kind).bind fun r_ => if i < r_ then (if i < ((key.length : Nat) : Int) then ((aZ key i).bind fun aQ => vz b i aQ) else (vz b i (0 : UInt8))) else (Option.map Sum.inr (some b))
noncomputable def xK (kind : Int) (key : List UInt8) : Option (List UInt8) :=
  if ((key.length : Nat) : Int) = 0 then (some ([] : List UInt8)) else (aV (sN kind key) (([] : List UInt8), (0 : Int)))
noncomputable def FV (kind : Int) (aA : Int) (bH : Int) (aB : Int) (aI : Int) (bD : UInt32) (au : UInt64) (aY : UInt32) (ag : Int) (aO : Int) (aX : List UInt8) (ai : List UInt8) (key : List UInt8) : Option (Int ⊕ (Int × Int × Int × Int × Int × UInt32 × UInt64 × UInt32 × Int × Int × Vec UInt64 16 × List UInt8)) :=
  (jq kind aA bH aB aI bD au aY ag aO aX ai).bind fun r_ => if r_ ≠ 0 then (some (Sum.inl r_)) else (if ((decide (((key.length : Nat) : Int) ≠ 0)) && (decide (((key.length : Nat) : Int) ≠ bH))) = true then (some (Sum.inl (8 : Int))) else ((xK kind key).bind fun aU => some (Sum.inr (kind, aA, bH, aB, aI, bD, au, aY, ag, aO, (Vec.rep 16 (0 : UInt64)), aU))))
noncomputable def xx (kind : Int) : Option Int :=
  if kind = 1 then (some (64 : Int)) else (some (32 : Int))
noncomputable def oh (ku : Int) (dG : Int) (jw : Int) (dH : Int) (fJ : Int) (gZ : UInt32) (dJ : UInt64) (jy : UInt32) (bW : Int) (fK : Int) (mO : Bool) (jV : Vec UInt64 16) (oW : Bool) (yJ : UInt64) (yK : UInt64) (jo : UInt64) (b : List UInt8) : (List UInt8 × Int) -> Option ((List UInt8 × Int) ⊕ (Int × Int × Int × Int × Int × UInt32 × UInt64 × UInt32 × Int × Int × Bool × Vec UInt64 16 × Bool × UInt64 × UInt64 × List UInt8 × UInt64))
  | (n0, i) => if i < ((b.length : Nat) : Int) then ((aZ b i).bind fun aQ => (app n0 ([aQ] : List UInt8) 1).bind fun b1 => some (.inl (b1, aG (i + 1)))) else (Option.map Sum.inr (some (ku, dG, jw, dH, fJ, gZ, dJ, jy, bW, fK, mO, jV, oW, yJ, yK, n0, jo + (UInt64.ofInt ((b.length : Nat) : Int)))))
noncomputable def sO (ku : Int) (dG : Int) (jw : Int) (dH : Int) (fJ : Int) (gZ : UInt32) (dJ : UInt64) (jy : UInt32) (bW : Int) (fK : Int) (ji : List UInt8) (dh : List UInt8) (uM : List UInt8) (mO : Bool) (jV : Vec UInt64 16) (oW : Bool) (yJ : UInt64) (yK : UInt64) (pF : List UInt8) (jo : UInt64) (b : List UInt8) : Option (Int × Int × Int × Int × Int × UInt32 × UInt64 × UInt32 × Int × Int × Bool × Vec UInt64 16 × Bool × UInt64 × UInt64 × List UInt8 × UInt64) :=
  aV (oh ku dG jw dH fJ gZ dJ jy bW fK mO jV oW yJ yK jo b) (pF, (0 : Int))
noncomputable def G8 (kind : Int) : Option Int :=
  (nV kind).bind fun r_ => some r_
noncomputable def Cf (kind : Int) (field : Int) : Option (Int × Int) :=
  if ((decide (1 <= field)) && (decide (field <= 4))) = true then (some (aG (field - 1), (1 : Int))) else (if field = 5 then (some ((4 : Int), (4 : Int))) else (if ((decide (field = 6)) && (decide (kind = 1))) = true then (some ((8 : Int), (8 : Int))) else (if field = 6 then (some ((8 : Int), (6 : Int))) else (if ((decide (field = 7)) && (decide (kind = 1))) = true then (some ((12 : Int), (4 : Int))) else (if field = 7 then (some ((12 : Int), (2 : Int))) else (if ((decide (field = 8)) && (decide (kind = 1))) = true then (some ((16 : Int), (1 : Int))) else (if field = 8 then (some ((14 : Int), (1 : Int))) else (if ((decide (field = 9)) && (decide (kind = 1))) = true then (some ((17 : Int), (1 : Int))) else (if field = 9 then (some ((15 : Int), (1 : Int))) else (some ((0 : Int), (0 : Int))))))))))))
noncomputable def yl (at_ : Int) (n : Int) (v : UInt64) : (List UInt8 × Int) -> Option ((List UInt8 × Int) ⊕ (List UInt8))
  | (b1, i) => if i < n then ((aZ b1 (aG (at_ + i))).bind fun aQ => some (.inl (b1.set (Int.toNat (aG (at_ + i))) (UInt8.ofNat (lM v (((8 : UInt64) * (UInt64.ofInt i)).toNat)).toNat), aG (i + 1)))) else (Option.map Sum.inr (some b1))
noncomputable def Dk (b : List UInt8) (at_ : Int) (n : Int) (v : UInt64) : Option (List UInt8) :=
  aV (yl at_ n v) (b, (0 : Int))
noncomputable def xk (f : Int) (b1 : List UInt8) : Option ((List UInt8 × Int) ⊕ (List UInt8 × Int)) :=
  some (.inl (b1, aG (f + 1)))
noncomputable def uu (f : Int) (b2 : List UInt8) : Option ((List UInt8 × Int) ⊕ (List UInt8 × Int)) :=
  xk f b2
noncomputable def qw (ai : List UInt8) (iE : Int) : (List UInt8 × Int) -> Option ((List UInt8 × Int) ⊕ (List UInt8 × Int))
  | (b4, i1) => if i1 < ((ai.length : Nat) : Int) then ((aZ ai i1).bind fun iw => (aZ b4 (aG ((aG (3 * (aG (Int.tdiv iE 4)))) + i1))).bind fun mM => some (.inl (b4.set (Int.toNat (aG ((aG (3 * (aG (Int.tdiv iE 4)))) + i1))) iw, aG (i1 + 1)))) else (Option.map Sum.inr (some (b4, (0 : Int))))
noncomputable def qx (aX : List UInt8) (ai : List UInt8) (iE : Int) : (List UInt8 × Int) -> Option ((List UInt8 × Int) ⊕ (List UInt8 × Int))
  | (b3, i) => if i < ((aX.length : Nat) : Int) then ((aZ aX i).bind fun dV => (aZ b3 (aG ((aG (2 * (aG (Int.tdiv iE 4)))) + i))).bind fun lL => some (.inl (b3.set (Int.toNat (aG ((aG (2 * (aG (Int.tdiv iE 4)))) + i))) dV, aG (i + 1)))) else (Option.map Sum.inr (aV (qw ai iE) (b3, (0 : Int))))
noncomputable def qy (kind : Int) (aA : Int) (bH : Int) (aB : Int) (aI : Int) (bD : UInt32) (au : UInt64) (aY : UInt32) (ag : Int) (aO : Int) (aX : List UInt8) (ai : List UInt8) : (List UInt8 × Int) -> Option ((List UInt8 × Int) ⊕ (List UInt8 × Int))
  | (b, f) => if f <= 9 then (if ((decide (f = 7)) && (decide (aY = 0))) = true then (uu f b) else ((Cf kind f).bind fun b_ => (aZ ([UInt64.ofInt aA, UInt64.ofInt bH, UInt64.ofInt aB, UInt64.ofInt aI, UInt64.ofNat bD.toNat, au, UInt64.ofNat aY.toNat, UInt64.ofInt ag, UInt64.ofInt aO] : List UInt64) (aG (f - 1))).bind fun aQ => (Dk b b_.1 b_.2 aQ).bind fun fG => uu f fG)) else (Option.map Sum.inr ((nV kind).bind fun iE => aV (qx aX ai iE) (b, (0 : Int))))
noncomputable def mg (kind : Int) (aA : Int) (bH : Int) (aB : Int) (aI : Int) (bD : UInt32) (au : UInt64) (aY : UInt32) (ag : Int) (aO : Int) (aX : List UInt8) (ai : List UInt8) : Option (List UInt8 × Int) :=
  (jq kind aA bH aB aI bD au aY ag aO aX ai).bind fun r_ => if r_ ≠ 0 then (some (([] : List UInt8), r_)) else ((G8 kind).bind fun aU => (need ((0 : Int) <= aU /\ (aU : Int) <= aU /\ Int.toNat aU * 1 <= 140737488355328)).bind fun u => aV (qy kind aA bH aB aI bD au aY ag aO aX ai) (List.replicate (Int.toNat aU) (0 : UInt8), (1 : Int)))
noncomputable def zn (b : List UInt8) (at_ : Int) : (UInt64 × Int) -> Option ((UInt64 × Int) ⊕ (UInt64 × Int))
  | (w_, i) => if 0 <= i then ((aZ b (aG (at_ + i))).bind fun aQ => some (.inl ((w_ * 256) + (UInt64.ofNat aQ.toNat), aG (i - 1)))) else (Option.map Sum.inr (some (w_, (0 : Int))))
noncomputable def tK (b : List UInt8) (at_ : Int) (n : Int) : Option (UInt64 × Int) :=
  if at_ < 0 then (some ((0 : UInt64), (1 : Int))) else (if ((decide (((b.length : Nat) : Int) < at_)) || (decide ((aG (((b.length : Nat) : Int) - at_)) < n))) = true then (some ((0 : UInt64), (3 : Int))) else (aV (zn b at_) ((0 : UInt64), aG (n - 1))))
noncomputable def EW (i : Int) : Option UInt64 :=
  (aZ (⟨[(7640891576956012808 : UInt64), (13503953896175478587 : UInt64), (4354685564936845355 : UInt64), (11912009170470909681 : UInt64), (5840696475078001361 : UInt64), (11170449401992604703 : UInt64), (2270897969802886507 : UInt64), (6620516959819538809 : UInt64)], rfl⟩ : Vec UInt64 8).l (Int.tmod i 8)).bind fun aQ => some aQ
noncomputable def vC (block : List UInt8) : (Vec UInt64 8 × Int) -> Option ((Vec UInt64 8 × Int) ⊕ (Vec UInt64 8 × Int))
  | (h, i) => if i < 8 then ((tK block (aG (8 * i)) (8 : Int)).bind fun r_ => (EW i).bind fun aU => (aZ h.l i).bind fun aQ => (some (uZ h i (aU ^^^ r_.1))).bind fun v => some (.inl (v, aG (i + 1)))) else (Option.map Sum.inr (some (h, (0 : Int))))
noncomputable def zK (block : List UInt8) : Option (Vec UInt64 8 × Int) :=
  if ((block.length : Nat) : Int) ≠ 64 then (some ((Vec.rep 8 (0 : UInt64)), (1 : Int))) else (aV (vC block) ((Vec.rep 8 (0 : UInt64)), (0 : Int)))
noncomputable def oq (ku : Int) (dG : Int) (jw : Int) (dH : Int) (fJ : Int) (gZ : UInt32) (dJ : UInt64) (jy : UInt32) (bW : Int) (fK : Int) (mO : Bool) (jV : Vec UInt64 16) (oW : Bool) (yJ : UInt64) (yK : UInt64) (pF : List UInt8) (jo : UInt64) (aU : (Vec UInt64 8 × Int)) : (Vec UInt64 16 × Int) -> Option ((Vec UInt64 16 × Int) ⊕ (Vec UInt64 16 × Int × Int × Int × Int × Int × UInt32 × UInt64 × UInt32 × Int × Int × Bool × Vec UInt64 16 × Bool × UInt64 × UInt64 × List UInt8 × UInt64))
  | (h, i) => if i < 8 then ((aZ aU.1.l i).bind fun aQ => (aZ h.l i).bind fun Iw => (some (uZ h i aQ)).bind fun v => some (.inl (v, aG (i + 1)))) else (Option.map Sum.inr (some (h, ku, dG, jw, dH, fJ, gZ, dJ, jy, bW, fK, mO, jV, oW, yJ, yK, pF, jo)))
noncomputable def o7 (ku : Int) (dG : Int) (jw : Int) (dH : Int) (fJ : Int) (gZ : UInt32) (dJ : UInt64) (jy : UInt32) (bW : Int) (fK : Int) (ji : List UInt8) (dh : List UInt8) (uM : List UInt8) (mO : Bool) (jV : Vec UInt64 16) (oW : Bool) (yJ : UInt64) (yK : UInt64) (pF : List UInt8) (jo : UInt64) : Option (Vec UInt64 16 × Int × Int × Int × Int × Int × UInt32 × UInt64 × UInt32 × Int × Int × Bool × Vec UInt64 16 × Bool × UInt64 × UInt64 × List UInt8 × UInt64) :=
  if oW = true then (some (jV, ku, dG, jw, dH, fJ, gZ, dJ, jy, bW, fK, mO, jV, oW, yJ, yK, pF, jo)) else ((mg ku dG jw dH fJ gZ dJ jy bW fK ji dh).bind fun r_ => if ku = 1 then ((zK r_.1).bind fun aU => aV (oq ku dG jw dH fJ gZ dJ jy bW fK mO jV oW yJ yK pF jo aU) ((Vec.rep 16 (0 : UInt64)), (0 : Int))) else none)
noncomputable def yT (lo : UInt64) (hi : UInt64) (n : UInt64) : Option (UInt64 × UInt64 × Bool) :=
  if lo <= (lo + n) then (some (lo + n, hi, false)) else (some (lo + n, hi + 1, decide ((hi + 1) = 0)))
noncomputable def AU (i : Int) (out1 : List UInt8) : Option ((List UInt8 × Int) ⊕ (List UInt8)) :=
  some (.inl (out1, aG (i + 1)))
noncomputable def yt (out : List UInt8) (i : Int) (c2 : UInt8) : Option ((List UInt8 × Int) ⊕ (List UInt8)) :=
  (app out ([c2] : List UInt8) 1).bind fun CJ => AU i CJ
noncomputable def wE (b : List UInt8) (at_ : Int) (size : Int) : (List UInt8 × Int) -> Option ((List UInt8 × Int) ⊕ (List UInt8))
  | (out, i) => if i < size then (if (aG (at_ + i)) < ((b.length : Nat) : Int) then ((aZ b (aG (at_ + i))).bind fun aQ => yt out i aQ) else (yt out i (0 : UInt8))) else (Option.map Sum.inr (some out))
noncomputable def Be (b : List UInt8) (at_ : Int) (size : Int) : Option (List UInt8) :=
  aV (wE b at_ size) (([] : List UInt8), (0 : Int))
noncomputable def vF (b : List UInt8) : (Vec UInt64 16 × Int) -> Option ((Vec UInt64 16 × Int) ⊕ (Vec UInt64 16 × Int))
  | (m_, i) => if i < 16 then ((tK b (aG (8 * i)) (8 : Int)).bind fun r_ => (aZ m_.l i).bind fun aQ => (some (uZ m_ i r_.1)).bind fun v => some (.inl (v, aG (i + 1)))) else (Option.map Sum.inr (some (m_, (0 : Int))))
noncomputable def zL (b : List UInt8) : Option (Vec UInt64 16 × Int) :=
  if ((b.length : Nat) : Int) ≠ 128 then (some ((Vec.rep 16 (0 : UInt64)), (1 : Int))) else (aV (vF b) ((Vec.rep 16 (0 : UInt64)), (0 : Int)))
noncomputable def zo (v7 : Vec UInt64 16) : Option (Vec UInt64 16) :=
  some v7
noncomputable def zq (node : Bool) (v5 : Vec UInt64 16) : Option (Vec UInt64 16) :=
  if node = true then ((aZ v5.l (15 : Int)).bind fun yI => (aZ v5.l (15 : Int)).bind fun uo => (some (uZ v5 (15 : Int) (18446744073709551615 ^^^ yI))).bind fun v8 => zo v8) else (zo v5)
noncomputable def zt (h : Vec UInt64 8) (lo : UInt64) (hi : UInt64) (last : Bool) (node : Bool) : (Vec UInt64 16 × Int) -> Option ((Vec UInt64 16 × Int) ⊕ (Vec UInt64 16))
  | (v, i) => if i < 8 then ((aZ h.l i).bind fun aQ => (aZ v.l i).bind fun x_1 => (some (uZ v i aQ)).bind fun v1 => (EW i).bind fun r_ => (aZ v1.l (aG (i + 8))).bind fun dV => (some (uZ v1 (aG (i + 8)) r_)).bind fun v2 => some (.inl (v2, aG (i + 1)))) else (Option.map Sum.inr ((aZ v.l (12 : Int)).bind fun lL => (aZ v.l (12 : Int)).bind fun iw => (some (uZ v (12 : Int) (lL ^^^ lo))).bind fun v3 => (aZ v3.l (13 : Int)).bind fun mM => (aZ v3.l (13 : Int)).bind fun qf => (some (uZ v3 (13 : Int) (mM ^^^ hi))).bind fun v4 => if last = true then ((aZ v4.l (14 : Int)).bind fun pW => (aZ v4.l (14 : Int)).bind fun vg => (some (uZ v4 (14 : Int) (18446744073709551615 ^^^ pW))).bind fun v6 => zq node v6) else (zq node v4)))
noncomputable def Bo (h : Vec UInt64 8) (lo : UInt64) (hi : UInt64) (last : Bool) (node : Bool) : Option (Vec UInt64 16) :=
  aV (zt h lo hi last node) ((Vec.rep 16 (0 : UInt64)), (0 : Int))
noncomputable def AV (i : Int) : Option (Vec Int 4) :=
  (aZ (⟨[(⟨[(0 : Int), (4 : Int), (8 : Int), (12 : Int)], rfl⟩ : Vec Int 4), (⟨[(1 : Int), (5 : Int), (9 : Int), (13 : Int)], rfl⟩ : Vec Int 4), (⟨[(2 : Int), (6 : Int), (10 : Int), (14 : Int)], rfl⟩ : Vec Int 4), (⟨[(3 : Int), (7 : Int), (11 : Int), (15 : Int)], rfl⟩ : Vec Int 4), (⟨[(0 : Int), (5 : Int), (10 : Int), (15 : Int)], rfl⟩ : Vec Int 4), (⟨[(1 : Int), (6 : Int), (11 : Int), (12 : Int)], rfl⟩ : Vec Int 4), (⟨[(2 : Int), (7 : Int), (8 : Int), (13 : Int)], rfl⟩ : Vec Int 4), (⟨[(3 : Int), (4 : Int), (9 : Int), (14 : Int)], rfl⟩ : Vec Int 4)], rfl⟩ : Vec (Vec Int 4) 8).l (Int.tmod i 8)).bind fun aQ => some aQ
noncomputable def zu (r_ : Int) : Option Int :=
  some r_
noncomputable def D9 (n : Int) (m_ : Int) : Option Int :=
  (need (m_ ≠ 0)).bind fun u => if (Int.tmod n m_) < 0 then (zu (aG ((Int.tmod n m_) + m_))) else (zu (Int.tmod n m_))
noncomputable def EX (c : UInt8) : Option Int :=
  if ((decide ((48 : UInt8) <= c)) && (decide (c <= 57))) = true then (some ((c - 48).toNat : Int)) else (if ((decide ((97 : UInt8) <= c)) && (decide (c <= 102))) = true then (some (aG (((c - 97).toNat : Int) + 10))) else (if ((decide ((65 : UInt8) <= c)) && (decide (c <= 70))) = true then (some (aG (((c - 65).toNat : Int) + 10))) else (some (-1 : Int))))
noncomputable def zM (round : Int) (i : Int) : Option Int :=
  (D9 round (10 : Int)).bind fun r_ => (aZ ([48, 49, 50, 51, 52, 53, 54, 55, 56, 57, 97, 98, 99, 100, 101, 102, 101, 97, 52, 56, 57, 102, 100, 54, 49, 99, 48, 50, 98, 55, 53, 51, 98, 56, 99, 48, 53, 50, 102, 100, 97, 101, 51, 54, 55, 49, 57, 52, 55, 57, 51, 49, 100, 99, 98, 101, 50, 54, 53, 97, 52, 48, 102, 56, 57, 48, 53, 55, 50, 52, 97, 102, 101, 49, 98, 99, 54, 56, 51, 100, 50, 99, 54, 97, 48, 98, 56, 51, 52, 100, 55, 53, 102, 101, 49, 57, 99, 53, 49, 102, 101, 100, 52, 97, 48, 55, 54, 51, 57, 50, 56, 98, 100, 98, 55, 101, 99, 49, 51, 57, 53, 48, 102, 52, 56, 54, 50, 97, 54, 102, 101, 57, 98, 51, 48, 56, 99, 50, 100, 55, 49, 52, 97, 53, 97, 50, 56, 52, 55, 54, 49, 53, 102, 98, 57, 101, 51, 99, 100, 48] : List UInt8) (aG ((aG (16 * r_)) + i))).bind fun c => (EX c).bind fun aU => some aU
noncomputable def tC (a_ : Int) : Option Bool :=
  some ((decide (0 <= a_)) && (decide (a_ <= 15)))
noncomputable def nH (w_ : UInt64) (n : Int) : Option UInt64 :=
  (D9 n (64 : Int)).bind fun r_ => if r_ = 0 then (some w_) else ((need (0 <= r_)).bind fun u => (need (0 <= aG (64 - r_))).bind fun u1 => some ((lM w_ (Int.toNat r_)) ||| (sH w_ (Int.toNat (aG (64 - r_))))))
noncomputable def Iz (v : Vec UInt64 16) (a_ : Int) (b : Int) (c : Int) (d : Int) (x_ : UInt64) (y_ : UInt64) : Option (Vec UInt64 16 × Int) :=
  (tC a_).bind fun r_ => if (!r_) = true then (some ((Vec.rep 16 ((0 : UInt64) : UInt64)), (1 : Int))) else ((tC b).bind fun aU => if (!aU) = true then (some ((Vec.rep 16 ((0 : UInt64) : UInt64)), (1 : Int))) else ((tC c).bind fun b_ => if (!b_) = true then (some ((Vec.rep 16 ((0 : UInt64) : UInt64)), (1 : Int))) else ((tC d).bind fun fG => if (((((((!fG) || (decide (a_ = b))) || (decide (a_ = c))) || (decide (a_ = d))) || (decide (b = c))) || (decide (b = d))) || (decide (c = d))) = true then (some ((Vec.rep 16 ((0 : UInt64) : UInt64)), (1 : Int))) else ((aZ v.l a_).bind fun lL => (aZ v.l b).bind fun iw => (aZ v.l a_).bind fun mM => (some (uZ v a_ ((lL + iw) + x_))).bind fun v1 => (aZ v1.l d).bind fun qf => (aZ v1.l a_).bind fun pW => (nH (qf ^^^ pW) (32 : Int)).bind fun iE => (aZ v1.l d).bind fun vg => (some (uZ v1 d iE)).bind fun v2 => (aZ v2.l c).bind fun yI => (aZ v2.l d).bind fun uo => (aZ v2.l c).bind fun rX => (some (uZ v2 c (yI + uo))).bind fun v3 => (aZ v3.l b).bind fun KL => (aZ v3.l c).bind fun MC => (nH (KL ^^^ MC) (24 : Int)).bind fun jW => (aZ v3.l b).bind fun x_14 => (some (uZ v3 b jW)).bind fun v4 => (aZ v4.l a_).bind fun KN => (aZ v4.l b).bind fun MF => (aZ v4.l a_).bind fun x_17 => (some (uZ v4 a_ ((KN + MF) + y_))).bind fun v5 => (aZ v5.l d).bind fun Iw => (aZ v5.l a_).bind fun MG => (nH (Iw ^^^ MG) (16 : Int)).bind fun oG => (aZ v5.l d).bind fun x_20 => (some (uZ v5 d oG)).bind fun v6 => (aZ v6.l c).bind fun KO => (aZ v6.l d).bind fun MH => (aZ v6.l c).bind fun x_23 => (some (uZ v6 c (KO + MH))).bind fun v7 => (aZ v7.l b).bind fun KP => (aZ v7.l c).bind fun MI => (nH (KP ^^^ MI) (63 : Int)).bind fun rY => (aZ v7.l b).bind fun x_26 => (some (uZ v7 b rY)).bind fun v8 => some (v8, (0 : Int))))))
noncomputable def yu (m_ : Vec UInt64 16) (round : Int) : (Vec UInt64 16 × Int) -> Option ((Vec UInt64 16 × Int) ⊕ (Vec UInt64 16 × Int))
  | (v1, i) => if i < 8 then ((AV i).bind fun r_ => (aZ r_.l (0 : Int)).bind fun aQ => (aZ r_.l (1 : Int)).bind fun dV => (aZ r_.l (2 : Int)).bind fun lL => (aZ r_.l (3 : Int)).bind fun iw => (zM round (aG (2 * i))).bind fun aU => (aZ m_.l aU).bind fun mM => (zM round (aG ((aG (2 * i)) + 1))).bind fun b_ => (aZ m_.l b_).bind fun qf => (Iz v1 aQ dV lL iw mM qf).bind fun fG => some (.inl (fG.1, aG (i + 1)))) else (Option.map Sum.inr (some (v1, (0 : Int))))
noncomputable def zN (v : Vec UInt64 16) (m_ : Vec UInt64 16) (round : Int) : Option (Vec UInt64 16 × Int) :=
  if ((decide (round < 0)) || (decide (11 < round))) = true then (some ((Vec.rep 16 ((0 : UInt64) : UInt64)), (1 : Int))) else (aV (yu m_ round) (v, (0 : Int)))
noncomputable def Bq (v : Vec UInt64 16) : (Vec UInt64 8 × Int) -> Option ((Vec UInt64 8 × Int) ⊕ (Vec UInt64 8))
  | (h1, i) => if i < 8 then ((aZ h1.l i).bind fun aQ => (aZ v.l i).bind fun x_1 => (aZ v.l (aG (i + 8))).bind fun dV => (aZ h1.l i).bind fun lL => (some (uZ h1 i ((aQ ^^^ x_1) ^^^ dV))).bind fun v1 => some (.inl (v1, aG (i + 1)))) else (Option.map Sum.inr (some h1))
noncomputable def Bv (h : Vec UInt64 8) (m_ : Vec UInt64 16) : (Vec UInt64 16 × Int) -> Option ((Vec UInt64 16 × Int) ⊕ (Vec UInt64 8))
  | (v, aU) => if aU < 12 then ((zN v m_ aU).bind fun b_ => some (.inl (b_.1, aG (aU + 1)))) else (Option.map Sum.inr (aV (Bq v) (h, (0 : Int))))
noncomputable def IA (h : Vec UInt64 8) (m_ : Vec UInt64 16) (lo : UInt64) (hi : UInt64) (last : Bool) (node : Bool) : Option (Vec UInt64 8) :=
  (Bo h lo hi last node).bind fun r_ => aV (Bv h m_) (r_, (0 : Int))
noncomputable def xM (aU : (Vec UInt64 8)) : (Vec UInt64 16 × Int) -> Option ((Vec UInt64 16 × Int) ⊕ (Vec UInt64 16))
  | (h1, i1) => if i1 < 8 then ((aZ aU.l i1).bind fun dV => (aZ h1.l i1).bind fun lL => (some (uZ h1 i1 dV)).bind fun v1 => some (.inl (v1, aG (i1 + 1)))) else (Option.map Sum.inr (some h1))
noncomputable def zO (h : Vec UInt64 16) (b : List UInt8) (lo : UInt64) (hi : UInt64) (last : Bool) (node : Bool) : (Vec UInt64 8 × Int) -> Option ((Vec UInt64 8 × Int) ⊕ (Vec UInt64 16))
  | (s_, i) => if i < 8 then ((aZ h.l i).bind fun aQ => (aZ s_.l i).bind fun x_1 => (some (uZ s_ i aQ)).bind fun v => some (.inl (v, aG (i + 1)))) else (Option.map Sum.inr ((zL b).bind fun r_ => (IA s_ r_.1 lo hi last node).bind fun aU => aV (xM aU) (h, (0 : Int))))
noncomputable def EY (h : Vec UInt64 16) : (Vec UInt32 8 × Int) -> Option ((Vec UInt32 8 × Int) ⊕ (Vec UInt64 16))
  | (Ak, i2) => if i2 < 8 then ((aZ h.l i2).bind fun iw => (aZ Ak.l i2).bind fun mM => (some (uZ Ak i2 (UInt32.ofNat iw.toNat))).bind fun v2 => some (.inl (v2, aG (i2 + 1)))) else none
noncomputable def Bz (kind : Int) (h : Vec UInt64 16) (b : List UInt8) (lo : UInt64) (hi : UInt64) (last : Bool) (node : Bool) : Option (Vec UInt64 16) :=
  if kind = 1 then (aV (zO h b lo hi last node) ((Vec.rep 8 (0 : UInt64)), (0 : Int))) else (aV (EY h) ((Vec.rep 8 (0 : UInt32)), (0 : Int)))
noncomputable def qP (r_ : (Vec UInt64 16 × Int × Int × Int × Int × Int × UInt32 × UInt64 × UInt32 × Int × Int × Bool × Vec UInt64 16 × Bool × UInt64 × UInt64 × List UInt8 × UInt64)) (aU : Int) : (Vec UInt64 16 × UInt64 × UInt64 × Int) -> Option ((Vec UInt64 16 × UInt64 × UInt64 × Int) ⊕ (Vec UInt64 16 × UInt64 × UInt64 × Int × Int × Int × Int × Int × Int × UInt32 × UInt64 × UInt32 × Int × Int × Bool × Vec UInt64 16 × Bool × UInt64 × UInt64 × List UInt8 × UInt64))
  | (h, lo, hi, at_) => if (aG (at_ + aU)) < ((r_.2.2.2.2.2.2.2.2.2.2.2.2.2.2.2.2.1.length : Nat) : Int) then ((yT lo hi (UInt64.ofInt aU)).bind fun b_ => (Be r_.2.2.2.2.2.2.2.2.2.2.2.2.2.2.2.2.1 at_ aU).bind fun fG => (Bz r_.2.1 h fG b_.1 b_.2.1 false false).bind fun iE => some (.inl (iE, b_.1, b_.2.1, aG (at_ + aU)))) else (Option.map Sum.inr (some (h, lo, hi, at_, r_.2.1, r_.2.2.1, r_.2.2.2.1, r_.2.2.2.2.1, r_.2.2.2.2.2.1, r_.2.2.2.2.2.2.1, r_.2.2.2.2.2.2.2.1, r_.2.2.2.2.2.2.2.2.1, r_.2.2.2.2.2.2.2.2.2.1, r_.2.2.2.2.2.2.2.2.2.2.1, r_.2.2.2.2.2.2.2.2.2.2.2.1, r_.2.2.2.2.2.2.2.2.2.2.2.2.1, r_.2.2.2.2.2.2.2.2.2.2.2.2.2.1, r_.2.2.2.2.2.2.2.2.2.2.2.2.2.2.1, r_.2.2.2.2.2.2.2.2.2.2.2.2.2.2.2.1, r_.2.2.2.2.2.2.2.2.2.2.2.2.2.2.2.2.1, r_.2.2.2.2.2.2.2.2.2.2.2.2.2.2.2.2.2)))
noncomputable def qQ (ku : Int) (dG : Int) (jw : Int) (dH : Int) (fJ : Int) (gZ : UInt32) (dJ : UInt64) (jy : UInt32) (bW : Int) (fK : Int) (ji : List UInt8) (dh : List UInt8) (uM : List UInt8) (mO : Bool) (jV : Vec UInt64 16) (oW : Bool) (yJ : UInt64) (yK : UInt64) (pF : List UInt8) (jo : UInt64) : Option (Vec UInt64 16 × UInt64 × UInt64 × Int × Int × Int × Int × Int × Int × UInt32 × UInt64 × UInt32 × Int × Int × Bool × Vec UInt64 16 × Bool × UInt64 × UInt64 × List UInt8 × UInt64) :=
  (o7 ku dG jw dH fJ gZ dJ jy bW fK ji dh uM mO jV oW yJ yK pF jo).bind fun r_ => (vw r_.2.1).bind fun aU => aV (qP r_ aU) (r_.1, r_.2.2.2.2.2.2.2.2.2.2.2.2.2.2.1, r_.2.2.2.2.2.2.2.2.2.2.2.2.2.2.2.1, (0 : Int))
noncomputable def yw (n : Int) : (UInt64 × List UInt8 × Int) -> Option ((UInt64 × List UInt8 × Int) ⊕ (List UInt8))
  | (nJ, b, i) => if i < n then ((app b ([UInt8.ofNat (nJ % 256).toNat] : List UInt8) 1).bind fun b1 => some (.inl (nJ / 256, b1, aG (i + 1)))) else (Option.map Sum.inr (some b))
noncomputable def zQ (w_ : UInt64) (n : Int) : Option (List UInt8) :=
  aV (yw n) (w_, ([] : List UInt8), (0 : Int))
noncomputable def yx (kind : Int) (h : Vec UInt64 16) : (List UInt8 × Int) -> Option ((List UInt8 × Int) ⊕ (List UInt8))
  | (b, i) => if i < 8 then ((aZ h.l i).bind fun aQ => (xx kind).bind fun r_ => (zQ aQ (aG (Int.tdiv r_ 8))).bind fun aU => (app b aU 1).bind fun b1 => some (.inl (b1, aG (i + 1)))) else (Option.map Sum.inr (some b))
noncomputable def xN (kind : Int) (h : Vec UInt64 16) : Option (List UInt8) :=
  aV (yx kind h) (([] : List UInt8), (0 : Int))
noncomputable def vG (ku : Int) (dG : Int) (jw : Int) (dH : Int) (fJ : Int) (gZ : UInt32) (dJ : UInt64) (jy : UInt32) (bW : Int) (fK : Int) (ji : List UInt8) (dh : List UInt8) (uM : List UInt8) (mO : Bool) (jV : Vec UInt64 16) (oW : Bool) (yJ : UInt64) (yK : UInt64) (pF : List UInt8) (jo : UInt64) : Option (List UInt8 × Int × Int × Int × Int × Int × UInt32 × UInt64 × UInt32 × Int × Int × Bool × Vec UInt64 16 × Bool × UInt64 × UInt64 × List UInt8 × UInt64) :=
  (qQ ku dG jw dH fJ gZ dJ jy bW fK ji dh uM mO jV oW yJ yK pF jo).bind fun r_ => (yT r_.2.1 r_.2.2.1 (UInt64.ofInt (aG (((r_.2.2.2.2.2.2.2.2.2.2.2.2.2.2.2.2.2.2.2.1.length : Nat) : Int) - r_.2.2.2.1)))).bind fun aU => (vw r_.2.2.2.2.1).bind fun b_ => (Be r_.2.2.2.2.2.2.2.2.2.2.2.2.2.2.2.2.2.2.2.1 r_.2.2.2.1 b_).bind fun fG => (Bz r_.2.2.2.2.1 r_.1 fG aU.1 aU.2.1 true r_.2.2.2.2.2.2.2.2.2.2.2.2.2.2.1).bind fun iE => (xN r_.2.2.2.2.1 iE).bind fun jW => some (jW, r_.2.2.2.2.1, r_.2.2.2.2.2.1, r_.2.2.2.2.2.2.1, r_.2.2.2.2.2.2.2.1, r_.2.2.2.2.2.2.2.2.1, r_.2.2.2.2.2.2.2.2.2.1, r_.2.2.2.2.2.2.2.2.2.2.1, r_.2.2.2.2.2.2.2.2.2.2.2.1, r_.2.2.2.2.2.2.2.2.2.2.2.2.1, r_.2.2.2.2.2.2.2.2.2.2.2.2.2.1, r_.2.2.2.2.2.2.2.2.2.2.2.2.2.2.1, r_.2.2.2.2.2.2.2.2.2.2.2.2.2.2.2.1, r_.2.2.2.2.2.2.2.2.2.2.2.2.2.2.2.2.1, r_.2.2.2.2.2.2.2.2.2.2.2.2.2.2.2.2.2.1, r_.2.2.2.2.2.2.2.2.2.2.2.2.2.2.2.2.2.2.1, r_.2.2.2.2.2.2.2.2.2.2.2.2.2.2.2.2.2.2.2.1, r_.2.2.2.2.2.2.2.2.2.2.2.2.2.2.2.2.2.2.2.2)
noncomputable def xy (kind : Int) (aA : Int) (bH : Int) (aB : Int) (aI : Int) (bD : UInt32) (au : UInt64) (aY : UInt32) (ag : Int) (aO : Int) (aX : List UInt8) (ai : List UInt8) (key : List UInt8) (last : Bool) (out : Int) (data : List UInt8) : Option (List UInt8 × Int) :=
  (FV kind aA bH aB aI bD au aY ag aO aX ai key).bind fun r_ => (Sum.elim (fun aU => if aU ≠ 0 then (some (([] : List UInt8), aU)) else (if out < 1 then (some (([] : List UInt8), (1 : Int))) else ((xx kind).bind fun fG => if fG < out then (some (([] : List UInt8), (1 : Int))) else none))) (fun b_ => if 0 ≠ 0 then (some (([] : List UInt8), (0 : Int))) else (if out < 1 then (some (([] : List UInt8), (1 : Int))) else ((xx kind).bind fun iE => if iE < out then (some (([] : List UInt8), (1 : Int))) else ((sO b_.1 b_.2.1 b_.2.2.1 b_.2.2.2.1 b_.2.2.2.2.1 b_.2.2.2.2.2.1 b_.2.2.2.2.2.2.1 b_.2.2.2.2.2.2.2.1 b_.2.2.2.2.2.2.2.2.1 b_.2.2.2.2.2.2.2.2.2.1 aX ai key last b_.2.2.2.2.2.2.2.2.2.2.1 false (0 : UInt64) (0 : UInt64) b_.2.2.2.2.2.2.2.2.2.2.2 (0 : UInt64) data).bind fun jW => (vG jW.1 jW.2.1 jW.2.2.1 jW.2.2.2.1 jW.2.2.2.2.1 jW.2.2.2.2.2.1 jW.2.2.2.2.2.2.1 jW.2.2.2.2.2.2.2.1 jW.2.2.2.2.2.2.2.2.1 jW.2.2.2.2.2.2.2.2.2.1 aX ai key jW.2.2.2.2.2.2.2.2.2.2.1 jW.2.2.2.2.2.2.2.2.2.2.2.1 jW.2.2.2.2.2.2.2.2.2.2.2.2.1 jW.2.2.2.2.2.2.2.2.2.2.2.2.2.1 jW.2.2.2.2.2.2.2.2.2.2.2.2.2.2.1 jW.2.2.2.2.2.2.2.2.2.2.2.2.2.2.2.1 jW.2.2.2.2.2.2.2.2.2.2.2.2.2.2.2.2).bind fun oG => (Jq oG.1 0 out).bind fun b => some (b, (0 : Int))))))) r_
noncomputable def rJ (a_ : List UInt8) (b : List UInt8) : Int -> Option (Int ⊕ Bool)
  | i => if i < ((a_.length : Nat) : Int) then ((aZ a_ i).bind fun aQ => (aZ b i).bind fun x_1 => if aQ ≠ x_1 then (Option.map Sum.inr (some false)) else (some (.inl (aG (i + 1))))) else (Option.map Sum.inr (some true))
noncomputable def yU (a_ : List UInt8) (b : List UInt8) : Option Bool :=
  if ((a_.length : Nat) : Int) ≠ ((b.length : Nat) : Int) then (some false) else (aV (rJ a_ b) (0 : Int))
noncomputable def vJ (s_ : List UInt8) : Option (List UInt8) :=
  some s_
noncomputable def BA (n : Int) : Option (List UInt8) :=
  if 0 < (aG (n - (aG (0 - ((0 : Nat) : Int))))) then ((YA ([] : List UInt8) (aG (n - (aG (0 - ((0 : Nat) : Int))))) (0 : UInt8) 1).bind fun b => (Jq b 0 ((0 : Nat) : Int)).bind fun b1 => vJ b1) else (vJ ([] : List UInt8))
noncomputable def Dl (n : Int) : Option (List UInt8) :=
  if n < 0 then none else (BA n)
noncomputable def Am (aQ : Int) (size1 : Int) : Option ((Int × Int) ⊕ (List UInt8)) :=
  some (.inl (size1, aG (aQ + 1)))
noncomputable def Ap (slices : List (List UInt8)) : (List UInt8 × Int) -> Option ((List UInt8 × Int) ⊕ (List UInt8))
  | (RS, x_1) => if x_1 < ((slices.length : Nat) : Int) then ((aZ slices x_1).bind fun b1 => (app RS b1 1).bind fun Xv => some (.inl (Xv, aG (x_1 + 1)))) else (Option.map Sum.inr (some RS))
noncomputable def Aq (slices : List (List UInt8)) : (Int × Int) -> Option ((Int × Int) ⊕ (List UInt8))
  | (size, aQ) => if aQ < ((slices.length : Nat) : Int) then ((aZ slices aQ).bind fun b => if (aG (size + ((b.length : Nat) : Int))) < 0 then none else (Am aQ (aG (size + ((b.length : Nat) : Int))))) else (Option.map Sum.inr ((Dl size).bind fun r_ => aV (Ap slices) (r_, (0 : Int))))
noncomputable def NZ (slices : List (List UInt8)) : Option (List UInt8) :=
  aV (Aq slices) ((0 : Int), (0 : Int))
noncomputable def MJ (b : List UInt8) : (List (List UInt8) × Int) -> Option ((List (List UInt8) × Int) ⊕ (List (List UInt8) × Int × Int))
  | (parts, at_) => if at_ < ((b.length : Nat) : Int) then ((oV b at_).bind fun r_ => if r_.2 ≠ 0 then (Option.map Sum.inr (some (([] : List (List UInt8)), at_, (4 : Int)))) else (if (UInt64.ofInt (aG (((b.length : Nat) : Int) - (aG (at_ + 8))))) < r_.1 then (Option.map Sum.inr (some (([] : List (List UInt8)), aG (at_ + 8), (4 : Int)))) else ((Jq b (aG (at_ + 8)) (aG ((aG (at_ + 8)) + (aG r_.1.toNat)))).bind fun b1 => (app ([] : List UInt8) b1 1).bind fun b2 => (app parts ([b2] : List (List UInt8)) 24).bind fun parts1 => some (.inl (parts1, aG ((aG (at_ + 8)) + (aG r_.1.toNat))))))) else (Option.map Sum.inr (some (parts, (0 : Int), (0 : Int))))
noncomputable def m_mac_Unrow (b : List UInt8) : Option (List (List UInt8) × Int × Int) :=
  if 16777216 < ((b.length : Nat) : Int) then (some (([] : List (List UInt8)), (0 : Int), (2 : Int))) else (aV (MJ b) (([] : List (List UInt8)), (0 : Int)))
noncomputable def yz (b : List UInt8) : Option (List UInt8) :=
  (app ([] : List UInt8) b 1).bind fun b1 => some b1
noncomputable def nS (aQ : Int) (l1 : List (List UInt8)) (G9 : Int) (U3 : UInt64) : Option ((List (List UInt8) × Int × UInt64 × Int) ⊕ (List (List UInt8) × Int)) :=
  some (.inl (l1, G9, U3, aG (aQ + 1)))
noncomputable def mi (data : List UInt8) : (List (List UInt8) × Int × UInt64 × Int) -> Option ((List (List UInt8) × Int × UInt64 × Int) ⊕ (List (List UInt8) × Int))
  | (l, from_, sum, aQ) => if aQ < ((data.length : Nat) : Int) then ((aZ data aQ).bind fun dV => if (((decide ((aG ((aG (aQ + 1)) - from_)) = 1024)) || ((decide (64 <= (aG ((aG (aQ + 1)) - from_)))) && (decide ((lM ((sH sum ((1 : UInt64).toNat)) + (((UInt64.ofNat dV.toNat) + 1) * 11400714819323198485)) ((58 : UInt64).toNat)) = 0)))) || (decide (aQ = (aG (((data.length : Nat) : Int) - 1))))) = true then ((Jq data from_ (aG (aQ + 1))).bind fun b => (app ([] : List UInt8) b 1).bind fun b1 => (app l ([b1] : List (List UInt8)) 24).bind fun l2 => nS aQ l2 (aG (aQ + 1)) (0 : UInt64)) else (nS aQ l from_ ((sH sum ((1 : UInt64).toNat)) + (((UInt64.ofNat dV.toNat) + 1) * 11400714819323198485)))) else (Option.map Sum.inr (some (l, (0 : Int))))
noncomputable def sQ (data : List UInt8) : Option (List (List UInt8) × Int) :=
  if 1048576 < ((data.length : Nat) : Int) then (some (([] : List (List UInt8)), (2 : Int))) else (aV (mi data) (([] : List (List UInt8)), (0 : Int), (0 : UInt64), (0 : Int)))
noncomputable def rM (a_ : List UInt8) (b : List UInt8) : Option Bool :=
  (yU a_ b).bind fun r_ => some r_
noncomputable def sS (a_ : List (List UInt8)) (b : List (List UInt8)) : Int -> Option (Int ⊕ Bool)
  | i => if i < ((a_.length : Nat) : Int) then ((aZ a_ i).bind fun b1 => (aZ b i).bind fun b2 => (rM b1 b2).bind fun r_ => if (!r_) = true then (Option.map Sum.inr (some false)) else (some (.inl (aG (i + 1))))) else (Option.map Sum.inr (some true))
noncomputable def zS (a_ : List (List UInt8)) (b : List (List UInt8)) : Option Bool :=
  if ((a_.length : Nat) : Int) ≠ ((b.length : Nat) : Int) then (some false) else (aV (sS a_ b) (0 : Int))
noncomputable def zT  : Option Bool :=
  (sQ ([(97 : UInt8), (98 : UInt8), (99 : UInt8)] : List UInt8)).bind fun r_ => if ((decide (r_.2 = 0)) && (decide (((r_.1.length : Nat) : Int) = 1))) = true then ((aZ r_.1 (0 : Int)).bind fun b => (rM b ([(97 : UInt8), (98 : UInt8), (99 : UInt8)] : List UInt8)).bind fun aU => some aU) else (some false)
noncomputable def tN  : Option Unit :=
  some ()
noncomputable def V4 (snap : List UInt8) : Option Unit :=
  (tN).bind fun r_ => some ()
noncomputable def Q4  : Option (List (List UInt8)) :=
  (tN).bind fun r_ => some ([] : List (List UInt8))
noncomputable def U4  : Option (List UInt8) :=
  (tN).bind fun r_ => some ([] : List UInt8)
noncomputable def Uu  : Option Unit :=
  (tN).bind fun r_ => some ()
noncomputable def MK (s_ : List UInt8) : Int -> Option (Int ⊕ Bool)
  | i => if i < (s_.length : Int) then ((aZ s_ i).bind fun c => (Bc (!(decide (c < 33))) (aZ s_ i)).bind fun c1 => if ((decide (c < 33)) || (decide ((126 : UInt8) < c1))) = true then (Option.map Sum.inr (some false)) else (some (.inl (aG (i + 1))))) else (Option.map Sum.inr (some true))
noncomputable def RU (s_ : List UInt8) : Option Bool :=
  if ((decide ((s_.length : Int) < 1)) || (decide (64 < (s_.length : Int)))) = true then (some false) else (aV (MK s_) (0 : Int))
noncomputable def Oc (rO : List (List UInt8 × List UInt8)) (name : List UInt8) : Int -> Option (Int ⊕ Int)
  | i => if i < ((rO.length : Nat) : Int) then ((aZ rO i).bind fun aQ => if aQ.1 = name then (Option.map Sum.inr (some i)) else (some (.inl (aG (i + 1))))) else (Option.map Sum.inr (some (-1 : Int)))
noncomputable def ML (pG : Bool) (ql : Int) (Oe : Int) (rO : List (List UInt8 × List UInt8)) (name : List UInt8) : Option Int :=
  aV (Oc rO name) (0 : Int)
noncomputable def Qe (i : Int) (out1 : List (List UInt8 × List UInt8)) (IB : Bool) : Option (((List (List UInt8 × List UInt8)) × Bool × Int) ⊕ ((Bool × Int × Int × Int) ⊕ (Bool × Int × Int × (List (List UInt8 × List UInt8))))) :=
  some (.inl (out1, IB, aG (i + 1)))
noncomputable def IC (rO : List (List UInt8 × List UInt8)) (i : Int) (CJ : List (List UInt8 × List UInt8)) (done2 : Bool) : Option (((List (List UInt8 × List UInt8)) × Bool × Int) ⊕ ((Bool × Int × Int × Int) ⊕ (Bool × Int × Int × (List (List UInt8 × List UInt8))))) :=
  (aZ rO i).bind fun vg => (app CJ ([((vg.1 : List UInt8), vg.2)] : List (List UInt8 × List UInt8)) 40).bind fun Y_ => Qe i Y_ done2
noncomputable def IE (pG : Bool) (ql : Int) (Oe : Int) (MM : List (List UInt8 × List UInt8)) : Option ((Bool × Int × Int × Int) ⊕ (Bool × Int × Int × (List (List UInt8 × List UInt8)))) :=
  some (Sum.inr (pG, ql, Oe, MM))
noncomputable def Qg (pG : Bool) (ql : Int) (Oe : Int) (rO : List (List UInt8 × List UInt8)) (name : List UInt8) (own : List UInt8) : ((List (List UInt8 × List UInt8)) × Bool × Int) -> Option (((List (List UInt8 × List UInt8)) × Bool × Int) ⊕ ((Bool × Int × Int × Int) ⊕ (Bool × Int × Int × (List (List UInt8 × List UInt8)))))
  | (out, done, i) => if i < ((rO.length : Nat) : Int) then ((Bc (!done) (aZ rO i)).bind fun aQ => if ((!done) && (Op.bytesLess name aQ.1)) = true then ((app out ([((name : List UInt8), own)] : List (List UInt8 × List UInt8)) 40).bind fun Za => IC rO i Za true) else (IC rO i out done)) else (Option.map Sum.inr (if (!done) = true then ((app out ([((name : List UInt8), own)] : List (List UInt8 × List UInt8)) 40).bind fun out6 => IE pG ql Oe out6) else (IE pG ql Oe out)))
noncomputable def m_r06_Add (pG : Bool) (ql : Int) (Oe : Int) (rO : List (List UInt8 × List UInt8)) (name : List UInt8) (key : List UInt8) : Option ((Bool × Int × Int × Int) ⊕ (Bool × Int × Int × (List (List UInt8 × List UInt8)))) :=
  if (!pG) = true then (some (Sum.inl (pG, ql, Oe, (7 : Int)))) else ((RU name).bind fun r_ => if (!r_) = true then (some (Sum.inl (pG, ql, Oe, (62 : Int)))) else (if ((key.length : Nat) : Int) < 1 then (some (Sum.inl (pG, ql, Oe, (8 : Int)))) else ((nV ql).bind fun aU => if aU < ((key.length : Nat) : Int) then (some (Sum.inl (pG, ql, Oe, (8 : Int)))) else ((ML pG ql Oe rO name).bind fun b_ => if 0 <= b_ then (some (Sum.inl (pG, ql, Oe, (63 : Int)))) else (if 256 <= ((rO.length : Nat) : Int) then (some (Sum.inl (pG, ql, Oe, (2 : Int)))) else ((app ([] : List UInt8) key 1).bind fun own => aV (Qg pG ql Oe rO name own) (([] : List (List UInt8 × List UInt8)), false, (0 : Int))))))))
noncomputable def Gu (i : Int) (out1 : List (List UInt8 × List UInt8)) : Option (((List (List UInt8 × List UInt8)) × Int) ⊕ ((Bool × Int × Int × Int) ⊕ (Bool × Int × Int × (List (List UInt8 × List UInt8))))) :=
  some (.inl (out1, aG (i + 1)))
noncomputable def Og (pG : Bool) (ql : Int) (Oe : Int) (rO : List (List UInt8 × List UInt8)) (r_ : Int) : ((List (List UInt8 × List UInt8)) × Int) -> Option (((List (List UInt8 × List UInt8)) × Int) ⊕ ((Bool × Int × Int × Int) ⊕ (Bool × Int × Int × (List (List UInt8 × List UInt8)))))
  | (out, i) => if i < ((rO.length : Nat) : Int) then (if i ≠ r_ then ((aZ rO i).bind fun aQ => (app out ([((aQ.1 : List UInt8), aQ.2)] : List (List UInt8 × List UInt8)) 40).bind fun CJ => Gu i CJ) else (Gu i out)) else (Option.map Sum.inr (some (Sum.inr (pG, ql, Oe, out))))
noncomputable def m_r06_Drop (pG : Bool) (ql : Int) (Oe : Int) (rO : List (List UInt8 × List UInt8)) (name : List UInt8) : Option ((Bool × Int × Int × Int) ⊕ (Bool × Int × Int × (List (List UInt8 × List UInt8)))) :=
  if (!pG) = true then (some (Sum.inl (pG, ql, Oe, (7 : Int)))) else ((ML pG ql Oe rO name).bind fun r_ => if r_ < 0 then (some (Sum.inl (pG, ql, Oe, (6 : Int)))) else (aV (Og pG ql Oe rO r_) (([] : List (List UInt8 × List UInt8)), (0 : Int))))
noncomputable def FW (f : Nat) : Option Bool :=
  some (JA .neq f f)
noncomputable def pI (f : Nat) : Option UInt64 :=
  (FW f).bind fun r_ => if r_ = true then (some (9221120237041090560 : UInt64)) else ((need (f ≠ Me)).bind fun u => some (UInt64.ofNat f))
noncomputable def iH (cZ : Int) (ah : Mp (List UInt8)) (aC : Mp (Mp (Int × List UInt8))) : Option Int :=
  some cZ
noncomputable def o8 (s_ : List UInt8) : Int -> Option (Int ⊕ Bool)
  | aQ => if aQ < (s_.length : Int) then ((aZ s_ aQ).bind fun c => (Bc (!(decide (c < 33))) (aZ s_ aQ)).bind fun c1 => if ((decide (c < 33)) || (decide ((126 : UInt8) < c1))) = true then (Option.map Sum.inr (some false)) else (some (.inl (aG (aQ + 1))))) else (Option.map Sum.inr (some true))
noncomputable def rP (s_ : List UInt8) : Option Bool :=
  if ((decide ((s_.length : Int) < 1)) || (decide (64 < (s_.length : Int)))) = true then (some false) else (aV (o8 s_) (0 : Int))
noncomputable def EZ (cZ : Int) (ah : Mp (List UInt8)) (aC : Mp (Mp (Int × List UInt8))) (b : List UInt8) : Option (List UInt8 × Int) :=
  (qO (1 : Int) cZ (0 : Int) (1 : Int) (1 : Int) (0 : UInt32) (0 : UInt64) (0 : UInt32) (0 : Int) (0 : Int) ([] : List UInt8) ([] : List UInt8) ([] : List UInt8) false cZ b).bind fun r_ => some (r_.1, cZ)
noncomputable def zU (mM : Int) (d2 : Int) (m_5 : Mp (List UInt8)) (Zb : List UInt8) : Option ((Int × Mp (List UInt8) × List UInt8 × Int) ⊕ ((Int × Mp (List UInt8) × (Mp (Int × List UInt8)) × Int) ⊕ (Int × Int × Mp (List UInt8) × (Mp (Mp (Int × List UInt8)))))) :=
  some (.inl (d2, m_5, Zb, aG (mM + 1)))
noncomputable def zV (ah : Mp (List UInt8)) (aC : Mp (Mp (Int × List UInt8))) (m_4 : Mp (List UInt8)) (e_ : List UInt8) (mM : Int) (b4 : List UInt8) (jW : (List UInt8 × Int)) (old : List UInt8) (is : Bool) : Option ((Int × Mp (List UInt8) × List UInt8 × Int) ⊕ ((Int × Mp (List UInt8) × (Mp (Int × List UInt8)) × Int) ⊕ (Int × Int × Mp (List UInt8) × (Mp (Mp (Int × List UInt8)))))) :=
  if (is && (decide (old ≠ b4))) = true then (Option.map Sum.inr (Option.map Sum.inr (some ((271 : Int), jW.2, ah, aC)))) else ((need (e_.length + jW.1.length <= 9223372036854775807)).bind fun u => zU mM jW.2 (fH m_4 jW.1 b4) (e_ ++ jW.1))
noncomputable def E5 (ah : Mp (List UInt8)) (aC : Mp (Mp (Int × List UInt8))) (m_4 : Mp (List UInt8)) (e_ : List UInt8) (mM : Int) (b4 : List UInt8) (jW : (List UInt8 × Int)) (oG : List UInt8) : Option ((Int × Mp (List UInt8) × List UInt8 × Int) ⊕ ((Int × Mp (List UInt8) × (Mp (Int × List UInt8)) × Int) ⊕ (Int × Int × Mp (List UInt8) × (Mp (Mp (Int × List UInt8)))))) :=
  if oG ≠ b4 then (Option.map Sum.inr (Option.map Sum.inr (some ((271 : Int), jW.2, ah, aC)))) else ((need (e_.length + jW.1.length <= 9223372036854775807)).bind fun u0 => zU mM jW.2 (fH m_4 jW.1 b4) (e_ ++ jW.1))
noncomputable def E8 (ah : Mp (List UInt8)) (aC : Mp (Mp (Int × List UInt8))) (Qh : Mp (Int × List UInt8)) (lL : Int) (iw : List UInt8 × List UInt8) (iE : (List (List UInt8) × Int)) : (Int × Mp (List UInt8) × List UInt8 × Int) -> Option ((Int × Mp (List UInt8) × List UInt8 × Int) ⊕ ((Int × Mp (List UInt8) × (Mp (Int × List UInt8)) × Int) ⊕ (Int × Int × Mp (List UInt8) × (Mp (Mp (Int × List UInt8))))))
  | (d1, m_4, e_, mM) => if mM < ((iE.1.length : Nat) : Int) then ((aZ iE.1 mM).bind fun b4 => (EZ d1 ah aC b4).bind fun jW => (Option.elim (fP ah jW.1) (Option.elim (fP m_4 jW.1) (zV ah aC m_4 e_ mM b4 jW ([] : List UInt8) false) (fun rY => zV ah aC m_4 e_ mM b4 jW rY true)) (fun oG => E5 ah aC m_4 e_ mM b4 jW oG ))) else (Option.map Sum.inr (some (.inl (d1, m_4, fH Qh iw.1 (((iw.2.length : Nat) : Int), e_), aG (lL + 1)))))
noncomputable def E_  : (Mp (List UInt8)) -> Ky × (List UInt8) -> Option (Mp (List UInt8))
  | m_6, (key, qf) => some (fH m_6 key qf)
noncomputable def Fa (ah : Mp (List UInt8)) (aC : Mp (Mp (Int × List UInt8))) (snap : List UInt8) (files : List (List UInt8 × List UInt8)) : (Int × Mp (List UInt8) × (Mp (Int × List UInt8)) × Int) -> Option ((Int × Mp (List UInt8) × (Mp (Int × List UInt8)) × Int) ⊕ (Int × Int × Mp (List UInt8) × (Mp (Mp (Int × List UInt8)))))
  | (d, Gh, Qh, lL) => if lL < ((files.length : Nat) : Int) then ((aZ files lL).bind fun iw => (sQ iw.2).bind fun iE => aV (E8 ah aC Qh lL iw iE) (d, Gh, ([] : List UInt8), (0 : Int))) else (Option.map Sum.inr ((kP (E_) ah Gh).bind fun s_ => some ((0 : Int), d, s_, fH aC snap Qh)))
noncomputable def RV (ah : Mp (List UInt8)) (aC : Mp (Mp (Int × List UInt8))) (snap : List UInt8) (files : List (List UInt8 × List UInt8)) (r_ : Int) : (Mp Int × Int) -> Option ((Mp Int × Int) ⊕ (Int × Int × Mp (List UInt8) × (Mp (Mp (Int × List UInt8)))))
  | (Et, aQ) => if aQ < ((files.length : Nat) : Int) then ((aZ files aQ).bind fun dV => (rP dV.1).bind fun fG => if (!fG) = true then (Option.map Sum.inr (some ((214 : Int), r_, ah, aC))) else (if 1048576 < ((dV.2.length : Nat) : Int) then (Option.map Sum.inr (some ((2 : Int), r_, ah, aC))) else (if ((fP Et dV.1).isSome) = true then (Option.map Sum.inr (some ((213 : Int), r_, ah, aC))) else (some (.inl (fH Et dV.1 aQ, aG (aQ + 1))))))) else (Option.map Sum.inr (aV (Fa ah aC snap files) (r_, ([] : Mp (List UInt8)), ([] : Mp (Int × List UInt8)), (0 : Int))))
noncomputable def fC (BB : Mp (Mp (Int × List UInt8))) : Option (List (List UInt8)) :=
  (need (BB.length * 16 <= 140737488355328)).bind fun u => some (H7 (BB.map (·.1)))
noncomputable def nM (cZ : Int) (ah : Mp (List UInt8)) (aC : Mp (Mp (Int × List UInt8))) : Option (List (List UInt8) × Int) :=
  (iH cZ ah aC).bind fun r_ => (fC aC).bind fun aU => some (aU, r_)
noncomputable def nT (BB : Mp (List UInt8)) : Option (List (List UInt8)) :=
  (need (BB.length * 16 <= 140737488355328)).bind fun u => some (H7 (BB.map (·.1)))
noncomputable def kS (ah : Mp (List UInt8)) (r_ : Int) (s_ : Int) (Ak : Int) (jW : (List (List UInt8))) : (Nat × Int) -> Option ((Nat × Int) ⊕ (Int × Int × Int × Nat × Nat × Nat × Int))
  | (sum, vg) => if vg < ((jW.length : Nat) : Int) then ((aZ jW vg).bind fun yI => (Option.elim (fP ah yI) (some (.inl (far .add sum (far .mul (far .sub (iy ((0 : Nat) : Int)) (far .quo (iy s_) (iy ((ah.length : Nat) : Int)))) (far .sub (iy ((0 : Nat) : Int)) (far .quo (iy s_) (iy ((ah.length : Nat) : Int))))), aG (vg + 1)))) (fun oG => some (.inl (far .add sum (far .mul (far .sub (iy ((oG.length : Nat) : Int)) (far .quo (iy s_) (iy ((ah.length : Nat) : Int)))) (far .sub (iy ((oG.length : Nat) : Int)) (far .quo (iy s_) (iy ((ah.length : Nat) : Int))))), aG (vg + 1)))))) else (Option.map Sum.inr (some (((ah.length : Nat) : Int), s_, Ak, far .sub 4607182418800017408 (far .quo (iy s_) (iy Ak)), far .quo (iy s_) (iy ((ah.length : Nat) : Int)), far .quo sum (iy ((ah.length : Nat) : Int)), r_)))
noncomputable def gG  : Int -> Ky × (Int × List UInt8) -> Option Int
  | wM, (key2, uo) => some (aG (wM + uo.1))
noncomputable def jA  : Int -> Ky × (Mp (Int × List UInt8)) -> Option Int
  | iE, (U5, pW) => (kP (gG) iE pW).bind fun V5 => some V5
noncomputable def jB  : Int -> Ky × (List UInt8) -> Option Int
  | b_, (key, aQ) => some (aG (b_ + ((aQ.length : Nat) : Int)))
noncomputable def nN (cZ : Int) (ah : Mp (List UInt8)) (aC : Mp (Mp (Int × List UInt8))) : Option (Int × Int × Int × Nat × Nat × Nat × Int) :=
  (iH cZ ah aC).bind fun r_ => (kP (jB) (0 : Int) ah).bind fun s_ => (kP (jA) (0 : Int) aC).bind fun Ak => (nT ah).bind fun jW => aV (kS ah r_ s_ Ak jW) (0, (0 : Int))
noncomputable def wG (BB : Mp Int) : Option (List (List UInt8)) :=
  (need (BB.length * 16 <= 140737488355328)).bind fun u => some (H7 (BB.map (·.1)))
noncomputable def yA (w_ : UInt32) : Option (List UInt8) :=
  some ([UInt8.ofNat w_.toNat, UInt8.ofNat (xW w_ ((8 : UInt64).toNat)).toNat, UInt8.ofNat (xW w_ ((16 : UInt64).toNat)).toNat, UInt8.ofNat (xW w_ ((24 : UInt64).toNat)).toNat] : List UInt8)
noncomputable def oK (n : Int) : Option (List UInt8) :=
  (yA (UInt32.ofInt n)).bind fun r_ => some r_
noncomputable def nI (BB : Mp (Int × List UInt8)) : Option (List (List UInt8)) :=
  (need (BB.length * 16 <= 140737488355328)).bind fun u => some (H7 (BB.map (·.1)))
noncomputable def lq (r_ : Int) (lL : Int) (oG : Mp (Int × List UInt8)) (wM : (List (List UInt8))) : (List UInt8 × Int) -> Option ((List UInt8 × Int) ⊕ ((List UInt8 × Int) ⊕ (List UInt8 × Int)))
  | (b10, mM) => if mM < ((wM.length : Nat) : Int) then ((aZ wM mM).bind fun qf => (app b10 ([UInt8.ofInt (qf.length : Int)] : List UInt8) 1).bind fun b11 => (app b11 qf 1).bind fun b12 => (some ((fP oG qf).getD ((0 : Int), ([] : List UInt8)))).bind fun e_ => (oK e_.1).bind fun EE => (app b12 EE 1).bind fun b13 => (some ((fP oG qf).getD ((0 : Int), ([] : List UInt8)))).bind fun Zb => (need (r_ ≠ 0)).bind fun u => (oK (aG (Int.tdiv (Zb.2.length : Int) r_))).bind fun AX => (app b13 AX 1).bind fun b14 => (some ((fP oG qf).getD ((0 : Int), ([] : List UInt8)))).bind fun e_2 => (app b14 e_2.2 1).bind fun b15 => some (.inl (b15, aG (mM + 1)))) else (Option.map Sum.inr (some (.inl (b10, aG (lL + 1)))))
noncomputable def lu (aC : Mp (Mp (Int × List UInt8))) (r_ : Int) (jW : (List (List UInt8))) : (List UInt8 × Int) -> Option ((List UInt8 × Int) ⊕ (List UInt8 × Int))
  | (b5, lL) => if lL < ((jW.length : Nat) : Int) then ((aZ jW lL).bind fun iw => (app b5 ([UInt8.ofInt (iw.length : Int)] : List UInt8) 1).bind fun b6 => (app b6 iw 1).bind fun b7 => (Option.elim (fP aC iw) none (fun oG => (oK ((oG.length : Nat) : Int)).bind fun rY => (app b7 rY 1).bind fun b9 => (nI oG).bind fun wM => aV (lq r_ lL oG wM) (b9, (0 : Int))))) else (Option.map Sum.inr (some (b5, r_)))
noncomputable def lC (ah : Mp (List UInt8)) (aC : Mp (Mp (Int × List UInt8))) (r_ : Int) (b_ : (List (List UInt8))) : (List UInt8 × Int) -> Option ((List UInt8 × Int) ⊕ (List UInt8 × Int))
  | (b1, aQ) => if aQ < ((b_.length : Nat) : Int) then ((aZ b_ aQ).bind fun dV => (Option.elim (fP ah dV) none (fun fG => (app b1 ([UInt8.ofInt ((fG.length : Nat) : Int), UInt8.ofInt (N8 .i64 ((fG.length : Nat) : Int) ((8 : UInt64).toNat))] : List UInt8) 1).bind fun b2 => (app b2 fG 1).bind fun b3 => some (.inl (b3, aG (aQ + 1)))))) else (Option.map Sum.inr ((oK ((aC.length : Nat) : Int)).bind fun iE => (app b1 iE 1).bind fun b4 => (fC aC).bind fun jW => aV (lu aC r_ jW) (b4, (0 : Int))))
noncomputable def mJ (cZ : Int) (ah : Mp (List UInt8)) (aC : Mp (Mp (Int × List UInt8))) : Option (List UInt8 × Int) :=
  (iH cZ ah aC).bind fun r_ => (oK ((ah.length : Nat) : Int)).bind fun aU => (app ([(68 : UInt8), (81 : UInt8), (1 : UInt8), UInt8.ofInt r_] : List UInt8) aU 1).bind fun b => (nT ah).bind fun b_ => aV (lC ah aC r_ b_) (b, (0 : Int))
noncomputable def iQ (cZ : Int) : (List UInt8 × List (List UInt8)) -> Option ((List UInt8 × List (List UInt8)) ⊕ (List (List UInt8) × Int))
  | (Ak, l) => if 0 < (Ak.length : Int) then ((Jq Ak 0 cZ).bind fun V5 => (app l ([V5] : List (List UInt8)) 16).bind fun l1 => (Jq Ak cZ (Ak.length : Int)).bind fun s_3 => some (.inl (s_3, l1))) else (Option.map Sum.inr (some (l, cZ)))
noncomputable def gY (cZ : Int) (ah : Mp (List UInt8)) (aC : Mp (Mp (Int × List UInt8))) (s_ : List UInt8) : Option (List (List UInt8) × Int) :=
  aV (iQ cZ) (s_, ([] : List (List UInt8)))
noncomputable def gm (b_ : (List (List UInt8) × Int)) : (Mp Int × Int) -> Option ((Mp Int × Int) ⊕ (Int × Mp Int))
  | (Gh, dV) => if dV < ((b_.1.length : Nat) : Int) then ((aZ b_.1 dV).bind fun lL => some (.inl (fH Gh lL (aG (((fP Gh lL).getD (0 : Int)) + 1)), aG (dV + 1)))) else (Option.map Sum.inr (some (b_.2, Gh)))
noncomputable def gp (ah : Mp (List UInt8)) (aC : Mp (Mp (Int × List UInt8))) : (Int × Mp Int) -> Ky × (Int × List UInt8) -> Option (Int × Mp Int)
  | (d1, Jr), (U5, x_1) => (gY d1 ah aC x_1.2).bind fun b_ => aV (gm b_) (Jr, (0 : Int))
noncomputable def jS (ah : Mp (List UInt8)) (aC : Mp (Mp (Int × List UInt8))) : (Int × Mp Int) -> Ky × (Mp (Int × List UInt8)) -> Option (Int × Mp Int)
  | (d, Et), (key, aQ) => (kP (gp ah aC) (d, Et) aQ).bind fun Ak => some (Ak.1, Ak.2)
noncomputable def tV (cZ : Int) (ah : Mp (List UInt8)) (aC : Mp (Mp (Int × List UInt8))) : Option (Mp Int × Int) :=
  (kP (jS ah aC) (cZ, ([] : Mp Int)) aC).bind fun s_ => some (s_.2, s_.1)
noncomputable def gX (zW : List UInt8) (iD : Bool) (jG : Bool) (n : Int) : Option (List UInt8 × List UInt8 × Bool × Bool) :=
  if (iD || (decide (((zW.length : Nat) : Int) < n))) = true then (some (([] : List UInt8), zW, true, jG)) else ((Jq zW 0 n).bind fun b => (Jq zW n ((zW.length : Nat) : Int)).bind fun b1 => some (b, b1, iD, jG))
noncomputable def lD (r_ : (List UInt8 × List UInt8 × Bool × Bool)) : (Int × Int) -> Option ((Int × Int) ⊕ (Int × List UInt8 × Bool × Bool))
  | (n0, aQ) => if aQ < ((r_.1.length : Nat) : Int) then ((aZ r_.1 aQ).bind fun iw => (need (0 <= aG (8 * aQ))).bind fun u => some (.inl (orI .i64 n0 (Py .i64 (iw.toNat : Int) (Int.toNat (aG (8 * aQ)))), aG (aQ + 1)))) else (Option.map Sum.inr (some (n0, r_.2.1, r_.2.2.1, r_.2.2.2)))
noncomputable def lQ (zW : List UInt8) (iD : Bool) (jG : Bool) (size : Int) : Option (Int × List UInt8 × Bool × Bool) :=
  (gX zW iD jG size).bind fun r_ => aV (lD r_) ((0 : Int), (0 : Int))
noncomputable def jJ (zW : List UInt8) (iD : Bool) (jG : Bool) (ok : Bool) : Option (List UInt8 × Bool × Bool) :=
  if (!ok) = true then (some (zW, iD, true)) else (some (zW, iD, jG))
noncomputable def iO (zW : List UInt8) (iD : Bool) (jG : Bool) (size : Int) : Option (Int × List UInt8 × Bool × Bool) :=
  (lQ zW iD jG size).bind fun r_ => if ((r_.2.1.length : Nat) : Int) < r_.1 then (some ((0 : Int), r_.2.1, true, r_.2.2.2)) else (some (r_.1, r_.2.1, r_.2.2.1, r_.2.2.2))
noncomputable def jX (cZ : Int) (ah : Mp (List UInt8)) (aC : Mp (Option (Mp (Int × List UInt8)))) (b : List UInt8) : Option (List UInt8 × Int) :=
  (qO (1 : Int) cZ (0 : Int) (1 : Int) (1 : Int) (0 : UInt32) (0 : UInt64) (0 : UInt32) (0 : Int) (0 : Int) ([] : List UInt8) ([] : List UInt8) ([] : List UInt8) false cZ b).bind fun r_ => some (r_.1, cZ)
noncomputable def pO (aQ : Int) (p3 : List UInt8) (p4 : Bool) (p5 : Bool) (d1 : Int) (Jr : Mp (List UInt8)) (MN : List UInt8) : Option ((List UInt8 × Bool × Bool × Int × Mp (List UInt8) × List UInt8 × Int) ⊕ (List UInt8 × Bool × Bool × Int × Mp (List UInt8))) :=
  some (.inl (p3, p4, p5, d1, Jr, MN, aG (aQ + 1)))
noncomputable def mY (aQ : Int) (p6 : List UInt8) (p7 : Bool) (p8 : Bool) (d2 : Int) (Gh : Mp (List UInt8)) (last2 : List UInt8) : Option ((List UInt8 × Bool × Bool × Int × Mp (List UInt8) × List UInt8 × Int) ⊕ (List UInt8 × Bool × Bool × Int × Mp (List UInt8))) :=
  pO aQ p6 p7 p8 d2 Gh last2
noncomputable def gq (aC : Mp (Option (Mp (Int × List UInt8)))) (r_ : (Int × List UInt8 × Bool × Bool)) : (List UInt8 × Bool × Bool × Int × Mp (List UInt8) × List UInt8 × Int) -> Option ((List UInt8 × Bool × Bool × Int × Mp (List UInt8) × List UInt8 × Int) ⊕ (List UInt8 × Bool × Bool × Int × Mp (List UInt8)))
  | (p, p1, p2, d, Et, last, aQ) => if aQ < r_.1 then (if p1 = true then (Option.map Sum.inr (some (p, p1, p2, d, Et))) else ((iO p p1 p2 (2 : Int)).bind fun aU => (gX aU.2.1 aU.2.2.1 aU.2.2.2 aU.1).bind fun b_ => (app ([] : List UInt8) b_.1 1).bind fun b => (jJ b_.2.1 b_.2.2.1 b_.2.2.2 ((decide (1 <= ((0 + b_.1.length : Nat) : Int))) && (decide (((0 + b_.1.length : Nat) : Int) <= 1024)))).bind fun fG => if (fG.2.2 || fG.2.1) = true then (mY aQ fG.1 fG.2.1 fG.2.2 d Et last) else ((jX d Et aC b).bind fun iE => (jJ fG.1 fG.2.1 fG.2.2 ((decide (aQ = 0)) || (!(Op.bytesLess iE.1 last || decide (iE.1 = last))))).bind fun jW => mY aQ jW.1 jW.2.1 jW.2.2 iE.2 (fH Et iE.1 b) iE.1))) else (Option.map Sum.inr (some (p, p1, p2, d, Et)))
noncomputable def pJ (zW : List UInt8) (iD : Bool) (jG : Bool) (cZ : Int) (ah : Mp (List UInt8)) (aC : Mp (Option (Mp (Int × List UInt8)))) : Option (List UInt8 × Bool × Bool × Int × Mp (List UInt8)) :=
  (iO zW iD jG (4 : Int)).bind fun r_ => aV (gq aC r_) (r_.2.1, r_.2.2.1, r_.2.2.2, cZ, ah, ([] : List UInt8), (0 : Int))
noncomputable def jr (size : Int) (r_ : (Int × List UInt8 × Bool × Bool)) : (List UInt8 × Bool × Bool × (Mp (Int × List UInt8)) × List UInt8 × Int) -> Option ((List UInt8 × Bool × Bool × (Mp (Int × List UInt8)) × List UInt8 × Int) ⊕ ((List UInt8 × Bool × Bool) ⊕ ((Mp (Int × List UInt8)) × List UInt8 × Bool × Bool)))
  | (p, p1, p2, Et, last, aQ) => if aQ < r_.1 then (if p1 = true then (Option.map Sum.inr (some (Sum.inl (p, p1, p2)))) else ((iO p p1 p2 (1 : Int)).bind fun b_ => (gX b_.2.1 b_.2.2.1 b_.2.2.2 b_.1).bind fun fG => (lQ fG.2.1 fG.2.2.1 fG.2.2.2 (4 : Int)).bind fun iE => (rP fG.1).bind fun jW => (jJ iE.2.1 iE.2.2.1 iE.2.2.2 ((jW && ((decide (aQ = 0)) || (!(Op.bytesLess fG.1 last || decide (fG.1 = last))))) && (decide (iE.1 <= 1048576)))).bind fun oG => (iO oG.1 oG.2.1 oG.2.2 (4 : Int)).bind fun rY => (gX rY.2.1 rY.2.2.1 rY.2.2.2 (aG (rY.1 * size))).bind fun wM => some (.inl (wM.2.1, wM.2.2.1, wM.2.2.2, fH Et fG.1 (iE.1, wM.1), fG.1, aG (aQ + 1))))) else (Option.map Sum.inr (some (Sum.inr (Et, p, p1, p2))))
noncomputable def qU (zW : List UInt8) (iD : Bool) (jG : Bool) (size : Int) : Option ((List UInt8 × Bool × Bool) ⊕ ((Mp (Int × List UInt8)) × List UInt8 × Bool × Bool)) :=
  (iO zW iD jG (4 : Int)).bind fun r_ => (jJ r_.2.1 r_.2.2.1 r_.2.2.2 (decide (r_.1 <= 256))).bind fun aU => aV (jr size r_) (aU.1, aU.2.1, aU.2.2, ([] : Mp (Int × List UInt8)), ([] : List UInt8), (0 : Int))
noncomputable def kM (fG : (List UInt8 × Bool × Bool × Int × Mp (List UInt8))) (p : List UInt8) (p1 : Bool) (p2 : Bool) (Et : Mp (Option (Mp (Int × List UInt8)))) : Option (Int ⊕ (Int × Mp (List UInt8) × (Mp (Mp (Int × List UInt8))))) :=
  if p1 = true then (some (Sum.inl (3 : Int))) else (if 0 < ((p.length : Nat) : Int) then (some (Sum.inl (9 : Int))) else (if p2 = true then (some (Sum.inl (274 : Int))) else ((need (Et.all (fun p => p.2.isSome) = true)).bind fun u => some (Sum.inr (fG.2.2.2.1, fG.2.2.2.2, Et.map (fun p => (p.1, p.2.getD [])))))))
noncomputable def qA (fG : (List UInt8 × Bool × Bool × Int × Mp (List UInt8))) (p3 : List UInt8) (p4 : Bool) (p5 : Bool) (Gh : Mp (Option (Mp (Int × List UInt8)))) : Option (Int ⊕ (Int × Mp (List UInt8) × (Mp (Mp (Int × List UInt8))))) :=
  kM fG p3 p4 p5 Gh
noncomputable def jg (aU : (Int × List UInt8 × Bool × Bool)) (fG : (List UInt8 × Bool × Bool × Int × Mp (List UInt8))) (iE : (Int × List UInt8 × Bool × Bool)) : (List UInt8 × Bool × Bool × (Mp (Option (Mp (Int × List UInt8)))) × List UInt8 × Int) -> Option ((List UInt8 × Bool × Bool × (Mp (Option (Mp (Int × List UInt8)))) × List UInt8 × Int) ⊕ (Int ⊕ (Int × Mp (List UInt8) × (Mp (Mp (Int × List UInt8))))))
  | (p6, p7, p8, Qh, last, aQ) => if aQ < iE.1 then (if p7 = true then (Option.map Sum.inr (qA fG p6 p7 p8 Qh)) else ((iO p6 p7 p8 (1 : Int)).bind fun oG => (gX oG.2.1 oG.2.2.1 oG.2.2.2 oG.1).bind fun rY => (rP rY.1).bind fun wM => (jJ rY.2.1 rY.2.2.1 rY.2.2.2 (wM && ((decide (aQ = 0)) || (!(Op.bytesLess rY.1 last || decide (rY.1 = last)))))).bind fun EE => (qU EE.1 EE.2.1 EE.2.2 aU.1).bind fun AX => (Sum.elim (fun qY => some (.inl (qY.1, qY.2.1, qY.2.2, fH Qh rY.1 Option.none, rY.1, aG (aQ + 1)))) (fun pX => some (.inl (pX.2.1, pX.2.2.1, pX.2.2.2, fH Qh rY.1 (Option.some pX.1), rY.1, aG (aQ + 1))))) AX)) else (Option.map Sum.inr (qA fG p6 p7 p8 Qh))
noncomputable def oL (b : List UInt8) : Option (Int ⊕ (Int × Mp (List UInt8) × (Mp (Mp (Int × List UInt8))))) :=
  (gX b false false (3 : Int)).bind fun r_ => (lQ r_.2.1 r_.2.2.1 r_.2.2.2 (1 : Int)).bind fun aU => (jJ aU.2.1 aU.2.2.1 aU.2.2.2 (((decide (r_.1 = ([68, 81, 1] : List UInt8))) && (decide (1 <= aU.1))) && (decide (aU.1 <= 64)))).bind fun b_ => (pJ b_.1 b_.2.1 b_.2.2 aU.1 ([] : Mp (List UInt8)) ([] : Mp (Option (Mp (Int × List UInt8))))).bind fun fG => (iO fG.1 fG.2.1 fG.2.2.1 (4 : Int)).bind fun iE => (jJ iE.2.1 iE.2.2.1 iE.2.2.2 (decide (iE.1 <= 64))).bind fun jW => aV (jg aU fG iE) (jW.1, jW.2.1, jW.2.2, ([] : Mp (Option (Mp (Int × List UInt8)))), ([] : List UInt8), (0 : Int))
noncomputable def lH (aQ : Int) (l1 : List (List UInt8)) : Option ((List (List UInt8) × Int) ⊕ (List (List UInt8) × Int)) :=
  some (.inl (l1, aG (aQ + 1)))
noncomputable def jK (ah : Mp (List UInt8)) (aU : (Mp Int × Int)) (b_ : (List (List UInt8))) : (List (List UInt8) × Int) -> Option ((List (List UInt8) × Int) ⊕ (List (List UInt8) × Int))
  | (l, aQ) => if aQ < ((b_.length : Nat) : Int) then ((aZ b_ aQ).bind fun dV => (Option.elim (fP ah dV) ((need (dV.length <= 140737488355328)).bind fun u => (app l ([dV] : List (List UInt8)) 24).bind fun l2 => lH aQ l2) (fun fG => lH aQ l))) else (Option.map Sum.inr (some (l, aU.2)))
noncomputable def mr (cZ : Int) (ah : Mp (List UInt8)) (aC : Mp (Mp (Int × List UInt8))) : Option (List (List UInt8) × Int) :=
  (iH cZ ah aC).bind fun r_ => (tV r_ ah aC).bind fun aU => (wG aU.1).bind fun b_ => aV (jK ah aU b_) (([] : List (List UInt8)), (0 : Int))
noncomputable def mZ (r_b : List UInt8) (r_at : Int) (jf : Bool) (n : Int) : (List UInt8 × Int) -> Option ((List UInt8 × Int) ⊕ (List UInt8 × Int × Bool))
  | (out, i) => if i < n then ((aZ r_b (aG (r_at + i))).bind fun aQ => (app out ([aQ] : List UInt8) 1).bind fun out1 => some (.inl (out1, aG (i + 1)))) else (Option.map Sum.inr (some (out, aG (r_at + n), jf)))
noncomputable def g_ (r_b : List UInt8) (r_at : Int) (jf : Bool) (n : Int) : Option (List UInt8 × Int × Bool) :=
  if (jf || (decide ((aG (((r_b.length : Nat) : Int) - r_at)) < n))) = true then (some (([] : List UInt8), r_at, true)) else (aV (mZ r_b r_at jf n) (([] : List UInt8), (0 : Int)))
noncomputable def dw (r_b : List UInt8) (r_at : Int) (jf : Bool) (bytes : Int) (counts : Bool) : Option (Int × Int × Bool) :=
  (g_ r_b r_at jf bytes).bind fun r_ => (tK r_.1 (0 : Int) ((r_.1.length : Nat) : Int)).bind fun aU => if (r_.2.2 || (counts && (decide ((aG (((r_b.length : Nat) : Int) - r_.2.1)) < (aG aU.1.toNat))))) = true then (some ((0 : Int), r_.2.1, true)) else (some (aG aU.1.toNat, r_.2.1, r_.2.2))
noncomputable def kT (r_b : List UInt8) (size : Int) (aU : (List UInt8 × Int × Bool)) (b_ : (Int × Int × Bool)) (fG : (Int × Int × Bool)) : (Int × Bool × List (List UInt8) × Int) -> Option ((Int × Bool × List (List UInt8) × Int) ⊕ (List UInt8 × Int × List (List UInt8) × Int × Bool))
  | (iE, jW, e_, i) => if ((decide (i < fG.1)) && (!jW)) = true then ((g_ r_b iE jW size).bind fun oG => (app e_ ([oG.1] : List (List UInt8)) 16).bind fun b => some (.inl (oG.2.1, oG.2.2, b, aG (i + 1)))) else (Option.map Sum.inr (some (aU.1, b_.1, e_, iE, jW)))
noncomputable def ou (r_b : List UInt8) (r_at : Int) (jf : Bool) (size : Int) : Option (List UInt8 × Int × List (List UInt8) × Int × Bool) :=
  (dw r_b r_at jf (1 : Int) true).bind fun r_ => (g_ r_b r_.2.1 r_.2.2 r_.1).bind fun aU => (dw r_b aU.2.1 aU.2.2 (4 : Int) false).bind fun b_ => (dw r_b b_.2.1 b_.2.2 (4 : Int) true).bind fun fG => aV (kT r_b size aU b_ fG) (fG.2.1, fG.2.2, ([] : List (List UInt8)), (0 : Int))
noncomputable def kU (r_b : List UInt8) (aU : (Int × Int × Bool)) (d1 : List (List UInt8 × (List (List UInt8 × Int × List (List UInt8))))) (i1 : Int) (qY : (List UInt8 × Int × Bool)) (pX : (Int × Int × Bool)) : (Int × Bool × (List (List UInt8 × Int × List (List UInt8))) × Int) -> Option ((Int × Bool × (List (List UInt8 × Int × List (List UInt8))) × Int) ⊕ ((Int × Bool × (List (List UInt8 × (List (List UInt8 × Int × List (List UInt8))))) × Int) ⊕ (Int × (List (List UInt8 × List UInt8)) × (List (List UInt8 × (List (List UInt8 × Int × List (List UInt8))))) × Int × Bool)))
  | (RX, D_, s_, wV) => if ((decide (wV < pX.1)) && (!D_)) = true then ((ou r_b RX D_ aU.1).bind fun wO => (app s_ ([((wO.1 : List UInt8), (wO.2.1 : Int), wO.2.2.1)] : List (List UInt8 × Int × List (List UInt8))) 48).bind fun b1 => some (.inl (wO.2.2.2.1, wO.2.2.2.2, b1, aG (wV + 1)))) else (Option.map Sum.inr ((app d1 ([((qY.1 : List UInt8), s_)] : List (List UInt8 × (List (List UInt8 × Int × List (List UInt8))))) 40).bind fun b2 => some (.inl (RX, D_, b2, aG (i1 + 1)))))
noncomputable def kW (r_b : List UInt8) (aU : (Int × Int × Bool)) (d : List (List UInt8 × List UInt8)) (rY : (Int × Int × Bool)) : (Int × Bool × (List (List UInt8 × (List (List UInt8 × Int × List (List UInt8))))) × Int) -> Option ((Int × Bool × (List (List UInt8 × (List (List UInt8 × Int × List (List UInt8))))) × Int) ⊕ (Int × (List (List UInt8 × List UInt8)) × (List (List UInt8 × (List (List UInt8 × Int × List (List UInt8))))) × Int × Bool))
  | (wM, EE, d1, i1) => if ((decide (i1 < rY.1)) && (!EE)) = true then ((dw r_b wM EE (1 : Int) true).bind fun AX => (g_ r_b AX.2.1 AX.2.2 AX.1).bind fun qY => (dw r_b qY.2.1 qY.2.2 (4 : Int) true).bind fun pX => aV (kU r_b aU d1 i1 qY pX) (pX.2.1, pX.2.2, ([] : List (List UInt8 × Int × List (List UInt8))), (0 : Int))) else (Option.map Sum.inr (some (aU.1, d, d1, wM, EE)))
noncomputable def iR (r_b : List UInt8) (aU : (Int × Int × Bool)) (b_ : (Int × Int × Bool)) : (Int × Bool × (List (List UInt8 × List UInt8)) × Int) -> Option ((Int × Bool × (List (List UInt8 × List UInt8)) × Int) ⊕ (Int × (List (List UInt8 × List UInt8)) × (List (List UInt8 × (List (List UInt8 × Int × List (List UInt8))))) × Int × Bool))
  | (fG, iE, d, i) => if ((decide (i < b_.1)) && (!iE)) = true then ((dw r_b fG iE (2 : Int) true).bind fun jW => (g_ r_b jW.2.1 jW.2.2 jW.1).bind fun oG => (app d ([((([] : List UInt8) : List UInt8), oG.1)] : List (List UInt8 × List UInt8)) 40).bind fun b => some (.inl (oG.2.1, oG.2.2, b, aG (i + 1)))) else (Option.map Sum.inr ((dw r_b fG iE (4 : Int) true).bind fun rY => aV (kW r_b aU d rY) (rY.2.1, rY.2.2, ([] : List (List UInt8 × (List (List UInt8 × Int × List (List UInt8))))), (0 : Int))))
noncomputable def oz (r_b : List UInt8) (r_at : Int) (jf : Bool) : Option (Int × (List (List UInt8 × List UInt8)) × (List (List UInt8 × (List (List UInt8 × Int × List (List UInt8))))) × Int × Bool) :=
  (g_ r_b r_at jf (3 : Int)).bind fun r_ => (dw r_b r_.2.1 r_.2.2 (1 : Int) false).bind fun aU => (dw r_b aU.2.1 aU.2.2 (4 : Int) true).bind fun b_ => aV (iR r_b aU b_) (b_.2.1, b_.2.2, ([] : List (List UInt8 × List UInt8)), (0 : Int))
noncomputable def pK (iM : Int) (aJ : List (List UInt8 × List UInt8)) (aW : List (List UInt8 × (List (List UInt8 × Int × List (List UInt8))))) (b : List UInt8) : Option (List UInt8) :=
  (xy (1 : Int) iM (0 : Int) (1 : Int) (1 : Int) (0 : UInt32) (0 : UInt64) (0 : UInt32) (0 : Int) (0 : Int) ([] : List UInt8) ([] : List UInt8) ([] : List UInt8) false iM b).bind fun r_ => some r_.1
noncomputable def uB (s_ : List UInt8) : Int -> Option (Int ⊕ Bool)
  | i => if i < (s_.length : Int) then ((aZ s_ i).bind fun c => (Bc (!(decide (c < 33))) (aZ s_ i)).bind fun c1 => if ((decide (c < 33)) || (decide ((126 : UInt8) < c1))) = true then (Option.map Sum.inr (some false)) else (some (.inl (aG (i + 1))))) else (Option.map Sum.inr (some ((decide (1 <= (s_.length : Int))) && (decide ((s_.length : Int) <= 64)))))
noncomputable def yV (s_ : List UInt8) : Option Bool :=
  aV (uB s_) (0 : Int)
noncomputable def lS (i1 : Int) (iw : List UInt8 × (List (List UInt8 × Int × List (List UInt8)))) : Int -> Option (Int ⊕ (Int ⊕ Bool))
  | eY => if eY < ((iw.2.length : Nat) : Int) then ((aZ iw.2 eY).bind fun qf => (yV qf.1).bind fun aU => (Bc (!(!aU)) (Bc (decide (0 < eY)) (aZ iw.2 eY))).bind fun pW => (Bc (!(!aU)) (Bc (decide (0 < eY)) (aZ iw.2 (aG (eY - 1))))).bind fun vg => (Bc (!((!aU) || ((decide (0 < eY)) && (Op.bytesLess pW.1 vg.1 || decide (pW.1 = vg.1))))) (aZ iw.2 eY)).bind fun yI => if (((!aU) || ((decide (0 < eY)) && (Op.bytesLess pW.1 vg.1 || decide (pW.1 = vg.1)))) || (decide (1048576 < yI.2.1))) = true then (Option.map Sum.inr (Option.map Sum.inr (some false))) else (some (.inl (aG (eY + 1))))) else (Option.map Sum.inr (some (.inl (aG (i1 + 1)))))
noncomputable def kz (aW : List (List UInt8 × (List (List UInt8 × Int × List (List UInt8))))) : Int -> Option (Int ⊕ Bool)
  | i1 => if i1 < ((aW.length : Nat) : Int) then ((aZ aW i1).bind fun iw => (yV iw.1).bind fun r_ => (Bc (!(!r_)) (Bc (decide (0 < i1)) (aZ aW (aG (i1 - 1))))).bind fun mM => if (((!r_) || ((decide (0 < i1)) && (Op.bytesLess iw.1 mM.1 || decide (iw.1 = mM.1)))) || (decide (256 < ((iw.2.length : Nat) : Int)))) = true then (Option.map Sum.inr (some false)) else (aV (lS i1 iw) (0 : Int))) else (Option.map Sum.inr (some true))
noncomputable def lT (aJ : List (List UInt8 × List UInt8)) (aW : List (List UInt8 × (List (List UInt8 × Int × List (List UInt8))))) : Int -> Option (Int ⊕ Bool)
  | i => if i < ((aJ.length : Nat) : Int) then ((aZ aJ i).bind fun aQ => (Bc (!(decide (((aQ.2.length : Nat) : Int) < 1))) (aZ aJ i)).bind fun x_1 => (Bc (!((decide (((aQ.2.length : Nat) : Int) < 1)) || (decide (1024 < ((x_1.2.length : Nat) : Int))))) (Bc (decide (0 < i)) (aZ aJ i))).bind fun dV => (Bc (!((decide (((aQ.2.length : Nat) : Int) < 1)) || (decide (1024 < ((x_1.2.length : Nat) : Int))))) (Bc (decide (0 < i)) (aZ aJ (aG (i - 1))))).bind fun lL => if (((decide (((aQ.2.length : Nat) : Int) < 1)) || (decide (1024 < ((x_1.2.length : Nat) : Int)))) || ((decide (0 < i)) && (Op.bytesLess dV.1 lL.1 || decide (dV.1 = lL.1)))) = true then (Option.map Sum.inr (some false)) else (some (.inl (aG (i + 1))))) else (Option.map Sum.inr (if 64 < ((aW.length : Nat) : Int) then (some false) else (aV (kz aW) (0 : Int))))
noncomputable def qZ (iM : Int) (aJ : List (List UInt8 × List UInt8)) (aW : List (List UInt8 × (List (List UInt8 × Int × List (List UInt8))))) : Option Bool :=
  aV (lT aJ aW) (0 : Int)
noncomputable def uC (r_ : (Int × (List (List UInt8 × List UInt8)) × (List (List UInt8 × (List (List UInt8 × Int × List (List UInt8))))) × Int × Bool)) : ((List (List UInt8 × List UInt8)) × Int) -> Option (((List (List UInt8 × List UInt8)) × Int) ⊕ (Int ⊕ (Int × (List (List UInt8 × List UInt8)) × (List (List UInt8 × (List (List UInt8 × Int × List (List UInt8))))))))
  | (d, i) => if i < ((d.length : Nat) : Int) then ((aZ d i).bind fun qf => (pK r_.1 d r_.2.2.1 qf.2).bind fun aU => (aZ d i).bind fun pW => some (.inl (d.set (Int.toNat i) ((aU : List UInt8), pW.2), aG (i + 1)))) else (Option.map Sum.inr ((qZ r_.1 d r_.2.2.1).bind fun b_ => if (!b_) = true then (some (Sum.inl (274 : Int))) else (some (Sum.inr (r_.1, d, r_.2.2.1)))))
noncomputable def tX (b : List UInt8) : Option (Int ⊕ (Int × (List (List UInt8 × List UInt8)) × (List (List UInt8 × (List (List UInt8 × Int × List (List UInt8))))))) :=
  (oz b (0 : Int) false).bind fun r_ => if r_.2.2.2.2 = true then (some (Sum.inl (3 : Int))) else (if r_.2.2.2.1 < ((b.length : Nat) : Int) then (some (Sum.inl (9 : Int))) else ((aZ b (0 : Int)).bind fun aQ => (Bc (!(decide (aQ ≠ 68))) (aZ b (1 : Int))).bind fun iw => (Bc (!((decide (aQ ≠ 68)) || (decide (iw ≠ 81)))) (aZ b (2 : Int))).bind fun mM => if (((((decide (aQ ≠ 68)) || (decide (iw ≠ 81))) || (decide (mM ≠ 1))) || (decide (r_.1 < 1))) || (decide (64 < r_.1))) = true then (some (Sum.inl (274 : Int))) else (aV (uC r_) (r_.2.1, (0 : Int)))))
noncomputable def rf (Fe : Int) (yB : List (List UInt8 × List UInt8)) (rq : List (List UInt8 × (List (List UInt8 × Int × List (List UInt8))))) : (List (List UInt8) × Int) -> Option ((List (List UInt8) × Int) ⊕ (List (List UInt8) × Int × (List (List UInt8 × List UInt8)) × (List (List UInt8 × (List (List UInt8 × Int × List (List UInt8)))))))
  | (l, i) => if i < ((rq.length : Nat) : Int) then ((aZ rq i).bind fun aQ => (app l ([aQ.1] : List (List UInt8)) 16).bind fun l1 => some (.inl (l1, aG (i + 1)))) else (Option.map Sum.inr (some (l, Fe, yB, rq)))
noncomputable def vK (Fe : Int) (yB : List (List UInt8 × List UInt8)) (rq : List (List UInt8 × (List (List UInt8 × Int × List (List UInt8))))) : Option (List (List UInt8) × Int × (List (List UInt8 × List UInt8)) × (List (List UInt8 × (List (List UInt8 × Int × List (List UInt8)))))) :=
  aV (rf Fe yB rq) (([] : List (List UInt8)), (0 : Int))
noncomputable def sU (a_ : List (List UInt8)) (b : List (List UInt8)) : Int -> Option (Int ⊕ Bool)
  | i => if i < ((a_.length : Nat) : Int) then ((aZ a_ i).bind fun aQ => (aZ b i).bind fun x_1 => if aQ ≠ x_1 then (Option.map Sum.inr (some false)) else (some (.inl (aG (i + 1))))) else (Option.map Sum.inr (some true))
noncomputable def zX (a_ : List (List UInt8)) (b : List (List UInt8)) : Option Bool :=
  if ((a_.length : Nat) : Int) ≠ ((b.length : Nat) : Int) then (some false) else (aV (sU a_ b) (0 : Int))
noncomputable def kN (l : List (List UInt8 × List UInt8)) (digest : List UInt8) : (Int × Int) -> Option ((Int × Int) ⊕ Int)
  | (low, high) => if low < high then ((aZ l (aG (Int.tdiv (aG (low + high)) 2))).bind fun aQ => if (Op.bytesLess aQ.1 digest) = true then (some (.inl (aG ((aG (Int.tdiv (aG (low + high)) 2)) + 1), high))) else (some (.inl (low, aG (Int.tdiv (aG (low + high)) 2))))) else (Option.map Sum.inr ((Bc (decide (low < ((l.length : Nat) : Int))) (aZ l low)).bind fun x_1 => if ((decide (low < ((l.length : Nat) : Int))) && (decide (x_1.1 = digest))) = true then (some low) else (some (-1 : Int))))
noncomputable def yX (l : List (List UInt8 × List UInt8)) (digest : List UInt8) : Option Int :=
  aV (kN l digest) ((0 : Int), ((l.length : Nat) : Int))
noncomputable def ru (i : Int) (out1 : List (List UInt8 × List UInt8)) (IB : Bool) : Option (((List (List UInt8 × List UInt8)) × Bool × Int) ⊕ (List (List UInt8 × List UInt8))) :=
  some (.inl (out1, IB, aG (i + 1)))
noncomputable def oM (l : List (List UInt8 × List UInt8)) (i : Int) (CJ : List (List UInt8 × List UInt8)) (done2 : Bool) : Option (((List (List UInt8 × List UInt8)) × Bool × Int) ⊕ (List (List UInt8 × List UInt8))) :=
  (aZ l i).bind fun x_1 => (app CJ ([((x_1.1 : List UInt8), x_1.2)] : List (List UInt8 × List UInt8)) 40).bind fun Y_ => ru i Y_ done2
noncomputable def wH (MM : List (List UInt8 × List UInt8)) : Option (List (List UInt8 × List UInt8)) :=
  some MM
noncomputable def iT (l : List (List UInt8 × List UInt8)) (f_ : List UInt8) (lI : List UInt8) : ((List (List UInt8 × List UInt8)) × Bool × Int) -> Option (((List (List UInt8 × List UInt8)) × Bool × Int) ⊕ (List (List UInt8 × List UInt8)))
  | (out, done, i) => if i < ((l.length : Nat) : Int) then ((Bc (!done) (aZ l i)).bind fun aQ => if ((!done) && (Op.bytesLess f_ aQ.1)) = true then ((app out ([((f_ : List UInt8), lI)] : List (List UInt8 × List UInt8)) 40).bind fun Za => oM l i Za true) else (oM l i out done)) else (Option.map Sum.inr (if (!done) = true then ((app out ([((f_ : List UInt8), lI)] : List (List UInt8 × List UInt8)) 40).bind fun out6 => wH out6) else (wH out)))
noncomputable def Dn (l : List (List UInt8 × List UInt8)) (f_ : List UInt8) (lI : List UInt8) : Option (List (List UInt8 × List UInt8)) :=
  aV (iT l f_ lI) (([] : List (List UInt8 × List UInt8)), false, (0 : Int))
noncomputable def nO (j : Int) (l3 : List (List UInt8 × List UInt8)) : Option (((List (List UInt8 × List UInt8)) × Int) ⊕ (((List (List UInt8 × List UInt8)) × Int) ⊕ (((List (List UInt8 × List UInt8)) × Int) ⊕ (List (List UInt8 × List UInt8))))) :=
  some (.inl (l3, aG (j + 1)))
noncomputable def kC (eu : Int) (dV : List UInt8 × Int × List (List UInt8)) : ((List (List UInt8 × List UInt8)) × Int) -> Option (((List (List UInt8 × List UInt8)) × Int) ⊕ (((List (List UInt8 × List UInt8)) × Int) ⊕ (((List (List UInt8 × List UInt8)) × Int) ⊕ (List (List UInt8 × List UInt8)))))
  | (l2, j) => if j < ((dV.2.2.length : Nat) : Int) then ((aZ dV.2.2 j).bind fun lL => (yX l2 lL).bind fun r_ => if r_ < 0 then ((aZ dV.2.2 j).bind fun iw => (Dn l2 iw ([] : List UInt8)).bind fun aU => nO j aU) else (nO j l2)) else (Option.map Sum.inr (some (.inl (l2, aG (eu + 1)))))
noncomputable def kD (aW : List (List UInt8 × (List (List UInt8 × Int × List (List UInt8))))) (i : Int) : ((List (List UInt8 × List UInt8)) × Int) -> Option (((List (List UInt8 × List UInt8)) × Int) ⊕ (((List (List UInt8 × List UInt8)) × Int) ⊕ (List (List UInt8 × List UInt8))))
  | (l1, eu) => (aZ aW i).bind fun aQ => if eu < ((aQ.2.length : Nat) : Int) then ((aZ aW i).bind fun x_1 => (aZ x_1.2 eu).bind fun dV => aV (kC eu dV) (l1, (0 : Int))) else (Option.map Sum.inr (some (.inl (l1, aG (i + 1)))))
noncomputable def lU (aW : List (List UInt8 × (List (List UInt8 × Int × List (List UInt8))))) : ((List (List UInt8 × List UInt8)) × Int) -> Option (((List (List UInt8 × List UInt8)) × Int) ⊕ (List (List UInt8 × List UInt8)))
  | (l, i) => if i < ((aW.length : Nat) : Int) then (aV (kD aW i) (l, (0 : Int))) else (Option.map Sum.inr (some l))
noncomputable def uN (iM : Int) (aJ : List (List UInt8 × List UInt8)) (aW : List (List UInt8 × (List (List UInt8 × Int × List (List UInt8))))) : Option (List (List UInt8 × List UInt8)) :=
  aV (lU aW) (([] : List (List UInt8 × List UInt8)), (0 : Int))
noncomputable def mD (i : Int) (out1 : List (List UInt8)) : Option ((List (List UInt8) × Int) ⊕ (List (List UInt8))) :=
  some (.inl (out1, aG (i + 1)))
noncomputable def kX (aJ : List (List UInt8 × List UInt8)) (r_ : (List (List UInt8 × List UInt8))) : (List (List UInt8) × Int) -> Option ((List (List UInt8) × Int) ⊕ (List (List UInt8)))
  | (out, i) => if i < ((r_.length : Nat) : Int) then ((aZ r_ i).bind fun aQ => (yX aJ aQ.1).bind fun aU => if aU < 0 then ((aZ r_ i).bind fun x_1 => (need (x_1.1.length <= 140737488355328)).bind fun u => (app out ([x_1.1] : List (List UInt8)) 24).bind fun CJ => mD i CJ) else (mD i out)) else (Option.map Sum.inr (some out))
noncomputable def oC (iM : Int) (aJ : List (List UInt8 × List UInt8)) (aW : List (List UInt8 × (List (List UInt8 × Int × List (List UInt8))))) : Option (List (List UInt8)) :=
  (uN iM aJ aW).bind fun r_ => aV (kX aJ r_) (([] : List (List UInt8)), (0 : Int))
noncomputable def kE (aW : List (List UInt8 × (List (List UInt8 × Int × List (List UInt8))))) (i1 : Int) : (Int × Int) -> Option ((Int × Int) ⊕ ((Int × Int) ⊕ (Int × Int × Int × Nat × Nat × Nat)))
  | (b_, eU) => (aZ aW i1).bind fun qf => if eU < ((qf.2.length : Nat) : Int) then ((aZ aW i1).bind fun pW => (aZ pW.2 eU).bind fun vg => some (.inl (aG (b_ + vg.2.1), aG (eU + 1)))) else (Option.map Sum.inr (some (.inl (b_, aG (i1 + 1)))))
noncomputable def kF (aJ : List (List UInt8 × List UInt8)) (r_ : Int) (aU : Int) : (Nat × Int) -> Option ((Nat × Int) ⊕ (Int × Int × Int × Nat × Nat × Nat))
  | (sum, i2) => if i2 < ((aJ.length : Nat) : Int) then ((aZ aJ i2).bind fun yI => some (.inl (far .add sum (far .mul (far .sub (iy ((yI.2.length : Nat) : Int)) (far .quo (iy r_) (iy ((aJ.length : Nat) : Int)))) (far .sub (iy ((yI.2.length : Nat) : Int)) (far .quo (iy r_) (iy ((aJ.length : Nat) : Int))))), aG (i2 + 1)))) else (Option.map Sum.inr (some (((aJ.length : Nat) : Int), r_, aU, far .sub 4607182418800017408 (far .quo (iy r_) (iy aU)), far .quo (iy r_) (iy ((aJ.length : Nat) : Int)), far .quo sum (iy ((aJ.length : Nat) : Int)))))
noncomputable def jv (aJ : List (List UInt8 × List UInt8)) (aW : List (List UInt8 × (List (List UInt8 × Int × List (List UInt8))))) (r_ : Int) : (Int × Int) -> Option ((Int × Int) ⊕ (Int × Int × Int × Nat × Nat × Nat))
  | (aU, i1) => if i1 < ((aW.length : Nat) : Int) then (aV (kE aW i1) (aU, (0 : Int))) else (Option.map Sum.inr (aV (kF aJ r_ aU) (0, (0 : Int))))
noncomputable def kG (aJ : List (List UInt8 × List UInt8)) (aW : List (List UInt8 × (List (List UInt8 × Int × List (List UInt8))))) : (Int × Int) -> Option ((Int × Int) ⊕ (Int × Int × Int × Nat × Nat × Nat))
  | (r_, i) => if i < ((aJ.length : Nat) : Int) then ((aZ aJ i).bind fun aQ => some (.inl (aG (r_ + ((aQ.2.length : Nat) : Int)), aG (i + 1)))) else (Option.map Sum.inr (aV (jv aJ aW r_) ((0 : Int), (0 : Int))))
noncomputable def ry (iM : Int) (aJ : List (List UInt8 × List UInt8)) (aW : List (List UInt8 × (List (List UInt8 × Int × List (List UInt8))))) : Option (Int × Int × Int × Nat × Nat × Nat) :=
  aV (kG aJ aW) ((0 : Int), (0 : Int))
noncomputable def yC (lJ : Int) (oN : Int) (yY : Int) (KZ : Nat) (Qi : Nat) (IG : Nat) (lK : Int) (oP : Int) (yZ : Int) (K_ : Nat) (Qj : Nat) (II : Nat) : Option Bool :=
  if (((decide (lJ = lK)) && (decide (oN = oP))) && (decide (yY = yZ))) = true then ((pI KZ).bind fun r_ => (pI K_).bind fun aU => if r_ = aU then ((pI Qi).bind fun b_ => (pI Qj).bind fun fG => if b_ = fG then ((pI IG).bind fun iE => (pI II).bind fun jW => some (decide (iE = jW))) else (some false)) else (some false)) else (some false)
noncomputable def wI (b : List UInt8) : Option Bool :=
  (zT).bind fun r_ => if (!r_) = true then (some false) else ((yz b).bind fun aU => (oL aU).bind fun b_ => (Sum.elim (fun fG => (tX b).bind fun jW => (Sum.elim (fun oG => if ((decide (fG ≠ oG)) || (decide (true ≠ true))) = true then (some false) else (some true)) (fun rY => if ((decide (fG ≠ 0)) || (decide (true ≠ false))) = true then (some false) else (some true))) jW) (fun iE => (tX b).bind fun wM => (Sum.elim (fun EE => if ((decide (0 ≠ EE)) || (decide (false ≠ true))) = true then (some false) else ((mJ iE.1 iE.2.1 iE.2.2).bind fun qY => (rM qY.1 b).bind fun pX => if pX = true then none else (some false))) (fun AX => if ((decide (0 ≠ 0)) || (decide (false ≠ false))) = true then (some false) else ((mJ iE.1 iE.2.1 iE.2.2).bind fun D_ => (rM D_.1 b).bind fun wO => if wO = true then ((nM D_.2 iE.2.1 iE.2.2).bind fun r_16 => (vK AX.1 AX.2.1 AX.2.2).bind fun Qk => (zX r_16.1 Qk.1).bind fun Zc => if Zc = true then ((mr r_16.2 iE.2.1 iE.2.2).bind fun r_19 => (oC Qk.2.1 Qk.2.2.1 Qk.2.2.2).bind fun r_20 => (zS r_19.1 r_20).bind fun Zd => if Zd = true then ((nN r_19.2 iE.2.1 iE.2.2).bind fun Oh => (ry Qk.2.1 Qk.2.2.1 Qk.2.2.2).bind fun Oi => (yC Oh.1 Oh.2.1 Oh.2.2.1 Oh.2.2.2.1 Oh.2.2.2.2.1 Oh.2.2.2.2.2.1 Oi.1 Oi.2.1 Oi.2.2.1 Oi.2.2.2.1 Oi.2.2.2.2.1 Oi.2.2.2.2.2).bind fun Ze => some Ze) else (some false)) else (some false)) else (some false)))) wM)) b_)
end Go.Sx
namespace Go.Sx
open Go.RowKit
set_option linter.unusedVariables false
variable {δ σ : Type}
theorem Ar {a b : Ky} (h : a < b) : ¬ b < a := fun h2 => List.lt_irrefl a (List.lt_trans h h2)
theorem Eu {a b : Ky} (h : a < b) : a ≠ b := fun e => List.lt_irrefl b (e ▸ h)
theorem IJ {k1 k2 : Ky} (h : k1 < k2) (v1 v2 : δ) : ∀ m : Mp δ, fH (fH m k1 v1) k2 v2 = fH (fH m k2 v2) k1 v1 := by
  have hne : k1 ≠ k2 := Eu h;have hne2 : k2 ≠ k1 := fun e => hne e.symm;have hn : ¬ k2 < k1 := Ar h;intro m
  induction m with
  | nil => simp [fH, h, hne, hne2, hn]
  | cons p r ih =>
    rcases P_ k1 p.1 with h1 | h1 | h1
    ·have e1 : k1 ≠ p.1 := Eu h1;have lhs : fH (p :: r) k1 v1 = (k1, v1) :: p :: r := by simp [fH, e1, h1]
     rw [lhs];have : fH ((k1, v1) :: p :: r) k2 v2 = (k1, v1) :: fH (p :: r) k2 v2 := by
       rw [fH];simp [hne2, hn]
     rw [this];rcases P_ k2 p.1 with h2 | h2 | h2
     ·have e2 : k2 ≠ p.1 := Eu h2;have : fH (p :: r) k2 v2 = (k2, v2) :: p :: r := by simp [fH, e2, h2]
      rw [this];simp [fH, hne, h]
     ·have : fH (p :: r) k2 v2 = (k2, v2) :: r := by simp [fH, h2]
      rw [this];simp [fH, hne, h]
     ·have e2 : k2 ≠ p.1 := fun e => Eu h2 e.symm;have : fH (p :: r) k2 v2 = p :: fH r k2 v2 := by simp [fH, e2, Ar h2]
      rw [this];simp [fH, e1, h1]
    ·have lhs : fH (p :: r) k1 v1 = (k1, v1) :: r := by simp [fH, h1]
     rw [lhs];have h2 : p.1 < k2 := h1 ▸ h;have e2 : k2 ≠ p.1 := fun e => Eu h2 e.symm;have : fH (p :: r) k2 v2 = p :: fH r k2 v2 := by simp [fH, e2, Ar h2]
     rw [this];simp [fH, h1, e2, Ar h2]
    ·have e1 : k1 ≠ p.1 := fun e => Eu h1 e.symm;have h2 : p.1 < k2 := List.lt_trans h1 h;have e2 : k2 ≠ p.1 := fun e => Eu h2 e.symm;have lhs : fH (p :: r) k1 v1 = p :: fH r k1 v1 := by simp [fH, e1, Ar h1]
     have rhs : fH (p :: r) k2 v2 = p :: fH r k2 v2 := by simp [fH, e2, Ar h2]
     rw [lhs, rhs];simp [fH, e1, e2, Ar h1, Ar h2, ih]
theorem Xw {k1 k2 : Ky} (h : k1 ≠ k2) (v1 v2 : δ) (m : Mp δ) : fH (fH m k1 v1) k2 v2 = fH (fH m k2 v2) k1 v1 := by
  rcases P_ k1 k2 with h1 | h1 | h1
  ·exact IJ h1 v1 v2 m
  ·exact absurd h1 h
  ·exact (IJ h1 v2 v1 m).symm
theorem CO {k k' : Ky} (h : k ≠ k') (v : δ) : ∀ m : Mp δ, fP (fH m k v) k' = fP m k' := by
  intro m
  induction m with
  | nil => simp [fH, fP, h]
  | cons p r ih =>
    unfold fH;by_cases h1 : k = p.1
    ·rw [if_pos h1];simp [fP, h, h1 ▸ h]
    ·rw [if_neg h1];by_cases h2 : k < p.1
     ·rw [if_pos h2];rw [fP];simp [h]
     ·rw [if_neg h2];rw [fP, fP];simp [ih]
theorem La (a : Int) : aG a = if a % 18446744073709551616 ≥ 9223372036854775808 then a % 18446744073709551616 - 18446744073709551616 else a % 18446744073709551616 := by
  have e1 : (2 : Int) ^ 64 = 18446744073709551616 := rfl;have e2 : (2 : Int) ^ (64 - 1) = 9223372036854775808 := rfl;simp only [aG, IntKind.wrap, IntKind.signed, IntKind.bits, Bool.true_and];by_cases h : a % 18446744073709551616 ≥ 9223372036854775808
  ·rw [if_pos h, if_pos]
   ·rfl
   ·exact decide_eq_true h
  ·rw [if_neg h, if_neg]
   ·rfl
   ·intro h2;exact h (of_decide_eq_true h2)
theorem Zf (a : Int) : (aG a) % 18446744073709551616 = a % 18446744073709551616 := by
  rw [La];split <;> omega
theorem w64_eq (a b : Int) (h : a % 18446744073709551616 = b % 18446744073709551616) : aG a = aG b := by
  rw [La, La, h]
theorem BC (a b : Int) : aG (aG a + b) = aG (a + b) := w64_eq _ _ (by have h := Zf a;omega)
end Go.Sx
namespace Go.Sx
open Go.RowKit
set_option linter.unusedVariables false
theorem Dp : Comm jB := by
  rintro s ⟨k1, v1⟩ ⟨k2, v2⟩ h;simp only [jB, Option.bind_some, BC];rw [show s + ((v1.length : Nat) : Int) + ((v2.length : Nat) : Int) = s + ((v2.length : Nat) : Int) + ((v1.length : Nat) : Int) by omega]
theorem IK (m : Mp (Int × List UInt8)) : ∀ s : Int, kP gG (aG s) m = some (aG (s + (m.map (·.2.1)).sum)) := by
  induction m with
  | nil => intro s;simp [kP]
  | cons p r ih =>
    intro s;obtain ⟨k, v⟩ := p;simp only [kP, gG, Option.bind_some, BC, List.map_cons, List.sum_cons];rw [ih, show s + v.1 + (r.map (·.2.1)).sum = s + (v.1 + (r.map (·.2.1)).sum) by omega]
theorem Dq : Comm gG := by
  rintro s ⟨k1, v1⟩ ⟨k2, v2⟩ h;simp only [gG, Option.bind_some, BC];rw [show s + v1.1 + v2.1 = s + v2.1 + v1.1 by omega]
theorem Dt : Comm jA := by
  rintro s ⟨k1, v1⟩ ⟨k2, v2⟩ h;have key : ∀ (m : Mp (Int × List UInt8)) (s : Int), ∃ z : Int, ∀ s : Int, kP gG s m = some (if m = [] then s else aG (s + z)) := by
    intro m s;cases m with
    | nil => exact ⟨0, fun s => by simp [kP]⟩
    | cons p r =>
      obtain ⟨k, v⟩ := p;refine ⟨v.1 + (r.map (·.2.1)).sum, fun s => ?_⟩;simp only [kP, gG, Option.bind_some, reduceCtorEq, if_false];rw [IK, show s + v.1 + (r.map (·.2.1)).sum = s + (v.1 + (r.map (·.2.1)).sum) by omega]
  obtain ⟨z1, h1⟩ := key v1 0;obtain ⟨z2, h2⟩ := key v2 0;simp only [jA, Option.bind_some, h1, h2];by_cases e1 : v1 = [] <;> by_cases e2 : v2 = [] <;> simp only [e1, e2, if_true, if_false, BC];rw [show s + z1 + z2 = s + z2 + z1 by omega]
end Go.Sx
namespace Go.Sx
open Go.RowKit
set_option linter.unusedVariables false
set_option linter.unusedSimpArgs false
section
variable {σ ε ρ δ : Type}
theorem RY {f : σ -> Option (σ ⊕ ρ)} {s : σ} (h : f s = none) : aV f s = none := by
  cases hw : aV f s with
  | none => rfl
  | some r =>
    obtain ⟨k, hk⟩ := uX.1 hw;cases k with
    | zero => cases hk
    | succ k => simp [runK, h] at hk
def V6 (f : σ -> ε -> Option σ) : Prop := ∀ s a b, (f s a).bind (fun s' => f s' b) = (f s b).bind (fun s' => f s' a)
theorem V6.comm {f : σ -> Ky × δ -> Option σ} (h : V6 f) : Comm f := fun s a b _ => h s a b
theorem RZ {f : σ -> ε -> Option σ} (hc : V6 f) {l l' : List ε} (hp : l.Perm l') : ∀ s, kP f s l = kP f s l' := by
  induction hp with
  | nil => intro s;rfl
  | cons x _ ih => intro s;simp only [kP];exact congrArg _ (funext fun s' => ih s')
  | swap x y l =>
    intro s;simp only [kP];rw [<- Option.bind_assoc, <- Option.bind_assoc, hc s y x]
  | trans _ _ ih1 ih2 => intro s;rw [ih1, ih2]
theorem OZ {f : σ -> ε -> Option σ} (l l' : List ε) : ∀ s, kP f s (l ++ l') = (kP f s l).bind fun s' => kP f s' l' := by
  induction l with
  | nil => intro s;rfl
  | cons x l ih => intro s;simp only [List.cons_append, kP, Option.bind_assoc];exact congrArg _ (funext fun s' => ih s')
end
def inc (m : Mp Int) (x : Ky) : Mp Int := fH m x (aG (((fP m x).getD (0 : Int)) + 1))
theorem Zg (m : Mp Int) (x y : Ky) : inc (inc m x) y = inc (inc m y) x := by
  by_cases h : x = y
  ·rw [h]
  ·unfold inc;rw [CO h, CO (fun e => h e.symm), Xw h]
theorem Zh (l : List Ky) : ∀ (m : Mp Int) (x : Ky), l.foldl inc (inc m x) = inc (l.foldl inc m) x := by
  induction l with
  | nil => intro m x;rfl
  | cons y l ih => intro m x;rw [List.foldl_cons, Zg, ih];rfl
theorem Xx (l l' : List Ky) : ∀ m : Mp Int, l'.foldl inc (l.foldl inc m) = l.foldl inc (l'.foldl inc m) := by
  induction l with
  | nil => intro m;rfl
  | cons x l ih => intro m;rw [List.foldl_cons, ih, Zh];rfl
theorem Zi (r : List Ky × Int) (m : Mp Int) : aV (gm r) (m, (0 : Int)) = if r.1.length <= 9223372036854775807 then some (r.2, r.1.foldl inc m) else none := by
  have step : ∀ k, k < r.1.length -> gm r ((r.1.take k).foldl inc m, (k : Int)) = some (.inl ((r.1.take (k + 1)).foldl inc m, aG ((k : Int) + 1))) := by
    intro k hk;unfold gm;simp only [];rw [if_pos (by omega), bQ hk];simp only [Option.bind_some];rw [List.take_add_one, List.getElem?_eq_getElem hk, List.foldl_append];rfl
  have run : ∀ k, k <= r.1.length -> k <= 9223372036854775807 -> aV (gm r) (m, (0 : Int)) = aV (gm r) ((r.1.take k).foldl inc m, (k : Int)) := by
    intro k
    induction k with
    | zero => intro _ _;rfl
    | succ k ih =>
      intro h1 h2;rw [ih (by omega) (by omega), gK (step k (by omega)), iK (by omega)];rfl
  by_cases h : r.1.length <= 9223372036854775807
  ·rw [if_pos h, run r.1.length (Nat.le_refl _) h, List.take_length];refine dU ?_;unfold gm;simp only [];rw [if_neg (by omega)];rfl
  ·rw [if_neg h, run 9223372036854775807 (by omega) (Nat.le_refl _), gK (step 9223372036854775807 (by omega))];refine RY ?_;unfold gm;simp only [];rw [show aG (((9223372036854775807 : Nat) : Int) + 1) = -9223372036854775808 from by rw [La];decide, if_pos (by omega)];have : aZ r.1 (-9223372036854775808) = none := by
     cases hg : aZ r.1 (-9223372036854775808) with
     | none => rfl
     | some x => have := (bF hg).1;omega
   rw [this];rfl
theorem Zj (d : Int) (C : Mp (List UInt8)) (S : Mp (Mp (Int × List UInt8))) (s : List UInt8) (r : List (List UInt8) × Int) (h : gY d C S s = some r) : r.2 = d := by
  unfold gY at h;obtain ⟨k, hk⟩ := uX.1 h;have key : ∀ k (s : List UInt8 × List (List UInt8)), runK (iQ d) k s = some r -> r.2 = d := by
    intro k
    induction k with
    | zero => intro s h;cases h
    | succ k ih =>
      intro s h;rw [runK] at h;cases hf : iQ d s with
      | none => rw [hf] at h;cases h
      | some y =>
        rw [hf] at h;cases y with
        | inl s' => exact ih s' h
        | inr q =>
          have hq : q = r := Option.some.inj h;subst hq;obtain ⟨s1, l⟩ := s;unfold iQ at hf;simp only [] at hf;split at hf
          ·exfalso;revert hf;cases Jq s1 0 d with
           | none => intro hf;cases hf
           | some a =>
             simp only [Option.bind_some];cases app l [a] 16 with
             | none => intro hf;cases hf
             | some b =>
               simp only [Option.bind_some];cases Jq s1 d s1.length with
               | none => intro hf;cases hf
               | some c => intro hf;cases hf
          ·simp only [Option.map_some, Option.some.injEq, Sum.inr.injEq] at hf;rw [<- hf]
  exact key k _ hk
theorem tY (C : Mp (List UInt8)) (S : Mp (Mp (Int × List UInt8))) (d : Int) (m : Mp Int) (a : Ky × (Int × List UInt8)) :
    gp C S (d, m) a = (gY d C S a.2.2).bind fun r => if r.1.length <= 9223372036854775807 then some (d, r.1.foldl inc m) else none := by
  obtain ⟨k, x⟩ := a;unfold gp;simp only [];cases h : gY d C S x.2 with
  | none => rfl
  | some r =>
    simp only [Option.bind_some];rw [Zi, Zj d C S x.2 r h]
theorem IL (C : Mp (List UInt8)) (S : Mp (Mp (Int × List UInt8))) : V6 (gp C S) := by
  rintro ⟨d, m⟩ a b;rw [tY, tY];cases ha : gY d C S a.2.2 with
  | none =>
    simp only [Option.bind_none];cases hb : gY d C S b.2.2 with
    | none => rfl
    | some rb =>
      simp only [Option.bind_some];split
      ·simp only [Option.bind_some];rw [tY, ha];rfl
      ·rfl
  | some ra =>
    simp only [Option.bind_some];cases hb : gY d C S b.2.2 with
    | none =>
      simp only [Option.bind_none];split
      ·simp only [Option.bind_some];rw [tY, hb];rfl
      ·rfl
    | some rb =>
      simp only [Option.bind_some];by_cases h1 : ra.1.length <= 9223372036854775807
      ·by_cases h2 : rb.1.length <= 9223372036854775807
       ·simp only [h1, h2, if_true, Option.bind_some];rw [tY, tY, ha, hb];simp only [Option.bind_some, h1, h2, if_true];rw [Xx]
       ·simp only [h1, h2, if_true, if_false, Option.bind_some, Option.bind_none];rw [tY, hb];simp only [Option.bind_some, h2, if_false]
      ·by_cases h2 : rb.1.length <= 9223372036854775807
       ·simp only [h1, h2, if_true, if_false, Option.bind_some, Option.bind_none];rw [tY, ha];simp only [Option.bind_some, h1, if_false]
       ·simp only [h1, h2, if_false, Option.bind_none]
theorem Ea (C : Mp (List UInt8)) (S : Mp (Mp (Int × List UInt8))) : Comm (gp C S) := (IL C S).comm
theorem MO (C : Mp (List UInt8)) (S : Mp (Mp (Int × List UInt8))) (s : Int × Mp Int) (a : Ky × Mp (Int × List UInt8)) : jS C S s a = kP (gp C S) s a.2 := by
  obtain ⟨d, m⟩ := s;obtain ⟨k, x⟩ := a;unfold jS;simp only [];cases kP (gp C S) (d, m) x <;> rfl
theorem Ec (C : Mp (List UInt8)) (S : Mp (Mp (Int × List UInt8))) : Comm (jS C S) := by
  intro s a b _;simp only [MO];rw [<- OZ, <- OZ];exact RZ (IL C S) List.perm_append_comm s
end Go.Sx
namespace Go.Sx
open Go.RowKit Go.Proofs
set_option linter.unusedVariables false
variable {α γ δ : Type}
end Go.Sx
namespace Go.Sx
open Go.RowKit
set_option linter.unusedVariables false
variable {α γ δ : Type} {F O : Nat -> Prop} {w0 w : World} {hs : List HP}
theorem SH.ro {E : Enc α} {w : World} {R : Nat -> Prop} {y : Hd} {x : List α} : (SH E).r w R y x ↔ y.2.1 = x.length /\ x.length <= y.2.2 /\ Ro (fun b => ¬ R b) w y.1 (E.all x) :=
  ⟨fun ⟨h1, h2, h3, h4⟩ => ⟨h1, h2, h3, fun hne a ha hn => hn (h4 hne a ha)⟩, fun ⟨h1, h2, h3, h4⟩ => ⟨h1, h2, h3, fun hne a ha => Classical.not_not.1 (h4 hne a ha)⟩⟩
theorem Cx.shcut {E : Enc α} {A : Option Addr} {n c : Nat} {x : List α} (k : Cx F O w0 w hs) (i : Nat) (hi : hs[i]? = some (Sh (SH E) [(A, n, c)] [x])) {B : Option Addr} {m d : Nat} {y : List α}
    (conv : ∀ (F : Nat -> Prop) (w : World), Ro F w A (E.all x) -> Ro F w B (E.all y)) (h1 : y.length = m) (h2 : m <= d) : Cx F O w0 w (Sh (SH E) [(B, m, d)] [y] :: hs) :=
  k.dup i hi fun w S R h => ⟨fun _ h => h, rfl, fun j u v e1 e2 => by
    cases j with
    | succ j => cases e1
    | zero =>
      obtain rfl := Option.some.inj e1;obtain rfl := Option.some.inj e2;have h3 := SH.ro.1 (h.2.2 0 _ _ rfl rfl);exact SH.ro.2 ⟨h1.symm, by show y.length <= d;omega, conv _ _ h3.2.2⟩⟩
end Go.Sx
namespace Go.Sx
open Go.RowKit Go.MapKept
set_option linter.unusedVariables false
set_option linter.unusedSimpArgs false
variable {α γ δ : Type} {F O : Nat -> Prop} {w0 w : World} {hs rest : List HP}
def RN (v : Vl γ δ) : Rl (Option Nat) (Option (Mp δ)) where
  r w R u m := match u, m with
    | none, none => True
    | some b, some m => (RM v).r w R b m
    | _, _ => False
  loc := by
    intro w w' R u m h hk;cases u <;> cases m
    ·exact trivial
    ·exact h.elim
    ·exact h.elim
    ·exact (RM v).loc _ _ _ _ _ h hk
  mono := by
    intro w R R' u m hR h;cases u <;> cases m
    ·exact trivial
    ·exact h.elim
    ·exact h.elim
    ·exact (RM v).mono _ _ _ _ _ hR h
def vN (v : Vl γ δ) : Vl (Option Nat) (Option (Mp δ)) := ⟨fun u => .map u, RN v, fun a b h => by simpa using h⟩
theorem RN.some {v : Vl γ δ} {w : World} {R : Nat -> Prop} {u : Option Nat} {m : Option (Mp δ)} (h : (RN v).r w R u m) (hm : m.isSome = true) : u = Option.some (u.getD 0) /\ (RM v).r w R (u.getD 0) (m.getD []) := by
  cases u <;> cases m
  ·cases hm
  ·exact h.elim
  ·cases hm
  ·exact ⟨rfl, h⟩
theorem Cx.shN (k : Cx F O w0 w hs) (v : Vl γ δ) : Cx F O w0 w (Sh (RN v) [Option.none] [Option.none] :: hs) := by
  obtain ⟨U, V, h1, hU, hV⟩ := k.sep;refine ⟨k.os, k.tape, k.output, k.size, k.block, k.fin, k.Jp, U, V, ⟨fun _ => False, fun _ => False, U, V, ⟨fun _ h => h, rfl, fun j y x e1 e2 => ?_⟩, h1, by simp, by simp, fun b hb => hb.elim, fun b hb => hb.elim⟩, hU, hV⟩;cases j with
  | succ j => cases e1
  | zero =>
    obtain rfl := Option.some.inj e1;obtain rfl := Option.some.inj e2;exact trivial
theorem Cx.smN {v : Vl γ δ} {b : Nat} {m : Mp δ} (k : Cx F O w0 w (Sh (RM v) [b] [m] :: rest)) : Cx F O w0 w (Sh (RN v) [Option.some b] [Option.some m] :: rest) :=
  k.weak (h' := Sh (RN v) [Option.some b] [Option.some m]) 0 rfl fun w S R ⟨h0, h1, h2⟩ => ⟨h0, rfl, fun j y x e1 e2 => by
    cases j with
    | succ j => cases e1
    | zero =>
      obtain rfl := Option.some.inj e1;obtain rfl := Option.some.inj e2;exact h2 0 _ _ rfl rfl⟩
theorem Cx.msN {v : Vl γ δ} {b : Nat} {m : Mp (Option (Mp δ))} (k : Cx F O w0 w (MS (vN v) b m :: rest)) (h : m.all (fun p => p.2.isSome) = true) :
    Cx F O w0 w (MS (vM v) b (m.map fun p => (p.1, p.2.getD [])) :: rest) := by
  obtain ⟨l, hf, k1⟩ := k.UZ;obtain ⟨S, R, hS⟩ := k1.get 1 rfl;have hsome : ∀ e ∈ l, e.2.2.isSome = true := fun e he => by
    have h1 : kx e ∈ m := hf.1.mem_iff.1 (List.mem_map.2 ⟨e, he, rfl⟩);exact List.all_eq_true.1 h _ h1
  have hu : ∀ e ∈ l, e.2.1 = Option.some (e.2.1.getD 0) := fun e he => by
    obtain ⟨j, hj⟩ := List.getElem?_of_mem he;have := hS.2.2 j e.2.1 e.2.2 (by rw [List.getElem?_map, hj];rfl) (by rw [List.getElem?_map, hj];rfl);exact (RN.some this (hsome e he)).1
  refine Cx.YW (l.map fun e => (e.1, e.2.1.getD 0, e.2.2.getD [])) ⟨?_, ?_⟩ ?_
  ·have h1 := hf.1.map (fun p : Ky × Option (Mp δ) => (p.1, p.2.getD []));rw [List.map_map] at h1;rw [List.map_map];exact h1
  ·unfold uk;rw [List.map_map];exact hf.2
  ·have e1 : xu (l.map fun e => (e.1, e.2.1.getD 0, e.2.2.getD [])) = xu l := by unfold xu;rw [List.map_map];rfl
   have e2 : Es (vM v) (l.map fun e => (e.1, e.2.1.getD 0, e.2.2.getD [])) = Es (vN v) l := by
     unfold Es;rw [List.map_map];refine List.map_congr_left fun e he => ?_;show Value.map (Option.some (e.2.1.getD 0)) = Value.map e.2.1;rw [<- hu e he]
   rw [e1, e2];have k2 := k1.weak (h' := Sh (RM v) ((l.map fun e => (e.1, e.2.1.getD 0, e.2.2.getD [])).map (·.2.1)) ((l.map fun e => (e.1, e.2.1.getD 0, e.2.2.getD [])).map (·.2.2))) 1 rfl fun w S R ⟨h0, h1, h2⟩ => by
     refine ⟨h0, by simp, fun j y x g1 g2 => ?_⟩;rw [List.map_map, List.getElem?_map, Option.map_eq_some_iff] at g1 g2;obtain ⟨e, he, rfl⟩ := g1;obtain ⟨e', he', rfl⟩ := g2;rw [he] at he';obtain rfl := Option.some.inj he';have := h2 j e.2.1 e.2.2 (by rw [List.getElem?_map, he];rfl) (by rw [List.getElem?_map, he];rfl);exact (RN.some this (hsome e (List.mem_of_getElem? he))).2
   exact k2
end Go.Sx
namespace Go.Sx
open Go.RowKit Go.MapKept
set_option linter.unusedVariables false
set_option linter.unusedSimpArgs false
variable {P : Program} {n : Nat} {ops : Array Oper} {L : St} {w : World} {K : St -> World -> Prop}
theorem Op_str {dst : Option Nat} {x : Operand} {src t ty : TypeId} {pos : String} {iW : Array Edge} {g : Option (Nat × Bool)} (ss : List Nat) (d : Nat) {A : Option Addr} {m c : Nat} {s : List UInt8}
    (hside : (xH ops ss L ⟨dst, .convert src t x, ty, pos, iW, g⟩, dst, (decide (d < n)), (L.any fun p => p.1 == d), (toSS [x] (lk L)).map SV.vals, (match P.underlying src, P.underlying t with | some (.slice e'), some .string => (match P.underlying e' with | some (.int .u8) => true | _ => false) | _, _ => false)) = (true, some d, true, false, some [.slice A m c], true))
    (hr : Rd w A (e8.all s)) (hl : s.length = m) (hk : K ((d, .s s) :: L) w) :
    wQ P n ops L w ⟨dst, .convert src t x, ty, pos, iW, g⟩ K := by
  simp only [Prod.mk.injEq, Option.map_eq_some_iff, decide_eq_true_eq] at hside;obtain ⟨s1, rfl, s3, s4, ⟨svs, s5, s6⟩, s7⟩ := hside;have hty : ∃ e, P.underlying src = some (.slice e) /\ P.underlying t = some .string /\ P.underlying e = some (.int .u8) := by
    split at s7
    ·rename_i e' h1 h2;refine ⟨e', h1, h2, ?_⟩;split at s7
     ·assumption
     ·cases s7
    ·cases s7
  refine uI (xs := [x]) (svs := svs) ss (d := d) (by simp [Side, s1, s3, s4, s5]) fun a ha he => ?_;rw [s6] at he;simp only [List.map_cons, List.map_nil, List.cons.injEq, and_true] at he;obtain ⟨e, h1, h2, h3⟩ := hty;have hrun := Ih (P := P) (c := c) (Ah s ▸ hr) hl;unfold Oper.wp execOp;simp only [he, convert, Sem.run_bind, run_underlying h1, run_underlying h2, run_underlying h3, Result.andThen_ok, hrun, Sem.run_pure];exact ⟨.s s, rfl, hk⟩
end Go.Sx
namespace Go.Sx
open Go.RowKit
set_option linter.unusedSimpArgs false
set_option linter.unusedVariables false
variable {α β γ δ ε ζ : Type}
def BD (E : Enc γ) (q : Rl γ δ) : Rl (Hd × List γ) (List δ) where
  r w R h x := h.1.2.1 = x.length /\ x.length <= h.1.2.2 /\ Rd w h.1.1 (E.all h.2) /\ (E.all h.2 ≠ [] -> ∀ a, h.1.1 = some a -> R a.block) /\ h.2.length = x.length /\ ∀ (j : Nat) (y : γ) (z : δ), h.2[j]? = some y -> x[j]? = some z -> q.r w R y z
  loc := by
    rintro w w' R y x ⟨h1, h2, h3, h4, h6, h7⟩ hk;refine ⟨h1, h2, ⟨h3.1, fun a j u ha hu => ?_⟩, h4, h6, fun j y z e1 e2 => q.loc _ _ _ _ _ (h7 j y z e1 e2) hk⟩;have h5 := h3.2 a j u ha hu;have hne : E.all y.2 ≠ [] := fun e => by rw [e] at hu;cases hu
    have h6 := hk (a.add j).block (by rw [uY];exact h4 hne a ha);rw [World.cell?_of_block h6];exact h5
  mono := by
    rintro w R R' y x hR ⟨h1, h2, h3, h4, h6, h7⟩;exact ⟨h1, h2, h3, fun hne a ha => hR _ (h4 hne a ha), h6, fun j y z e1 e2 => q.mono _ _ _ _ _ hR (h7 j y z e1 e2)⟩
def eG : Enc (Hd × List γ) := ⟨1, fun h => [.slice h.1.1 h.1.2.1 h.1.2.2], fun _ => rfl, fun x v h => by rw [List.mem_singleton.1 h];rfl⟩
def Sg (E : Enc γ) (q : Rl γ δ) (A : Option Addr) (n c : Nat) (ys : List γ) (xs : List δ) : HP := Sh (BD E q) [((A, n, c), ys)] [xs]
section
variable {F O : Nat -> Prop} {w0 w w' : World} {hs rest : List HP} {E : Enc γ} {q : Rl γ δ} {A : Option Addr} {n c : Nat} {ys : List γ} {xs : List δ}
theorem Cx.shareG (k : Cx F O w0 w (OG E q A n c ys xs :: rest)) : Cx F O w0 w (Sg E q A n c ys xs :: rest) := by
  have := k.upd (h' := Sg E q A n c ys xs) 0 rfl Option.none ⟨rfl, rfl, rfl, Nat.le_refl _, fun _ _ _ => rfl⟩ fun S R h1 h2 h3 => by
    obtain ⟨⟨S1, R1, o1, o2⟩, hl, hq⟩ := OG.parts h1;refine ⟨fun g hg => (by cases hg), fun _ => False, fun b => R b ∨ S b, ⟨fun _ h => h, rfl, fun j y x e1 e2 => ?_⟩, fun b hb => hb.elim, fun b hb => ⟨h3 b (hb.elim .inr .inl), hb.elim .inl (fun h => .inr (.inl h))⟩⟩;cases j with
    | succ j => cases e1
    | zero =>
      obtain rfl := Option.some.inj e1;obtain rfl := Option.some.inj e2;have hln := o1.1;have hlc := Ow.Xi o1;refine ⟨by show n = xs.length;omega, by show xs.length <= c;omega, Ow.rd' o1, fun hne a ha => ?_, hl, fun j y z e3 e4 => q.mono _ _ _ _ _ (fun b hb => .inl hb) (hq j y z e3 e4)⟩;rcases o1.2 with ⟨h4, _⟩ | ⟨g, t, cur, h4, _, _, _, _, _, h5⟩
      ·have ha' : A = some a := ha;rw [h4] at ha';cases ha'
      ·have ha' : A = some a := ha;rw [h4] at ha';obtain rfl := Option.some.inj ha';exact .inr (o2 _ h5)
  simpa only [List.set_cons_zero] using this
theorem Cx.dupx {h : HP} {T : Sort _} {h' : T -> HP} {p : T -> Prop} (k : Cx F O w0 w hs) (i : Nat) (hi : hs[i]? = some h) (hp : ∀ S R, h.p w S R -> ∃ t, p t /\ (h' t).p w (fun _ => False) R) : ∃ t, p t /\ Cx F O w0 w (h' t :: hs) := by
  obtain ⟨U, V, h1, hU, hV⟩ := k.sep;obtain ⟨S, R, U', V', e1, e2, e3, e4, e5, e6⟩ := Sep.cut hi h1;obtain ⟨t, ht, h2⟩ := hp _ _ e1;refine ⟨t, ht, k.os, k.tape, k.output, k.size, k.block, k.fin, k.Jp, U, V, ⟨_, R, U, V, h2, h1, fun b => ⟨.inr, fun h => h.elim (fun h => h.elim) id⟩, fun b => ⟨.inr, fun h => h.elim (fun h => (e4 b).2 (.inl h)) id⟩, fun b hb => hb.elim, fun b hb hu => ?_⟩, hU, hV⟩;exact Sep.apart h1 b hu ((e4 b).2 (.inl hb))
theorem IM {ys : List γ} {xs : List δ} (hl : ys.length = xs.length) {j : Int} {z : δ} (hz : aZ xs j = some z) : ∃ y, aZ ys j = some y /\ ys[j.toNat]? = some y /\ xs[j.toNat]? = some z := by
  obtain ⟨h0, h1⟩ := bF hz;have hlt := (List.getElem?_eq_some_iff.1 h1).1;have hh : ys[j.toNat]? = some (ys[j.toNat]'(hl ▸ hlt)) := List.getElem?_eq_getElem _;exact ⟨_, by unfold aZ;rw [if_pos h0, hh], hh, h1⟩
theorem Sg.parts {S R : Nat -> Prop} (h : (Sg E q A n c ys xs).p w S R) : n = xs.length /\ xs.length <= c /\ Rd w A (E.all ys) /\ ys.length = xs.length /\ ∀ (j : Nat) (y : γ) (z : δ), ys[j]? = some y -> xs[j]? = some z -> q.r w R y z := by
  obtain ⟨h1, h2, h3, h4, h5, h6⟩ := h.2.2 0 _ _ rfl rfl;exact ⟨h1, h2, h3, h5, h6⟩
theorem Cx.Si (k : Cx F O w0 w hs) (i : Nat) (hi : hs[i]? = some (Sg E q A n c ys xs)) : xs.length = n := by
  obtain ⟨S, R, h⟩ := k.get i hi;exact (Sg.parts h).1.symm
theorem Cx.JE (k : Cx F O w0 w hs) (i : Nat) (hi : hs[i]? = some (Sg E q A n c ys xs)) : ys.length = n := by
  obtain ⟨S, R, h⟩ := k.get i hi;obtain ⟨h1, _, _, h2, _⟩ := Sg.parts h;rw [h2, h1]
theorem Cx.IP (k : Cx F O w0 w hs) (i : Nat) (hi : hs[i]? = some (Sg E q A n c ys xs)) : Rd w A (E.all ys) := by
  obtain ⟨S, R, h⟩ := k.get i hi;exact (Sg.parts h).2.2.1
theorem Cx.sg_el (k : Cx F O w0 w hs) (i : Nat) (hi : hs[i]? = some (Sg E q A n c ys xs)) {j : Int} {z : δ} (hz : aZ xs j = some z) :
    ∃ y, aZ ys j = some y /\ Cx F O w0 w (Sh q [y] [z] :: hs) := by
  refine k.dupx (h' := fun t => Sh q [t] [z]) (p := fun t => aZ ys j = some t) i hi fun S R h => ?_;obtain ⟨_, _, _, h5, h6⟩ := Sg.parts h;obtain ⟨y, e1, e2, e3⟩ := IM h5 hz;refine ⟨y, e1, fun _ h => h, rfl, fun m y' z' e4 e5 => ?_⟩;cases m with
  | succ m => cases e4
  | zero =>
    obtain rfl := Option.some.inj e4;obtain rfl := Option.some.inj e5;exact h6 _ _ _ e2 e3
theorem Cx.MP (k : Cx F O w0 w hs) (i : Nat) (hi : hs[i]? = some (Sg E q A n c ys xs)) {j : Int} {z : δ} (hz : aZ xs j = some z) :
    ∃ y, aZ ys j = some y /\ ∃ R, q.r w R y z := by
  obtain ⟨S, R, h⟩ := k.get i hi;obtain ⟨_, _, _, h5, h6⟩ := Sg.parts h;obtain ⟨y, e1, e2, e3⟩ := IM h5 hz;exact ⟨y, e1, R, h6 _ _ _ e2 e3⟩
theorem Cx.Gv (k : Cx F O w0 w hs) (i : Nat) (hi : hs[i]? = some (OG E q A n c ys xs)) {j : Int} {z : δ} (hz : aZ xs j = some z) :
    ∃ y, aZ ys j = some y /\ Cx F O w0 w (Sh q [y] [z] :: hs) := by
  refine k.dupx (h' := fun t => Sh q [t] [z]) (p := fun t => aZ ys j = some t) i hi fun S R h => ?_;obtain ⟨_, h5, h6⟩ := OG.parts h;obtain ⟨y, e1, e2, e3⟩ := IM h5 hz;refine ⟨y, e1, fun _ h => h, rfl, fun m y' z' e4 e5 => ?_⟩;cases m with
  | succ m => cases e4
  | zero =>
    obtain rfl := Option.some.inj e4;obtain rfl := Option.some.inj e5;exact h6 _ _ _ e2 e3
theorem Cx.Ff (k : Cx F O w0 w hs) (i : Nat) (hi : hs[i]? = some (OG E q A n c ys xs)) {j : Int} {z : δ} (hz : aZ xs j = some z) :
    ∃ y, aZ ys j = some y /\ ∃ R, q.r w R y z := by
  obtain ⟨S, R, h⟩ := k.get i hi;obtain ⟨_, h5, h6⟩ := OG.parts h;obtain ⟨y, e1, e2, e3⟩ := IM h5 hz;exact ⟨y, e1, R, h6 _ _ _ e2 e3⟩
theorem Cx.KQ {q : Rl α β} {p : Rl γ δ} {y1 : α} {y2 : γ} {x : β × δ} (k : Cx F O w0 w (Sh (SP q p) [(y1, y2)] [x] :: rest)) : Cx F O w0 w (Sh q [y1] [x.1] :: Sh p [y2] [x.2] :: rest) := by
  have k1 := k.dup (h' := Sh q [y1] [x.1]) 0 rfl fun w S R h => ⟨fun _ h => h, rfl, fun j y z e1 e2 => by
    cases j with
    | succ j => cases e1
    | zero =>
      obtain rfl := Option.some.inj e1;obtain rfl := Option.some.inj e2;exact (h.2.2 0 _ _ rfl rfl).1⟩
  have k2 := k1.dup (h' := Sh p [y2] [x.2]) 1 rfl fun w S R h => ⟨fun _ h => h, rfl, fun j y z e1 e2 => by
    cases j with
    | succ j => cases e1
    | zero =>
      obtain rfl := Option.some.inj e1;obtain rfl := Option.some.inj e2;exact (h.2.2 0 _ _ rfl rfl).2⟩
  have k3 : Cx F O w0 w (Sh (SP q p) [(y1, y2)] [x] :: Sh q [y1] [x.1] :: Sh p [y2] [x.2] :: rest) := k2.perm (((List.Perm.swap _ _ _).trans (List.Perm.cons _ (.swap _ _ _))).trans (.swap _ _ _));exact k3.tl
theorem Cx.KR {y x : α} (k : Cx F O w0 w (Sh SQ [y] [x] :: rest)) : y = x /\ Cx F O w0 w rest := by
  obtain ⟨S, R, h⟩ := k.get 0 rfl;exact ⟨h.2.2 0 _ _ rfl rfl, k.tl⟩
theorem Cx.sw2 {h1 h2 : HP} (k : Cx F O w0 w (h1 :: h2 :: rest)) : Cx F O w0 w (h2 :: h1 :: rest) := k.perm (.swap _ _ _)
theorem Cx.U6 {y : γ} {z : δ} (k : Cx F O w0 w hs) (i : Nat) (hi : hs[i]? = some (OG E q A n c ys xs)) {j : Int} (hz : aZ xs j = some z) (hy : aZ ys j = some y) : ∃ R, q.r w R y z := by
  obtain ⟨y', h1, h2⟩ := k.Ff i hi hz;rw [hy] at h1;obtain rfl := Option.some.inj h1;exact h2
theorem U7 {H : Hd} (h : ∃ R, (BD E q).r w R (H, ys) xs) : Rd w H.1 (E.all ys) := by
  obtain ⟨R, h1, h2, h3, _⟩ := h;exact h3
theorem Cx.ogput {i : Nat} {y : γ} {z : δ} (k : Cx F O w0 w (Ow E A n c (ys.set i y) :: Sh q ys xs :: Sh q [y] [z] :: rest)) : Cx F O w0 w (OG E q A n c (ys.set i y) (xs.set i z) :: rest) := by
  have k1 : Cx F O w0 w (Sh q [y] [z] :: Sh q ys xs :: Ow E A n c (ys.set i y) :: rest) := k.perm (((List.Perm.swap _ _ _).trans (List.Perm.cons _ (.swap _ _ _))).trans (.swap _ _ _));have k2 : Cx F O w0 w (Sh q (ys.set i y) (xs.set i z) :: Ow E A n c (ys.set i y) :: rest) := k1.merge fun w S1 R1 S2 R2 h1 h2 => ⟨fun b hb => hb.elim (h1.1 b) (h2.1 b), by simp [h2.2.1], fun j y' x' e1 e2 => by
    rw [List.getElem?_set] at e1 e2;have hl := h2.2.1;by_cases hj : i = j
    ·subst hj;rw [if_pos rfl] at e1 e2;split at e1
     ·obtain rfl := Option.some.inj e1;split at e2
      ·obtain rfl := Option.some.inj e2;exact q.mono _ _ _ _ _ (fun b hb => .inl hb) (h1.2.2 0 _ _ rfl rfl)
      ·cases e2
     ·cases e1
    ·rw [if_neg hj] at e1 e2;exact q.mono _ _ _ _ _ (fun b hb => .inr hb) (h2.2.2 j _ _ e1 e2)⟩
  exact Cx.og k2.sw2
end
end Go.Sx
