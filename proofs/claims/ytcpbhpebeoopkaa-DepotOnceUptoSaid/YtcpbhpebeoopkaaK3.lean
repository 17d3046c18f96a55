import Derived.Test.YtcpbhpebeoopkaaK2
namespace Go.Sx
open Go.RowKit
set_option linter.unusedVariables false
noncomputable def gw (k_ : Int) : Option (Int × Int × Int) :=
  if k_ = 1 then (some ((64 : Int), (64 : Int), (16 : Int))) else (if k_ = 2 then (some ((32 : Int), (32 : Int), (8 : Int))) else (some ((0 : Int), (0 : Int), (0 : Int))))
noncomputable def dH (n : Int) (lo : Int) (hi : Int) : Option Bool :=
  some ((decide (lo ≤ n)) && (decide (n ≤ hi)))
noncomputable def g_  : Option Int :=
  some (0 : Int)
noncomputable def fX (k_ : Int) (aS : UInt32) (ai : Int) (aF : Int) (aM : List UInt8) (ah : List UInt8) (r_ : (Int × Int × Int)) (av : Bool) : Option Int :=
  if av = true then (some (23 : Int)) else (if ((decide (k_ = 2)) && (decide ((65535 : UInt32) < aS))) = true then (some (24 : Int)) else ((dH ai (0 : Int) (255 : Int)).bind fun dj => if (!dj) = true then (some (25 : Int)) else ((dH aF (0 : Int) r_.2.1).bind fun gH => if (!gH) = true then (some (26 : Int)) else (if r_.2.2 < ((aM.length : Nat) : Int) then (some (27 : Int)) else (if r_.2.2 < ((ah.length : Nat) : Int) then (some (28 : Int)) else (g_))))))
noncomputable def fc (k_ : Int) (ay : Int) (bg : Int) (aB : Int) (aJ : Int) (au : UInt64) (aS : UInt32) (ai : Int) (aF : Int) (aM : List UInt8) (ah : List UInt8) (r_ : (Int × Int × Int)) (least : Int) : Option Int :=
  (dH ay (1 : Int) r_.2.1).bind fun aE => if (!aE) = true then (some (20 : Int)) else ((dH bg (0 : Int) r_.2.1).bind fun bz => if (!bz) = true then (some (8 : Int)) else ((dH aB (0 : Int) (255 : Int)).bind fun dy => if (!dy) = true then (some (21 : Int)) else ((dH aJ least (255 : Int)).bind fun fu => if (!fu) = true then (some (22 : Int)) else (if ((decide (aS ≠ 0)) && (decide ((4294967296 : UInt64) ≤ au))) = true then (fX k_ aS ai aF aM ah r_ ((decide (aS ≠ 0)) && (decide ((4294967296 : UInt64) ≤ au)))) else (fX k_ aS ai aF aM ah r_ (((decide (aS = 0)) && (decide (k_ = 2))) && (decide ((281474976710656 : UInt64) ≤ au))))))))
noncomputable def fK (k_ : Int) (ay : Int) (bg : Int) (aB : Int) (aJ : Int) (a8 : UInt32) (au : UInt64) (aS : UInt32) (ai : Int) (aF : Int) (aM : List UInt8) (ah : List UInt8) : Option Int :=
  (gw k_).bind fun r_ => if r_.2.1 = 0 then (some (1 : Int)) else (if aS ≠ 0 then (fc k_ ay bg aB aJ au aS ai aF aM ah r_ (0 : Int)) else (fc k_ ay bg aB aJ au aS ai aF aM ah r_ (1 : Int)))
noncomputable def gg (k_ : Int) : Option (List (Int × Int × Int × List UInt8 × Int)) :=
  if k_ = 1 then (some ([((1 : Int), (0 : Int), (1 : Int), ([100, 105, 103, 101, 115, 116] : List UInt8), (20 : Int)), ((2 : Int), (1 : Int), (1 : Int), ([107, 101, 121] : List UInt8), (8 : Int)), ((3 : Int), (2 : Int), (1 : Int), ([102, 97, 110, 111, 117, 116] : List UInt8), (21 : Int)), ((4 : Int), (3 : Int), (1 : Int), ([100, 101, 112, 116, 104] : List UInt8), (22 : Int)), ((5 : Int), (4 : Int), (4 : Int), ([108, 101, 97, 102] : List UInt8), (1 : Int)), ((6 : Int), (8 : Int), (8 : Int), ([111, 102, 102, 115, 101, 116] : List UInt8), (23 : Int)), ((7 : Int), (12 : Int), (4 : Int), ([120, 111, 102] : List UInt8), (24 : Int)), ((8 : Int), (16 : Int), (1 : Int), ([110, 111, 100, 101] : List UInt8), (25 : Int)), ((9 : Int), (17 : Int), (1 : Int), ([105, 110, 110, 101, 114] : List UInt8), (26 : Int))] : List (Int × Int × Int × List UInt8 × Int))) else ((an ([((1 : Int), (0 : Int), (1 : Int), ([100, 105, 103, 101, 115, 116] : List UInt8), (20 : Int)), ((2 : Int), (1 : Int), (1 : Int), ([107, 101, 121] : List UInt8), (8 : Int)), ((3 : Int), (2 : Int), (1 : Int), ([102, 97, 110, 111, 117, 116] : List UInt8), (21 : Int)), ((4 : Int), (3 : Int), (1 : Int), ([100, 101, 112, 116, 104] : List UInt8), (22 : Int)), ((5 : Int), (4 : Int), (4 : Int), ([108, 101, 97, 102] : List UInt8), (1 : Int)), ((6 : Int), (8 : Int), (8 : Int), ([111, 102, 102, 115, 101, 116] : List UInt8), (23 : Int)), ((7 : Int), (12 : Int), (4 : Int), ([120, 111, 102] : List UInt8), (24 : Int)), ((8 : Int), (16 : Int), (1 : Int), ([110, 111, 100, 101] : List UInt8), (25 : Int)), ((9 : Int), (17 : Int), (1 : Int), ([105, 110, 110, 101, 114] : List UInt8), (26 : Int))] : List (Int × Int × Int × List UInt8 × Int)) (5 : Int)).bind fun av => (an (([((1 : Int), (0 : Int), (1 : Int), ([100, 105, 103, 101, 115, 116] : List UInt8), (20 : Int)), ((2 : Int), (1 : Int), (1 : Int), ([107, 101, 121] : List UInt8), (8 : Int)), ((3 : Int), (2 : Int), (1 : Int), ([102, 97, 110, 111, 117, 116] : List UInt8), (21 : Int)), ((4 : Int), (3 : Int), (1 : Int), ([100, 101, 112, 116, 104] : List UInt8), (22 : Int)), ((5 : Int), (4 : Int), (4 : Int), ([108, 101, 97, 102] : List UInt8), (1 : Int)), ((6 : Int), (8 : Int), (8 : Int), ([111, 102, 102, 115, 101, 116] : List UInt8), (23 : Int)), ((7 : Int), (12 : Int), (4 : Int), ([120, 111, 102] : List UInt8), (24 : Int)), ((8 : Int), (16 : Int), (1 : Int), ([110, 111, 100, 101] : List UInt8), (25 : Int)), ((9 : Int), (17 : Int), (1 : Int), ([105, 110, 110, 101, 114] : List UInt8), (26 : Int))] : List (Int × Int × Int × List UInt8 × Int)).set (Int.toNat (5 : Int)) (av.1, av.2.1, (6 : Int), av.2.2.2.1, av.2.2.2.2)) (6 : Int)).bind fun ew => (an ((([((1 : Int), (0 : Int), (1 : Int), ([100, 105, 103, 101, 115, 116] : List UInt8), (20 : Int)), ((2 : Int), (1 : Int), (1 : Int), ([107, 101, 121] : List UInt8), (8 : Int)), ((3 : Int), (2 : Int), (1 : Int), ([102, 97, 110, 111, 117, 116] : List UInt8), (21 : Int)), ((4 : Int), (3 : Int), (1 : Int), ([100, 101, 112, 116, 104] : List UInt8), (22 : Int)), ((5 : Int), (4 : Int), (4 : Int), ([108, 101, 97, 102] : List UInt8), (1 : Int)), ((6 : Int), (8 : Int), (8 : Int), ([111, 102, 102, 115, 101, 116] : List UInt8), (23 : Int)), ((7 : Int), (12 : Int), (4 : Int), ([120, 111, 102] : List UInt8), (24 : Int)), ((8 : Int), (16 : Int), (1 : Int), ([110, 111, 100, 101] : List UInt8), (25 : Int)), ((9 : Int), (17 : Int), (1 : Int), ([105, 110, 110, 101, 114] : List UInt8), (26 : Int))] : List (Int × Int × Int × List UInt8 × Int)).set (Int.toNat (5 : Int)) (av.1, av.2.1, (6 : Int), av.2.2.2.1, av.2.2.2.2)).set (Int.toNat (6 : Int)) (ew.1, ew.2.1, (2 : Int), ew.2.2.2.1, ew.2.2.2.2)) (7 : Int)).bind fun bk => (an (((([((1 : Int), (0 : Int), (1 : Int), ([100, 105, 103, 101, 115, 116] : List UInt8), (20 : Int)), ((2 : Int), (1 : Int), (1 : Int), ([107, 101, 121] : List UInt8), (8 : Int)), ((3 : Int), (2 : Int), (1 : Int), ([102, 97, 110, 111, 117, 116] : List UInt8), (21 : Int)), ((4 : Int), (3 : Int), (1 : Int), ([100, 101, 112, 116, 104] : List UInt8), (22 : Int)), ((5 : Int), (4 : Int), (4 : Int), ([108, 101, 97, 102] : List UInt8), (1 : Int)), ((6 : Int), (8 : Int), (8 : Int), ([111, 102, 102, 115, 101, 116] : List UInt8), (23 : Int)), ((7 : Int), (12 : Int), (4 : Int), ([120, 111, 102] : List UInt8), (24 : Int)), ((8 : Int), (16 : Int), (1 : Int), ([110, 111, 100, 101] : List UInt8), (25 : Int)), ((9 : Int), (17 : Int), (1 : Int), ([105, 110, 110, 101, 114] : List UInt8), (26 : Int))] : List (Int × Int × Int × List UInt8 × Int)).set (Int.toNat (5 : Int)) (av.1, av.2.1, (6 : Int), av.2.2.2.1, av.2.2.2.2)).set (Int.toNat (6 : Int)) (ew.1, ew.2.1, (2 : Int), ew.2.2.2.1, ew.2.2.2.2)).set (Int.toNat (7 : Int)) (bk.1, (14 : Int), bk.2.2.1, bk.2.2.2.1, bk.2.2.2.2)) (8 : Int)).bind fun dQ => some ((((([((1 : Int), (0 : Int), (1 : Int), ([100, 105, 103, 101, 115, 116] : List UInt8), (20 : Int)), ((2 : Int), (1 : Int), (1 : Int), ([107, 101, 121] : List UInt8), (8 : Int)), ((3 : Int), (2 : Int), (1 : Int), ([102, 97, 110, 111, 117, 116] : List UInt8), (21 : Int)), ((4 : Int), (3 : Int), (1 : Int), ([100, 101, 112, 116, 104] : List UInt8), (22 : Int)), ((5 : Int), (4 : Int), (4 : Int), ([108, 101, 97, 102] : List UInt8), (1 : Int)), ((6 : Int), (8 : Int), (8 : Int), ([111, 102, 102, 115, 101, 116] : List UInt8), (23 : Int)), ((7 : Int), (12 : Int), (4 : Int), ([120, 111, 102] : List UInt8), (24 : Int)), ((8 : Int), (16 : Int), (1 : Int), ([110, 111, 100, 101] : List UInt8), (25 : Int)), ((9 : Int), (17 : Int), (1 : Int), ([105, 110, 110, 101, 114] : List UInt8), (26 : Int))] : List (Int × Int × Int × List UInt8 × Int)).set (Int.toNat (5 : Int)) (av.1, av.2.1, (6 : Int), av.2.2.2.1, av.2.2.2.2)).set (Int.toNat (6 : Int)) (ew.1, ew.2.1, (2 : Int), ew.2.2.2.1, ew.2.2.2.2)).set (Int.toNat (7 : Int)) (bk.1, (14 : Int), bk.2.2.1, bk.2.2.2.1, bk.2.2.2.2)).set (Int.toNat (8 : Int)) (dQ.1, (15 : Int), dQ.2.2.1, dQ.2.2.2.1, dQ.2.2.2.2)))
noncomputable def jX (ay : Int) (bg : Int) (aB : Int) (aJ : Int) (a8 : UInt32) (au : UInt64) (aS : UInt32) (ai : Int) (aF : Int) (aM : List UInt8) (ah : List UInt8) (field : Int) : Option UInt64 :=
  if field = 1 then (some (UInt64.ofInt ay)) else (if field = 2 then (some (UInt64.ofInt bg)) else (if field = 3 then (some (UInt64.ofInt aB)) else (if field = 4 then (some (UInt64.ofInt aJ)) else (if field = 5 then (some (UInt64.ofNat a8.toNat)) else (if field = 6 then (some au) else (if field = 7 then (some (UInt64.ofNat aS.toNat)) else (if field = 8 then (some (UInt64.ofInt ai)) else (some (UInt64.ofInt aF)))))))))
noncomputable def gM (at_ : Int) (size : Int) (v : UInt64) : (List UInt8 × Int) → Option ((List UInt8 × Int) ⊕ (List UInt8))
  | (b1, av) => if av < size then ((la (0 ≤ aA (8 * av))).bind fun u => (an b1 (aA (at_ + av))).bind fun ew => some (.inl (b1.set (Int.toNat (aA (at_ + av))) (UInt8.ofNat (dz v (Int.toNat (aA (8 * av)))).toNat), aA (av + 1)))) else (Option.map Sum.inr (some b1))
noncomputable def j9 (b : List UInt8) (at_ : Int) (size : Int) (v : UInt64) : Option (List UInt8) :=
  aP (gM at_ size v) (b, (0 : Int))
noncomputable def gB (av : Int) (b1 : List UInt8) : Option ((List UInt8 × Int) ⊕ (List UInt8 × Int)) :=
  some (.inl (b1, aA (av + 1)))
noncomputable def fD (av : Int) (b2 : List UInt8) : Option ((List UInt8 × Int) ⊕ (List UInt8 × Int)) :=
  gB av b2
noncomputable def eE (ay : Int) (bg : Int) (aB : Int) (aJ : Int) (a8 : UInt32) (au : UInt64) (aS : UInt32) (ai : Int) (aF : Int) (aM : List UInt8) (ah : List UInt8) (aE : (Int × Int × Int)) (bz : (List (Int × Int × Int × List UInt8 × Int))) : (List UInt8 × Int) → Option ((List UInt8 × Int) ⊕ (List UInt8 × Int))
  | (b, av) => if av < ((bz.length : Nat) : Int) then ((an bz av).bind fun bk => if ((decide (bk.1 = 7)) && (decide (aS = 0))) = true then (fD av b) else ((jX ay bg aB aJ a8 au aS ai aF aM ah bk.1).bind fun dy => (j9 b bk.2.1 bk.2.2.1 dy).bind fun fu => fD av fu)) else (Option.map Sum.inr ((rG b (aA (aE.1 - (aA (2 * aE.2.2)))) ((Int.toNat aE.1 : Nat) : Int)).bind fun b3 => (rG (zF b (Int.toNat (aA (aE.1 - (aA (2 * aE.2.2))))) b3.length aM) (aA (aE.1 - aE.2.2)) ((Int.toNat aE.1 : Nat) : Int)).bind fun b4 => some (zF (zF b (Int.toNat (aA (aE.1 - (aA (2 * aE.2.2))))) b3.length aM) (Int.toNat (aA (aE.1 - aE.2.2))) b4.length ah, (0 : Int))))
noncomputable def ey (k_ : Int) (ay : Int) (bg : Int) (aB : Int) (aJ : Int) (a8 : UInt32) (au : UInt64) (aS : UInt32) (ai : Int) (aF : Int) (aM : List UInt8) (ah : List UInt8) : Option (List UInt8 × Int) :=
  (fK k_ ay bg aB aJ a8 au aS ai aF aM ah).bind fun r_ => if r_ ≠ 0 then (some (([] : List UInt8), r_)) else ((gw k_).bind fun aE => (la ((0 : Int) ≤ aE.1 ∧ (aE.1 : Int) ≤ aE.1 ∧ Int.toNat aE.1 * 1 ≤ 140737488355328)).bind fun u => (gg k_).bind fun bz => aP (eE ay bg aB aJ a8 au aS ai aF aM ah aE bz) (List.replicate (Int.toNat aE.1) (0 : UInt8), (0 : Int)))
noncomputable def mw  : Option (ag UInt64 8) :=
  some (⟨[(7640891576956012808 : UInt64), (13503953896175478587 : UInt64), (4354685564936845355 : UInt64), (11912009170470909681 : UInt64), (5840696475078001361 : UInt64), (11170449401992604703 : UInt64), (2270897969802886507 : UInt64), (6620516959819538809 : UInt64)], rfl⟩ : ag UInt64 8)
noncomputable def jk (b : List UInt8) (at_ : Int) (n : Int) : (UInt64 × Int) → Option ((UInt64 × Int) ⊕ (UInt64 × Int))
  | (w_, av) => if av < n then ((an b (aA (at_ + av))).bind fun bk => (la (0 ≤ aA (8 * av))).bind fun u => some (.inl (w_ ||| (gl (UInt64.ofNat bk.toNat) (Int.toNat (aA (8 * av)))), aA (av + 1)))) else (Option.map Sum.inr (some (w_, (0 : Int))))
noncomputable def i_ (b : List UInt8) (at_ : Int) (n : Int) : Option (UInt64 × Int) :=
  if at_ < 0 then (some ((0 : UInt64), (1 : Int))) else (if ((decide (((b.length : Nat) : Int) < at_)) || (decide ((aA (((b.length : Nat) : Int) - at_)) < n))) = true then (some ((0 : UInt64), (3 : Int))) else (aP (jk b at_ n) ((0 : UInt64), (0 : Int))))
noncomputable def eY (b : List UInt8) (at_ : Int) : Option (UInt64 × Int) :=
  (i_ b at_ (8 : Int)).bind fun r_ => some (r_.1, r_.2)
noncomputable def iF (block : List UInt8) : (ag UInt64 8 × Int) → Option ((ag UInt64 8 × Int) ⊕ (ag UInt64 8 × Int))
  | (h, av) => if av < 8 then ((eY block (aA (8 * av))).bind fun aE => (an h.l av).bind fun bk => (an h.l av).bind fun dQ => (some (da h av (bk ^^^ aE.1))).bind fun v => some (.inl (v, aA (av + 1)))) else (Option.map Sum.inr (some (h, (0 : Int))))
noncomputable def jl (block : List UInt8) : Option (ag UInt64 8 × Int) :=
  if ((block.length : Nat) : Int) ≠ 64 then (some ((ag.rep 8 ((0 : UInt64) : UInt64)), (1 : Int))) else ((mw).bind fun r_ => aP (iF block) (r_, (0 : Int)))
noncomputable def hN (b : List UInt8) (n : Int) : Option Int :=
  if ((b.length : Nat) : Int) < n then (some (3 : Int)) else (if n < ((b.length : Nat) : Int) then (some (2 : Int)) else (some (0 : Int)))
noncomputable def gx (b : List UInt8) (at_ : Int) : Option (UInt32 × Int) :=
  (i_ b at_ (4 : Int)).bind fun r_ => some (UInt32.ofNat r_.1.toNat, r_.2)
noncomputable def gm (m_ : List UInt32) (b : List UInt8) : (List UInt32 × Int) → Option ((List UInt32 × Int) ⊕ (List UInt32))
  | (nq, av) => if av < ((m_.length : Nat) : Int) then ((gx b (aA (4 * av))).bind fun r_ => (an nq av).bind fun ew => some (.inl (nq.set (Int.toNat av) r_.1, aA (av + 1)))) else (Option.map Sum.inr (some nq))
noncomputable def hP (m_ : List UInt32) (b : List UInt8) : Option (List UInt32) :=
  aP (gm m_ b) (m_, (0 : Int))
noncomputable def my  : Option (ag UInt32 8) :=
  some (⟨[(1779033703 : UInt32), (3144134277 : UInt32), (1013904242 : UInt32), (2773480762 : UInt32), (1359893119 : UInt32), (2600822924 : UInt32), (528734635 : UInt32), (1541459225 : UInt32)], rfl⟩ : ag UInt32 8)
noncomputable def gn (aE : (List UInt32)) : (ag UInt32 8 × Int) → Option ((ag UInt32 8 × Int) ⊕ (ag UInt32 8 × Int))
  | (h, av) => if av < 8 then ((an h.l av).bind fun bk => (an (ag.of 8 aE).l av).bind fun dQ => (an h.l av).bind fun cY => (some (da h av (bk ^^^ dQ))).bind fun v => some (.inl (v, aA (av + 1)))) else (Option.map Sum.inr (some (h, (0 : Int))))
noncomputable def jm (block : List UInt8) : Option (ag UInt32 8 × Int) :=
  (hN block (32 : Int)).bind fun r_ => if r_ ≠ 0 then (some ((ag.rep 8 ((0 : UInt32) : UInt32)), r_)) else ((hP ((ag.rep 8 (0 : UInt32)).l) block).bind fun aE => (my).bind fun bz => aP (gn aE) (bz, (0 : Int)))
noncomputable def jn (k_ : Int) (block : List UInt8) : Option ((ag UInt64 8 × List UInt8) ⊕ (ag UInt32 8 × List UInt8)) :=
  if k_ = 1 then ((jl block).bind fun r_ => some (Sum.inl (r_.1, ([] : List UInt8)))) else ((jm block).bind fun aE => some (Sum.inr (aE.1, ([] : List UInt8))))
noncomputable def db (k_ : Int) : Option Int :=
  if k_ = 1 then (some (128 : Int)) else (some (64 : Int))
noncomputable def eZ (b : List UInt8) (n : Int) : Option (List UInt8) :=
  (la ((0 : Int) ≤ (0 : Int) ∧ ((0 : Int) : Int) ≤ n ∧ Int.toNat n * 1 ≤ 140737488355328)).bind fun u => (app (List.replicate (Int.toNat (0 : Int)) (0 : UInt8)) b 1).bind fun b1 => (D7 b1 (aA (n - ((b.length : Nat) : Int))) (0 : UInt8) 1).bind fun b2 => some b2
noncomputable def gh (jd : UInt64) (jS : UInt64) (n : UInt64) : Option (UInt64 × UInt64 × Bool) :=
  (xi jd n (0 : UInt64)).bind fun r_ => (xi jS (0 : UInt64) r_.2).bind fun aE => some (r_.1, aE.1, decide (aE.2 = 1))
noncomputable def gp (b : List UInt8) : (ag UInt64 16 × Int) → Option ((ag UInt64 16 × Int) ⊕ (ag UInt64 16 × Int))
  | (m_, av) => if av < 16 then ((eY b (aA (8 * av))).bind fun r_ => (an m_.l av).bind fun bk => (some (da m_ av r_.1)).bind fun v => some (.inl (v, aA (av + 1)))) else (Option.map Sum.inr (some (m_, (0 : Int))))
noncomputable def jo (b : List UInt8) : Option (ag UInt64 16 × Int) :=
  if ((b.length : Nat) : Int) ≠ 128 then (some ((ag.rep 16 (0 : UInt64)), (1 : Int))) else (aP (gp b) ((ag.rep 16 (0 : UInt64)), (0 : Int)))
noncomputable def jq (v4 : ag UInt64 16) : Option (ag UInt64 16) :=
  some v4
noncomputable def jr (node : Bool) (v2 : ag UInt64 16) : Option (ag UInt64 16) :=
  if node = true then ((an v2.l (15 : Int)).bind fun gq => (an v2.l (15 : Int)).bind fun gd => (some (da v2 (15 : Int) (18446744073709551615 ^^^ gq))).bind fun v5 => jq v5) else (jq v2)
noncomputable def lT (h : ag UInt64 8) (dd : UInt64) (de : UInt64) (last : Bool) (node : Bool) : Option (ag UInt64 16) :=
  (rG ((ag.rep 16 (0 : UInt64)).l) 0 (8 : Int)).bind fun b => (mw).bind fun r_ => (rG ((pj (ag.rep 16 (0 : UInt64)) 0 b.length h.l).l) (8 : Int) ((16 : Nat) : Int)).bind fun b1 => (an (pj (pj (ag.rep 16 (0 : UInt64)) 0 b.length h.l) (Int.toNat (8 : Int)) b1.length r_.l).l (12 : Int)).bind fun av => (an (pj (pj (ag.rep 16 (0 : UInt64)) 0 b.length h.l) (Int.toNat (8 : Int)) b1.length r_.l).l (12 : Int)).bind fun ew => (some (da (pj (pj (ag.rep 16 (0 : UInt64)) 0 b.length h.l) (Int.toNat (8 : Int)) b1.length r_.l) (12 : Int) (av ^^^ dd))).bind fun v => (an v.l (13 : Int)).bind fun bk => (an v.l (13 : Int)).bind fun dQ => (some (da v (13 : Int) (bk ^^^ de))).bind fun v1 => if last = true then ((an v1.l (14 : Int)).bind fun cY => (an v1.l (14 : Int)).bind fun cC => (some (da v1 (14 : Int) (18446744073709551615 ^^^ cY))).bind fun v3 => jr node v3) else (jr node v1)
noncomputable def js (round : Int) : Option (ag Int 16) :=
  (an (⟨[(⟨[(0 : Int), (1 : Int), (2 : Int), (3 : Int), (4 : Int), (5 : Int), (6 : Int), (7 : Int), (8 : Int), (9 : Int), (10 : Int), (11 : Int), (12 : Int), (13 : Int), (14 : Int), (15 : Int)], rfl⟩ : ag Int 16), (⟨[(14 : Int), (10 : Int), (4 : Int), (8 : Int), (9 : Int), (15 : Int), (13 : Int), (6 : Int), (1 : Int), (12 : Int), (0 : Int), (2 : Int), (11 : Int), (7 : Int), (5 : Int), (3 : Int)], rfl⟩ : ag Int 16), (⟨[(11 : Int), (8 : Int), (12 : Int), (0 : Int), (5 : Int), (2 : Int), (15 : Int), (13 : Int), (10 : Int), (14 : Int), (3 : Int), (6 : Int), (7 : Int), (1 : Int), (9 : Int), (4 : Int)], rfl⟩ : ag Int 16), (⟨[(7 : Int), (9 : Int), (3 : Int), (1 : Int), (13 : Int), (12 : Int), (11 : Int), (14 : Int), (2 : Int), (6 : Int), (5 : Int), (10 : Int), (4 : Int), (0 : Int), (15 : Int), (8 : Int)], rfl⟩ : ag Int 16), (⟨[(9 : Int), (0 : Int), (5 : Int), (7 : Int), (2 : Int), (4 : Int), (10 : Int), (15 : Int), (14 : Int), (1 : Int), (11 : Int), (12 : Int), (6 : Int), (8 : Int), (3 : Int), (13 : Int)], rfl⟩ : ag Int 16), (⟨[(2 : Int), (12 : Int), (6 : Int), (10 : Int), (0 : Int), (11 : Int), (8 : Int), (3 : Int), (4 : Int), (13 : Int), (7 : Int), (5 : Int), (15 : Int), (14 : Int), (1 : Int), (9 : Int)], rfl⟩ : ag Int 16), (⟨[(12 : Int), (5 : Int), (1 : Int), (15 : Int), (14 : Int), (13 : Int), (4 : Int), (10 : Int), (0 : Int), (7 : Int), (6 : Int), (3 : Int), (9 : Int), (2 : Int), (8 : Int), (11 : Int)], rfl⟩ : ag Int 16), (⟨[(13 : Int), (11 : Int), (7 : Int), (14 : Int), (12 : Int), (1 : Int), (3 : Int), (9 : Int), (5 : Int), (0 : Int), (15 : Int), (4 : Int), (8 : Int), (6 : Int), (2 : Int), (10 : Int)], rfl⟩ : ag Int 16), (⟨[(6 : Int), (15 : Int), (14 : Int), (9 : Int), (11 : Int), (3 : Int), (0 : Int), (8 : Int), (12 : Int), (2 : Int), (13 : Int), (7 : Int), (1 : Int), (4 : Int), (10 : Int), (5 : Int)], rfl⟩ : ag Int 16), (⟨[(10 : Int), (2 : Int), (8 : Int), (4 : Int), (7 : Int), (6 : Int), (1 : Int), (5 : Int), (15 : Int), (11 : Int), (9 : Int), (14 : Int), (3 : Int), (12 : Int), (13 : Int), (0 : Int)], rfl⟩ : ag Int 16)], rfl⟩ : ag (ag Int 16) 10).l (Int.tmod (aA ((Int.tmod round 10) + 10)) 10)).bind fun av => some av
noncomputable def jY  : Option (ag (ag Int 4) 8) :=
  some (⟨[(⟨[(0 : Int), (4 : Int), (8 : Int), (12 : Int)], rfl⟩ : ag Int 4), (⟨[(1 : Int), (5 : Int), (9 : Int), (13 : Int)], rfl⟩ : ag Int 4), (⟨[(2 : Int), (6 : Int), (10 : Int), (14 : Int)], rfl⟩ : ag Int 4), (⟨[(3 : Int), (7 : Int), (11 : Int), (15 : Int)], rfl⟩ : ag Int 4), (⟨[(0 : Int), (5 : Int), (10 : Int), (15 : Int)], rfl⟩ : ag Int 4), (⟨[(1 : Int), (6 : Int), (11 : Int), (12 : Int)], rfl⟩ : ag Int 4), (⟨[(2 : Int), (7 : Int), (8 : Int), (13 : Int)], rfl⟩ : ag Int 4), (⟨[(3 : Int), (4 : Int), (9 : Int), (14 : Int)], rfl⟩ : ag Int 4)], rfl⟩ : ag (ag Int 4) 8)
noncomputable def bO (x_ : UInt64) (k_ : Int) : Option UInt64 :=
  some ((gl x_ (((UInt64.ofInt k_) &&& 63).toNat)) ||| (dz x_ (((64 : UInt64) - ((UInt64.ofInt k_) &&& 63)).toNat)))
noncomputable def j_ (v : ag UInt64 16) (p : ag Int 4) (x_ : UInt64) (y_ : UInt64) : Option (ag UInt64 16) :=
  (an p.l (0 : Int)).bind fun bk => (an p.l (1 : Int)).bind fun dQ => (an p.l (2 : Int)).bind fun cY => (an p.l (3 : Int)).bind fun cC => (an v.l bk).bind fun gq => (an v.l dQ).bind fun gd => (an v.l bk).bind fun kF => (some (da v bk (gq + (gd + x_)))).bind fun v1 => (an v1.l cC).bind fun lb => (an v1.l bk).bind fun eM => (bO (lb ^^^ eM) (-32 : Int)).bind fun r_ => (an v1.l cC).bind fun bX => (some (da v1 cC r_)).bind fun v2 => (an v2.l cY).bind fun pr => (an v2.l cC).bind fun rU => (an v2.l cY).bind fun tX => (some (da v2 cY (pr + rU))).bind fun v3 => (an v3.l dQ).bind fun oS => (an v3.l cY).bind fun tY => (bO (oS ^^^ tY) (-24 : Int)).bind fun aE => (an v3.l dQ).bind fun vQ => (some (da v3 dQ aE)).bind fun v4 => (an v4.l bk).bind fun oT => (an v4.l dQ).bind fun qa => (an v4.l bk).bind fun tc => (some (da v4 bk (oT + (qa + y_)))).bind fun v5 => (an v5.l cC).bind fun oU => (an v5.l bk).bind fun tZ => (bO (oU ^^^ tZ) (-16 : Int)).bind fun bz => (an v5.l cC).bind fun vR => (some (da v5 cC bz)).bind fun v6 => (an v6.l cY).bind fun pv => (an v6.l cC).bind fun rV => (an v6.l cY).bind fun Hu => (some (da v6 cY (pv + rV))).bind fun v7 => (an v7.l dQ).bind fun CB => (an v7.l cY).bind fun Ew => (bO (CB ^^^ Ew) (-63 : Int)).bind fun dy => (an v7.l dQ).bind fun MJ => (some (da v7 dQ dy)).bind fun v8 => some v8
noncomputable def jt (m_ : ag UInt64 16) (r_ : (ag Int 16)) (aE : (ag (ag Int 4) 8)) : (ag UInt64 16 × Int) → Option ((ag UInt64 16 × Int) ⊕ (ag UInt64 16 × ag UInt64 16))
  | (v1, av) => if av < 8 then ((an aE.l av).bind fun bk => (an r_.l (aA (2 * av))).bind fun dQ => (an m_.l dQ).bind fun cY => (an r_.l (aA ((aA (2 * av)) + 1))).bind fun cC => (an m_.l cC).bind fun gq => (j_ v1 bk cY gq).bind fun bz => some (.inl (bz, aA (av + 1)))) else (Option.map Sum.inr (some (v1, m_)))
noncomputable def ka (v : ag UInt64 16) (m_ : ag UInt64 16) (round : Int) : Option (ag UInt64 16 × ag UInt64 16) :=
  (js round).bind fun r_ => (jY).bind fun aE => aP (jt m_ r_ aE) (v, (0 : Int))
noncomputable def kd (v : ag UInt64 16) : (ag UInt64 8 × Int) → Option ((ag UInt64 8 × Int) ⊕ (ag UInt64 8))
  | (h1, ew) => if ew < 8 then ((an h1.l ew).bind fun bk => (an v.l ew).bind fun dQ => (an v.l (aA (ew + 8))).bind fun cY => (an h1.l ew).bind fun cC => (some (da h1 ew (bk ^^^ (dQ ^^^ cY)))).bind fun v1 => some (.inl (v1, aA (ew + 1)))) else (Option.map Sum.inr (some h1))
noncomputable def ke (h : ag UInt64 8) : (ag UInt64 16 × ag UInt64 16 × Int) → Option ((ag UInt64 16 × ag UInt64 16 × Int) ⊕ (ag UInt64 8))
  | (nq, v, av) => if av < 12 then ((ka v nq av).bind fun aE => some (.inl (aE.2, aE.1, aA (av + 1)))) else (Option.map Sum.inr (aP (kd v) (h, (0 : Int))))
noncomputable def nN (h : ag UInt64 8) (m_ : ag UInt64 16) (dd : UInt64) (de : UInt64) (last : Bool) (node : Bool) : Option (ag UInt64 8) :=
  (lT h dd de last node).bind fun r_ => aP (ke h) (m_, r_, (0 : Int))
noncomputable def gy (h : ag UInt64 8) (b : List UInt8) (jd : UInt64) (jS : UInt64) (last : Bool) (node : Bool) : Option (ag UInt64 8) :=
  (jo b).bind fun r_ => (nN h r_.1 jd jS last node).bind fun aE => some aE
noncomputable def b6 (ao : Int) (b1 : List UInt8) (kF : ag UInt64 8) (lb : UInt64) (eM : UInt64) (bX : List UInt8) : Option ((ag UInt64 8 × UInt64 × UInt64 × List UInt8 × List UInt8) ⊕ (ag UInt64 8 × UInt64 × UInt64 × List UInt8 × Int)) :=
  (rG b1 0 (if aA (ao - ((bX.length : Nat) : Int)) < ((b1.length : Nat) : Int) then aA (ao - ((bX.length : Nat) : Int)) else ((b1.length : Nat) : Int))).bind fun b3 => (app bX b3 1).bind fun b4 => (rG b1 (if aA (ao - ((bX.length : Nat) : Int)) < ((b1.length : Nat) : Int) then aA (ao - ((bX.length : Nat) : Int)) else ((b1.length : Nat) : Int)) ((b1.length : Nat) : Int)).bind fun b5 => some (.inl (kF, lb, eM, b4, b5))
noncomputable def dv (ao : Int) : (ag UInt64 8 × UInt64 × UInt64 × List UInt8 × List UInt8) → Option ((ag UInt64 8 × UInt64 × UInt64 × List UInt8 × List UInt8) ⊕ (ag UInt64 8 × UInt64 × UInt64 × List UInt8 × Int))
  | (av, cC, gq, gd, b1) => if 0 < ((b1.length : Nat) : Int) then (if ((gd.length : Nat) : Int) = ao then ((gh cC gq (UInt64.ofInt ao)).bind fun r_ => (gy av gd r_.1 r_.2.1 false false).bind fun aE => (rG gd 0 (0 : Int)).bind fun b2 => b6 ao b1 aE r_.1 r_.2.1 b2) else (b6 ao b1 av cC gq gd)) else (Option.map Sum.inr (some (av, cC, gq, gd, ao)))
noncomputable def cy (mT : ag UInt64 8) (aW : UInt64) (aX : UInt64) (bB : List UInt8) (ao : Int) (b : List UInt8) : Option (ag UInt64 8 × UInt64 × UInt64 × List UInt8 × Int) :=
  aP (dv ao) (mT, aW, aX, bB, b)
noncomputable def ju (b : List UInt8) : Option (ag UInt32 16 × Int) :=
  (hN b (64 : Int)).bind fun r_ => if r_ ≠ 0 then (some ((ag.rep 16 (0 : UInt32)), r_)) else ((hP ((ag.rep 16 (0 : UInt32)).l) b).bind fun aE => some ((ag.of 16 aE), (0 : Int)))
noncomputable def iG (v4 : ag UInt32 16) : Option (ag UInt32 16) :=
  some v4
noncomputable def iH (node : Bool) (v2 : ag UInt32 16) : Option (ag UInt32 16) :=
  if node = true then ((an v2.l (15 : Int)).bind fun gq => (an v2.l (15 : Int)).bind fun gd => (some (da v2 (15 : Int) (4294967295 ^^^ gq))).bind fun v5 => iG v5) else (iG v2)
noncomputable def kS (h : ag UInt32 8) (count : UInt64) (last : Bool) (node : Bool) : Option (ag UInt32 16) :=
  (my).bind fun r_ => (rG ((ag.rep 16 (0 : UInt32)).l) 0 (8 : Int)).bind fun b => (rG ((pj (ag.rep 16 (0 : UInt32)) 0 b.length h.l).l) (8 : Int) ((16 : Nat) : Int)).bind fun b1 => (an (pj (pj (ag.rep 16 (0 : UInt32)) 0 b.length h.l) (Int.toNat (8 : Int)) b1.length r_.l).l (12 : Int)).bind fun av => (an (pj (pj (ag.rep 16 (0 : UInt32)) 0 b.length h.l) (Int.toNat (8 : Int)) b1.length r_.l).l (12 : Int)).bind fun ew => (some (da (pj (pj (ag.rep 16 (0 : UInt32)) 0 b.length h.l) (Int.toNat (8 : Int)) b1.length r_.l) (12 : Int) (av ^^^ (UInt32.ofNat count.toNat)))).bind fun v => (an v.l (13 : Int)).bind fun bk => (an v.l (13 : Int)).bind fun dQ => (some (da v (13 : Int) (bk ^^^ (UInt32.ofNat (dz count ((32 : UInt64).toNat)).toNat)))).bind fun v1 => if last = true then ((an v1.l (14 : Int)).bind fun cY => (an v1.l (14 : Int)).bind fun cC => (some (da v1 (14 : Int) (4294967295 ^^^ cY))).bind fun v3 => iH node v3) else (iH node v1)
noncomputable def jZ  : Option (ag (ag Int 4) 8) :=
  some (⟨[(⟨[(0 : Int), (4 : Int), (8 : Int), (12 : Int)], rfl⟩ : ag Int 4), (⟨[(1 : Int), (5 : Int), (9 : Int), (13 : Int)], rfl⟩ : ag Int 4), (⟨[(2 : Int), (6 : Int), (10 : Int), (14 : Int)], rfl⟩ : ag Int 4), (⟨[(3 : Int), (7 : Int), (11 : Int), (15 : Int)], rfl⟩ : ag Int 4), (⟨[(0 : Int), (5 : Int), (10 : Int), (15 : Int)], rfl⟩ : ag Int 4), (⟨[(1 : Int), (6 : Int), (11 : Int), (12 : Int)], rfl⟩ : ag Int 4), (⟨[(2 : Int), (7 : Int), (8 : Int), (13 : Int)], rfl⟩ : ag Int 4), (⟨[(3 : Int), (4 : Int), (9 : Int), (14 : Int)], rfl⟩ : ag Int 4)], rfl⟩ : ag (ag Int 4) 8)
noncomputable def bP (x_ : UInt32) (k_ : Int) : Option UInt32 :=
  some ((kJ x_ (((UInt64.ofInt k_) &&& 31).toNat)) ||| (eD x_ (((32 : UInt64) - ((UInt64.ofInt k_) &&& 31)).toNat)))
noncomputable def ld (v : ag UInt32 16) (a_ : Int) (b : Int) (c : Int) (d : Int) (x_ : UInt32) (y_ : UInt32) : Option (ag UInt32 16) :=
  (an v.l a_).bind fun bk => (an v.l b).bind fun dQ => (an v.l a_).bind fun cY => (some (da v a_ (bk + (dQ + x_)))).bind fun v1 => (an v1.l d).bind fun cC => (an v1.l a_).bind fun gq => (bP (cC ^^^ gq) (-16 : Int)).bind fun r_ => (an v1.l d).bind fun gd => (some (da v1 d r_)).bind fun v2 => (an v2.l c).bind fun kF => (an v2.l d).bind fun lb => (an v2.l c).bind fun eM => (some (da v2 c (kF + lb))).bind fun v3 => (an v3.l b).bind fun bX => (an v3.l c).bind fun pr => (bP (bX ^^^ pr) (-12 : Int)).bind fun aE => (an v3.l b).bind fun rU => (some (da v3 b aE)).bind fun v4 => (an v4.l a_).bind fun tX => (an v4.l b).bind fun oS => (an v4.l a_).bind fun tY => (some (da v4 a_ (tX + (oS + y_)))).bind fun v5 => (an v5.l d).bind fun vQ => (an v5.l a_).bind fun oT => (bP (vQ ^^^ oT) (-8 : Int)).bind fun bz => (an v5.l d).bind fun qa => (some (da v5 d bz)).bind fun v6 => (an v6.l c).bind fun tc => (an v6.l d).bind fun oU => (an v6.l c).bind fun tZ => (some (da v6 c (tc + oU))).bind fun v7 => (an v7.l b).bind fun vR => (an v7.l c).bind fun pv => (bP (vR ^^^ pv) (-7 : Int)).bind fun dy => (an v7.l b).bind fun rV => (some (da v7 b dy)).bind fun v8 => some v8
noncomputable def iI (m_ : ag UInt32 16) (aE : (ag Int 16)) (bz : (ag (ag Int 4) 8)) : (ag UInt32 16 × Int) → Option ((ag UInt32 16 × Int) ⊕ (ag UInt32 16 × ag UInt32 16))
  | (v1, av) => if av < 8 then ((an bz.l av).bind fun bk => (an bk.l (0 : Int)).bind fun dQ => (an bk.l (1 : Int)).bind fun cY => (an bk.l (2 : Int)).bind fun cC => (an bk.l (3 : Int)).bind fun gq => (an aE.l (aA (2 * av))).bind fun gd => (an m_.l gd).bind fun kF => (an aE.l (aA ((aA (2 * av)) + 1))).bind fun lb => (an m_.l lb).bind fun eM => (ld v1 dQ cY cC gq kF eM).bind fun dy => some (.inl (dy, aA (av + 1)))) else (Option.map Sum.inr (some (v1, m_)))
noncomputable def jv (v : ag UInt32 16) (m_ : ag UInt32 16) (r_ : Int) : Option (ag UInt32 16 × ag UInt32 16) :=
  (js r_).bind fun aE => (jZ).bind fun bz => aP (iI m_ aE bz) (v, (0 : Int))
noncomputable def j0 (v : ag UInt32 16) : (ag UInt32 8 × Int) → Option ((ag UInt32 8 × Int) ⊕ (ag UInt32 8))
  | (h1, av) => if av < 8 then ((an h1.l av).bind fun ew => (an v.l av).bind fun bk => (an v.l (aA (av + 8))).bind fun dQ => (an h1.l av).bind fun cY => (some (da h1 av (ew ^^^ (bk ^^^ dQ)))).bind fun v1 => some (.inl (v1, aA (av + 1)))) else (Option.map Sum.inr (some h1))
noncomputable def lg (h : ag UInt32 8) (v : ag UInt32 16) : Option (ag UInt32 8) :=
  aP (j0 v) (h, (0 : Int))
noncomputable def kf (h : ag UInt32 8) : (ag UInt32 16 × ag UInt32 16 × Int) → Option ((ag UInt32 16 × ag UInt32 16 × Int) ⊕ (ag UInt32 8))
  | (nq, v, av) => if av < 10 then ((jv v nq av).bind fun aE => some (.inl (aE.2, aE.1, aA (av + 1)))) else (Option.map Sum.inr ((lg h v).bind fun bz => some bz))
noncomputable def nO (h : ag UInt32 8) (m_ : ag UInt32 16) (count : UInt64) (last : Bool) (node : Bool) : Option (ag UInt32 8) :=
  (kS h count last node).bind fun r_ => aP (kf h) (m_, r_, (0 : Int))
noncomputable def fx (h : ag UInt32 8) (b : List UInt8) (jd : UInt64) (jS : UInt64) (last : Bool) (node : Bool) : Option (ag UInt32 8) :=
  (ju b).bind fun r_ => (nO h r_.1 jd last node).bind fun aE => some aE
noncomputable def b7 (ao : Int) (b1 : List UInt8) (kF : ag UInt32 8) (lb : UInt64) (eM : UInt64) (bX : List UInt8) : Option ((ag UInt32 8 × UInt64 × UInt64 × List UInt8 × List UInt8) ⊕ (ag UInt32 8 × UInt64 × UInt64 × List UInt8 × Int)) :=
  (rG b1 0 (if aA (ao - ((bX.length : Nat) : Int)) < ((b1.length : Nat) : Int) then aA (ao - ((bX.length : Nat) : Int)) else ((b1.length : Nat) : Int))).bind fun b3 => (app bX b3 1).bind fun b4 => (rG b1 (if aA (ao - ((bX.length : Nat) : Int)) < ((b1.length : Nat) : Int) then aA (ao - ((bX.length : Nat) : Int)) else ((b1.length : Nat) : Int)) ((b1.length : Nat) : Int)).bind fun b5 => some (.inl (kF, lb, eM, b4, b5))
noncomputable def dw (ao : Int) : (ag UInt32 8 × UInt64 × UInt64 × List UInt8 × List UInt8) → Option ((ag UInt32 8 × UInt64 × UInt64 × List UInt8 × List UInt8) ⊕ (ag UInt32 8 × UInt64 × UInt64 × List UInt8 × Int))
  | (av, cC, gq, gd, b1) => if 0 < ((b1.length : Nat) : Int) then (if ((gd.length : Nat) : Int) = ao then ((gh cC gq (UInt64.ofInt ao)).bind fun r_ => (fx av gd r_.1 r_.2.1 false false).bind fun aE => (rG gd 0 (0 : Int)).bind fun b2 => b7 ao b1 aE r_.1 r_.2.1 b2) else (b7 ao b1 av cC gq gd)) else (Option.map Sum.inr (some (av, cC, gq, gd, ao)))
noncomputable def cz (mT : ag UInt32 8) (aW : UInt64) (aX : UInt64) (bB : List UInt8) (ao : Int) (b : List UInt8) : Option (ag UInt32 8 × UInt64 × UInt64 × List UInt8 × Int) :=
  aP (dw ao) (mT, aW, aX, bB, b)
noncomputable def dJ (cF : Int) (b8 : Int) (bd : List UInt8) (bU : List UInt8) (fj : Bool) (b9 : UInt64) : Option ((Int × Int × List UInt8 × List UInt8 × ag UInt64 8 × UInt64 × UInt64 × List UInt8 × Int) ⊕ (Int × Int × List UInt8 × List UInt8 × ag UInt32 8 × UInt64 × UInt64 × List UInt8 × Int)) :=
  (jn cF bd).bind fun r_ => (Sum.elim (fun aE => if 0 < ((bU.length : Nat) : Int) then ((db cF).bind fun dy => (eZ bU dy).bind fun fu => (cy aE.1 (0 : UInt64) (0 : UInt64) aE.2 (128 : Int) fu).bind fun dj => some (Sum.inl (cF, b8, bd, bU, dj.1, dj.2.1, dj.2.2.1, dj.2.2.2.1, dj.2.2.2.2))) else (some (Sum.inl (cF, b8, bd, bU, aE.1, (0 : UInt64), (0 : UInt64), aE.2, (128 : Int))))) (fun bz => if 0 < ((bU.length : Nat) : Int) then ((db cF).bind fun gH => (eZ bU gH).bind fun ie => (cz bz.1 (0 : UInt64) (0 : UInt64) bz.2 (64 : Int) ie).bind fun o0 => some (Sum.inr (cF, b8, bd, bU, o0.1, o0.2.1, o0.2.2.1, o0.2.2.2.1, o0.2.2.2.2))) else (some (Sum.inr (cF, b8, bd, bU, bz.1, (0 : UInt64), (0 : UInt64), bz.2, (64 : Int)))))) r_
noncomputable def kg (k_ : Int) (block : List UInt8) (mU : Int) (key : List UInt8) : Option ((Int × Int × List UInt8 × List UInt8 × ag UInt64 8 × UInt64 × UInt64 × List UInt8 × Int) ⊕ (Int × Int × List UInt8 × List UInt8 × ag UInt32 8 × UInt64 × UInt64 × List UInt8 × Int)) :=
  (app ([] : List UInt8) block 1).bind fun b => (app ([] : List UInt8) key 1).bind fun b1 => (dJ k_ mU b b1 false (0 : UInt64)).bind fun r_ => (Sum.elim (fun aE => some (Sum.inl (aE.1, aE.2.1, aE.2.2.1, aE.2.2.2.1, aE.2.2.2.2.1, aE.2.2.2.2.2.1, aE.2.2.2.2.2.2.1, aE.2.2.2.2.2.2.2.1, aE.2.2.2.2.2.2.2.2))) (fun bz => some (Sum.inr (bz.1, bz.2.1, bz.2.2.1, bz.2.2.2.1, bz.2.2.2.2.1, bz.2.2.2.2.2.1, bz.2.2.2.2.2.2.1, bz.2.2.2.2.2.2.2.1, bz.2.2.2.2.2.2.2.2)))) r_
noncomputable def lh (k_ : Int) (ay : Int) (bg : Int) (aB : Int) (aJ : Int) (a8 : UInt32) (au : UInt64) (aS : UInt32) (ai : Int) (aF : Int) (aM : List UInt8) (ah : List UInt8) (key : List UInt8) : Option (Int ⊕ (Int × Int × List UInt8 × List UInt8 × ag UInt64 8 × UInt64 × UInt64 × List UInt8 × Int) ⊕ (Int × Int × List UInt8 × List UInt8 × ag UInt32 8 × UInt64 × UInt64 × List UInt8 × Int)) :=
  (ey k_ ay bg aB aJ a8 au aS ai aF aM ah).bind fun r_ => if r_.2 ≠ 0 then (some (Sum.inl r_.2)) else (if ((decide (((key.length : Nat) : Int) ≠ 0)) && (decide (((key.length : Nat) : Int) ≠ bg))) = true then (some (Sum.inl (8 : Int))) else ((kg k_ r_.1 ay key).bind fun aE => (Sum.elim (fun bz => some (Sum.inr (Sum.inl (bz.1, bz.2.1, bz.2.2.1, bz.2.2.2.1, bz.2.2.2.2.1, bz.2.2.2.2.2.1, bz.2.2.2.2.2.2.1, bz.2.2.2.2.2.2.2.1, bz.2.2.2.2.2.2.2.2)))) (fun dy => some (Sum.inr (Sum.inr (dy.1, dy.2.1, dy.2.2.1, dy.2.2.2.1, dy.2.2.2.2.1, dy.2.2.2.2.2.1, dy.2.2.2.2.2.2.1, dy.2.2.2.2.2.2.2.1, dy.2.2.2.2.2.2.2.2))))) aE))
noncomputable def hX (cF : Int) (b8 : Int) (bd : List UInt8) (bU : List UInt8) (fj : Bool) (b9 : UInt64) (jw : ag UInt64 8) (bE : UInt64) (bF : UInt64) (df : List UInt8) (cQ : Int) : Option (ag UInt64 8 × UInt64 × UInt64 × List UInt8 × Int × Int × Int × List UInt8 × List UInt8 × Bool × UInt64) :=
  some (jw, bE, bF, df, cQ, cF, b8, bd, bU, fj, b9)
noncomputable def gC (w_ : UInt64) : (List UInt8 × Int) → Option ((List UInt8 × Int) ⊕ (List UInt8))
  | (b, av) => if av < 8 then ((la (0 ≤ aA (8 * av))).bind fun u => (an b av).bind fun ew => some (.inl (b.set (Int.toNat av) (UInt8.ofNat (dz w_ (Int.toNat (aA (8 * av)))).toNat), aA (av + 1)))) else (Option.map Sum.inr (some b))
noncomputable def gN (w_ : UInt64) : Option (List UInt8) :=
  aP (gC w_) (List.replicate (Int.toNat (8 : Int)) (0 : UInt8), (0 : Int))
noncomputable def iJ (h : ag UInt64 8) : (List UInt8 × Int) → Option ((List UInt8 × Int) ⊕ (List UInt8))
  | (b, av) => if av < 8 then ((an h.l av).bind fun ew => (gN ew).bind fun r_ => (app b r_ 1).bind fun b1 => some (.inl (b1, aA (av + 1)))) else (Option.map Sum.inr (some b))
noncomputable def jx (h : ag UInt64 8) : Option (List UInt8) :=
  aP (iJ h) (List.replicate (Int.toNat (0 : Int)) (0 : UInt8), (0 : Int))
noncomputable def dX (mT : ag UInt64 8) (aW : UInt64) (aX : UInt64) (bB : List UInt8) (ao : Int) (node : Bool) (c0 : UInt64) (c2 : UInt64) : Option (List UInt8 × ag UInt64 8 × UInt64 × UInt64 × List UInt8 × Int) :=
  (eZ bB ao).bind fun aE => (gy mT aE c0 c2 true node).bind fun bz => (jx bz).bind fun dy => some (dy, mT, aW, aX, bB, ao)
noncomputable def dK (mT : ag UInt64 8) (aW : UInt64) (aX : UInt64) (bB : List UInt8) (ao : Int) (node : Bool) : Option (List UInt8 × ag UInt64 8 × UInt64 × UInt64 × List UInt8 × Int) :=
  (gh aW aX (UInt64.ofInt ((bB.length : Nat) : Int))).bind fun r_ => dX mT aW aX bB ao node r_.1 r_.2.1
noncomputable def gr (cF : Int) (b8 : Int) (bd : List UInt8) (bU : List UInt8) (fj : Bool) (b9 : UInt64) (jw : ag UInt64 8) (bE : UInt64) (bF : UInt64) (df : List UInt8) (cQ : Int) (cZ : Int) : Option (List UInt8 × Int × ag UInt64 8 × UInt64 × UInt64 × List UInt8 × Int × Int × Int × List UInt8 × List UInt8 × Bool × UInt64) :=
  (hX cF b8 bd bU fj b9 jw bE bF df cQ).bind fun r_ => if cZ < 1 then (some (([] : List UInt8), (1 : Int), r_.1, r_.2.1, r_.2.2.1, r_.2.2.2.1, r_.2.2.2.2.1, r_.2.2.2.2.2.1, r_.2.2.2.2.2.2.1, r_.2.2.2.2.2.2.2.1, r_.2.2.2.2.2.2.2.2.1, r_.2.2.2.2.2.2.2.2.2.1, r_.2.2.2.2.2.2.2.2.2.2)) else ((db r_.2.2.2.2.2.1).bind fun aE => if (aA (Int.tdiv aE 2)) < cZ then (some (([] : List UInt8), (1 : Int), r_.1, r_.2.1, r_.2.2.1, r_.2.2.2.1, r_.2.2.2.2.1, r_.2.2.2.2.2.1, r_.2.2.2.2.2.2.1, r_.2.2.2.2.2.2.2.1, r_.2.2.2.2.2.2.2.2.1, r_.2.2.2.2.2.2.2.2.2.1, r_.2.2.2.2.2.2.2.2.2.2)) else ((dK r_.1 r_.2.1 r_.2.2.1 r_.2.2.2.1 r_.2.2.2.2.1 r_.2.2.2.2.2.2.2.2.2.1).bind fun bz => (rG bz.1 0 cZ).bind fun b => (la (cZ ≤ cZ ∧ cZ ≤ ((bz.1.length : Nat) : Int))).bind fun u => some (b, (0 : Int), bz.2.1, bz.2.2.1, bz.2.2.2.1, bz.2.2.2.2.1, bz.2.2.2.2.2, r_.2.2.2.2.2.1, r_.2.2.2.2.2.2.1, r_.2.2.2.2.2.2.2.1, r_.2.2.2.2.2.2.2.2.1, r_.2.2.2.2.2.2.2.2.2.1, r_.2.2.2.2.2.2.2.2.2.2)))
noncomputable def fR (cF : Int) (b8 : Int) (bd : List UInt8) (bU : List UInt8) (fj : Bool) (b9 : UInt64) (jw : ag UInt32 8) (bE : UInt64) (bF : UInt64) (df : List UInt8) (cQ : Int) : Option (ag UInt32 8 × UInt64 × UInt64 × List UInt8 × Int × Int × Int × List UInt8 × List UInt8 × Bool × UInt64) :=
  some (jw, bE, bF, df, cQ, cF, b8, bd, bU, fj, b9)
noncomputable def iK (h : ag UInt32 8) : (List UInt8 × Int) → Option ((List UInt8 × Int) ⊕ (List UInt8))
  | (b, av) => if av < 8 then ((an h.l av).bind fun ew => (app b ([UInt8.ofNat ew.toNat, UInt8.ofNat (eD ew ((8 : UInt64).toNat)).toNat, UInt8.ofNat (eD ew ((16 : UInt64).toNat)).toNat, UInt8.ofNat (eD ew ((24 : UInt64).toNat)).toNat] : List UInt8) 1).bind fun b1 => some (.inl (b1, aA (av + 1)))) else (Option.map Sum.inr (some b))
noncomputable def jy (h : ag UInt32 8) : Option (List UInt8) :=
  aP (iK h) (List.replicate (Int.toNat (0 : Int)) (0 : UInt8), (0 : Int))
noncomputable def dY (mT : ag UInt32 8) (aW : UInt64) (aX : UInt64) (bB : List UInt8) (ao : Int) (node : Bool) (c0 : UInt64) (c2 : UInt64) : Option (List UInt8 × ag UInt32 8 × UInt64 × UInt64 × List UInt8 × Int) :=
  (eZ bB ao).bind fun aE => (fx mT aE c0 c2 true node).bind fun bz => (jy bz).bind fun dy => some (dy, mT, aW, aX, bB, ao)
noncomputable def dL (mT : ag UInt32 8) (aW : UInt64) (aX : UInt64) (bB : List UInt8) (ao : Int) (node : Bool) : Option (List UInt8 × ag UInt32 8 × UInt64 × UInt64 × List UInt8 × Int) :=
  (gh aW aX (UInt64.ofInt ((bB.length : Nat) : Int))).bind fun r_ => dY mT aW aX bB ao node r_.1 r_.2.1
noncomputable def fk (cF : Int) (b8 : Int) (bd : List UInt8) (bU : List UInt8) (fj : Bool) (b9 : UInt64) (jw : ag UInt32 8) (bE : UInt64) (bF : UInt64) (df : List UInt8) (cQ : Int) (cZ : Int) : Option (List UInt8 × Int × ag UInt32 8 × UInt64 × UInt64 × List UInt8 × Int × Int × Int × List UInt8 × List UInt8 × Bool × UInt64) :=
  (fR cF b8 bd bU fj b9 jw bE bF df cQ).bind fun r_ => if cZ < 1 then (some (([] : List UInt8), (1 : Int), r_.1, r_.2.1, r_.2.2.1, r_.2.2.2.1, r_.2.2.2.2.1, r_.2.2.2.2.2.1, r_.2.2.2.2.2.2.1, r_.2.2.2.2.2.2.2.1, r_.2.2.2.2.2.2.2.2.1, r_.2.2.2.2.2.2.2.2.2.1, r_.2.2.2.2.2.2.2.2.2.2)) else ((db r_.2.2.2.2.2.1).bind fun aE => if (aA (Int.tdiv aE 2)) < cZ then (some (([] : List UInt8), (1 : Int), r_.1, r_.2.1, r_.2.2.1, r_.2.2.2.1, r_.2.2.2.2.1, r_.2.2.2.2.2.1, r_.2.2.2.2.2.2.1, r_.2.2.2.2.2.2.2.1, r_.2.2.2.2.2.2.2.2.1, r_.2.2.2.2.2.2.2.2.2.1, r_.2.2.2.2.2.2.2.2.2.2)) else ((dL r_.1 r_.2.1 r_.2.2.1 r_.2.2.2.1 r_.2.2.2.2.1 r_.2.2.2.2.2.2.2.2.2.1).bind fun bz => (rG bz.1 0 cZ).bind fun b => (la (cZ ≤ cZ ∧ cZ ≤ ((bz.1.length : Nat) : Int))).bind fun u => some (b, (0 : Int), bz.2.1, bz.2.2.1, bz.2.2.2.1, bz.2.2.2.2.1, bz.2.2.2.2.2, r_.2.2.2.2.2.1, r_.2.2.2.2.2.2.1, r_.2.2.2.2.2.2.2.1, r_.2.2.2.2.2.2.2.2.1, r_.2.2.2.2.2.2.2.2.2.1, r_.2.2.2.2.2.2.2.2.2.2)))
noncomputable def e7 (k_ : Int) (ay : Int) (bg : Int) (aB : Int) (aJ : Int) (a8 : UInt32) (au : UInt64) (aS : UInt32) (ai : Int) (aF : Int) (aM : List UInt8) (ah : List UInt8) (key : List UInt8) (last : Bool) (out : Int) (data : List UInt8) : Option (List UInt8 × Int) :=
  (lh k_ ay bg aB aJ a8 au aS ai aF aM ah key).bind fun r_ => (Sum.elim (fun aE => if aE ≠ 0 then (some (([] : List UInt8), aE)) else none) (Sum.elim (fun bz => if 0 ≠ 0 then (some (([] : List UInt8), (0 : Int))) else ((cy bz.2.2.2.2.1 bz.2.2.2.2.2.1 bz.2.2.2.2.2.2.1 bz.2.2.2.2.2.2.2.1 bz.2.2.2.2.2.2.2.2 data).bind fun fu => (gr bz.1 bz.2.1 bz.2.2.1 bz.2.2.2.1 last (0 : UInt64) fu.1 fu.2.1 fu.2.2.1 fu.2.2.2.1 fu.2.2.2.2 out).bind fun dj => some (dj.1, dj.2.1))) (fun dy => if 0 ≠ 0 then (some (([] : List UInt8), (0 : Int))) else ((cz dy.2.2.2.2.1 dy.2.2.2.2.2.1 dy.2.2.2.2.2.2.1 dy.2.2.2.2.2.2.2.1 dy.2.2.2.2.2.2.2.2 data).bind fun gH => (fk dy.1 dy.2.1 dy.2.2.1 dy.2.2.2.1 last (0 : UInt64) gH.1 gH.2.1 gH.2.2.1 gH.2.2.2.1 gH.2.2.2.2 out).bind fun ie => some (ie.1, ie.2.1))))) r_
noncomputable def gi (kind : Int) : Option Int :=
  if kind = 1 then (some (64 : Int)) else (if kind = 2 then (some (32 : Int)) else (some (0 : Int)))
noncomputable def cI (kind : Int) (ay : Int) (bg : Int) (aB : Int) (aJ : Int) (a8 : UInt32) (au : UInt64) (aS : UInt32) (ai : Int) (aF : Int) (aM : List UInt8) (ah : List UInt8) : Option Int :=
  (gi kind).bind fun r_ => if r_ = 0 then (some (1 : Int)) else (if ((decide (ay < 1)) || (decide (r_ < ay))) = true then (some (20 : Int)) else (if ((decide (bg < 0)) || (decide (r_ < bg))) = true then (some (8 : Int)) else (if ((decide (aB < 0)) || (decide (255 < aB))) = true then (some (21 : Int)) else (if (((decide (aJ < 0)) || (decide (255 < aJ))) || ((decide (aJ = 0)) && (decide (aS = 0)))) = true then (some (22 : Int)) else (if (((decide (aS ≠ 0)) && (decide ((4294967295 : UInt64) < au))) || (((decide (aS = 0)) && (decide (kind = 2))) && (decide ((281474976710655 : UInt64) < au)))) = true then (some (23 : Int)) else (if ((decide (kind = 2)) && (decide ((65535 : UInt32) < aS))) = true then (some (24 : Int)) else (if ((decide (ai < 0)) || (decide (255 < ai))) = true then (some (25 : Int)) else (if ((decide (aF < 0)) || (decide (r_ < aF))) = true then (some (26 : Int)) else (if (aA (Int.tdiv r_ 4)) < ((aM.length : Nat) : Int) then (some (27 : Int)) else (if (aA (Int.tdiv r_ 4)) < ((ah.length : Nat) : Int) then (some (28 : Int)) else (some (0 : Int))))))))))))
noncomputable def ki (kind : Int) : Option Int :=
  if kind = 1 then (some (128 : Int)) else (some (64 : Int))
noncomputable def nP (i : Int) (b1 : List UInt8) : Option ((List UInt8 × Int) ⊕ (List UInt8)) :=
  some (.inl (b1, aA (i + 1)))
noncomputable def lj (b : List UInt8) (i : Int) (c2 : UInt8) : Option ((List UInt8 × Int) ⊕ (List UInt8)) :=
  (app b ([c2] : List UInt8) 1).bind fun b2 => nP i b2
noncomputable def jz (kind : Int) (key : List UInt8) : (List UInt8 × Int) → Option ((List UInt8 × Int) ⊕ (List UInt8))
  | (b, i) => (ki kind).bind fun r_ => if i < r_ then (if i < ((key.length : Nat) : Int) then ((an key i).bind fun av => lj b i av) else (lj b i (0 : UInt8))) else (Option.map Sum.inr (some b))
noncomputable def lU (kind : Int) (key : List UInt8) : Option (List UInt8) :=
  if ((key.length : Nat) : Int) = 0 then (some ([] : List UInt8)) else (aP (jz kind key) (([] : List UInt8), (0 : Int)))
noncomputable def uJ (kind : Int) (ay : Int) (bg : Int) (aB : Int) (aJ : Int) (a8 : UInt32) (au : UInt64) (aS : UInt32) (ai : Int) (aF : Int) (aM : List UInt8) (ah : List UInt8) (key : List UInt8) : Option (Int ⊕ (Int × Int × Int × Int × Int × UInt32 × UInt64 × UInt32 × Int × Int × ag UInt64 16 × List UInt8)) :=
  (cI kind ay bg aB aJ a8 au aS ai aF aM ah).bind fun r_ => if r_ ≠ 0 then (some (Sum.inl r_)) else (if ((decide (((key.length : Nat) : Int) ≠ 0)) && (decide (((key.length : Nat) : Int) ≠ bg))) = true then (some (Sum.inl (8 : Int))) else ((lU kind key).bind fun aE => some (Sum.inr (kind, ay, bg, aB, aJ, a8, au, aS, ai, aF, (ag.rep 16 (0 : UInt64)), aE))))
noncomputable def jT (kind : Int) : Option Int :=
  if kind = 1 then (some (64 : Int)) else (some (32 : Int))
noncomputable def im (gO : Int) (cT : Int) (fT : Int) (cU : Int) (dT : Int) (eR : UInt32) (cV : UInt64) (fU : UInt32) (bQ : Int) (dU : Int) (iT : Bool) (iq : ag UInt64 16) (kL : Bool) (pw : UInt64) (px : UInt64) (gj : UInt64) (b : List UInt8) : (List UInt8 × Int) → Option ((List UInt8 × Int) ⊕ (Int × Int × Int × Int × Int × UInt32 × UInt64 × UInt32 × Int × Int × Bool × ag UInt64 16 × Bool × UInt64 × UInt64 × List UInt8 × UInt64))
  | (n0, i) => if i < ((b.length : Nat) : Int) then ((an b i).bind fun av => (app n0 ([av] : List UInt8) 1).bind fun b1 => some (.inl (b1, aA (i + 1)))) else (Option.map Sum.inr (some (gO, cT, fT, cU, dT, eR, cV, fU, bQ, dU, iT, iq, kL, pw, px, n0, gj + (UInt64.ofInt ((b.length : Nat) : Int)))))
noncomputable def jU (gO : Int) (cT : Int) (fT : Int) (cU : Int) (dT : Int) (eR : UInt32) (cV : UInt64) (fU : UInt32) (bQ : Int) (dU : Int) (mz : List UInt8) (hY : List UInt8) (xz : List UInt8) (iT : Bool) (iq : ag UInt64 16) (kL : Bool) (pw : UInt64) (px : UInt64) (mA : List UInt8) (gj : UInt64) (b : List UInt8) : Option (Int × Int × Int × Int × Int × UInt32 × UInt64 × UInt32 × Int × Int × Bool × ag UInt64 16 × Bool × UInt64 × UInt64 × List UInt8 × UInt64) :=
  aP (im gO cT fT cU dT eR cV fU bQ dU iT iq kL pw px gj b) (mA, (0 : Int))
noncomputable def yT (kind : Int) : Option Int :=
  (gi kind).bind fun r_ => some r_
noncomputable def rK (kind : Int) (field : Int) : Option (Int × Int) :=
  if ((decide (1 ≤ field)) && (decide (field ≤ 4))) = true then (some (aA (field - 1), (1 : Int))) else (if field = 5 then (some ((4 : Int), (4 : Int))) else (if ((decide (field = 6)) && (decide (kind = 1))) = true then (some ((8 : Int), (8 : Int))) else (if field = 6 then (some ((8 : Int), (6 : Int))) else (if ((decide (field = 7)) && (decide (kind = 1))) = true then (some ((12 : Int), (4 : Int))) else (if field = 7 then (some ((12 : Int), (2 : Int))) else (if ((decide (field = 8)) && (decide (kind = 1))) = true then (some ((16 : Int), (1 : Int))) else (if field = 8 then (some ((14 : Int), (1 : Int))) else (if ((decide (field = 9)) && (decide (kind = 1))) = true then (some ((17 : Int), (1 : Int))) else (if field = 9 then (some ((15 : Int), (1 : Int))) else (some ((0 : Int), (0 : Int))))))))))))
noncomputable def mV (at_ : Int) (n : Int) (v : UInt64) : (List UInt8 × Int) → Option ((List UInt8 × Int) ⊕ (List UInt8))
  | (b1, i) => if i < n then ((an b1 (aA (at_ + i))).bind fun av => some (.inl (b1.set (Int.toNat (aA (at_ + i))) (UInt8.ofNat (dz v (((8 : UInt64) * (UInt64.ofInt i)).toNat)).toNat), aA (i + 1)))) else (Option.map Sum.inr (some b1))
noncomputable def qZ (b : List UInt8) (at_ : Int) (n : Int) (v : UInt64) : Option (List UInt8) :=
  aP (mV at_ n v) (b, (0 : Int))
noncomputable def nr (f : Int) (b1 : List UInt8) : Option ((List UInt8 × Int) ⊕ (List UInt8 × Int)) :=
  some (.inl (b1, aA (f + 1)))
noncomputable def kG (f : Int) (b2 : List UInt8) : Option ((List UInt8 × Int) ⊕ (List UInt8 × Int)) :=
  nr f b2
noncomputable def iL (ah : List UInt8) (fu : Int) : (List UInt8 × Int) → Option ((List UInt8 × Int) ⊕ (List UInt8 × Int))
  | (b4, i1) => if i1 < ((ah.length : Nat) : Int) then ((an ah i1).bind fun cY => (an b4 (aA ((aA (3 * (aA (Int.tdiv fu 4)))) + i1))).bind fun cC => some (.inl (b4.set (Int.toNat (aA ((aA (3 * (aA (Int.tdiv fu 4)))) + i1))) cY, aA (i1 + 1)))) else (Option.map Sum.inr (some (b4, (0 : Int))))
noncomputable def iM (aM : List UInt8) (ah : List UInt8) (fu : Int) : (List UInt8 × Int) → Option ((List UInt8 × Int) ⊕ (List UInt8 × Int))
  | (b3, i) => if i < ((aM.length : Nat) : Int) then ((an aM i).bind fun bk => (an b3 (aA ((aA (2 * (aA (Int.tdiv fu 4)))) + i))).bind fun dQ => some (.inl (b3.set (Int.toNat (aA ((aA (2 * (aA (Int.tdiv fu 4)))) + i))) bk, aA (i + 1)))) else (Option.map Sum.inr (aP (iL ah fu) (b3, (0 : Int))))
noncomputable def iN (kind : Int) (ay : Int) (bg : Int) (aB : Int) (aJ : Int) (a8 : UInt32) (au : UInt64) (aS : UInt32) (ai : Int) (aF : Int) (aM : List UInt8) (ah : List UInt8) : (List UInt8 × Int) → Option ((List UInt8 × Int) ⊕ (List UInt8 × Int))
  | (b, f) => if f ≤ 9 then (if ((decide (f = 7)) && (decide (aS = 0))) = true then (kG f b) else ((rK kind f).bind fun bz => (an ([UInt64.ofInt ay, UInt64.ofInt bg, UInt64.ofInt aB, UInt64.ofInt aJ, UInt64.ofNat a8.toNat, au, UInt64.ofNat aS.toNat, UInt64.ofInt ai, UInt64.ofInt aF] : List UInt64) (aA (f - 1))).bind fun av => (qZ b bz.1 bz.2 av).bind fun dy => kG f dy)) else (Option.map Sum.inr ((gi kind).bind fun fu => aP (iM aM ah fu) (b, (0 : Int))))
noncomputable def ep (kind : Int) (ay : Int) (bg : Int) (aB : Int) (aJ : Int) (a8 : UInt32) (au : UInt64) (aS : UInt32) (ai : Int) (aF : Int) (aM : List UInt8) (ah : List UInt8) : Option (List UInt8 × Int) :=
  (cI kind ay bg aB aJ a8 au aS ai aF aM ah).bind fun r_ => if r_ ≠ 0 then (some (([] : List UInt8), r_)) else ((yT kind).bind fun aE => (la ((0 : Int) ≤ aE ∧ (aE : Int) ≤ aE ∧ Int.toNat aE * 1 ≤ 140737488355328)).bind fun u => aP (iN kind ay bg aB aJ a8 au aS ai aF aM ah) (List.replicate (Int.toNat aE) (0 : UInt8), (1 : Int)))
noncomputable def o1 (b : List UInt8) (at_ : Int) : (UInt64 × Int) → Option ((UInt64 × Int) ⊕ (UInt64 × Int))
  | (w_, i) => if 0 ≤ i then ((an b (aA (at_ + i))).bind fun av => some (.inl ((w_ * 256) + (UInt64.ofNat av.toNat), aA (i - 1)))) else (Option.map Sum.inr (some (w_, (0 : Int))))
noncomputable def ll (b : List UInt8) (at_ : Int) (n : Int) : Option (UInt64 × Int) :=
  if at_ < 0 then (some ((0 : UInt64), (1 : Int))) else (if ((decide (((b.length : Nat) : Int) < at_)) || (decide ((aA (((b.length : Nat) : Int) - at_)) < n))) = true then (some ((0 : UInt64), (3 : Int))) else (aP (o1 b at_) ((0 : UInt64), aA (n - 1))))
noncomputable def td (i : Int) : Option UInt64 :=
  (an (⟨[(7640891576956012808 : UInt64), (13503953896175478587 : UInt64), (4354685564936845355 : UInt64), (11912009170470909681 : UInt64), (5840696475078001361 : UInt64), (11170449401992604703 : UInt64), (2270897969802886507 : UInt64), (6620516959819538809 : UInt64)], rfl⟩ : ag UInt64 8).l (Int.tmod i 8)).bind fun av => some av
noncomputable def ln (block : List UInt8) : (ag UInt64 8 × Int) → Option ((ag UInt64 8 × Int) ⊕ (ag UInt64 8 × Int))
  | (h, i) => if i < 8 then ((ll block (aA (8 * i)) (8 : Int)).bind fun r_ => (td i).bind fun aE => (an h.l i).bind fun av => (some (da h i (aE ^^^ r_.1))).bind fun v => some (.inl (v, aA (i + 1)))) else (Option.map Sum.inr (some (h, (0 : Int))))
noncomputable def nQ (block : List UInt8) : Option (ag UInt64 8 × Int) :=
  if ((block.length : Nat) : Int) ≠ 64 then (some ((ag.rep 8 (0 : UInt64)), (1 : Int))) else (aP (ln block) ((ag.rep 8 (0 : UInt64)), (0 : Int)))
noncomputable def qb  : Option (ag UInt32 8) :=
  some (⟨[(1779033703 : UInt32), (3144134277 : UInt32), (1013904242 : UInt32), (2773480762 : UInt32), (1359893119 : UInt32), (2600822924 : UInt32), (528734635 : UInt32), (1541459225 : UInt32)], rfl⟩ : ag UInt32 8)
noncomputable def mW (b : List UInt8) (at_ : Int) : Option UInt32 :=
  (an b at_).bind fun av => (an b (aA (at_ + 1))).bind fun ew => (an b (aA (at_ + 2))).bind fun bk => (an b (aA (at_ + 3))).bind fun dQ => some ((((UInt32.ofNat av.toNat) + (kJ (UInt32.ofNat ew.toNat) ((8 : UInt64).toNat))) + (kJ (UInt32.ofNat bk.toNat) ((16 : UInt64).toNat))) + (kJ (UInt32.ofNat dQ.toNat) ((24 : UInt64).toNat)))
noncomputable def lp (block : List UInt8) : (ag UInt32 8 × Int) → Option ((ag UInt32 8 × Int) ⊕ (ag UInt32 8 × Int))
  | (h, i) => if i < 8 then ((an h.l i).bind fun av => (mW block (aA (4 * i))).bind fun aE => (an h.l i).bind fun bk => (some (da h i (av ^^^ aE))).bind fun v => some (.inl (v, aA (i + 1)))) else (Option.map Sum.inr (some (h, (0 : Int))))
noncomputable def nR (block : List UInt8) : Option (ag UInt32 8 × Int) :=
  if ((block.length : Nat) : Int) < 32 then (some ((ag.rep 8 (0 : UInt32)), (3 : Int))) else (if 32 < ((block.length : Nat) : Int) then (some ((ag.rep 8 (0 : UInt32)), (2 : Int))) else ((qb).bind fun r_ => aP (lp block) (r_, (0 : Int))))
noncomputable def ir (gO : Int) (cT : Int) (fT : Int) (cU : Int) (dT : Int) (eR : UInt32) (cV : UInt64) (fU : UInt32) (bQ : Int) (dU : Int) (iT : Bool) (iq : ag UInt64 16) (kL : Bool) (pw : UInt64) (px : UInt64) (mA : List UInt8) (gj : UInt64) (aE : (ag UInt64 8 × Int)) : (ag UInt64 16 × Int) → Option ((ag UInt64 16 × Int) ⊕ (ag UInt64 16 × Int × Int × Int × Int × Int × UInt32 × UInt64 × UInt32 × Int × Int × Bool × ag UInt64 16 × Bool × UInt64 × UInt64 × List UInt8 × UInt64))
  | (h, i) => if i < 8 then ((an aE.1.l i).bind fun av => (an h.l i).bind fun oT => (some (da h i av)).bind fun v => some (.inl (v, aA (i + 1)))) else (Option.map Sum.inr (some (h, gO, cT, fT, cU, dT, eR, cV, fU, bQ, dU, iT, iq, kL, pw, px, mA, gj)))
noncomputable def iu (gO : Int) (cT : Int) (fT : Int) (cU : Int) (dT : Int) (eR : UInt32) (cV : UInt64) (fU : UInt32) (bQ : Int) (dU : Int) (iT : Bool) (iq : ag UInt64 16) (kL : Bool) (pw : UInt64) (px : UInt64) (mA : List UInt8) (gj : UInt64) (bz : (ag UInt32 8 × Int)) : (ag UInt64 16 × Int) → Option ((ag UInt64 16 × Int) ⊕ (ag UInt64 16 × Int × Int × Int × Int × Int × UInt32 × UInt64 × UInt32 × Int × Int × Bool × ag UInt64 16 × Bool × UInt64 × UInt64 × List UInt8 × UInt64))
  | (h1, i1) => if i1 < 8 then ((an bz.1.l i1).bind fun qa => (an h1.l i1).bind fun tc => (some (da h1 i1 (UInt64.ofNat qa.toNat))).bind fun v1 => some (.inl (v1, aA (i1 + 1)))) else (Option.map Sum.inr (some (h1, gO, cT, fT, cU, dT, eR, cV, fU, bQ, dU, iT, iq, kL, pw, px, mA, gj)))
noncomputable def fe (gO : Int) (cT : Int) (fT : Int) (cU : Int) (dT : Int) (eR : UInt32) (cV : UInt64) (fU : UInt32) (bQ : Int) (dU : Int) (mz : List UInt8) (hY : List UInt8) (xz : List UInt8) (iT : Bool) (iq : ag UInt64 16) (kL : Bool) (pw : UInt64) (px : UInt64) (mA : List UInt8) (gj : UInt64) : Option (ag UInt64 16 × Int × Int × Int × Int × Int × UInt32 × UInt64 × UInt32 × Int × Int × Bool × ag UInt64 16 × Bool × UInt64 × UInt64 × List UInt8 × UInt64) :=
  if kL = true then (some (iq, gO, cT, fT, cU, dT, eR, cV, fU, bQ, dU, iT, iq, kL, pw, px, mA, gj)) else ((ep gO cT fT cU dT eR cV fU bQ dU mz hY).bind fun r_ => if gO = 1 then ((nQ r_.1).bind fun aE => aP (ir gO cT fT cU dT eR cV fU bQ dU iT iq kL pw px mA gj aE) ((ag.rep 16 (0 : UInt64)), (0 : Int))) else ((nR r_.1).bind fun bz => aP (iu gO cT fT cU dT eR cV fU bQ dU iT iq kL pw px mA gj bz) ((ag.rep 16 (0 : UInt64)), (0 : Int))))
noncomputable def mB (lo : UInt64) (hi : UInt64) (n : UInt64) : Option (UInt64 × UInt64 × Bool) :=
  if lo ≤ (lo + n) then (some (lo + n, hi, false)) else (some (lo + n, hi + 1, decide ((hi + 1) = 0)))
noncomputable def qd (i : Int) (MK : List UInt8) : Option ((List UInt8 × Int) ⊕ (List UInt8)) :=
  some (.inl (MK, aA (i + 1)))
noncomputable def mX (out : List UInt8) (i : Int) (c2 : UInt8) : Option ((List UInt8 × Int) ⊕ (List UInt8)) :=
  (app out ([c2] : List UInt8) 1).bind fun ML => qd i ML
noncomputable def kT (b : List UInt8) (at_ : Int) (size : Int) : (List UInt8 × Int) → Option ((List UInt8 × Int) ⊕ (List UInt8))
  | (out, i) => if i < size then (if (aA (at_ + i)) < ((b.length : Nat) : Int) then ((an b (aA (at_ + i))).bind fun av => mX out i av) else (mX out i (0 : UInt8))) else (Option.map Sum.inr (some out))
noncomputable def oF (b : List UInt8) (at_ : Int) (size : Int) : Option (List UInt8) :=
  aP (kT b at_ size) (([] : List UInt8), (0 : Int))
noncomputable def lq (b : List UInt8) : (ag UInt64 16 × Int) → Option ((ag UInt64 16 × Int) ⊕ (ag UInt64 16 × Int))
  | (m_, i) => if i < 16 then ((ll b (aA (8 * i)) (8 : Int)).bind fun r_ => (an m_.l i).bind fun av => (some (da m_ i r_.1)).bind fun v => some (.inl (v, aA (i + 1)))) else (Option.map Sum.inr (some (m_, (0 : Int))))
noncomputable def nS (b : List UInt8) : Option (ag UInt64 16 × Int) :=
  if ((b.length : Nat) : Int) ≠ 128 then (some ((ag.rep 16 (0 : UInt64)), (1 : Int))) else (aP (lq b) ((ag.rep 16 (0 : UInt64)), (0 : Int)))
noncomputable def o2 (v7 : ag UInt64 16) : Option (ag UInt64 16) :=
  some v7
noncomputable def o3 (node : Bool) (v5 : ag UInt64 16) : Option (ag UInt64 16) :=
  if node = true then ((an v5.l (15 : Int)).bind fun lb => (an v5.l (15 : Int)).bind fun eM => (some (da v5 (15 : Int) (18446744073709551615 ^^^ lb))).bind fun v8 => o2 v8) else (o2 v5)
noncomputable def o4 (h : ag UInt64 8) (lo : UInt64) (hi : UInt64) (last : Bool) (node : Bool) : (ag UInt64 16 × Int) → Option ((ag UInt64 16 × Int) ⊕ (ag UInt64 16))
  | (v, i) => if i < 8 then ((an h.l i).bind fun av => (an v.l i).bind fun ew => (some (da v i av)).bind fun v1 => (td i).bind fun r_ => (an v1.l (aA (i + 8))).bind fun bk => (some (da v1 (aA (i + 8)) r_)).bind fun v2 => some (.inl (v2, aA (i + 1)))) else (Option.map Sum.inr ((an v.l (12 : Int)).bind fun dQ => (an v.l (12 : Int)).bind fun cY => (some (da v (12 : Int) (dQ ^^^ lo))).bind fun v3 => (an v3.l (13 : Int)).bind fun cC => (an v3.l (13 : Int)).bind fun gq => (some (da v3 (13 : Int) (cC ^^^ hi))).bind fun v4 => if last = true then ((an v4.l (14 : Int)).bind fun gd => (an v4.l (14 : Int)).bind fun kF => (some (da v4 (14 : Int) (18446744073709551615 ^^^ gd))).bind fun v6 => o3 node v6) else (o3 node v4)))
noncomputable def py (h : ag UInt64 8) (lo : UInt64) (hi : UInt64) (last : Bool) (node : Bool) : Option (ag UInt64 16) :=
  aP (o4 h lo hi last node) ((ag.rep 16 (0 : UInt64)), (0 : Int))
noncomputable def qf (i : Int) : Option (ag Int 4) :=
  (an (⟨[(⟨[(0 : Int), (4 : Int), (8 : Int), (12 : Int)], rfl⟩ : ag Int 4), (⟨[(1 : Int), (5 : Int), (9 : Int), (13 : Int)], rfl⟩ : ag Int 4), (⟨[(2 : Int), (6 : Int), (10 : Int), (14 : Int)], rfl⟩ : ag Int 4), (⟨[(3 : Int), (7 : Int), (11 : Int), (15 : Int)], rfl⟩ : ag Int 4), (⟨[(0 : Int), (5 : Int), (10 : Int), (15 : Int)], rfl⟩ : ag Int 4), (⟨[(1 : Int), (6 : Int), (11 : Int), (12 : Int)], rfl⟩ : ag Int 4), (⟨[(2 : Int), (7 : Int), (8 : Int), (13 : Int)], rfl⟩ : ag Int 4), (⟨[(3 : Int), (4 : Int), (9 : Int), (14 : Int)], rfl⟩ : ag Int 4)], rfl⟩ : ag (ag Int 4) 8).l (Int.tmod i 8)).bind fun av => some av
noncomputable def o5 (r_ : Int) : Option Int :=
  some r_
noncomputable def te (n : Int) (m_ : Int) : Option Int :=
  (la (m_ ≠ 0)).bind fun u => if (Int.tmod n m_) < 0 then (o5 (aA ((Int.tmod n m_) + m_))) else (o5 (Int.tmod n m_))
noncomputable def xA (c : UInt8) : Option Int :=
  if ((decide ((48 : UInt8) ≤ c)) && (decide (c ≤ 57))) = true then (some ((c - 48).toNat : Int)) else (if ((decide ((97 : UInt8) ≤ c)) && (decide (c ≤ 102))) = true then (some (aA (((c - 97).toNat : Int) + 10))) else (if ((decide ((65 : UInt8) ≤ c)) && (decide (c ≤ 70))) = true then (some (aA (((c - 65).toNat : Int) + 10))) else (some (-1 : Int))))
noncomputable def kj (round : Int) (i : Int) : Option Int :=
  (te round (10 : Int)).bind fun r_ => (an ([48, 49, 50, 51, 52, 53, 54, 55, 56, 57, 97, 98, 99, 100, 101, 102, 101, 97, 52, 56, 57, 102, 100, 54, 49, 99, 48, 50, 98, 55, 53, 51, 98, 56, 99, 48, 53, 50, 102, 100, 97, 101, 51, 54, 55, 49, 57, 52, 55, 57, 51, 49, 100, 99, 98, 101, 50, 54, 53, 97, 52, 48, 102, 56, 57, 48, 53, 55, 50, 52, 97, 102, 101, 49, 98, 99, 54, 56, 51, 100, 50, 99, 54, 97, 48, 98, 56, 51, 52, 100, 55, 53, 102, 101, 49, 57, 99, 53, 49, 102, 101, 100, 52, 97, 48, 55, 54, 51, 57, 50, 56, 98, 100, 98, 55, 101, 99, 49, 51, 57, 53, 48, 102, 52, 56, 54, 50, 97, 54, 102, 101, 57, 98, 51, 48, 56, 99, 50, 100, 55, 49, 52, 97, 53, 97, 50, 56, 52, 55, 54, 49, 53, 102, 98, 57, 101, 51, 99, 100, 48] : List UInt8) (aA ((aA (16 * r_)) + i))).bind fun c => (xA c).bind fun aE => some aE
noncomputable def ja (a_ : Int) : Option Bool :=
  some ((decide (0 ≤ a_)) && (decide (a_ ≤ 15)))
noncomputable def fE (w_ : UInt64) (n : Int) : Option UInt64 :=
  (te n (64 : Int)).bind fun r_ => if r_ = 0 then (some w_) else ((la (0 ≤ r_)).bind fun u => (la (0 ≤ aA (64 - r_))).bind fun u1 => some ((dz w_ (Int.toNat r_)) ||| (gl w_ (Int.toNat (aA (64 - r_))))))
noncomputable def vT (v : ag UInt64 16) (a_ : Int) (b : Int) (c : Int) (d : Int) (x_ : UInt64) (y_ : UInt64) : Option (ag UInt64 16 × Int) :=
  (ja a_).bind fun r_ => if (!r_) = true then (some ((ag.rep 16 ((0 : UInt64) : UInt64)), (1 : Int))) else ((ja b).bind fun aE => if (!aE) = true then (some ((ag.rep 16 ((0 : UInt64) : UInt64)), (1 : Int))) else ((ja c).bind fun bz => if (!bz) = true then (some ((ag.rep 16 ((0 : UInt64) : UInt64)), (1 : Int))) else ((ja d).bind fun dy => if (((((((!dy) || (decide (a_ = b))) || (decide (a_ = c))) || (decide (a_ = d))) || (decide (b = c))) || (decide (b = d))) || (decide (c = d))) = true then (some ((ag.rep 16 ((0 : UInt64) : UInt64)), (1 : Int))) else ((an v.l a_).bind fun dQ => (an v.l b).bind fun cY => (an v.l a_).bind fun cC => (some (da v a_ ((dQ + cY) + x_))).bind fun v1 => (an v1.l d).bind fun gq => (an v1.l a_).bind fun gd => (fE (gq ^^^ gd) (32 : Int)).bind fun fu => (an v1.l d).bind fun kF => (some (da v1 d fu)).bind fun v2 => (an v2.l c).bind fun lb => (an v2.l d).bind fun eM => (an v2.l c).bind fun bX => (some (da v2 c (lb + eM))).bind fun v3 => (an v3.l b).bind fun pr => (an v3.l c).bind fun rU => (fE (pr ^^^ rU) (24 : Int)).bind fun dj => (an v3.l b).bind fun tX => (some (da v3 b dj)).bind fun v4 => (an v4.l a_).bind fun oS => (an v4.l b).bind fun tY => (an v4.l a_).bind fun vQ => (some (da v4 a_ ((oS + tY) + y_))).bind fun v5 => (an v5.l d).bind fun oT => (an v5.l a_).bind fun qa => (fE (oT ^^^ qa) (16 : Int)).bind fun gH => (an v5.l d).bind fun tc => (some (da v5 d gH)).bind fun v6 => (an v6.l c).bind fun oU => (an v6.l d).bind fun tZ => (an v6.l c).bind fun vR => (some (da v6 c (oU + tZ))).bind fun v7 => (an v7.l b).bind fun pv => (an v7.l c).bind fun rV => (fE (pv ^^^ rV) (63 : Int)).bind fun ie => (an v7.l b).bind fun Hu => (some (da v7 b ie)).bind fun v8 => some (v8, (0 : Int))))))
noncomputable def nT (m_ : ag UInt64 16) (round : Int) : (ag UInt64 16 × Int) → Option ((ag UInt64 16 × Int) ⊕ (ag UInt64 16 × Int))
  | (v1, i) => if i < 8 then ((qf i).bind fun r_ => (an r_.l (0 : Int)).bind fun av => (an r_.l (1 : Int)).bind fun bk => (an r_.l (2 : Int)).bind fun dQ => (an r_.l (3 : Int)).bind fun cY => (kj round (aA (2 * i))).bind fun aE => (an m_.l aE).bind fun cC => (kj round (aA ((aA (2 * i)) + 1))).bind fun bz => (an m_.l bz).bind fun gq => (vT v1 av bk dQ cY cC gq).bind fun dy => some (.inl (dy.1, aA (i + 1)))) else (Option.map Sum.inr (some (v1, (0 : Int))))
noncomputable def nU (v : ag UInt64 16) (m_ : ag UInt64 16) (round : Int) : Option (ag UInt64 16 × Int) :=
  if ((decide (round < 0)) || (decide (11 < round))) = true then (some ((ag.rep 16 ((0 : UInt64) : UInt64)), (1 : Int))) else (aP (nT m_ round) (v, (0 : Int)))
noncomputable def pz (v : ag UInt64 16) : (ag UInt64 8 × Int) → Option ((ag UInt64 8 × Int) ⊕ (ag UInt64 8))
  | (h1, i) => if i < 8 then ((an h1.l i).bind fun av => (an v.l i).bind fun ew => (an v.l (aA (i + 8))).bind fun bk => (an h1.l i).bind fun dQ => (some (da h1 i ((av ^^^ ew) ^^^ bk))).bind fun v1 => some (.inl (v1, aA (i + 1)))) else (Option.map Sum.inr (some h1))
noncomputable def pA (h : ag UInt64 8) (m_ : ag UInt64 16) : (ag UInt64 16 × Int) → Option ((ag UInt64 16 × Int) ⊕ (ag UInt64 8))
  | (v, aE) => if aE < 12 then ((nU v m_ aE).bind fun bz => some (.inl (bz.1, aA (aE + 1)))) else (Option.map Sum.inr (aP (pz v) (h, (0 : Int))))
noncomputable def vU (h : ag UInt64 8) (m_ : ag UInt64 16) (lo : UInt64) (hi : UInt64) (last : Bool) (node : Bool) : Option (ag UInt64 8) :=
  (py h lo hi last node).bind fun r_ => aP (pA h m_) (r_, (0 : Int))
noncomputable def lr (b : List UInt8) : (ag UInt32 16 × Int) → Option ((ag UInt32 16 × Int) ⊕ (ag UInt32 16 × Int))
  | (m_, i) => if i < 16 then ((mW b (aA (4 * i))).bind fun r_ => (an m_.l i).bind fun av => (some (da m_ i r_)).bind fun v => some (.inl (v, aA (i + 1)))) else (Option.map Sum.inr (some (m_, (0 : Int))))
noncomputable def nV (b : List UInt8) : Option (ag UInt32 16 × Int) :=
  if ((b.length : Nat) : Int) < 64 then (some ((ag.rep 16 (0 : UInt32)), (3 : Int))) else (if 64 < ((b.length : Nat) : Int) then (some ((ag.rep 16 (0 : UInt32)), (2 : Int))) else (aP (lr b) ((ag.rep 16 (0 : UInt32)), (0 : Int))))
noncomputable def lu (v7 : ag UInt32 16) : Option (ag UInt32 16) :=
  some v7
noncomputable def lv (node : Bool) (v5 : ag UInt32 16) : Option (ag UInt32 16) :=
  if node = true then ((an v5.l (15 : Int)).bind fun eM => (an v5.l (15 : Int)).bind fun bX => (some (da v5 (15 : Int) (eM ^^^ 4294967295))).bind fun v8 => lu v8) else (lu v5)
noncomputable def lx (h : ag UInt32 8) (count : UInt64) (last : Bool) (node : Bool) (r_ : (ag UInt32 8)) : (ag UInt32 16 × Int) → Option ((ag UInt32 16 × Int) ⊕ (ag UInt32 16))
  | (v, i) => if i < 8 then ((an h.l i).bind fun av => (an v.l i).bind fun ew => (some (da v i av)).bind fun v1 => (an r_.l i).bind fun bk => (an v1.l (aA (i + 8))).bind fun dQ => (some (da v1 (aA (i + 8)) bk)).bind fun v2 => some (.inl (v2, aA (i + 1)))) else (Option.map Sum.inr ((an v.l (12 : Int)).bind fun cY => (an v.l (12 : Int)).bind fun cC => (some (da v (12 : Int) (cY ^^^ (UInt32.ofNat count.toNat)))).bind fun v3 => (an v3.l (13 : Int)).bind fun gq => (an v3.l (13 : Int)).bind fun gd => (some (da v3 (13 : Int) (gq ^^^ (UInt32.ofNat (dz count ((32 : UInt64).toNat)).toNat)))).bind fun v4 => if last = true then ((an v4.l (14 : Int)).bind fun kF => (an v4.l (14 : Int)).bind fun lb => (some (da v4 (14 : Int) (kF ^^^ 4294967295))).bind fun v6 => lv node v6) else (lv node v4)))
noncomputable def nW (h : ag UInt32 8) (count : UInt64) (last : Bool) (node : Bool) : Option (ag UInt32 16) :=
  (qb).bind fun r_ => aP (lx h count last node r_) ((ag.rep 16 (0 : UInt32)), (0 : Int))
noncomputable def tg (i : Int) : Option (Int × Int × Int × Int) :=
  if i < 4 then (some (i, aA (i + 4), aA (i + 8), aA (i + 12))) else (some (aA (i - 4), aA (4 + (Int.tmod (aA ((aA (i - 4)) + 1)) 4)), aA (8 + (Int.tmod (aA ((aA (i - 4)) + 2)) 4)), aA (12 + (Int.tmod (aA ((aA (i - 4)) + 3)) 4))))
noncomputable def kH (a_ : Int) (b : Int) (c : Int) (d : Int) (i : Int) : Int → Option (Int ⊕ (Int ⊕ Bool))
  | j => if j < i then ((an ([a_, b, c, d] : List Int) i).bind fun bk => (an ([a_, b, c, d] : List Int) j).bind fun dQ => if bk = dQ then (Option.map Sum.inr (Option.map Sum.inr (some false))) else (some (.inl (aA (j + 1))))) else (Option.map Sum.inr (some (.inl (aA (i + 1)))))
noncomputable def ns (a_ : Int) (b : Int) (c : Int) (d : Int) : Int → Option (Int ⊕ Bool)
  | i => if i < 4 then ((an ([a_, b, c, d] : List Int) i).bind fun av => (I8 (!(decide (av < 0))) (an ([a_, b, c, d] : List Int) i)).bind fun ew => if ((decide (av < 0)) || (decide (15 < ew))) = true then (Option.map Sum.inr (some false)) else (aP (kH a_ b c d i) (0 : Int))) else (Option.map Sum.inr (some true))
noncomputable def mY (a_ : Int) (b : Int) (c : Int) (d : Int) : Option Bool :=
  aP (ns a_ b c d) (0 : Int)
noncomputable def gP (x_ : UInt32) (r_ : Int) : Option UInt32 :=
  some ((eD x_ ((UInt64.ofInt r_).toNat)) ||| (kJ x_ ((UInt64.ofInt (aA (32 - r_))).toNat)))
noncomputable def vV (v : ag UInt32 16) (a_ : Int) (b : Int) (c : Int) (d : Int) (x_ : UInt32) (y_ : UInt32) : Option (ag UInt32 16 × Int) :=
  (mY a_ b c d).bind fun r_ => if (!r_) = true then (some ((ag.rep 16 ((0 : UInt32) : UInt32)), (1 : Int))) else ((an v.l a_).bind fun dQ => (an v.l b).bind fun cY => (an v.l a_).bind fun cC => (some (da v a_ ((dQ + cY) + x_))).bind fun v1 => (an v1.l d).bind fun gq => (an v1.l a_).bind fun gd => (gP (gq ^^^ gd) (16 : Int)).bind fun aE => (an v1.l d).bind fun kF => (some (da v1 d aE)).bind fun v2 => (an v2.l c).bind fun lb => (an v2.l d).bind fun eM => (an v2.l c).bind fun bX => (some (da v2 c (lb + eM))).bind fun v3 => (an v3.l b).bind fun pr => (an v3.l c).bind fun rU => (gP (pr ^^^ rU) (12 : Int)).bind fun bz => (an v3.l b).bind fun tX => (some (da v3 b bz)).bind fun v4 => (an v4.l a_).bind fun oS => (an v4.l b).bind fun tY => (an v4.l a_).bind fun vQ => (some (da v4 a_ ((oS + tY) + y_))).bind fun v5 => (an v5.l d).bind fun oT => (an v5.l a_).bind fun qa => (gP (oT ^^^ qa) (8 : Int)).bind fun dy => (an v5.l d).bind fun tc => (some (da v5 d dy)).bind fun v6 => (an v6.l c).bind fun oU => (an v6.l d).bind fun tZ => (an v6.l c).bind fun vR => (some (da v6 c (oU + tZ))).bind fun v7 => (an v7.l b).bind fun pv => (an v7.l c).bind fun rV => (gP (pv ^^^ rV) (7 : Int)).bind fun fu => (an v7.l b).bind fun Hu => (some (da v7 b fu)).bind fun v8 => some (v8, (0 : Int)))
noncomputable def nX (m_ : ag UInt32 16) (r_ : Int) : (ag UInt32 16 × Int) → Option ((ag UInt32 16 × Int) ⊕ (ag UInt32 16 × Int))
  | (v1, i) => if i < 8 then ((tg i).bind fun aE => (kj r_ (aA (2 * i))).bind fun bz => (an m_.l bz).bind fun av => (kj r_ (aA ((aA (2 * i)) + 1))).bind fun dy => (an m_.l dy).bind fun bk => (vV v1 aE.1 aE.2.1 aE.2.2.1 aE.2.2.2 av bk).bind fun fu => some (.inl (fu.1, aA (i + 1)))) else (Option.map Sum.inr (some (v1, (0 : Int))))
noncomputable def nY (v : ag UInt32 16) (m_ : ag UInt32 16) (r_ : Int) : Option (ag UInt32 16 × Int) :=
  if ((decide (r_ < 0)) || (decide (9 < r_))) = true then (some ((ag.rep 16 ((0 : UInt32) : UInt32)), (1 : Int))) else (aP (nX m_ r_) (v, (0 : Int)))
noncomputable def qg (v : ag UInt32 16) : (ag UInt32 8 × Int) → Option ((ag UInt32 8 × Int) ⊕ (ag UInt32 8))
  | (h1, i) => if i < 8 then ((an h1.l i).bind fun av => (an v.l i).bind fun ew => (an v.l (aA (i + 8))).bind fun bk => (an h1.l i).bind fun dQ => (some (da h1 i ((av ^^^ ew) ^^^ bk))).bind fun v1 => some (.inl (v1, aA (i + 1)))) else (Option.map Sum.inr (some h1))
noncomputable def ra (h : ag UInt32 8) (v : ag UInt32 16) : Option (ag UInt32 8) :=
  aP (qg v) (h, (0 : Int))
noncomputable def pB (h : ag UInt32 8) (m_ : ag UInt32 16) : (ag UInt32 16 × Int) → Option ((ag UInt32 16 × Int) ⊕ (ag UInt32 8))
  | (v, aE) => if aE < 10 then ((nY v m_ aE).bind fun bz => some (.inl (bz.1, aA (aE + 1)))) else (Option.map Sum.inr ((ra h v).bind fun dy => some dy))
noncomputable def vW (h : ag UInt32 8) (m_ : ag UInt32 16) (count : UInt64) (last : Bool) (node : Bool) : Option (ag UInt32 8) :=
  (nW h count last node).bind fun r_ => aP (pB h m_) (r_, (0 : Int))
noncomputable def lV (aE : (ag UInt64 8)) : (ag UInt64 16 × Int) → Option ((ag UInt64 16 × Int) ⊕ (ag UInt64 16))
  | (h1, i1) => if i1 < 8 then ((an aE.l i1).bind fun bk => (an h1.l i1).bind fun dQ => (some (da h1 i1 bk)).bind fun v1 => some (.inl (v1, aA (i1 + 1)))) else (Option.map Sum.inr (some h1))
noncomputable def nZ (h : ag UInt64 16) (b : List UInt8) (lo : UInt64) (hi : UInt64) (last : Bool) (node : Bool) : (ag UInt64 8 × Int) → Option ((ag UInt64 8 × Int) ⊕ (ag UInt64 16))
  | (s_, i) => if i < 8 then ((an h.l i).bind fun av => (an s_.l i).bind fun ew => (some (da s_ i av)).bind fun v => some (.inl (v, aA (i + 1)))) else (Option.map Sum.inr ((nS b).bind fun r_ => (vU s_ r_.1 lo hi last node).bind fun aE => aP (lV aE) (h, (0 : Int))))
noncomputable def lW (dy : (ag UInt32 8)) : (ag UInt64 16 × Int) → Option ((ag UInt64 16 × Int) ⊕ (ag UInt64 16))
  | (h2, i3) => if i3 < 8 then ((an dy.l i3).bind fun gq => (an h2.l i3).bind fun gd => (some (da h2 i3 (UInt64.ofNat gq.toNat))).bind fun v3 => some (.inl (v3, aA (i3 + 1)))) else (Option.map Sum.inr (some h2))
noncomputable def n6 (h : ag UInt64 16) (b : List UInt8) (lo : UInt64) (last : Bool) (node : Bool) : (ag UInt32 8 × Int) → Option ((ag UInt32 8 × Int) ⊕ (ag UInt64 16))
  | (ma, i2) => if i2 < 8 then ((an h.l i2).bind fun cY => (an ma.l i2).bind fun cC => (some (da ma i2 (UInt32.ofNat cY.toNat))).bind fun v2 => some (.inl (v2, aA (i2 + 1)))) else (Option.map Sum.inr ((nV b).bind fun bz => (vW ma bz.1 lo last node).bind fun dy => aP (lW dy) (h, (0 : Int))))
noncomputable def ly (kind : Int) (h : ag UInt64 16) (b : List UInt8) (lo : UInt64) (hi : UInt64) (last : Bool) (node : Bool) : Option (ag UInt64 16) :=
  if kind = 1 then (aP (nZ h b lo hi last node) ((ag.rep 8 (0 : UInt64)), (0 : Int))) else (aP (n6 h b lo last node) ((ag.rep 8 (0 : UInt32)), (0 : Int)))
noncomputable def ko (r_ : (ag UInt64 16 × Int × Int × Int × Int × Int × UInt32 × UInt64 × UInt32 × Int × Int × Bool × ag UInt64 16 × Bool × UInt64 × UInt64 × List UInt8 × UInt64)) (aE : Int) : (ag UInt64 16 × UInt64 × UInt64 × Int) → Option ((ag UInt64 16 × UInt64 × UInt64 × Int) ⊕ (ag UInt64 16 × UInt64 × UInt64 × Int × Int × Int × Int × Int × Int × UInt32 × UInt64 × UInt32 × Int × Int × Bool × ag UInt64 16 × Bool × UInt64 × UInt64 × List UInt8 × UInt64))
  | (h, lo, hi, at_) => if (aA (at_ + aE)) < ((r_.2.2.2.2.2.2.2.2.2.2.2.2.2.2.2.2.1.length : Nat) : Int) then ((mB lo hi (UInt64.ofInt aE)).bind fun bz => (oF r_.2.2.2.2.2.2.2.2.2.2.2.2.2.2.2.2.1 at_ aE).bind fun dy => (ly r_.2.1 h dy bz.1 bz.2.1 false false).bind fun fu => some (.inl (fu, bz.1, bz.2.1, aA (at_ + aE)))) else (Option.map Sum.inr (some (h, lo, hi, at_, r_.2.1, r_.2.2.1, r_.2.2.2.1, r_.2.2.2.2.1, r_.2.2.2.2.2.1, r_.2.2.2.2.2.2.1, r_.2.2.2.2.2.2.2.1, r_.2.2.2.2.2.2.2.2.1, r_.2.2.2.2.2.2.2.2.2.1, r_.2.2.2.2.2.2.2.2.2.2.1, r_.2.2.2.2.2.2.2.2.2.2.2.1, r_.2.2.2.2.2.2.2.2.2.2.2.2.1, r_.2.2.2.2.2.2.2.2.2.2.2.2.2.1, r_.2.2.2.2.2.2.2.2.2.2.2.2.2.2.1, r_.2.2.2.2.2.2.2.2.2.2.2.2.2.2.2.1, r_.2.2.2.2.2.2.2.2.2.2.2.2.2.2.2.2.1, r_.2.2.2.2.2.2.2.2.2.2.2.2.2.2.2.2.2)))
noncomputable def jA (gO : Int) (cT : Int) (fT : Int) (cU : Int) (dT : Int) (eR : UInt32) (cV : UInt64) (fU : UInt32) (bQ : Int) (dU : Int) (mz : List UInt8) (hY : List UInt8) (xz : List UInt8) (iT : Bool) (iq : ag UInt64 16) (kL : Bool) (pw : UInt64) (px : UInt64) (mA : List UInt8) (gj : UInt64) : Option (ag UInt64 16 × UInt64 × UInt64 × Int × Int × Int × Int × Int × Int × UInt32 × UInt64 × UInt32 × Int × Int × Bool × ag UInt64 16 × Bool × UInt64 × UInt64 × List UInt8 × UInt64) :=
  (fe gO cT fT cU dT eR cV fU bQ dU mz hY xz iT iq kL pw px mA gj).bind fun r_ => (ki r_.2.1).bind fun aE => aP (ko r_ aE) (r_.1, r_.2.2.2.2.2.2.2.2.2.2.2.2.2.2.1, r_.2.2.2.2.2.2.2.2.2.2.2.2.2.2.2.1, (0 : Int))
noncomputable def n8 (n : Int) : (UInt64 × List UInt8 × Int) → Option ((UInt64 × List UInt8 × Int) ⊕ (List UInt8))
  | (jh, b, i) => if i < n then ((app b ([UInt8.ofNat (jh % 256).toNat] : List UInt8) 1).bind fun b1 => some (.inl (jh / 256, b1, aA (i + 1)))) else (Option.map Sum.inr (some b))
noncomputable def n9 (w_ : UInt64) (n : Int) : Option (List UInt8) :=
  aP (n8 n) (w_, ([] : List UInt8), (0 : Int))
noncomputable def lz (kind : Int) (h : ag UInt64 16) : (List UInt8 × Int) → Option ((List UInt8 × Int) ⊕ (List UInt8))
  | (b, i) => if i < 8 then ((an h.l i).bind fun av => (jT kind).bind fun r_ => (n9 av (aA (Int.tdiv r_ 8))).bind fun aE => (app b aE 1).bind fun b1 => some (.inl (b1, aA (i + 1)))) else (Option.map Sum.inr (some b))
noncomputable def jb (kind : Int) (h : ag UInt64 16) : Option (List UInt8) :=
  aP (lz kind h) (([] : List UInt8), (0 : Int))
noncomputable def lA (gO : Int) (cT : Int) (fT : Int) (cU : Int) (dT : Int) (eR : UInt32) (cV : UInt64) (fU : UInt32) (bQ : Int) (dU : Int) (mz : List UInt8) (hY : List UInt8) (xz : List UInt8) (iT : Bool) (iq : ag UInt64 16) (kL : Bool) (pw : UInt64) (px : UInt64) (mA : List UInt8) (gj : UInt64) : Option (List UInt8 × Int × Int × Int × Int × Int × UInt32 × UInt64 × UInt32 × Int × Int × Bool × ag UInt64 16 × Bool × UInt64 × UInt64 × List UInt8 × UInt64) :=
  (jA gO cT fT cU dT eR cV fU bQ dU mz hY xz iT iq kL pw px mA gj).bind fun r_ => (mB r_.2.1 r_.2.2.1 (UInt64.ofInt (aA (((r_.2.2.2.2.2.2.2.2.2.2.2.2.2.2.2.2.2.2.2.1.length : Nat) : Int) - r_.2.2.2.1)))).bind fun aE => (ki r_.2.2.2.2.1).bind fun bz => (oF r_.2.2.2.2.2.2.2.2.2.2.2.2.2.2.2.2.2.2.2.1 r_.2.2.2.1 bz).bind fun dy => (ly r_.2.2.2.2.1 r_.1 dy aE.1 aE.2.1 true r_.2.2.2.2.2.2.2.2.2.2.2.2.2.2.1).bind fun fu => (jb r_.2.2.2.2.1 fu).bind fun dj => some (dj, r_.2.2.2.2.1, r_.2.2.2.2.2.1, r_.2.2.2.2.2.2.1, r_.2.2.2.2.2.2.2.1, r_.2.2.2.2.2.2.2.2.1, r_.2.2.2.2.2.2.2.2.2.1, r_.2.2.2.2.2.2.2.2.2.2.1, r_.2.2.2.2.2.2.2.2.2.2.2.1, r_.2.2.2.2.2.2.2.2.2.2.2.2.1, r_.2.2.2.2.2.2.2.2.2.2.2.2.2.1, r_.2.2.2.2.2.2.2.2.2.2.2.2.2.2.1, r_.2.2.2.2.2.2.2.2.2.2.2.2.2.2.2.1, r_.2.2.2.2.2.2.2.2.2.2.2.2.2.2.2.2.1, r_.2.2.2.2.2.2.2.2.2.2.2.2.2.2.2.2.2.1, r_.2.2.2.2.2.2.2.2.2.2.2.2.2.2.2.2.2.2.1, r_.2.2.2.2.2.2.2.2.2.2.2.2.2.2.2.2.2.2.2.1, r_.2.2.2.2.2.2.2.2.2.2.2.2.2.2.2.2.2.2.2.2)
noncomputable def mZ (kind : Int) (ay : Int) (bg : Int) (aB : Int) (aJ : Int) (a8 : UInt32) (au : UInt64) (aS : UInt32) (ai : Int) (aF : Int) (aM : List UInt8) (ah : List UInt8) (key : List UInt8) (last : Bool) (out : Int) (data : List UInt8) : Option (List UInt8 × Int) :=
  (uJ kind ay bg aB aJ a8 au aS ai aF aM ah key).bind fun r_ => (Sum.elim (fun aE => if aE ≠ 0 then (some (([] : List UInt8), aE)) else (if out < 1 then (some (([] : List UInt8), (1 : Int))) else ((jT kind).bind fun dy => if dy < out then (some (([] : List UInt8), (1 : Int))) else none))) (fun bz => if 0 ≠ 0 then (some (([] : List UInt8), (0 : Int))) else (if out < 1 then (some (([] : List UInt8), (1 : Int))) else ((jT kind).bind fun fu => if fu < out then (some (([] : List UInt8), (1 : Int))) else ((jU bz.1 bz.2.1 bz.2.2.1 bz.2.2.2.1 bz.2.2.2.2.1 bz.2.2.2.2.2.1 bz.2.2.2.2.2.2.1 bz.2.2.2.2.2.2.2.1 bz.2.2.2.2.2.2.2.2.1 bz.2.2.2.2.2.2.2.2.2.1 aM ah key last bz.2.2.2.2.2.2.2.2.2.2.1 false (0 : UInt64) (0 : UInt64) bz.2.2.2.2.2.2.2.2.2.2.2 (0 : UInt64) data).bind fun dj => (lA dj.1 dj.2.1 dj.2.2.1 dj.2.2.2.1 dj.2.2.2.2.1 dj.2.2.2.2.2.1 dj.2.2.2.2.2.2.1 dj.2.2.2.2.2.2.2.1 dj.2.2.2.2.2.2.2.2.1 dj.2.2.2.2.2.2.2.2.2.1 aM ah key dj.2.2.2.2.2.2.2.2.2.2.1 dj.2.2.2.2.2.2.2.2.2.2.2.1 dj.2.2.2.2.2.2.2.2.2.2.2.2.1 dj.2.2.2.2.2.2.2.2.2.2.2.2.2.1 dj.2.2.2.2.2.2.2.2.2.2.2.2.2.2.1 dj.2.2.2.2.2.2.2.2.2.2.2.2.2.2.2.1 dj.2.2.2.2.2.2.2.2.2.2.2.2.2.2.2.2).bind fun gH => (rG gH.1 0 out).bind fun b => some (b, (0 : Int))))))) r_
noncomputable def j1 (a_ : List UInt8) (b : List UInt8) : Int → Option (Int ⊕ Bool)
  | i => if i < ((a_.length : Nat) : Int) then ((an a_ i).bind fun av => (an b i).bind fun ew => if av ≠ ew then (Option.map Sum.inr (some false)) else (some (.inl (aA (i + 1))))) else (Option.map Sum.inr (some true))
noncomputable def lB (a_ : List UInt8) (b : List UInt8) : Option Bool :=
  if ((a_.length : Nat) : Int) ≠ ((b.length : Nat) : Int) then (some false) else (aP (j1 a_ b) (0 : Int))
noncomputable def th (b : List UInt8) : (List (List UInt8) × Int) → Option ((List (List UInt8) × Int) ⊕ (List (List UInt8) × Int × Int))
  | (parts, at_) => if at_ < ((b.length : Nat) : Int) then ((eY b at_).bind fun r_ => if r_.2 ≠ 0 then (Option.map Sum.inr (some (([] : List (List UInt8)), at_, (4 : Int)))) else (if (UInt64.ofInt (aA (((b.length : Nat) : Int) - (aA (at_ + 8))))) < r_.1 then (Option.map Sum.inr (some (([] : List (List UInt8)), aA (at_ + 8), (4 : Int)))) else ((rG b (aA (at_ + 8)) (aA ((aA (at_ + 8)) + (aA r_.1.toNat)))).bind fun b1 => (app ([] : List UInt8) b1 1).bind fun b2 => (app parts ([b2] : List (List UInt8)) 24).bind fun Hv => some (.inl (Hv, aA ((aA (at_ + 8)) + (aA r_.1.toNat))))))) else (Option.map Sum.inr (some (parts, (0 : Int), (0 : Int))))
noncomputable def Gf (b : List UInt8) : Option (List (List UInt8) × Int × Int) :=
  if 16777216 < ((b.length : Nat) : Int) then (some (([] : List (List UInt8)), (0 : Int), (2 : Int))) else (aP (th b) (([] : List (List UInt8)), (0 : Int)))
noncomputable def jB (b : List UInt8) : Option (List UInt8) :=
  (app ([] : List UInt8) b 1).bind fun b1 => some b1
noncomputable def eG (av : Int) (l1 : List (List UInt8)) (pC : Int) (yU : UInt64) : Option ((List (List UInt8) × Int × UInt64 × Int) ⊕ (List (List UInt8) × Int)) :=
  some (.inl (l1, pC, yU, aA (av + 1)))
noncomputable def dM (data : List UInt8) : (List (List UInt8) × Int × UInt64 × Int) → Option ((List (List UInt8) × Int × UInt64 × Int) ⊕ (List (List UInt8) × Int))
  | (l, from_, sum, av) => if av < ((data.length : Nat) : Int) then ((an data av).bind fun bk => if (((decide ((aA ((aA (av + 1)) - from_)) = 1024)) || ((decide (64 ≤ (aA ((aA (av + 1)) - from_)))) && (decide ((dz ((gl sum ((1 : UInt64).toNat)) + (((UInt64.ofNat bk.toNat) + 1) * 11400714819323198485)) ((58 : UInt64).toNat)) = 0)))) || (decide (av = (aA (((data.length : Nat) : Int) - 1))))) = true then ((rG data from_ (aA (av + 1))).bind fun b => (app ([] : List UInt8) b 1).bind fun b1 => (app l ([b1] : List (List UInt8)) 24).bind fun l2 => eG av l2 (aA (av + 1)) (0 : UInt64)) else (eG av l from_ ((gl sum ((1 : UInt64).toNat)) + (((UInt64.ofNat bk.toNat) + 1) * 11400714819323198485)))) else (Option.map Sum.inr (some (l, (0 : Int))))
noncomputable def fY (data : List UInt8) : Option (List (List UInt8) × Int) :=
  if 1048576 < ((data.length : Nat) : Int) then (some (([] : List (List UInt8)), (2 : Int))) else (aP (dM data) (([] : List (List UInt8)), (0 : Int), (0 : UInt64), (0 : Int)))
noncomputable def lC (a_ : List UInt8) (b : List UInt8) : Option Bool :=
  (lB a_ b).bind fun r_ => some r_
noncomputable def kp  : Option Bool :=
  (fY ([(97 : UInt8), (98 : UInt8), (99 : UInt8)] : List UInt8)).bind fun r_ => if ((decide (r_.2 = 0)) && (decide (((r_.1.length : Nat) : Int) = 1))) = true then ((an r_.1 (0 : Int)).bind fun b => (lC b ([(97 : UInt8), (98 : UInt8), (99 : UInt8)] : List UInt8)).bind fun aE => some aE) else (some false)
noncomputable def iU  : Option Unit :=
  some ()
noncomputable def xB (from_ : List UInt8) (to : List UInt8) : Option (List (List UInt8)) :=
  (iU).bind fun r_ => some ([] : List (List UInt8))
noncomputable def zM (snap : List UInt8) : Option Unit :=
  (iU).bind fun r_ => some ()
noncomputable def yr  : Option Unit :=
  (iU).bind fun r_ => some ()
noncomputable def kq (size : Int) : Option (Unit ⊕ (Int × Mp (List UInt8) × (Mp (Mp (Int × List UInt8))))) :=
  if ((decide (size < 1)) || (decide (64 < size))) = true then (some (Sum.inl ())) else (some (Sum.inr (size, ([] : Mp (List UInt8)), ([] : Mp (Mp (Int × List UInt8))))))
noncomputable def gQ (l : List (List UInt8 × List UInt8)) : ((List (List UInt8 × List UInt8)) × (List (List UInt8 × List UInt8)) × Int) → Option (((List (List UInt8 × List UInt8)) × (List (List UInt8 × List UInt8)) × Int) ⊕ ((List (List UInt8 × List UInt8)) × (List (List UInt8 × List UInt8))))
  | (a_, b, av) => if av < ((l.length : Nat) : Int) then ((an l av).bind fun bk => (jB bk.2).bind fun r_ => (app a_ ([((bk.1 : List UInt8), r_)] : List (List UInt8 × List UInt8)) 40).bind fun Lw => (app b ([((bk.1 : List UInt8), bk.2)] : List (List UInt8 × List UInt8)) 40).bind fun b1 => some (.inl (Lw, b1, aA (av + 1)))) else (Option.map Sum.inr (some (a_, b)))
noncomputable def kr (l : List (List UInt8 × List UInt8)) : Option ((List (List UInt8 × List UInt8)) × (List (List UInt8 × List UInt8))) :=
  aP (gQ l) (([] : List (List UInt8 × List UInt8)), ([] : List (List UInt8 × List UInt8)), (0 : Int))
noncomputable def bR (cJ : Int) (af : Mp (List UInt8)) (al : Mp (Mp (Int × List UInt8))) : Option Int :=
  some cJ
noncomputable def ff (s_ : List UInt8) : Int → Option (Int ⊕ Bool)
  | av => if av < (s_.length : Int) then ((an s_ av).bind fun c => (I8 (!(decide (c < 33))) (an s_ av)).bind fun c1 => if ((decide (c < 33)) || (decide ((126 : UInt8) < c1))) = true then (Option.map Sum.inr (some false)) else (some (.inl (aA (av + 1))))) else (Option.map Sum.inr (some true))
noncomputable def fL (s_ : List UInt8) : Option Bool :=
  if ((decide ((s_.length : Int) < 1)) || (decide (64 < (s_.length : Int)))) = true then (some false) else (aP (ff s_) (0 : Int))
noncomputable def ez (cJ : Int) (af : Mp (List UInt8)) (al : Mp (Mp (Int × List UInt8))) (b : List UInt8) : Option (List UInt8 × Int) :=
  (e7 (1 : Int) cJ (0 : Int) (1 : Int) (1 : Int) (0 : UInt32) (0 : UInt64) (0 : UInt32) (0 : Int) (0 : Int) ([] : List UInt8) ([] : List UInt8) ([] : List UInt8) false cJ b).bind fun r_ => some (r_.1, cJ)
noncomputable def cK (cC : Int) (d2 : Int) (Hw : Mp (List UInt8)) (yt : List UInt8) : Option ((Int × Mp (List UInt8) × List UInt8 × Int) ⊕ ((Int × Mp (List UInt8) × (Mp (Int × List UInt8)) × Int) ⊕ (Int × Int × Mp (List UInt8) × (Mp (Mp (Int × List UInt8)))))) :=
  some (.inl (d2, Hw, yt, aA (cC + 1)))
noncomputable def dr (af : Mp (List UInt8)) (al : Mp (Mp (Int × List UInt8))) (tP : Mp (List UInt8)) (e_ : List UInt8) (cC : Int) (b4 : List UInt8) (dj : (List UInt8 × Int)) (tN : List UInt8) (is : Bool) : Option ((Int × Mp (List UInt8) × List UInt8 × Int) ⊕ ((Int × Mp (List UInt8) × (Mp (Int × List UInt8)) × Int) ⊕ (Int × Int × Mp (List UInt8) × (Mp (Mp (Int × List UInt8)))))) :=
  if (is && (decide (tN ≠ b4))) = true then (Option.map Sum.inr (Option.map Sum.inr (some ((271 : Int), dj.2, af, al)))) else ((la (e_.length + dj.1.length ≤ 9223372036854775807)).bind fun u => cK cC dj.2 (bq tP dj.1 b4) (e_ ++ dj.1))
noncomputable def fF (af : Mp (List UInt8)) (al : Mp (Mp (Int × List UInt8))) (tP : Mp (List UInt8)) (e_ : List UInt8) (cC : Int) (b4 : List UInt8) (dj : (List UInt8 × Int)) (gH : List UInt8) : Option ((Int × Mp (List UInt8) × List UInt8 × Int) ⊕ ((Int × Mp (List UInt8) × (Mp (Int × List UInt8)) × Int) ⊕ (Int × Int × Mp (List UInt8) × (Mp (Mp (Int × List UInt8)))))) :=
  if gH ≠ b4 then (Option.map Sum.inr (Option.map Sum.inr (some ((271 : Int), dj.2, af, al)))) else ((la (e_.length + dj.1.length ≤ 9223372036854775807)).bind fun u0 => cK cC dj.2 (bq tP dj.1 b4) (e_ ++ dj.1))
noncomputable def cL (af : Mp (List UInt8)) (al : Mp (Mp (Int × List UInt8))) (xC : Mp (Int × List UInt8)) (dQ : Int) (cY : List UInt8 × List UInt8) (fu : (List (List UInt8) × Int)) : (Int × Mp (List UInt8) × List UInt8 × Int) → Option ((Int × Mp (List UInt8) × List UInt8 × Int) ⊕ ((Int × Mp (List UInt8) × (Mp (Int × List UInt8)) × Int) ⊕ (Int × Int × Mp (List UInt8) × (Mp (Mp (Int × List UInt8))))))
  | (d1, tP, e_, cC) => if cC < ((fu.1.length : Nat) : Int) then ((an fu.1 cC).bind fun b4 => (ez d1 af al b4).bind fun dj => (Option.elim (aO af dj.1) (Option.elim (aO tP dj.1) (dr af al tP e_ cC b4 dj ([] : List UInt8) false) (fun ie => dr af al tP e_ cC b4 dj ie true)) (fun gH => fF af al tP e_ cC b4 dj gH ))) else (Option.map Sum.inr (some (.inl (d1, tP, bq xC cY.1 (((cY.2.length : Nat) : Int), e_), aA (dQ + 1)))))
noncomputable def cM  : (Mp (List UInt8)) → Ky × (List UInt8) → Option (Mp (List UInt8))
  | Jf, (key, gq) => some (bq Jf key gq)
noncomputable def cN (af : Mp (List UInt8)) (al : Mp (Mp (Int × List UInt8))) (snap : List UInt8) (files : List (List UInt8 × List UInt8)) : (Int × Mp (List UInt8) × (Mp (Int × List UInt8)) × Int) → Option ((Int × Mp (List UInt8) × (Mp (Int × List UInt8)) × Int) ⊕ (Int × Int × Mp (List UInt8) × (Mp (Mp (Int × List UInt8)))))
  | (d, CC, xC, dQ) => if dQ < ((files.length : Nat) : Int) then ((an files dQ).bind fun cY => (fY cY.2).bind fun fu => aP (cL af al xC dQ cY fu) (d, CC, ([] : List UInt8), (0 : Int))) else (Option.map Sum.inr ((dG (cM) af CC).bind fun s_ => some ((0 : Int), d, s_, bq al snap xC)))
noncomputable def cO (af : Mp (List UInt8)) (al : Mp (Mp (Int × List UInt8))) (snap : List UInt8) (files : List (List UInt8 × List UInt8)) (r_ : Int) : (Mp Int × Int) → Option ((Mp Int × Int) ⊕ (Int × Int × Mp (List UInt8) × (Mp (Mp (Int × List UInt8)))))
  | (AP, av) => if av < ((files.length : Nat) : Int) then ((an files av).bind fun bk => (fL bk.1).bind fun dy => if (!dy) = true then (Option.map Sum.inr (some ((214 : Int), r_, af, al))) else (if 1048576 < ((bk.2.length : Nat) : Int) then (Option.map Sum.inr (some ((2 : Int), r_, af, al))) else (if ((aO AP bk.1).isSome) = true then (Option.map Sum.inr (some ((213 : Int), r_, af, al))) else (some (.inl (bq AP bk.1 av, aA (av + 1))))))) else (Option.map Sum.inr (aP (cN af al snap files) (r_, ([] : Mp (List UInt8)), ([] : Mp (Int × List UInt8)), (0 : Int))))
noncomputable def ei (cJ : Int) (af : Mp (List UInt8)) (al : Mp (Mp (Int × List UInt8))) (snap : List UInt8) (files : List (List UInt8 × List UInt8)) : Option (Int × Int × Mp (List UInt8) × (Mp (Mp (Int × List UInt8)))) :=
  (bR cJ af al).bind fun r_ => (Option.elim (aO al snap) ((fL snap).bind fun bz => if (!bz) = true then (some ((214 : Int), r_, af, al)) else (if ((decide (64 ≤ ((al.length : Nat) : Int))) || (decide (256 < ((files.length : Nat) : Int)))) = true then (some ((2 : Int), r_, af, al)) else (aP (cO af al snap files r_) (([] : Mp Int), (0 : Int))))) (fun aE => (fL snap).bind fun fP => if (!fP) = true then (some ((214 : Int), r_, af, al)) else (some ((213 : Int), r_, af, al))))
noncomputable def cj (n_ : Mp (Mp (Int × List UInt8))) : Option (List (List UInt8)) :=
  (la (n_.length * 16 ≤ 140737488355328)).bind fun u => some (qN (n_.map (·.1)))
noncomputable def fG (cJ : Int) (af : Mp (List UInt8)) (al : Mp (Mp (Int × List UInt8))) : Option (List (List UInt8) × Int) :=
  (bR cJ af al).bind fun r_ => (cj al).bind fun aE => some (aE, r_)
noncomputable def gD (n_ : Mp (List UInt8)) : Option (List (List UInt8)) :=
  (la (n_.length * 16 ≤ 140737488355328)).bind fun u => some (qN (n_.map (·.1)))
noncomputable def cR (af : Mp (List UInt8)) (r_ : Int) (s_ : Int) (ma : Int) (dj : (List (List UInt8))) : (Nat × Int) → Option ((Nat × Int) ⊕ (Int × Int × Int × Nat × Nat × Nat × Int))
  | (sum, kF) => if kF < ((dj.length : Nat) : Int) then ((an dj kF).bind fun lb => (Option.elim (aO af lb) (some (.inl (ic .add sum (ic .mul (ic .sub (cq ((0 : Nat) : Int)) (ic .quo (cq s_) (cq ((af.length : Nat) : Int)))) (ic .sub (cq ((0 : Nat) : Int)) (ic .quo (cq s_) (cq ((af.length : Nat) : Int))))), aA (kF + 1)))) (fun gH => some (.inl (ic .add sum (ic .mul (ic .sub (cq ((gH.length : Nat) : Int)) (ic .quo (cq s_) (cq ((af.length : Nat) : Int)))) (ic .sub (cq ((gH.length : Nat) : Int)) (ic .quo (cq s_) (cq ((af.length : Nat) : Int))))), aA (kF + 1)))))) else (Option.map Sum.inr (some (((af.length : Nat) : Int), s_, ma, ic .sub 4607182418800017408 (ic .quo (cq s_) (cq ma)), ic .quo (cq s_) (cq ((af.length : Nat) : Int)), ic .quo sum (cq ((af.length : Nat) : Int)), r_)))
noncomputable def bG  : Int → Ky × (Int × List UInt8) → Option Int
  | o0, (Er, eM) => some (aA (o0 + eM.1))
noncomputable def cr  : Int → Ky × (Mp (Int × List UInt8)) → Option Int
  | fu, (oa, gd) => (dG (bG) fu gd).bind fun Lx => some Lx
noncomputable def ct  : Int → Ky × (List UInt8) → Option Int
  | bz, (key, av) => some (aA (bz + ((av.length : Nat) : Int)))
noncomputable def dt (cJ : Int) (af : Mp (List UInt8)) (al : Mp (Mp (Int × List UInt8))) : Option (Int × Int × Int × Nat × Nat × Nat × Int) :=
  (bR cJ af al).bind fun r_ => (dG (ct) (0 : Int) af).bind fun s_ => (dG (cr) (0 : Int) al).bind fun ma => (gD af).bind fun dj => aP (cR af r_ s_ ma dj) (0, (0 : Int))
noncomputable def hZ (n_ : Mp Int) : Option (List (List UInt8)) :=
  (la (n_.length * 16 ≤ 140737488355328)).bind fun u => some (qN (n_.map (·.1)))
noncomputable def b_ (cY : Int) (l1 : List (List UInt8)) : Option ((List (List UInt8) × Int) ⊕ (List (List UInt8) × Int × Int)) :=
  some (.inl (l1, aA (cY + 1)))
noncomputable def du (r_ : Int) (aE : Mp (Int × List UInt8)) (dy : Mp (Int × List UInt8)) (ma : Mp Int) (gH : (List (List UInt8))) : (List (List UInt8) × Int) → Option ((List (List UInt8) × Int) ⊕ (List (List UInt8) × Int × Int))
  | (l, cY) => if cY < ((gH.length : Nat) : Int) then ((an gH cY).bind fun cC => if ((aO ma cC).getD (0 : Int)) = 1 then ((la (([45] : List UInt8).length + cC.length ≤ 9223372036854775807)).bind fun u => (app l ([([45] : List UInt8) ++ cC] : List (List UInt8)) 16).bind fun l2 => b_ cY l2) else (if ((aO ma cC).getD (0 : Int)) = 2 then ((la (([43] : List UInt8).length + cC.length ≤ 9223372036854775807)).bind fun u1 => (app l ([([43] : List UInt8) ++ cC] : List (List UInt8)) 16).bind fun l3 => b_ cY l3) else ((some ((aO aE cC).getD ((0 : Int), ([] : List UInt8)))).bind fun e_ => (some ((aO dy cC).getD ((0 : Int), ([] : List UInt8)))).bind fun yt => if e_.2 ≠ yt.2 then ((la (([61] : List UInt8).length + cC.length ≤ 9223372036854775807)).bind fun u2 => (app l ([([61] : List UInt8) ++ cC] : List (List UInt8)) 16).bind fun l4 => b_ cY l4) else (b_ cY l)))) else (Option.map Sum.inr (some (l, (0 : Int), r_)))
noncomputable def ca  : (Mp Int) → Ky × (Int × List UInt8) → Option (Mp Int)
  | nq, (oa, dQ) => some (bq nq oa (aA (((aO nq oa).getD (0 : Int)) + 2)))
noncomputable def cb  : (Mp Int) → Ky × (Int × List UInt8) → Option (Mp Int)
  | m_, (key, av) => some (bq m_ key (1 : Int))
noncomputable def ec (cJ : Int) (af : Mp (List UInt8)) (al : Mp (Mp (Int × List UInt8))) (from_ : List UInt8) (to : List UInt8) : Option (List (List UInt8) × Int × Int) :=
  (bR cJ af al).bind fun r_ => (Option.elim (aO al from_) (Option.elim (aO al to) (some (([] : List (List UInt8)), (272 : Int), r_)) (fun bz => some (([] : List (List UInt8)), (272 : Int), r_))) (fun aE => (Option.elim (aO al to) (some (([] : List (List UInt8)), (272 : Int), r_)) (fun dy => (dG (cb) ([] : Mp Int) aE).bind fun s_ => (dG (ca) s_ dy).bind fun ma => (hZ ma).bind fun gH => aP (du r_ aE dy ma gH) (([] : List (List UInt8)), (0 : Int))))))
noncomputable def iO (size : UInt8) (l : List (List UInt8 × List UInt8)) : Option Bool :=
  (kp).bind fun r_ => if (!r_) = true then (some false) else ((kq (aA (1 + ((size % 64).toNat : Int)))).bind fun aE => (Sum.elim (fun bz => some false) (fun dy => if 0 ≠ 0 then (some false) else ((kr l).bind fun fu => (ei dy.1 dy.2.1 dy.2.2 ([111, 110, 101] : List UInt8) fu.1).bind fun dj => if dj.1 ≠ 0 then ((fG dj.2.1 dj.2.2.1 dj.2.2.2).bind fun gH => some (decide (((gH.1.length : Nat) : Int) = 0))) else ((dt dj.2.1 dj.2.2.1 dj.2.2.2).bind fun ie => (ei ie.2.2.2.2.2.2 dj.2.2.1 dj.2.2.2 ([116, 119, 111] : List UInt8) fu.1).bind fun o0 => if o0.1 ≠ 0 then (some false) else ((dt o0.2.1 o0.2.2.1 o0.2.2.2).bind fun fP => (ec fP.2.2.2.2.2.2 o0.2.2.1 o0.2.2.2 ([111, 110, 101] : List UInt8) ([116, 119, 111] : List UInt8)).bind fun gR => if (((((decide (gR.2.1 ≠ 0)) || (decide (((gR.1.length : Nat) : Int) ≠ 0))) || (decide (ie.1 ≠ fP.1))) || (decide (ie.2.1 ≠ fP.2.1))) || (decide (fP.2.2.1 ≠ (aA (2 * ie.2.2.1))))) = true then (some false) else (if fP.2.2.1 = 0 then (if (iz .neq fP.2.2.2.1 fP.2.2.2.1) = true then (some (iz .neq fP.2.2.2.2.1 fP.2.2.2.2.1)) else (some false)) else (if (iz .eql fP.2.2.2.1 (ic .sub 4607182418800017408 (ic .quo (cq fP.2.1) (cq fP.2.2.1)))) = true then (if (iz .geq fP.2.2.2.1 4602678819172646912) = true then (some (iz .geq fP.2.2.2.2.2.1 0)) else (some false)) else (some false)))))))) aE)
end Go.Sx
namespace Go.Sx
open Go.RowKit
set_option linter.unusedVariables false
variable {δ σ : Type}
theorem oc {a b : Ky} (h : a < b) : ¬ b < a := fun h2 => List.lt_irrefl a (List.lt_trans h h2)
theorem ti {a b : Ky} (h : a < b) : a ≠ b := fun e => List.lt_irrefl b (e ▸ h)
theorem qh {k1 k2 : Ky} (h : k1 < k2) (v1 v2 : δ) : ∀ m : Mp δ, bq (bq m k1 v1) k2 v2 = bq (bq m k2 v2) k1 v1 := by
  have gf : k1 ≠ k2 := ti h
  have Kg : k2 ≠ k1 := fun e => gf e.symm
  have hn : ¬ k2 < k1 := oc h
  intro m
  induction m with
  | nil => simp [bq, h, gf, Kg, hn]
  | cons p r ih =>
    rcases vO k1 p.1 with h1 | h1 | h1
    · have e1 : k1 ≠ p.1 := ti h1
      have lhs : bq (p :: r) k1 v1 = (k1, v1) :: p :: r := by simp [bq, e1, h1]
      rw [lhs]
      have : bq ((k1, v1) :: p :: r) k2 v2 = (k1, v1) :: bq (p :: r) k2 v2 := by
        rw [bq]
        simp [Kg, hn]
      rw [this]
      rcases vO k2 p.1 with h2 | h2 | h2
      · have e2 : k2 ≠ p.1 := ti h2
        have : bq (p :: r) k2 v2 = (k2, v2) :: p :: r := by simp [bq, e2, h2]
        rw [this]; simp [bq, gf, h]
      · have : bq (p :: r) k2 v2 = (k2, v2) :: r := by simp [bq, h2]
        rw [this]; simp [bq, gf, h]
      · have e2 : k2 ≠ p.1 := fun e => ti h2 e.symm
        have : bq (p :: r) k2 v2 = p :: bq r k2 v2 := by simp [bq, e2, oc h2]
        rw [this]; simp [bq, e1, h1]
    · have lhs : bq (p :: r) k1 v1 = (k1, v1) :: r := by simp [bq, h1]
      rw [lhs]
      have h2 : p.1 < k2 := h1 ▸ h
      have e2 : k2 ≠ p.1 := fun e => ti h2 e.symm
      have : bq (p :: r) k2 v2 = p :: bq r k2 v2 := by simp [bq, e2, oc h2]
      rw [this]
      simp [bq, h1, e2, oc h2]
    · have e1 : k1 ≠ p.1 := fun e => ti h1 e.symm
      have h2 : p.1 < k2 := List.lt_trans h1 h
      have e2 : k2 ≠ p.1 := fun e => ti h2 e.symm
      have lhs : bq (p :: r) k1 v1 = p :: bq r k1 v1 := by simp [bq, e1, oc h1]
      have rhs : bq (p :: r) k2 v2 = p :: bq r k2 v2 := by simp [bq, e2, oc h2]
      rw [lhs, rhs]
      simp [bq, e1, e2, oc h1, oc h2, ih]
theorem rb {k1 k2 : Ky} (h : k1 ≠ k2) (v1 v2 : δ) (m : Mp δ) : bq (bq m k1 v1) k2 v2 = bq (bq m k2 v2) k1 v1 := by
  rcases vO k1 k2 with h1 | h1 | h1
  · exact qh h1 v1 v2 m
  · exact absurd h1 h
  · exact (qh h1 v2 v1 m).symm
theorem l5 {k k' : Ky} (h : k ≠ k') (v : δ) : ∀ m : Mp δ, aO (bq m k v) k' = aO m k' := by
  intro m
  induction m with
  | nil => simp [bq, aO, h]
  | cons p r ih =>
    unfold bq
    by_cases h1 : k = p.1
    · rw [if_pos h1]; simp [aO, h, h1 ▸ h]
    · rw [if_neg h1]
      by_cases h2 : k < p.1
      · rw [if_pos h2]; rw [aO]; simp [h]
      · rw [if_neg h2]; rw [aO, aO]; simp [ih]
theorem vX (a : Int) : aA a = if a % 18446744073709551616 ≥ 9223372036854775808 then a % 18446744073709551616 - 18446744073709551616 else a % 18446744073709551616 := by
  have e1 : (2 : Int) ^ 64 = 18446744073709551616 := rfl
  have e2 : (2 : Int) ^ (64 - 1) = 9223372036854775808 := rfl
  simp only [aA, IntKind.wrap, IntKind.signed, IntKind.bits, Bool.true_and]
  by_cases h : a % 18446744073709551616 ≥ 9223372036854775808
  · rw [if_pos h, if_pos]
    · rfl
    · exact decide_eq_true h
  · rw [if_neg h, if_neg]
    · rfl
    · intro h2; exact h (of_decide_eq_true h2)
theorem CD (a : Int) : (aA a) % 18446744073709551616 = a % 18446744073709551616 := by
  rw [vX]
  split <;> omega
theorem Hx (a b : Int) (h : a % 18446744073709551616 = b % 18446744073709551616) : aA a = aA b := by
  rw [vX, vX, h]
theorem od (a b : Int) : aA (aA a + b) = aA (a + b) := Hx _ _ (by have h := CD a; omega)
end Go.Sx
namespace Go.Sx
open Go.RowKit
set_option linter.unusedVariables false
theorem nB : Comm cM := by
  rintro s ⟨k1, v1⟩ ⟨k2, v2⟩ h
  simp only [cM, Option.bind_some]
  rw [rb h]
theorem mC : Comm ct := by
  rintro s ⟨k1, v1⟩ ⟨k2, v2⟩ h
  simp only [ct, Option.bind_some, od]
  rw [show s + ((v1.length : Nat) : Int) + ((v2.length : Nat) : Int) = s + ((v2.length : Nat) : Int) + ((v1.length : Nat) : Int) by omega]
theorem qi (m : Mp (Int × List UInt8)) : ∀ s : Int, dG bG (aA s) m = some (aA (s + (m.map (·.2.1)).sum)) := by
  induction m with
  | nil => intro s; simp [dG]
  | cons p r ih =>
    intro s
    obtain ⟨k, v⟩ := p
    simp only [dG, bG, Option.bind_some, od, List.map_cons, List.sum_cons]
    rw [ih, show s + v.1 + (r.map (·.2.1)).sum = s + (v.1 + (r.map (·.2.1)).sum) by omega]
theorem mD : Comm bG := by
  rintro s ⟨k1, v1⟩ ⟨k2, v2⟩ h
  simp only [bG, Option.bind_some, od]
  rw [show s + v1.1 + v2.1 = s + v2.1 + v1.1 by omega]
theorem l6 : Comm cb := by
  rintro s ⟨k1, v1⟩ ⟨k2, v2⟩ h
  simp only [cb, Option.bind_some]
  rw [rb h]
theorem l7 : Comm ca := by
  rintro s ⟨k1, v1⟩ ⟨k2, v2⟩ h
  simp only [ca, Option.bind_some]
  rw [l5 h, l5 (fun e => h e.symm), rb h]
theorem mE : Comm cr := by
  rintro s ⟨k1, v1⟩ ⟨k2, v2⟩ h
  have key : ∀ (m : Mp (Int × List UInt8)) (s : Int), ∃ z : Int, ∀ s : Int, dG bG s m = some (if m = [] then s else aA (s + z)) := by
    intro m s
    cases m with
    | nil => exact ⟨0, fun s => by simp [dG]⟩
    | cons p r =>
      obtain ⟨k, v⟩ := p
      refine ⟨v.1 + (r.map (·.2.1)).sum, fun s => ?_⟩
      simp only [dG, bG, Option.bind_some, reduceCtorEq, if_false]
      rw [qi, show s + v.1 + (r.map (·.2.1)).sum = s + (v.1 + (r.map (·.2.1)).sum) by omega]
  obtain ⟨z1, h1⟩ := key v1 0
  obtain ⟨z2, h2⟩ := key v2 0
  simp only [cr, Option.bind_some, h1, h2]
  by_cases e1 : v1 = [] <;> by_cases e2 : v2 = [] <;> simp only [e1, e2, if_true, if_false, od]
  rw [show s + z1 + z2 = s + z2 + z1 by omega]
end Go.Sx
