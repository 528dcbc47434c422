import Derived.Test.YthbcbaembicdbaaGreatDoorV18h
namespace Go.Proofs.YthbcbaembicdbaaGreatDoor
open Go.Abs Go.RowKit
theorem aaQ:ac Tryz.prog 11 [bT NW,jM gl4,I 1048576] (ZD [] false):=AL (by decide+kernel)
